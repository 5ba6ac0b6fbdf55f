/- arms.build, where a question is asked. No conditions. -/
import Derived.Test.YtiinghgfojicdaaGreatArPut
set_option linter.unusedVariables false
set_option linter.unusedSimpArgs false
namespace Go.Proofs.YtiinghgfojicdaaGreat
open Go.RowKit Go.RowG Go.FRow Go.GMem
set_option linter.unusedVariables false
set_option maxRecDepth 100000
attribute [local go_sem ↓] Go.wp_at_zero Go.wp_at_succ

set_option maxHeartbeats 16000000 in
theorem build_ask (f : Nat) (hI : BuildSaid f) (a : Nat) (t : T) (ts : List T) (l : List R) (A : Option Addr) (c : Nat) (w : World) (S : Nat → Prop) (hS : ∀ b, S b → b < w.heap.size) (htot : total ((a, t :: ts) :: l) < f + 1) (hlen : ((a, t :: ts) :: l : List R).length ≤ 1000)
    (hfew : ∀ x ∈ ((a, t :: ts) :: l : List R), x.2.length ≤ 1000 ∧ ∀ y ∈ x.2, y.path.length ≤ 1000) (h : GRow w S A ((a, t :: ts) :: l : List R).length (encRs ((a, t :: ts) :: l))) :
    Calls Tryz.prog 52 #[.slice A ((a, t :: ts) :: l : List R).length c] w (TreeEnds S (.ask t (buildR f (yesR t ((a, t :: ts) :: l))) (buildR f (noR t ((a, t :: ts) :: l)))) w) := by
  have hrest := GRow.rrest h
  have HS := Lib.hid hS
  obtain ⟨ad, B, rc, rfl, hab, hc0, hc1, _, _, hB, _⟩ := hrest.step
  obtain ⟨ad2, Rp, cp, rfl, hab2, e0, e1, e2, e3, e4, hp1, hp2, hRp, _⟩ := (GRow.trest hB).step
  have hab := hS _ hab
  have hab2 := hS _ hab2
  have hyl := yes_less a t ts l
  have hnl := no_less a t ts l
  have hpl : t.path.length ≤ 1000 := (hfew (a, t :: ts) (by simp)).2 t (by simp)
  have hk1 : (t :: ts).length ≤ 1000 := (hfew (a, t :: ts) (by simp)).1
  have hyle := yesR_len t ((a, t :: ts) :: l)
  have hnle := noR_len t ((a, t :: ts) :: l)
  obtain ⟨rows, hrows⟩ : ∃ rows, rows = (a, t :: ts) :: l := ⟨_, rfl⟩
  rw [← hrows] at h hrest htot hlen hfew hyl hnl hyle hnle ⊢
  obtain ⟨n, hn⟩ : ∃ n, n = rows.length := ⟨_, rfl⟩
  obtain ⟨q, hq⟩ : ∃ q, q = (t :: ts).length := ⟨_, rfl⟩
  have hn0 : 0 < n := by rw [hn, hrows]; simp
  have hq0 : 0 < q := by rw [hq]; simp
  rw [← hn] at hrest hlen ⊢
  simp only [Nat.zero_mul] at hc0 hc1 e0 e1 e2 e3 e4
  rw [← hq] at hc1
  have ha0 : ad.add 0 = ad := by simp [Addr.add]
  have ha2 : ad2.add 0 = ad2 := by simp [Addr.add]
  rw [ha0] at hc0 hc1
  rw [ha2] at e0 e1 e2 e3 e4
  have g1 : ((n : Int) == 0) = false := by simp; omega
  have g2 : (0 : Int) < (n : Int) := by omega
  have g3 : ((q : Int) == 0) = false := by simp; omega
  have g4 : (0 : Int) < (q : Int) := by omega
  obtain ⟨P, k, m, tt⟩ := t
  simp only at e0 e1 e2 e3 hRp hpl hp1
  obtain ⟨pl, hpl2⟩ : ∃ pl, pl = P.length := ⟨_, rfl⟩
  rw [← hpl2] at e0 hp1
  -- the world at the loop's head
  obtain ⟨W1, hW1⟩ : ∃ W1, W1 = (w.alloc (.cells #[.bool false, .int .i64 0, .slice none 0 0, .int .i64 0, .int .i64 0, .string ⟨#[]⟩, .slice none 0 0, .slice none 0 0, .slice none 0 0] 59)).alloc (.cells #[.slice Rp pl cp, .int .i64 k, .int .i64 m, .string tt, .slice none 0 0] 56) := ⟨_, rfl⟩
  have hb1 : Below w.heap.size w W1 := by rw [hW1]; exact ((Below.refl _ _).alloc (Nat.le_refl _) _).alloc (by simp) _
  have hz1 : W1.heap.size = w.heap.size + 1 + 1 := by rw [hW1]; simp
  have hT : W1.heap[w.heap.size + 1]? = some (.cells #[.slice Rp pl cp, .int .i64 k, .int .i64 m, .string tt, .slice none 0 0] 56 (0, 0)) := by
    have h := heap_alloc_new (w.alloc (.cells #[.bool false, .int .i64 0, .slice none 0 0, .int .i64 0, .int .i64 0, .string ⟨#[]⟩, .slice none 0 0, .slice none 0 0, .slice none 0 0] 59)) (.cells #[.slice Rp pl cp, .int .i64 k, .int .i64 m, .string tt, .slice none 0 0] 56)
    have e : (w.alloc (.cells #[.bool false, .int .i64 0, .slice none 0 0, .int .i64 0, .int .i64 0, .string ⟨#[]⟩, .slice none 0 0, .slice none 0 0, .slice none 0 0] 59)).heap.size = w.heap.size + 1 := by simp
    rw [e] at h
    rw [hW1]
    exact h
  have hO : W1.heap[w.heap.size]? = some (.cells #[.bool false, .int .i64 0, .slice none 0 0, .int .i64 0, .int .i64 0, .string ⟨#[]⟩, .slice none 0 0, .slice none 0 0, .slice none 0 0] 59 (0, 0)) := by
    rw [hW1]
    exact (heap_alloc_old _ _ (by simp)).trans (heap_alloc_new w _)
  have hIA := fun (x : R) (B' : Option Addr) (rc' : Nat) (W : World) (hW : Below W1.heap.size W1 W) (hg : GRow w S B' x.2.length (encTs x.2)) (hx : x.2.length ≤ 1000 ∧ ∀ y ∈ x.2, y.path.length ≤ 1000) =>
    idxA_says x.2 ⟨P, k, m, tt⟩ B' Rp rc' cp (w.heap.size + 1) W ((hg.mono hS).below (hb1.trans (hW.mono hb1.size))) ((hRp.mono hS).below (hb1.trans (hW.mono hb1.size))) hx.2 (by omega) (by rw [← hpl2]; exact (hW.block _ (by omega)).trans hT)
  have hIB := fun (x : R) (B' : Option Addr) (rc' : Nat) (W : World) (hW : Below W1.heap.size W1 W) (hg : GRow w S B' x.2.length (encTs x.2)) (hx : x.2.length ≤ 1000 ∧ ∀ y ∈ x.2, y.path.length ≤ 1000) =>
    idxB_says x.2 ⟨P, k, m, tt⟩ B' Rp rc' cp (w.heap.size + 1) W ((hg.mono hS).below (hb1.trans (hW.mono hb1.size))) ((hRp.mono hS).below (hb1.trans (hW.mono hb1.size))) hx.2 (by omega) (by rw [← hpl2]; exact (hW.block _ (by omega)).trans hT)
  have HIA := Lib.hid hIA
  have HIB := Lib.hid hIB
  have HW1 := Lib.hid hW1
  have HI := Lib.hid hI
  have HT := Lib.hid hT
  have HO := Lib.hid hO
  have HRP := Lib.hid hRp
  have HPL := Lib.hid hpl2
  have HN := Lib.hid hn
  have HR := Lib.hid hrows
  have hkk : ∀ (o : Obj) (p : Addr), p.block < w.heap.size → (w.alloc o).cell? p = w.cell? p := fun o p hp => World.cell?_alloc_lt w o p hp
  have k0 := fun o => hkk o ad hab
  have k1 := fun o => hkk o ⟨ad.block, ad.off + 1, none⟩ hab
  have k2 := fun o => hkk o ad2 hab2
  have k3 := fun o => hkk o ⟨ad2.block, ad2.off + 1, none⟩ hab2
  have k4 := fun o => hkk o ⟨ad2.block, ad2.off + 2, none⟩ hab2
  have k5 := fun o => hkk o ⟨ad2.block, ad2.off + 3, none⟩ hab2
  have k6 := fun o => hkk o ⟨ad2.block, ad2.off + 4, none⟩ hab2
  have hab' : ad.block < w.heap.size := hab
  have hab2' : ad2.block < w.heap.size := hab2
  clear hIA hIB hI h hB hT hO hW1 hRp hpl2 hn hq hrows hkk hab hab2 hS
  go_enter Tryz.func52, Tryz.ntmps52
  go_wp2
  go_loopw [4, 5, 33] (fun v u i wr => ∃ (j : Nat) (l' ys ns : List R) (xs zs : List Value), i = .int .i64 j ∧ Split S ⟨P, k, m, tt⟩ rows l' ys ns (some ad) n j w W1 wr v u xs zs) (fun _ _ i _ => n - (intOf i).toNat)
  case atStart =>
    rw [← HW1.out]
    exact ⟨0, rows, [], [], [], [], rfl, ⟨Nat.zero_le _, rfl, rfl, hfew, hrest, Two.nil _ _ _ _ _, Nat.le_refl _, Nat.le_refl _, Below.refl _ _⟩⟩
  case round =>
    obtain ⟨j, l', ys, ns, xs, zs, rfl, hsp⟩ := hrel
    have hbs := hsp.below.size
    have hbw : Below w.heap.size w wr := hb1.trans (hsp.below.mono hb1.size)
    have hjn := hsp.le
    have hyj := hsp.ylen
    have hnj := hsp.nlen
    clear hc0 hc1 e0 e1 e2 e3 e4 k0 k1 k2 k3 k4 k5 k6 ha0 ha2 g1 g2 g3 g4
    cases l' with
    | nil =>
      obtain rfl : j = n := by have := hsp.rest.1; simp at this; omega
      have hyes := hsp.yes
      have hno := hsp.no
      simp only [yesR, noR, List.flatMap_nil, List.append_nil] at hyes hno
      change yesR _ rows = ys at hyes
      change noR _ rows = ns at hno
      obtain ⟨A4, c4, rfl, hrow4⟩ := hsp.two.rowv (by decide)
      obtain ⟨A5, c5, rfl, hrow5⟩ := hsp.two.symm.rowv (by decide)
      rw [hyes] at hyl hyle
      rw [hno] at hnl hnle
      have hfy := yesR_few (t := ⟨P, k, m, tt⟩) hfew
      have hfn := noR_few (t := ⟨P, k, m, tt⟩) hfew
      rw [hyes] at hfy ⊢
      rw [hno] at hfn ⊢
      have hlr : rows.length ≤ 1000 := by rw [← HN.out]; exact hlen
      have hiy : ∀ W, Below wr.heap.size wr W → Calls Tryz.prog 52 #[.slice A4 ys.length c4] W (TreeEnds (fun b => (S b ∨ W1.heap.size ≤ b) ∧ b < wr.heap.size) (buildR f ys) W) := fun W hW =>
        HI.out ys A4 c4 W _ (fun b h => Nat.lt_of_lt_of_le h.2 hW.size) (by omega) (by omega) hfy (hrow4.keep (fun _ h => h) fun p hp => hW.cell hp.2)
      have hin : ∀ W, Below wr.heap.size wr W → Calls Tryz.prog 52 #[.slice A5 ns.length c5] W (TreeEnds (fun b => (S b ∨ W1.heap.size ≤ b) ∧ b < wr.heap.size) (buildR f ns) W) := fun W hW =>
        HI.out ns A5 c5 W _ (fun b h => Nat.lt_of_lt_of_le h.2 hW.size) (by omega) (by omega) hfn (hrow5.keep (fun _ h => h) fun p hp => hW.cell hp.2)
      have HYES := Lib.hid hyes
      have HNO := Lib.hid hno
      have hXb := hsp.below
      have htm : ∀ W, Below wr.heap.size wr W → W.heap[w.heap.size + 1]? = some (.cells #[.slice Rp pl cp, .int .i64 k, .int .i64 m, .string tt, .slice none 0 0] 56 (0, 0)) := fun W hW => ((hXb.trans (hW.mono hbs)).block _ (by omega)).trans HT.out
      have htz : ∀ W, Below wr.heap.size wr W → W.heap[w.heap.size]? = some (.cells #[.bool false, .int .i64 0, .slice none 0 0, .int .i64 0, .int .i64 0, .string ⟨#[]⟩, .slice none 0 0, .slice none 0 0, .slice none 0 0] 59 (0, 0)) := fun W hW => ((hXb.trans (hW.mono hbs)).block _ (by omega)).trans HO.out
      obtain ⟨t0, t1, t2, t3, t4⟩ := five (htm wr (Below.refl _ _))
      have hsetA : ∀ (V V' : World), wr.heap.size ≤ V.heap.size → V.heap.size ≤ V'.heap.size → ∀ b, (((S b ∨ W1.heap.size ≤ b) ∧ b < wr.heap.size) ∨ (V.heap.size ≤ b ∧ b < V'.heap.size)) → (S b ∨ w.heap.size + 1 ≤ b) ∧ b < V'.heap.size := fun V V' h1 h2 b hb => by
        rcases hb with ⟨h, h'⟩ | ⟨h, h'⟩
        · exact ⟨h.imp_right fun h => by omega, by omega⟩
        · exact ⟨Or.inr (by omega), h'⟩
      have HSET := Lib.hid hsetA
      have HIY := Lib.hid hiy
      have HIN := Lib.hid hin
      have HTM := Lib.hid htm
      have HTZ := Lib.hid htz
      clear hiy hin htm htz hsetA hsp hrow4 hrow5 hfy hfn hyes hno hyl hyle hnl hnle
      go_wp2
      go_region_held3 (fun w' => w'.cell? ⟨w.heap.size + 1, 0, none⟩ = some (.slice Rp pl cp) ∧ w'.cell? ⟨w.heap.size + 1, 1, none⟩ = some (.int .i64 k) ∧ w'.cell? ⟨w.heap.size + 1, 2, none⟩ = some (.int .i64 m) ∧ w'.cell? ⟨w.heap.size + 1, 3, none⟩ = some (.string tt) ∧ w'.cell? ⟨w.heap.size + 1, 4, none⟩ = some (.slice none 0 0))
        (first
          | (refine five (Eq.trans ?_ (HTM.out w5 hb5)); first | with_reducible rfl | (with_reducible apply far4 hz6) | (with_reducible apply far3 hz6) | (with_reducible apply far2 hz6) | (with_reducible apply far1 hz6))
          | (refine five (Eq.trans ?_ (HTM.out w3 hb3)); first | with_reducible rfl | (with_reducible apply far1 hz4))
          | (refine five (Eq.trans ?_ (HTM.out wr (Below.refl _ _))); rfl)
            | fail "none")
        (first
          | (go_at_call 52
             (with_reducible refine (HIY.out _ ((Below.refl _ _).drew)).mono ?_)
             rintro e w3 ⟨xs3, rfl, hg3, hb3'⟩
             obtain ⟨b3, a3, A3, n3, c3, k3, m3, s3, A31, n31, c31, A32, n32, c32, rfl⟩ := tree_nine hg3
             have hb3 : Below wr.heap.size wr w3 := (Below.refl _ _).drew.trans hb3'
             obtain ⟨q0, q1, q2, q3, q4⟩ := five (HTM.out w3 hb3)
             have hz4 : w.heap.size + 1 < w3.heap.size := by have := hb3.size; omega)
          | (go_at_call 52
             (with_reducible refine (HIN.out w3 hb3).mono ?_)
             rintro e w5 ⟨xs5, rfl, hg5, hb5'⟩
             obtain ⟨b7, a7, A7, n7, c7, k7, m7, s7, A71, n71, c71, A72, n72, c72, rfl⟩ := tree_nine hg5
             have hb35 : Below w3.heap.size w3 w5 := hb5'
             have hb5 : Below wr.heap.size wr w5 := hb3.trans (hb5'.mono hb3.size)
             obtain ⟨r0, r1, r2, r3, r4⟩ := five (HTM.out w5 hb5)
             have hz5 : w.heap.size < w5.heap.size := by have := hb5.size; omega
             have hz6 : w.heap.size + 1 < w5.heap.size := by have := hb5.size; omega
             have hx9 := own_nine (HTZ.out w5 hb5)
             have y0 := hx9.1.1
             have y1 := hx9.1.2.1
             have y2 := hx9.1.2.2.1
             have y3 := hx9.1.2.2.2.1
             have y4 := hx9.1.2.2.2.2.1
             have y5 := hx9.1.2.2.2.2.2.1
             have y6 := hx9.1.2.2.2.2.2.2.1
             have y7 := hx9.1.2.2.2.2.2.2.2.1
             have y8 := hx9.1.2.2.2.2.2.2.2.2
             have f0 := hx9.2.1
             have f1 := hx9.2.2.1
             have f2 := hx9.2.2.2.1
             have f3 := hx9.2.2.2.2.1
             have f4 := hx9.2.2.2.2.2.1
             have f5 := hx9.2.2.2.2.2.2.1
             have f6 := hx9.2.2.2.2.2.2.2.1
             have f7 := hx9.2.2.2.2.2.2.2.2.1
             have f8 := hx9.2.2.2.2.2.2.2.2.2
             clear hx9
             obtain ⟨g0, g1⟩ := alloc_cell hz5
             obtain ⟨g2, g3⟩ := alloc_cell2 hz5)
          | (go_at_call 52
             (with_reducible refine (HIN.out (w3.alloc (.cells #[.bool b3, .int .i64 a3, .slice A3 n3 c3, .int .i64 k3, .int .i64 m3, .string s3, .slice none 0 0, .slice A31 n31 c31, .slice A32 n32 c32] 59)) (hb3.alloc hb3.size _)).mono ?_)
             rintro e w5 ⟨xs5, rfl, hg5, hb5'⟩
             obtain ⟨b7, a7, A7, n7, c7, k7, m7, s7, A71, n71, c71, A72, n72, c72, rfl⟩ := tree_nine hg5
             have hbx : w5.heap[w3.heap.size]? = some (.cells #[.bool b3, .int .i64 a3, .slice A3 n3 c3, .int .i64 k3, .int .i64 m3, .string s3, .slice none 0 0, .slice A31 n31 c31, .slice A32 n32 c32] 59 (0, 0)) := (hb5'.block w3.heap.size (by simp)).trans (heap_alloc_new w3 _)
             have hb35 : Below w3.heap.size w3 w5 := ((Below.refl _ _).alloc (Nat.le_refl _) _).trans (hb5'.mono (by simp))
             have hb5 : Below wr.heap.size wr w5 := hb3.trans (hb35.mono hb3.size)
             obtain ⟨r0, r1, r2, r3, r4⟩ := five (HTM.out w5 hb5)
             have hz5 : w.heap.size < w5.heap.size := by have := hb5.size; omega
             have hz6 : w.heap.size + 1 < w5.heap.size := by have := hb5.size; omega
             have hx9 := own_nine (HTZ.out w5 hb5)
             have y0 := hx9.1.1
             have y1 := hx9.1.2.1
             have y2 := hx9.1.2.2.1
             have y3 := hx9.1.2.2.2.1
             have y4 := hx9.1.2.2.2.2.1
             have y5 := hx9.1.2.2.2.2.2.1
             have y6 := hx9.1.2.2.2.2.2.2.1
             have y7 := hx9.1.2.2.2.2.2.2.2.1
             have y8 := hx9.1.2.2.2.2.2.2.2.2
             have f0 := hx9.2.1
             have f1 := hx9.2.2.1
             have f2 := hx9.2.2.2.1
             have f3 := hx9.2.2.2.2.1
             have f4 := hx9.2.2.2.2.2.1
             have f5 := hx9.2.2.2.2.2.2.1
             have f6 := hx9.2.2.2.2.2.2.2.1
             have f7 := hx9.2.2.2.2.2.2.2.2.1
             have f8 := hx9.2.2.2.2.2.2.2.2.2
             clear hx9
             obtain ⟨g0, g1⟩ := alloc_cell hz5
             obtain ⟨g2, g3⟩ := alloc_cell2 hz5)
            | fail "none")
      · have hT := tree_end (t := ⟨P, k, m, tt⟩) (y := buildR f ys) (n := buildR f ns) HS.out (hbw.trans (hb5.mono hbw.size)) (Filled.alloc (Filled.base (HTZ.out w5 hb5)) hz5 (.cells #[.bool b7, .int .i64 a7, .slice A7 n7 c7, .int .i64 k7, .int .i64 m7, .string s7, .slice none 0 0, .slice A71 n71 c71, .slice A72 n72 c72] 59)) HRP.out HPL.out hp1 hp2 hg3 hg5 (HSET.out _ _ (Nat.le_refl _) (by have := hb3.size; exact this)) (HSET.out _ _ (Nat.le_trans hb3.size (by simp)) (by exact hb5'.size)) hb35 (Below.refl _ _) (((Filled.base (HTZ.out w5 hb5)).alloc hz5 _ |>.rest _ (Nat.lt_of_lt_of_le (by simp) hb5'.size) (by omega)).trans hbx) (new1 _ _ _ _ _ _ _ _ _ _ _ _) (by have := hb3.size; have := hb5.size; omega) (by have := hb3.size; have := hb5.size; omega)
        obtain ⟨wF, hwF⟩ : ∃ wF, wF = ((((((((((w5.setCell ⟨w.heap.size, 0, none⟩ (.bool false)).setCell ⟨w.heap.size, 1, none⟩ (.int .i64 0)).setCell ⟨w.heap.size, 2, none⟩ (.slice Rp pl cp)).setCell ⟨w.heap.size, 3, none⟩ (.int .i64 k)).setCell ⟨w.heap.size, 4, none⟩ (.int .i64 m)).setCell ⟨w.heap.size, 5, none⟩ (.string tt)).setCell ⟨w.heap.size, 6, none⟩ (.slice none 0 0)).setCell ⟨w.heap.size, 7, none⟩ (.slice (some ⟨w3.heap.size, 0, none⟩) 1 1)).setCell ⟨w.heap.size, 8, none⟩ (.slice (some ⟨w5.heap.size, 0, none⟩) 1 1)).alloc (.cells #[.bool b7, .int .i64 a7, .slice A7 n7 c7, .int .i64 k7, .int .i64 m7, .string s7, .slice none 0 0, .slice A71 n71 c71, .slice A72 n72 c72] 59)) := ⟨_, rfl⟩
        rw [← hwF] at hT ⊢
        obtain ⟨hra, htr⟩ := hT
        have hn9 := nine hra rfl
        have u0 := hn9 0 (by decide)
        have u1 := hn9 1 (by decide)
        have u2 := hn9 2 (by decide)
        have u3 := hn9 3 (by decide)
        have u4 := hn9 4 (by decide)
        have u5 := hn9 5 (by decide)
        have u6 := hn9 6 (by decide)
        have u7 := hn9 7 (by decide)
        have u8 := hn9 8 (by decide)
        simp only [List.getElem_cons_zero, List.getElem_cons_succ] at u0 u1 u2 u3 u4 u5 u6 u7 u8

        clear hwF hn9 hra y0 y1 y2 y3 y4 y5 y6 y7 y8 f0 f1 f2 f3 f4 f5 f6 f7 f8 g0 g1 g2 g3 q0 q1 q2 q3 q4 r0 r1 r2 r3 r4 t0 t1 t2 t3 t4
        go_wp2
        refine bodyPost_ret (v := .agg #[.bool false, .int .i64 0, .slice Rp pl cp, .int .i64 k, .int .i64 m, .string tt, .slice none 0 0, .slice (some ⟨w3.heap.size, 0, none⟩) 1 1, .slice (some ⟨w5.heap.size, 0, none⟩) 1 1]) (by simp [results, Tryz.results52, go_sem, *]) rfl ?_
        rw [HYES.out, HNO.out]
        exact htr
      · have hT := tree_end (t := ⟨P, k, m, tt⟩) (y := buildR f ys) (n := buildR f ns) HS.out (hbw.trans (hb5.mono hbw.size)) (Filled.alloc (Filled.alloc (Filled.base (HTZ.out w5 hb5)) hz5 (.cells #[.bool b3, .int .i64 a3, .slice A3 n3 c3, .int .i64 k3, .int .i64 m3, .string s3, .slice none 0 0, .slice A31 n31 c31, .slice A32 n32 c32] 59)) hz5 (.cells #[.bool b7, .int .i64 a7, .slice A7 n7 c7, .int .i64 k7, .int .i64 m7, .string s7, .slice none 0 0, .slice A71 n71 c71, .slice A72 n72 c72] 59)) HRP.out HPL.out hp1 hp2 hg3 hg5 (HSET.out _ _ (Nat.le_refl _) (by have := hb3.size; exact this)) (HSET.out _ _ (hb3.size) (by exact hb5'.size)) hb35 (Below.refl _ _) (new2 _ _ _ _ _ _ _ _ _ _ _ _ _).1 (new2 _ _ _ _ _ _ _ _ _ _ _ _ _).2 (by have := hb3.size; have := hb5.size; omega) (by have := hb3.size; have := hb5.size; omega)
        obtain ⟨wF, hwF⟩ : ∃ wF, wF = (((((((((((w5.setCell ⟨w.heap.size, 0, none⟩ (.bool false)).setCell ⟨w.heap.size, 1, none⟩ (.int .i64 0)).setCell ⟨w.heap.size, 2, none⟩ (.slice Rp pl cp)).setCell ⟨w.heap.size, 3, none⟩ (.int .i64 k)).setCell ⟨w.heap.size, 4, none⟩ (.int .i64 m)).setCell ⟨w.heap.size, 5, none⟩ (.string tt)).setCell ⟨w.heap.size, 6, none⟩ (.slice none 0 0)).setCell ⟨w.heap.size, 7, none⟩ (.slice (some ⟨w5.heap.size, 0, none⟩) 1 1)).setCell ⟨w.heap.size, 8, none⟩ (.slice (some ⟨w5.heap.size + 1, 0, none⟩) 1 1)).alloc (.cells #[.bool b3, .int .i64 a3, .slice A3 n3 c3, .int .i64 k3, .int .i64 m3, .string s3, .slice none 0 0, .slice A31 n31 c31, .slice A32 n32 c32] 59)).alloc (.cells #[.bool b7, .int .i64 a7, .slice A7 n7 c7, .int .i64 k7, .int .i64 m7, .string s7, .slice none 0 0, .slice A71 n71 c71, .slice A72 n72 c72] 59)) := ⟨_, rfl⟩
        rw [← hwF] at hT ⊢
        obtain ⟨hra, htr⟩ := hT
        have hn9 := nine hra rfl
        have u0 := hn9 0 (by decide)
        have u1 := hn9 1 (by decide)
        have u2 := hn9 2 (by decide)
        have u3 := hn9 3 (by decide)
        have u4 := hn9 4 (by decide)
        have u5 := hn9 5 (by decide)
        have u6 := hn9 6 (by decide)
        have u7 := hn9 7 (by decide)
        have u8 := hn9 8 (by decide)
        simp only [List.getElem_cons_zero, List.getElem_cons_succ] at u0 u1 u2 u3 u4 u5 u6 u7 u8

        clear hwF hn9 hra y0 y1 y2 y3 y4 y5 y6 y7 y8 f0 f1 f2 f3 f4 f5 f6 f7 f8 g0 g1 g2 g3 q0 q1 q2 q3 q4 r0 r1 r2 r3 r4 t0 t1 t2 t3 t4
        go_wp2
        refine bodyPost_ret (v := .agg #[.bool false, .int .i64 0, .slice Rp pl cp, .int .i64 k, .int .i64 m, .string tt, .slice none 0 0, .slice (some ⟨w5.heap.size, 0, none⟩) 1 1, .slice (some ⟨w5.heap.size + 1, 0, none⟩) 1 1]) (by simp [results, Tryz.results52, go_sem, *]) rfl ?_
        rw [HYES.out, HNO.out]
        exact htr
      · have hT := tree_end (t := ⟨P, k, m, tt⟩) (y := buildR f ys) (n := buildR f ns) HS.out (hbw.trans (hb5.mono hbw.size)) (Filled.alloc (Filled.alloc (Filled.base (HTZ.out w5 hb5)) hz5 (.cells #[.bool b7, .int .i64 a7, .slice A7 n7 c7, .int .i64 k7, .int .i64 m7, .string s7, .slice none 0 0, .slice A71 n71 c71, .slice A72 n72 c72] 59)) hz5 (.cells #[.bool b3, .int .i64 a3, .slice A3 n3 c3, .int .i64 k3, .int .i64 m3, .string s3, .slice none 0 0, .slice A31 n31 c31, .slice A32 n32 c32] 59)) HRP.out HPL.out hp1 hp2 hg3 hg5 (HSET.out _ _ (Nat.le_refl _) (by have := hb3.size; exact this)) (HSET.out _ _ (hb3.size) (by exact hb5'.size)) hb35 (Below.refl _ _) (new2 _ _ _ _ _ _ _ _ _ _ _ _ _).2 (new2 _ _ _ _ _ _ _ _ _ _ _ _ _).1 (by have := hb3.size; have := hb5.size; omega) (by have := hb3.size; have := hb5.size; omega)
        obtain ⟨wF, hwF⟩ : ∃ wF, wF = (((((((((((w5.setCell ⟨w.heap.size, 0, none⟩ (.bool false)).setCell ⟨w.heap.size, 1, none⟩ (.int .i64 0)).setCell ⟨w.heap.size, 2, none⟩ (.slice Rp pl cp)).setCell ⟨w.heap.size, 3, none⟩ (.int .i64 k)).setCell ⟨w.heap.size, 4, none⟩ (.int .i64 m)).setCell ⟨w.heap.size, 5, none⟩ (.string tt)).setCell ⟨w.heap.size, 6, none⟩ (.slice none 0 0)).setCell ⟨w.heap.size, 7, none⟩ (.slice (some ⟨w5.heap.size + 1, 0, none⟩) 1 1)).setCell ⟨w.heap.size, 8, none⟩ (.slice (some ⟨w5.heap.size, 0, none⟩) 1 1)).alloc (.cells #[.bool b7, .int .i64 a7, .slice A7 n7 c7, .int .i64 k7, .int .i64 m7, .string s7, .slice none 0 0, .slice A71 n71 c71, .slice A72 n72 c72] 59)).alloc (.cells #[.bool b3, .int .i64 a3, .slice A3 n3 c3, .int .i64 k3, .int .i64 m3, .string s3, .slice none 0 0, .slice A31 n31 c31, .slice A32 n32 c32] 59)) := ⟨_, rfl⟩
        rw [← hwF] at hT ⊢
        obtain ⟨hra, htr⟩ := hT
        have hn9 := nine hra rfl
        have u0 := hn9 0 (by decide)
        have u1 := hn9 1 (by decide)
        have u2 := hn9 2 (by decide)
        have u3 := hn9 3 (by decide)
        have u4 := hn9 4 (by decide)
        have u5 := hn9 5 (by decide)
        have u6 := hn9 6 (by decide)
        have u7 := hn9 7 (by decide)
        have u8 := hn9 8 (by decide)
        simp only [List.getElem_cons_zero, List.getElem_cons_succ] at u0 u1 u2 u3 u4 u5 u6 u7 u8

        clear hwF hn9 hra y0 y1 y2 y3 y4 y5 y6 y7 y8 f0 f1 f2 f3 f4 f5 f6 f7 f8 g0 g1 g2 g3 q0 q1 q2 q3 q4 r0 r1 r2 r3 r4 t0 t1 t2 t3 t4
        go_wp2
        refine bodyPost_ret (v := .agg #[.bool false, .int .i64 0, .slice Rp pl cp, .int .i64 k, .int .i64 m, .string tt, .slice none 0 0, .slice (some ⟨w5.heap.size + 1, 0, none⟩) 1 1, .slice (some ⟨w5.heap.size, 0, none⟩) 1 1]) (by simp [results, Tryz.results52, go_sem, *]) rfl ?_
        rw [HYES.out, HNO.out]
        exact htr
    | cons x l' =>
      have hlt : j < n := by have := hsp.rest.1; simp at this; omega
      obtain ⟨ad3, B', rc', e3', hab3, hd0, hd1, hx1, hx2, hxg, hre'⟩ := hsp.rest.step
      obtain rfl := Option.some.inj e3'
      have hxf := hsp.few x (by simp)
      have hxf' : ∀ y ∈ l', y.2.length ≤ 1000 ∧ ∀ z ∈ y.2, z.path.length ≤ 1000 := fun y hy => hsp.few y (by simp [hy])
      have d0 := (hbw.cell (p := ad.add (j * 2)) (by rw [add_block]; exact HS.out _ hab3)).trans hd0
      have d1 := (hbw.cell (p := ⟨(ad.add (j * 2)).block, (ad.add (j * 2)).off + 1, none⟩) (by rw [add_block]; exact HS.out _ hab3)).trans hd1
      have hj0 : (0 : Int) ≤ (j : Int) := Int.natCast_nonneg _
      have hj1 : (j : Int) < (n : Int) := by omega
      have hI1 := fun W hW => HIA.out x B' rc' W hW hxg hxf
      have hI2 := fun W hW => HIB.out x B' rc' W hW hxg hxf
      obtain ⟨kx, hkx⟩ : ∃ kx, kx = x.2.length := ⟨_, rfl⟩
      rw [← hkx] at d1 hI1 hI2 hx1
      obtain ⟨ia, hia⟩ : ∃ ia, ia = idxT (fun y => sameT y ⟨P, k, m, tt⟩) x.2 0 := ⟨_, rfl⟩
      obtain ⟨ib, hib⟩ : ∃ ib, ib = idxT (fun y => decide (y.path = (⟨P, k, m, tt⟩ : T).path)) x.2 0 := ⟨_, rfl⟩
      rw [← hia] at hI1
      rw [← hib] at hI2
      have ha := idx_lt (fun y => sameT y ⟨P, k, m, tt⟩) x.2 0
      have hb := idx_lt (fun y => decide (y.path = (⟨P, k, m, tt⟩ : T).path)) x.2 0
      rw [← hia] at ha
      rw [← hib] at hb
      have hy1 : yes1 ⟨P, k, m, tt⟩ x = if 0 ≤ ia then [(x.1, x.2.eraseIdx ia.toNat)] else if 0 ≤ ib then [] else [x] := by rw [hia, hib]; rfl
      have hn1 : no1 ⟨P, k, m, tt⟩ x = if 0 ≤ ia then [] else [x] := by rw [hia]; rfl
      have hyy : yesR ⟨P, k, m, tt⟩ rows = (ys ++ yes1 ⟨P, k, m, tt⟩ x) ++ yesR ⟨P, k, m, tt⟩ l' := by rw [hsp.yes, List.append_assoc]; rfl
      have hnn : noR ⟨P, k, m, tt⟩ rows = (ns ++ no1 ⟨P, k, m, tt⟩ x) ++ noR ⟨P, k, m, tt⟩ l' := by rw [hsp.no, List.append_assoc]; rfl
      have htwo := hsp.two
      have hXb := hsp.below
      have HYY := Lib.hid hyy
      have HNN := Lib.hid hnn
      have HY1 := Lib.hid hy1
      have HN1 := Lib.hid hn1
      have HKX := Lib.hid hkx
      have HI1 := Lib.hid hI1
      have HI2 := Lib.hid hI2
      have HRE := Lib.hid hre'
      have HXF := Lib.hid hxf'
      have hx0 : wr.heap[wr.heap.size]? = none := by simp
      have hbox := heap_alloc_new wr (.cells #[.int .i64 (x.1 : Int), .slice B' kx rc'] 126)
      clear hsp hd0 hd1 hyy hnn hy1 hn1 hkx hI1 hI2 hre' hxf' hia hib hx0
      have hfa := HI1.out (wr.alloc (.cells #[.int .i64 (x.1 : Int), .slice B' kx rc'] 126)) (hXb.alloc hbs _)
      have hduo : ∀ W, Below wr.heap.size wr W → W.heap[wr.heap.size]? = some (.cells #[.int .i64 (x.1 : Int), .slice B' kx rc'] 126 (0, 0)) → Duo S W1 wr.heap.size (.int .i64 (x.1 : Int)) (.slice B' kx rc') W u4 u5 ys ns xs zs := fun W hW hB => ⟨htwo.kept hW, hXb.trans (hW.mono hbs), hB, htwo.apartv (Nat.le_refl _), htwo.apartu (Nat.le_refl _)⟩
      have HDUO := Lib.hid hduo
      have HXG := Lib.hid hxg
      clear hduo hxg
      -- the three ways
      rcases ha with hia | ⟨kk, hkk, hia⟩
      · subst hia
        rcases hb with hib | ⟨kk, hkk, hib⟩
        · subst hib
          go_wp2_with (first
            | (go_at_call 53; (with_reducible refine hfa.mono ?_); rintro e w3 ⟨rfl, hb3⟩
               obtain ⟨q0, q1⟩ := own2 ((hb3.block wr.heap.size (by simp)).trans hbox)
               have hb3' : Below wr.heap.size wr w3 := ((Below.refl _ _).alloc (Nat.le_refl _) _).trans (hb3.mono (by simp))
               have hs3 : wr.heap.size < w3.heap.size := Nat.lt_of_lt_of_le (by simp) hb3.size
               have hfb := HI2.out w3 (hXb.trans (hb3'.mono hbs))
               clear hfa)
            | (go_at_call 53; (with_reducible refine hfb.mono ?_); rintro e w5 ⟨rfl, hb5⟩
               obtain ⟨p0, p1⟩ := own2 ((hb5.block wr.heap.size hs3).trans ((hb3.block wr.heap.size (by simp)).trans hbox))
               have hb5' : Below wr.heap.size wr w5 := hb3'.trans (hb5.mono hb3'.size)
               have hs5 : wr.heap.size < w5.heap.size := Nat.lt_of_lt_of_le hs3 hb5.size
               have hbase5 : W1.heap.size ≤ w5.heap.size := Nat.le_trans hbs (Nat.le_of_lt hs5)
               have hd5 := HDUO.out w5 hb5' (hb5.block wr.heap.size hs3 |>.trans ((hb3.block wr.heap.size (by simp)).trans hbox))
               clear q0 q1 hfb))
          have blk0 : ((w5.alloc (.cells #[.int .i64 (x.1 : Int), .slice B' kx rc'] 126)).alloc (.cells #[.int .i64 (x.1 : Int), .slice B' kx rc'] 126)).drew.heap[w5.heap.size]? = some (.cells #[.int .i64 (x.1 : Int), .slice B' kx rc'] 126 (0, 0)) := (heap_alloc_old (w5.alloc (.cells #[.int .i64 (x.1 : Int), .slice B' kx rc'] 126)) (.cells #[.int .i64 (x.1 : Int), .slice B' kx rc'] 126) (by simp)).trans (heap_alloc_new w5 _)
          have blk1 : ((w5.alloc (.cells #[.int .i64 (x.1 : Int), .slice B' kx rc'] 126)).alloc (.cells #[.int .i64 (x.1 : Int), .slice B' kx rc'] 126)).drew.heap[w5.heap.size + 1]? = some (.cells #[.int .i64 (x.1 : Int), .slice B' kx rc'] 126 (0, 0)) := by
            have h := heap_alloc_new (w5.alloc (.cells #[.int .i64 (x.1 : Int), .slice B' kx rc'] 126)) (.cells #[.int .i64 (x.1 : Int), .slice B' kx rc'] 126)
            have e : (w5.alloc (.cells #[.int .i64 (x.1 : Int), .slice B' kx rc'] 126)).heap.size = w5.heap.size + 1 := by simp
            rw [e] at h
            exact h
          have hlt0 : w5.heap.size < ((w5.alloc (.cells #[.int .i64 (x.1 : Int), .slice B' kx rc'] 126)).alloc (.cells #[.int .i64 (x.1 : Int), .slice B' kx rc'] 126)).drew.heap.size := by show _ < ((w5.heap.push _).push _).size; simp; omega
          have hlt1 : w5.heap.size + 1 < ((w5.alloc (.cells #[.int .i64 (x.1 : Int), .slice B' kx rc'] 126)).alloc (.cells #[.int .i64 (x.1 : Int), .slice B' kx rc'] 126)).drew.heap.size := by show _ < ((w5.heap.push _).push _).size; simp
          go_region_held3 (fun w' => w'.cell? ⟨wr.heap.size, 0, none⟩ = some (.int .i64 (x.1 : Int)) ∧ w'.cell? ⟨wr.heap.size, 1, none⟩ = some (.slice B' kx rc'))
            (first
              | go_keep
              | exact ⟨p0, p1⟩
              | exact ⟨q0, q1⟩
              | exact ⟨r0, r1⟩
              | fail "none")
            (first
              | (refine step_append_g rowTy (by decide) (w5.alloc (.cells #[.int .i64 (x.1 : Int), .slice B' kx rc'] 126)).drew rfl (.tmp 45) (.tmp 47) rfl W1.heap.size u4 ys.length xs [.int .i64 (x.1 : Int), .slice B' kx rc'] rfl (hd5.alloc _).drew.two.ownv (some ⟨w5.heap.size, 0, none⟩) 1 1 rfl rfl (fun _ => ⟨_, rfl, fun i u hu => World.news_of_block (heap_alloc_new w5 _) i u (by simpa using hu)⟩) (by simp [Value.oneCell']) (by omega) (hd5.alloc _).drew.below.size ?_
                 intro v7 w7 hown7 hg7 hv7
                 have hd7 := (hd5.alloc (.cells #[.int .i64 (x.1 : Int), .slice B' kx rc'] 126)).drew.put ((hd5.alloc _).drew.old HS.out hb1 HXG.out) HKX.out hx1 hx2 hown7 hg7 hv7
                 obtain ⟨q0, q1⟩ := hd7.cells)
              | (refine step_append_g rowTy (by decide) ((w5.alloc (.cells #[.int .i64 (x.1 : Int), .slice B' kx rc'] 126)).alloc (.cells #[.int .i64 (x.1 : Int), .slice B' kx rc'] 126)).drew rfl (.tmp 45) (.tmp 47) rfl W1.heap.size u4 ys.length xs [.int .i64 (x.1 : Int), .slice B' kx rc'] rfl ((hd5.alloc _).alloc _).drew.two.ownv (some ⟨w5.heap.size, 0, none⟩) 1 1 rfl rfl (fun _ => ⟨_, rfl, fun i u hu => World.news_of_block blk0 i u (by simpa using hu)⟩) (by simp [Value.oneCell']) (by omega) ((hd5.alloc _).alloc _).drew.below.size ?_
                 intro v7 w7 hown7 hg7 hv7
                 have hd7 := ((hd5.alloc (.cells #[.int .i64 (x.1 : Int), .slice B' kx rc'] 126)).alloc (.cells #[.int .i64 (x.1 : Int), .slice B' kx rc'] 126)).drew.put (((hd5.alloc _).alloc _).drew.old HS.out hb1 HXG.out) HKX.out hx1 hx2 hown7 hg7 hv7
                 have bB := (hg7.block (w5.heap.size + 1) hlt1 (hd5.far (by omega)).1).trans blk1
                 obtain ⟨q0, q1⟩ := hd7.cells)
              | (refine step_append_g rowTy (by decide) ((w5.alloc (.cells #[.int .i64 (x.1 : Int), .slice B' kx rc'] 126)).alloc (.cells #[.int .i64 (x.1 : Int), .slice B' kx rc'] 126)).drew rfl (.tmp 45) (.tmp 47) rfl W1.heap.size u4 ys.length xs [.int .i64 (x.1 : Int), .slice B' kx rc'] rfl ((hd5.alloc _).alloc _).drew.two.ownv (some ⟨w5.heap.size + 1, 0, none⟩) 1 1 rfl rfl (fun _ => ⟨_, rfl, fun i u hu => World.news_of_block blk1 i u (by simpa using hu)⟩) (by simp [Value.oneCell']) (by omega) ((hd5.alloc _).alloc _).drew.below.size ?_
                 intro v7 w7 hown7 hg7 hv7
                 have hd7 := ((hd5.alloc (.cells #[.int .i64 (x.1 : Int), .slice B' kx rc'] 126)).alloc (.cells #[.int .i64 (x.1 : Int), .slice B' kx rc'] 126)).drew.put (((hd5.alloc _).alloc _).drew.old HS.out hb1 HXG.out) HKX.out hx1 hx2 hown7 hg7 hv7
                 have bB := (hg7.block (w5.heap.size) hlt0 (hd5.far (by omega)).1).trans blk0
                 obtain ⟨q0, q1⟩ := hd7.cells)
              | (refine step_append_g rowTy (by decide) w7 rfl (.tmp 49) (.tmp 51) rfl W1.heap.size u5 ns.length zs [.int .i64 (x.1 : Int), .slice B' kx rc'] rfl hd7.two.ownu (some ⟨w5.heap.size, 0, none⟩) 1 1 rfl rfl (fun _ => ⟨_, rfl, fun i u hu => World.news_of_block bB i u (by simpa using hu)⟩) (by simp [Value.oneCell']) (by omega) hd7.below.size ?_
                 intro v9 w9 hown9 hg9 hv9
                 have hd9 := hd7.putr (hd7.old HS.out hb1 HXG.out) HKX.out hx1 hx2 hown9 hg9 hv9
                 obtain ⟨r0, r1⟩ := hd9.cells)
              | (refine step_append_g rowTy (by decide) w7 rfl (.tmp 49) (.tmp 51) rfl W1.heap.size u5 ns.length zs [.int .i64 (x.1 : Int), .slice B' kx rc'] rfl hd7.two.ownu (some ⟨w5.heap.size + 1, 0, none⟩) 1 1 rfl rfl (fun _ => ⟨_, rfl, fun i u hu => World.news_of_block bB i u (by simpa using hu)⟩) (by simp [Value.oneCell']) (by omega) hd7.below.size ?_
                 intro v9 w9 hown9 hg9 hv9
                 have hd9 := hd7.putr (hd7.old HS.out hb1 HXG.out) HKX.out hx1 hx2 hown9 hg9 hv9
                 obtain ⟨r0, r1⟩ := hd9.cells)
              | (refine step_append_g rowTy (by decide) (w7.alloc (.cells #[.int .i64 (x.1 : Int), .slice B' kx rc'] 126)) rfl (.tmp 49) (.tmp 51) rfl W1.heap.size u5 ns.length zs [.int .i64 (x.1 : Int), .slice B' kx rc'] rfl (hd7.alloc _).two.ownu (some ⟨w7.heap.size, 0, none⟩) 1 1 rfl rfl (fun _ => ⟨_, rfl, fun i u hu => World.news_of_block (heap_alloc_new w7 _) i u (by simpa using hu)⟩) (by simp [Value.oneCell']) (by omega) (hd7.alloc _).below.size ?_
                 intro v9 w9 hown9 hg9 hv9
                 have hd9 := (hd7.alloc (.cells #[.int .i64 (x.1 : Int), .slice B' kx rc'] 126)).putr ((hd7.alloc _).old HS.out hb1 HXG.out) HKX.out hx1 hx2 hown9 hg9 hv9
                 obtain ⟨r0, r1⟩ := hd9.cells)
              | fail "none")
          all_goals
            go_wp2
            go_roundw
            case measure => simp [intOf]; omega
            case rel =>
              refine ⟨j + 1, l', ys ++ [x], ns ++ [x], _, _, by go_num, by omega, ?_, ?_, HXF.out, HRE.out, hd9.two, by simp; omega, by simp; omega, hd9.below⟩
              · have e := HY1.out
                rw [if_neg (by decide), if_neg (by decide)] at e
                rw [HYY.out, e]
              · have e := HN1.out
                rw [if_neg (by decide)] at e
                rw [HNN.out, e]
        · subst hib
          go_wp2_with (first
            | (go_at_call 53; (with_reducible refine hfa.mono ?_); rintro e w3 ⟨rfl, hb3⟩
               obtain ⟨q0, q1⟩ := own2 ((hb3.block wr.heap.size (by simp)).trans hbox)
               have hb3' : Below wr.heap.size wr w3 := ((Below.refl _ _).alloc (Nat.le_refl _) _).trans (hb3.mono (by simp))
               have hs3 : wr.heap.size < w3.heap.size := Nat.lt_of_lt_of_le (by simp) hb3.size
               have hfb := HI2.out w3 (hXb.trans (hb3'.mono hbs))
               clear hfa)
            | (go_at_call 53; (with_reducible refine hfb.mono ?_); rintro e w5 ⟨rfl, hb5⟩
               obtain ⟨p0, p1⟩ := own2 ((hb5.block wr.heap.size hs3).trans ((hb3.block wr.heap.size (by simp)).trans hbox))
               have hb5' : Below wr.heap.size wr w5 := hb3'.trans (hb5.mono hb3'.size)
               have hs5 : wr.heap.size < w5.heap.size := Nat.lt_of_lt_of_le hs3 hb5.size
               have hbase5 : W1.heap.size ≤ w5.heap.size := Nat.le_trans hbs (Nat.le_of_lt hs5)
               have hd5 := HDUO.out w5 hb5' (hb5.block wr.heap.size hs3 |>.trans ((hb3.block wr.heap.size (by simp)).trans hbox))
               clear q0 q1 hfb)
            | (at_builtin
               refine wpList_append_onez rowTy (by decide) w5 [.int .i64 (x.1 : Int), .slice B' kx rc'] 126 w5.heap.size rfl rfl (.tmp 72) (.tmp 74) rfl W1.heap.size u5 ns.length zs rfl hd5.two.ownu rfl rfl (by simp [Value.oneCell']) (by omega) hbase5 ?_
               intro v7 w7 hown7 hg7 hv7
               have hd7 := (hd5.alloc (.cells #[.int .i64 (x.1 : Int), .slice B' kx rc'] 126)).putr ((hd5.alloc _).old HS.out hb1 HXG.out) HKX.out hx1 hx2 hown7 hg7 (by simpa using hv7)
               clear hown7 hg7 hv7))
          refine ⟨⟨j + 1, l', ys, ns ++ [x], _, _, by go_num, by omega, ?_, ?_, HXF.out, HRE.out, hd7.two, by omega, by simp; omega, hd7.below⟩, by simp [intOf]; omega⟩
          · have e := HY1.out
            rw [if_neg (by decide), if_pos (by omega)] at e
            rw [HYY.out, e, List.append_nil]
          · have e := HN1.out
            rw [if_neg (by decide)] at e
            rw [HNN.out, e]
      · subst hia
        have hg0 := HXG.out
        have hct : ∀ W, Below wr.heap.size wr W → Calls Tryz.prog 82 #[.slice B' kx rc'] W (fun e w' => ∃ v xs, e = .returned v ∧ w'.ownsRow W.heap.size 56 5 v kx xs ∧ GCells w' S (encTs x.2) xs ∧ Below W.heap.size W w') := fun W hW => by
          have hbW := hbw.trans (hW.mono hbw.size)
          rw [HKX.out]
          exact cloneT_says x.2 B' rc' W S (fun b hb => Nat.lt_of_lt_of_le (HS.out b hb) hbW.size) (hg0.keep (fun b h => h) fun p hp => hbW.cell (HS.out _ hp)) (fun e => by
            obtain ⟨b, o, zs, e', _⟩ := hg0 (by omega)
            rw [e] at e'
            cases e') hxf.1
        obtain ⟨dl, hdl⟩ : ∃ dl, dl = (x.2.eraseIdx kk).length := ⟨_, rfl⟩
        have hdel := delete_at x.2 kk kx dl hkk HKX.out hdl (Nat.le_trans hxf.1 (by decide)) S
        have hkx0 : 0 < kx := by rw [HKX.out]; omega
        have HCT := Lib.hid hct
        have HDL := Lib.hid hdel
        have HDLE := Lib.hid hdl
        obtain ⟨x2, hx2e⟩ : ∃ x2 : R, x2 = (x.1, x.2.eraseIdx kk) := ⟨_, rfl⟩
        have hx21 : x2.1 = x.1 := by rw [hx2e]
        have hx22 : x2.2 = x.2.eraseIdx kk := by rw [hx2e]
        have HX2 := Lib.hid hx2e
        have HX21 := Lib.hid hx21
        have HX22 := Lib.hid hx22
        have hkw : IntKind.i64.wrap ((kk : Int) + 1) = (kk : Int) + 1 := IntWalk.i64_in _ (by have := hxf.1; omega)
        have hge : (0 : Int) ≤ (kk : Int) := Int.natCast_nonneg _
        rw [Nat.zero_add] at hfa HI1 HY1 HN1
        clear hct hdel hdl hg0 hx2e hx21 hx22
        go_wp2_with (first
          | (go_at_call 53; (with_reducible refine hfa.mono ?_); rintro e w3 ⟨rfl, hb3⟩
             obtain ⟨q0, q1⟩ := own2 ((hb3.block wr.heap.size (by simp)).trans hbox)
             have hb3' : Below wr.heap.size wr w3 := ((Below.refl _ _).alloc (Nat.le_refl _) _).trans (hb3.mono (by simp))
             have hs3 : wr.heap.size < w3.heap.size := Nat.lt_of_lt_of_le (by simp) hb3.size
             have hfb := HI2.out w3 (hXb.trans (hb3'.mono hbs))
             clear hfa)
          | (go_at_call 53; (with_reducible refine hfb.mono ?_); rintro e w5 ⟨rfl, hb5⟩
             obtain ⟨p0, p1⟩ := own2 ((hb5.block wr.heap.size hs3).trans ((hb3.block wr.heap.size (by simp)).trans hbox))
             have hb5' : Below wr.heap.size wr w5 := hb3'.trans (hb5.mono hb3'.size)
             have hs5 : wr.heap.size < w5.heap.size := Nat.lt_of_lt_of_le hs3 hb5.size
             have hbase5 : W1.heap.size ≤ w5.heap.size := Nat.le_trans hbs (Nat.le_of_lt hs5)
             have hd5 := HDUO.out w5 hb5' (hb5.block wr.heap.size hs3 |>.trans ((hb3.block wr.heap.size (by simp)).trans hbox))
             clear q0 q1 hfb))
        go_region_held3 (fun w' => w'.cell? ⟨wr.heap.size, 0, none⟩ = some (.int .i64 (x.1 : Int)) ∧ w'.cell? ⟨wr.heap.size, 1, none⟩ = some (.slice B' kx rc'))
          (first
            | go_keep
            | exact ⟨p0, p1⟩
            | exact ⟨q0, q1⟩
            | exact ⟨r0, r1⟩
            | exact ⟨s0, s1⟩
            | fail "none")
          (first
            | (go_at_call 82
               (with_reducible refine (HCT.out _ hb5'.drew).mono ?_)
               rintro e w6 ⟨v6, xs6, rfl, hown6, hf6, hb6⟩
               obtain ⟨g6, c6, rfl, hg6a, hg6b⟩ := hown6.form hkx0
               have hd6 := hd5.drew.kept hb6
               have h56 : w5.heap.size ≤ w6.heap.size := hb6.size
               have h5g : w5.heap.size ≤ g6 := hg6a
               obtain ⟨q0, q1⟩ := hd6.cells)
            | (go_at_call 81
               (with_reducible refine (HDL.out g6 c6 _ w6 xs6 hown6 hf6 (fun b hb => ⟨Nat.lt_of_lt_of_le (Nat.lt_of_lt_of_le (HS.out b hb) (Nat.le_trans hb1.size hd5.below.size)) h56, fun e => by have := Nat.le_trans hb1.size hd5.below.size; have := HS.out b hb; omega⟩)).mono ?_)
               rintro e w7 ⟨rfl, hrow7, hg7, hc71, hc72⟩
               have hd7 := hd5.kept ((show Below w5.heap.size w5 w6 from (Below.refl _ _).drew.trans hb6).grown hg7 h56 (fun b hb => by have h1 : w5.heap.size ≤ g6 := hg6a; injection hb with hb; omega))
               have hfar := hd5.far (b := g6) hg6a
               have hrow7' : GRow w7 (Free S W1.heap.size w7 u4 u5) (some ⟨g6, 0, none⟩) x2.2.length (encTs x2.2) := by
                 rw [HX22.out, ← HDLE.out]
                 refine hrow7.keep (fun b hb => ?_) (fun _ _ => rfl)
                 rcases hb with hb | rfl
                 · have h1 := Nat.le_trans hb1.size hd7.below.size
                   have h2 := HS.out b hb
                   exact ⟨Or.inl hb, Nat.lt_of_lt_of_le h2 h1, fun e => by have := (hd7.two.ownv.lt b e.symm).1; have := hb1.size; omega, fun e => by have := (hd7.two.ownu.lt b e.symm).1; have := hb1.size; omega⟩
                 · exact ⟨Or.inr (Nat.le_trans hbase5 hg6a), Nat.lt_of_lt_of_le hg6b hg7.size, hfar.1, hfar.2⟩
               obtain ⟨r0, r1⟩ := hd7.cells)
            | (refine step_append_g rowTy (by decide) (w7.alloc (.cells #[.int .i64 (x.1 : Int), .slice (some ⟨g6, 0, none⟩) dl c6] 126)) rfl (.tmp 56) (.tmp 67) rfl W1.heap.size u4 ys.length xs [.int .i64 (x.1 : Int), .slice (some ⟨g6, 0, none⟩) dl c6] rfl (hd7.alloc _).two.ownv (some ⟨w7.heap.size, 0, none⟩) 1 1 rfl rfl (fun _ => ⟨_, rfl, fun i u hu => World.news_of_block (heap_alloc_new w7 _) i u (by simpa using hu)⟩) (by simp [Value.oneCell']) (by omega) (hd7.alloc _).below.size ?_
               intro v9 w9 hown9 hg9 hv9
               rw [← HX21.out] at hown9
               have hd9 := (hd7.alloc (.cells #[.int .i64 (x.1 : Int), .slice (some ⟨g6, 0, none⟩) dl c6] 126)).put (x := x2) (hrow7'.keep (fun b hb => ⟨hb.1, Nat.lt_of_lt_of_le hb.2.1 (by simp), hb.2.2⟩) (fun p hp => World.cell?_alloc_lt _ _ _ hp.2.1)) (by rw [HX22.out]; exact HDLE.out) hc71 hc72 hown9 hg9 hv9
               obtain ⟨s0, s1⟩ := hd9.cells)
            | fail "none")
        all_goals
          go_wp2
          go_roundw
          case measure => simp [intOf]; omega
          case rel =>
            refine ⟨j + 1, l', ys ++ [x2], ns, _, _, by go_num, by omega, ?_, ?_, HXF.out, HRE.out, hd9.two, by simp; omega, by omega, hd9.below⟩
            · have e := HY1.out
              rw [if_pos (by omega), Int.toNat_natCast, ← HX2.out] at e
              rw [HYY.out, e]
            · have e := HN1.out
              rw [if_pos (by omega)] at e
              rw [HNN.out, e, List.append_nil]
end Go.Proofs.YtiinghgfojicdaaGreat
