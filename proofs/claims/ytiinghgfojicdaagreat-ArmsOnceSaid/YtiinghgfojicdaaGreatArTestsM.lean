/- arms.tests, of a maker: its own test and those of its parts. No conditions. -/
import Derived.Test.YtiinghgfojicdaaGreatArTests
import Derived.Deep.Cut
import Derived.Deep.RegionHeld3
import Derived.Deep.RegionLaw
set_option linter.unusedVariables false
set_option linter.unusedSimpArgs false
namespace Go.Proofs.YtiinghgfojicdaaGreat
open Go.RowKit Go.RowG Go.FRow Go.GMem
set_option linter.unusedVariables false
set_option maxRecDepth 100000
attribute [local go_sem ↓] Go.wp_at_zero Go.wp_at_succ

set_option maxHeartbeats 8000000 in
theorem tests_make (n : Int) (t : ByteArray) (a : F) (hQ : Each TestsSaid a) (A B : Option Addr) (c d : Nat) (P : List Nat) (w : World) (h : RowAt w w.heap.size A a) (hB : GRow w (lt w) B P.length (encI P)) (h0 : B = none → P.length = 0 ∧ d = 0) (hn : P.length + a.nodes ≤ 900) :
    Calls Tryz.prog 51 #[agg4 6 n t A a.len c, .slice B P.length d] w (TestsEnds (⟨P, 6, a.len, t⟩ :: testsF a P 0) w) := by
  have hcl : ∀ W, Below w.heap.size w W → Calls Tryz.prog 77 #[.slice B P.length d] W (CloneEnds 3 1 P.length (encI P) W) := fun W hW =>
    cloneI_says P B d W (hB.below hW) h0 (by omega)
  obtain ⟨pl, hpl⟩ : ∃ pl, pl = P.length := ⟨_, rfl⟩
  have hpl9 : pl ≤ 900 := by omega
  obtain ⟨m, hm⟩ : ∃ m, m = a.len := ⟨_, rfl⟩
  have hml : m ≤ 900 := by have := a.len_nodes; omega
  have hrest := RowAt.rest h
  rw [← hm] at hrest
  rw [← hpl] at hcl
  rw [← hpl, ← hm]
  have HP := Lib.hid hpl
  have HM := Lib.hid hm
  have HN := Lib.hid hn
  obtain ⟨res, hres⟩ : ∃ res, res = (⟨P, 6, (m : Int), t⟩ : T) :: testsF a P 0 := ⟨_, rfl⟩
  rw [← hres]
  have HRES := Lib.hid hres
  have HCL := Lib.hid hcl
  clear hB h0 hpl hm h hn hres hcl
  go_enter Tryz.func51, Tryz.ntmps51
  go_wp2
  go_cut [5] from 8 (fun s5 w' => ∃ z, s5 = .slice (some ⟨z, 0, none⟩) 1 1 ∧ OwnG 56 5 w' w.heap.size (.slice (some ⟨z, 0, none⟩) 1 1) 1 (encTs [⟨P, 6, (m : Int), t⟩]) ∧ Own4 w' w.heap.size 40 (.int .i64 6) (.int .i64 n) (.string t) (.slice A m c) ∧ Below w.heap.size w w')
  case first =>
    have hcl := HCL.out _ ((Below.refl w.heap.size w).alloc (Nat.le_refl _) (.cells #[.int .i64 6, .int .i64 n, .string t, .slice A m c] 40)).drew
    go_region_held3 (fun w' => w'.cell? ⟨w.heap.size, 0, none⟩ = some (.int .i64 6) ∧ w'.cell? ⟨w.heap.size, 1, none⟩ = some (.int .i64 n) ∧ w'.cell? ⟨w.heap.size, 2, none⟩ = some (.string t) ∧ w'.cell? ⟨w.heap.size, 3, none⟩ = some (.slice A m c))
      (first
        | go_keep
        | exact ⟨z0, z1, z2, z3⟩)
      (first
      | (go_at_call 77
         (with_reducible refine hcl.mono ?_)
         rintro e w5 ⟨v5, rfl, hown5, hb5⟩
         obtain ⟨A5, c5, rfl, h51, h52, hrow5'⟩ := hown5.ints.row (by decide)
         have hrow5 : GRow w5 (since w.heap.size w5) A5 _ (encI P) := hrow5'.mono fun b hb => ⟨by have := hb.1; simp at this; omega, hb.2⟩
         clear hrow5'
         have hb5' : Below w.heap.size w w5 := ((Below.refl _ _).alloc (Nat.le_refl _) _).drew.trans (hb5.mono (by show w.heap.size ≤ (w.heap.push _).size; simp))
         have hz5 := hb5.block w.heap.size (by show w.heap.size < (w.heap.push _).size; simp)
         have hZ : Own4 w5 w.heap.size 40 (.int .i64 6) (.int .i64 n) (.string t) (.slice A m c) := hz5.trans (heap_alloc_new w _)
         obtain ⟨⟨z0, z1, z2, z3⟩, _, _, _, _⟩ := hZ.cells))
    all_goals
      go_wp2
      go_meet
      case rel =>
        refine ⟨_, rfl, ?_, hZ.alloc _, hb5'.alloc hb5'.size _⟩
        rw [HP.out] at h51 hrow5 ⊢
        exact one_owned hb5' hrow5 h51 h52 _ _ _
  case rest =>
    obtain ⟨z, rfl, hown0, hZ, hb0⟩ := hcut
    obtain ⟨⟨z0, z1, z2, z3⟩, _, _, _, _⟩ := hZ.cells
    go_wp2
    go_loopw [5, 50] (fun v i wr => ∃ (j : Nat) (r : F) (ts : List T), j ≤ m ∧ i = .int .i64 j ∧ res = ts ++ testsF r P j ∧ OwnG 56 5 wr w.heap.size v ts.length (encTs ts) ∧ ts.length + r.nodes ≤ 1000 ∧ P.length + r.nodes ≤ 900 ∧ Each TestsSaid r ∧ Rest w w.heap.size A m j r ∧ Below w.heap.size w wr) (fun _ i _ => m - (intOf i).toNat)
    case atStart => exact ⟨0, a, [⟨P, 6, (m : Int), t⟩], Nat.zero_le _, rfl, HRES.out, hown0, by have := HN.out; simp; omega, HN.out, hQ, hrest, hb0⟩
    case round =>
      obtain ⟨j, r, ts, hj, rfl, hts, hown, hlen, hPn, hq, hre, hb⟩ := hrel
      have hbs := hb.size
      cases r with
      | nil =>
        obtain rfl : j = m := by have := hre.1; simp only [F.len] at this; omega
        simp only [testsF, List.append_nil] at hts
        subst hts
        obtain ⟨A5, c5, rfl, h51, h52, hrow5⟩ := hown.row (by decide)
        clear hlen hPn
        go_wp2
        go_ret
        exact ⟨A5, c5, rfl, hrow5, h51, h52, hb⟩
      | cons k' n' t' a' r' =>
        have hlt : j < m := by have := hre.1; simp only [F.len] at this; omega
        obtain ⟨ad, R, rc, rfl, hab, hc0, hc1, hc2, hc3, hrl, hrm, hra, hre'⟩ := hre.step
        obtain ⟨hq1, hq2⟩ := hq
        rw [testsF_cons, ← List.append_assoc] at hts
        simp only [F.nodes] at hlen hPn
        have hcall : ∀ (W : World) (A7 : Option Addr) (c7 : Nat), Below w.heap.size w W → GRow W (lt W) A7 (P.length + 1) (encI (P ++ [j])) → (A7 = none → False) → Calls Tryz.prog 51 #[agg4 k' n' t' R a'.len rc, .slice A7 (P.length + 1) c7] W (TestsEnds (tests1 k' n' t' a' (P ++ [j])) W) := fun W A7 c7 hW hg hne => by
          have := hq1 R A7 rc c7 (P ++ [j]) W (hra.keep hW.size fun p hp => hW.cell hp) hrl hrm (by simpa using hg) (fun e => (hne e).elim) (by simp; omega)
          simpa using this
        obtain ⟨ts', hts'⟩ : ∃ ts', ts' = tests1 k' n' t' a' (P ++ [j]) := ⟨_, rfl⟩
        have htl : ts'.length ≤ a'.nodes + 1 := by rw [hts']; exact tests1_nodes _ _ _ _ _
        rw [← hts'] at hcall hts
        obtain ⟨m', hm'⟩ : ∃ m', m' = a'.len := ⟨_, rfl⟩
        rw [← hm'] at hcall hc3
        have HCALL := Lib.hid hcall
        have HTS := Lib.hid hts
        have d0 := (hb.cell (p := ad.add (j * 4)) (by rw [add_block]; exact hab)).trans hc0
        have d1 := (hb.cell (p := ⟨(ad.add (j * 4)).block, (ad.add (j * 4)).off + 1, none⟩) (by rw [add_block]; exact hab)).trans hc1
        have d2 := (hb.cell (p := ⟨(ad.add (j * 4)).block, (ad.add (j * 4)).off + 2, none⟩) (by rw [add_block]; exact hab)).trans hc2
        have d3 := (hb.cell (p := ⟨(ad.add (j * 4)).block, (ad.add (j * 4)).off + 3, none⟩) (by rw [add_block]; exact hab)).trans hc3
        obtain ⟨A5, c5, rfl, h51, h52, _⟩ := hown.row (by decide)
        clear hc0 hc1 hc2 hc3 hq1 hm' hts' hra hrl hrm hcall hts
        have hj0 : (0 : Int) ≤ (j : Int) := Int.natCast_nonneg _
        have hj1 : (j : Int) < (m : Int) := by omega
        rw [← HP.out] at HCALL
        have hbA : Below wr.heap.size wr (wr.alloc (.cells #[.int .i64 k', .int .i64 n', .string t', .slice R m' rc] 40)).drew := ((Below.refl _ _).alloc (Nat.le_refl _) _).drew
        have hbB : Below wr.heap.size wr ((wr.alloc (.cells #[.int .i64 k', .int .i64 n', .string t', .slice R m' rc] 40)).alloc (.cells #[.int .i64 (j : Int)] 3)).drew := (((Below.refl _ _).alloc (Nat.le_refl _) _).alloc (by simp) _).drew
        have hqA : Own4 (wr.alloc (.cells #[.int .i64 k', .int .i64 n', .string t', .slice R m' rc] 40)).drew wr.heap.size 40 (.int .i64 k') (.int .i64 n') (.string t') (.slice R m' rc) := heap_alloc_new wr _
        have hqB : Own4 ((wr.alloc (.cells #[.int .i64 k', .int .i64 n', .string t', .slice R m' rc] 40)).alloc (.cells #[.int .i64 (j : Int)] 3)).drew wr.heap.size 40 (.int .i64 k') (.int .i64 n') (.string t') (.slice R m' rc) := Own4.alloc (heap_alloc_new wr _) _
        have hzB : ((wr.alloc (.cells #[.int .i64 k', .int .i64 n', .string t', .slice R m' rc] 40)).alloc (.cells #[.int .i64 (j : Int)] 3)).drew.cell? ⟨wr.heap.size + 1, 0, none⟩ = some (.int .i64 (j : Int)) := by
          have h := World.news_of_block (heap_alloc_new (wr.alloc (.cells #[.int .i64 k', .int .i64 n', .string t', .slice R m' rc] 40)) (.cells #[.int .i64 (j : Int)] 3)) 0 _ rfl
          have e : (wr.alloc (.cells #[.int .i64 k', .int .i64 n', .string t', .slice R m' rc] 40)).heap.size = wr.heap.size + 1 := by simp
          rw [e] at h
          exact h
        have hsA : wr.heap.size + 1 ≤ (wr.alloc (.cells #[.int .i64 k', .int .i64 n', .string t', .slice R m' rc] 40)).drew.heap.size := by show _ ≤ (wr.heap.push _).size; simp
        have hsB : wr.heap.size + 1 < ((wr.alloc (.cells #[.int .i64 k', .int .i64 n', .string t', .slice R m' rc] 40)).alloc (.cells #[.int .i64 (j : Int)] 3)).drew.heap.size := by show _ < ((wr.heap.push _).push _).size; simp
        go_wp2
        go_region_held3 (fun w' => w'.cell? ⟨wr.heap.size, 0, none⟩ = some (.int .i64 k') ∧ w'.cell? ⟨wr.heap.size, 1, none⟩ = some (.int .i64 n') ∧ w'.cell? ⟨wr.heap.size, 2, none⟩ = some (.string t') ∧ w'.cell? ⟨wr.heap.size, 3, none⟩ = some (.slice R m' rc))
          (first
            | go_keep
            | exact ⟨y0, y1, y2, y3⟩
            | exact ⟨p0, p1, p2, p3⟩
            | exact ⟨r0, r1, r2, r3⟩
            | exact ⟨x0, x1, x2, x3⟩)
          (first
            | (refine step_append_g intTy (by decide) (w5.alloc (.cells #[.int .i64 (j : Int)] 3)) rfl (.tmp 58) (.tmp 60) rfl _ _ pl xs5 [.int .i64 (j : Int)] rfl (hownr5.alloc _) (some ⟨w5.heap.size, 0, none⟩) 1 1 rfl rfl (fun _ => ⟨_, rfl, fun i u hu => World.news_of_block (heap_alloc_new w5 _) i u (by simpa using hu)⟩) (by simp [Value.oneCell']) (by omega) (Nat.le_trans hb5.size (by show w5.heap.size ≤ (w5.heap.push _).size; simp)) ?_
               intro v7 w7 hown7 hg7 hv7
               obtain ⟨g7, c7, rfl, hg7a, hg7b⟩ := hown7.form (by omega)
               have hw7 : Below wr.heap.size wr w7 := (hw5.alloc hw5.size _).grown hg7 (by have := hw5.size; simp; omega) (fun b hb => by have := hlow7 b hb; omega)
               have hq7 : Own4 w7 wr.heap.size 40 _ _ _ _ := (hq5.alloc _).grown hg7 (fun e => by have := hlow7 _ e.symm; omega)
               obtain ⟨⟨p0, p1, p2, p3⟩, _, _, _, _⟩ := hq7.cells
               have hr7 : GRow w7 (lt w7) (some ⟨g7, 0, none⟩) (pl + 1) (encI (P ++ [j])) := fun _ => ⟨g7, 0, _, rfl, hg7b, by rw [encI_app]; exact (encI_cells hfc5).app ⟨_, rfl, rfl, rfl⟩, fun i u hu => by rw [← add_at]; exact hown7.cells (g := g7) rfl i u hu⟩)
            | (refine step_append_g intTy (by decide) w5 rfl (.tmp 58) (.tmp 60) rfl _ _ pl xs5 [.int .i64 (j : Int)] rfl hownr5 (some ⟨wr.heap.size + 1, 0, none⟩) 1 1 rfl rfl (fun _ => ⟨_, rfl, fun i u hu => by
                 match i, hu with
                 | 0, hu => simp at hu; subst hu; simpa [Addr.add] using hz5⟩) (by simp [Value.oneCell']) (by omega) hb5.size ?_
               intro v7 w7 hown7 hg7 hv7
               obtain ⟨g7, c7, rfl, hg7a, hg7b⟩ := hown7.form (by omega)
               have hw7 : Below wr.heap.size wr w7 := hw5.grown hg7 hw5.size (fun b hb => by have := hlow7 b hb; omega)
               have hq7 : Own4 w7 wr.heap.size 40 _ _ _ _ := hq5.grown hg7 (fun e => by have := hlow7 _ e.symm; omega)
               obtain ⟨⟨p0, p1, p2, p3⟩, _, _, _, _⟩ := hq7.cells
               have hr7 : GRow w7 (lt w7) (some ⟨g7, 0, none⟩) (pl + 1) (encI (P ++ [j])) := fun _ => ⟨g7, 0, _, rfl, hg7b, by rw [encI_app]; exact (encI_cells hfc5).app ⟨_, rfl, rfl, rfl⟩, fun i u hu => by rw [← add_at]; exact hown7.cells (g := g7) rfl i u hu⟩)
            | (refine step_append_g tstTy (by decide) w9 rfl (.tmp 55) (.tmp 62) rfl w.heap.size _ ts.length xs9 L9 rfl hownr9 A9 ts'.length c9 rfl (by rw [hL9, encTs_len]) hL9c hL9o (by omega) (by have := hb.size; have := hw9.size; omega) ?_
               intro v11 w11 hown11 hg11 hv11
               have hq11 : Own4 w11 wr.heap.size 40 _ _ _ _ := hq9.grown hg11 (fun e => by have h1 : wr.heap.size < wr.heap.size := (hown.low e.symm).2; omega)
               obtain ⟨⟨x0, x1, x2, x3⟩, _, _, _, _⟩ := hq11.cells)
            | (go_at_call 77
               (with_reducible refine (HCL.out _ (by first | exact hb.trans (hbA.mono hbs) | exact hb.trans (hbB.mono hbs))).mono ?_)
               rintro e w5 ⟨v5, rfl, hown5, hb5⟩
               obtain ⟨A6, c6, rfl, h61, h62, _⟩ := hown5.row (by decide)
               have hlow7 : ∀ b, (Value.slice A6 pl c6).ownBlock = some b → wr.heap.size + 1 ≤ b := fun b hb => by
                 have h := (hown5.low hb).1
                 first
                   | exact Nat.le_trans hsA h
                   | exact Nat.le_trans (Nat.le_of_lt hsB) h
               obtain ⟨xs5, hownr5, hfc5⟩ := hown5
               have hw5 : Below wr.heap.size wr w5 := by first | exact hbA.trans (hb5.mono hbA.size) | exact hbB.trans (hb5.mono hbB.size)
               have hq5 : Own4 w5 wr.heap.size 40 (.int .i64 k') (.int .i64 n') (.string t') (.slice R m' rc) := by first | exact hqA.keep hb5 | exact hqB.keep hb5
               obtain ⟨⟨y0, y1, y2, y3⟩, _, _, _, _⟩ := hq5.cells
               first
                 | (have hz5 : w5.cell? ⟨wr.heap.size + 1, 0, none⟩ = some (.int .i64 (j : Int)) := (hb5.cell (p := ⟨wr.heap.size + 1, 0, none⟩) hsB).trans hzB)
                 | skip)
            | (go_at_call 51
               (with_reducible refine (HCALL.out w7 (some ⟨g7, 0, none⟩) c7 (hb.trans (hw7.mono hbs)) hr7 (fun e => by cases e)).mono ?_)
               rintro e w9 ⟨A9, c9, rfl, hrow9, h91, h92, hb9⟩
               have hw9 : Below wr.heap.size wr w9 := hw7.trans (hb9.mono hw7.size)
               have hq9 : Own4 w9 wr.heap.size 40 _ _ _ _ := hq7.keep hb9
               obtain ⟨⟨r0, r1, r2, r3⟩, _, _, _, _⟩ := hq9.cells
               obtain ⟨xs9, hownr9, hfc9⟩ := hown.kept hw9
               obtain ⟨L9, hL9g, hL9, hL9o, hL9c⟩ := cells_of_row hrow9 (fun e => by rw [List.eq_nil_of_length_eq_zero e]; rfl)))
        all_goals
          go_wp2
          go_roundw
          case measure => simp [intOf]; omega
          case rel =>
            refine ⟨j + 1, r', ts ++ ts', by omega, by go_num, HTS.out, ?_, by simp; omega, by omega, hq2, hre', (hb.trans (hw9.mono hbs)).grown hg11 (by have := hw9.size; omega) (fun b hb' => (hown.low hb').1)⟩
            · rw [List.length_append, encTs_app]
              refine OwnG.more hfc9 (hL9g.mono fun b hb' => ⟨by have := hb'.1; have := hw7.size; omega, hb'.2, fun e => ?_⟩) hown11 hg11 hv11
              have h1 : b < wr.heap.size := (hown.low e.symm).2
              have := hb'.1
              have := hw7.size
              omega
theorem tests_head (k n : Int) (t : ByteArray) (a : F) (hQ : Each TestsSaid a) : TestsSaid k n t a := by
  intro A B c d P w h hc hcm hB h0 hP
  unfold tests1
  by_cases h34 : k = 3 ∨ k = 4
  · rw [if_pos h34]
    exact tests_num k n t _ h34 A B c d P w hB h0 (by omega)
  rw [if_neg h34]
  by_cases h5 : k = 5
  · rw [if_pos h5]
    subst h5
    exact tests_text n t _ A B c d P w hB h0 (by omega)
  rw [if_neg h5]
  by_cases h6 : k = 6
  · rw [if_pos h6]
    subst h6
    exact tests_make n t a hQ A B c d P w h hB h0 hP
  rw [if_neg h6]
  exact tests_none k n t _ (by omega) (by omega) h5 h6 A c _ w
theorem tests_all : ∀ a : F, Each TestsSaid a := each_of tests_head
end Go.Proofs.YtiinghgfojicdaaGreat
