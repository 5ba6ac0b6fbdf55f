/- A part of the proof of FoldTwice: tree.Size. No conditions. -/
import Derived.Test.YtiinghgfojicdaaGreatFoC
import Derived.Test.YtiinghgfojicdaaGreatFoB
set_option linter.unusedVariables false
set_option linter.unusedSimpArgs false
namespace Go.Proofs.YtiinghgfojicdaaGreat
open Go.RowKit Go.RowG Go.FRow Go.GMem
set_option linter.unusedVariables false
set_option maxRecDepth 100000
attribute [local go_sem ↓] Go.wp_at_zero Go.wp_at_succ
def PatSizeSaid (k n : Int) (t : ByteArray) (a : F) : Prop := ∀ (A : Option Addr) (c : Nat) (w : World), RowAt w w.heap.size A a → a.len ≤ c → c ≤ maxLen → a.nodes ≤ 100000 → Calls Tryz.prog 50 #[agg4 k n t A a.len c] w (IntEnds ((1 + a.nodes : Nat) : Int) w)
set_option maxHeartbeats 1000000 in
theorem patSize_head (k n : Int) (t : ByteArray) (a : F) (hQ : Each PatSizeSaid a) : PatSizeSaid k n t a := by
  intro A c w h hc hcm hn
  obtain ⟨m, hm⟩ : ∃ m, m = a.len := ⟨_, rfl⟩
  have hml : m ≤ 100000 := by have := a.len_nodes; omega
  have hrest := h.rest
  rw [← hm] at hrest
  rw [← hm]
  obtain ⟨N, hN⟩ : ∃ N, N = 1 + a.nodes := ⟨_, rfl⟩
  rw [← hN]
  have HN := Lib.hid hN
  clear hm h hc hcm hN
  unfold agg4
  go_enter Tryz.func50, Tryz.ntmps50
  go_wp2
  go_loopw [3, 9] (fun s i wr => ∃ (j sm : Nat) (r : F), j ≤ m ∧ i = .int .i64 j ∧ s = .int .i64 sm ∧ sm + r.nodes = N ∧ sm + r.nodes ≤ 100001 ∧ Each PatSizeSaid r ∧ Rest w w.heap.size A m j r ∧ Below w.heap.size w wr) (fun _ i _ => m - (intOf i).toNat)
  case atStart => exact ⟨0, 1, a, Nat.zero_le _, rfl, rfl, by rw [HN.out], by omega, hQ, hrest, (Below.refl _ _).alloc (Nat.le_refl _) _⟩
  case round =>
    obtain ⟨j, sm, r, hj, rfl, rfl, hs, hsm, hq, hre, hb⟩ := hrel
    cases r with
    | nil =>
      obtain rfl : j = m := by have := hre.1; simp only [F.len] at this; omega
      simp only [F.nodes] at hs
      have hs' : sm = N := hs
      subst hs'
      clear hsm
      go_wp2
      go_ret
      exact ⟨rfl, hb⟩
    | cons k' n' t' a' r' =>
      have hlt : j < m := by have := hre.1; simp only [F.len] at this; omega
      obtain ⟨ad, R, rc, rfl, hab, hc0, hc1, hc2, hc3, hrl, hrm, hra, hre'⟩ := hre.step
      obtain ⟨hq1, hq2⟩ := hq
      simp only [F.nodes] at hs hsm
      obtain ⟨b, hbe⟩ : ∃ b, b = 1 + a'.nodes := ⟨_, rfl⟩
      have hs' : sm + b + r'.nodes = N := by omega
      have HS := Lib.hid hs'
      have hbl : sm + b ≤ 100001 := by omega
      have hbr : sm + b + r'.nodes ≤ 100001 := by omega
      have hcall : ∀ W : World, Below w.heap.size w W → Calls Tryz.prog 50 #[agg4 k' n' t' R a'.len rc] W (IntEnds (b : Int) W) := fun W hW => by
        rw [hbe]
        exact hq1 R rc W (hra.keep hW.size fun p hp => hW.cell hp) hrl hrm (by omega)
      obtain ⟨m', hm'⟩ : ∃ m', m' = a'.len := ⟨_, rfl⟩
      rw [← hm'] at hcall hc3 hrl
      have d0 := (hb.cell (p := ad.add (j * 4)) (by rw [add_block]; exact hab)).trans hc0
      have d1 := (hb.cell (p := ⟨(ad.add (j * 4)).block, (ad.add (j * 4)).off + 1, none⟩) (by rw [add_block]; exact hab)).trans hc1
      have d2 := (hb.cell (p := ⟨(ad.add (j * 4)).block, (ad.add (j * 4)).off + 2, none⟩) (by rw [add_block]; exact hab)).trans hc2
      have d3 := (hb.cell (p := ⟨(ad.add (j * 4)).block, (ad.add (j * 4)).off + 3, none⟩) (by rw [add_block]; exact hab)).trans hc3
      have hbs := hb.size
      clear hbe hs hs' hq1 hm' hsm hc0 hc1 hc2 hc3
      go_wp2_with (first
        | (go_at_call 50; (with_reducible refine (hcall _ (hb.alloc hbs _)).mono ?_); rintro e w2 ⟨rfl, hb2⟩)
        | fail "none")
      go_roundw
      case rel => exact ⟨j + 1, sm + b, r', by omega, by go_num, by go_num, HS.out, hbr, hq2, hre', (hb.alloc hbs _).trans (hb2.mono (by simp; omega))⟩
      case measure => simp [intOf]; omega
theorem patSize_says (k n : Int) (t : ByteArray) (a : F) : PatSizeSaid k n t a := patSize_head k n t a (each_of patSize_head a)
theorem eight_at {w : World} {z : Nat} {e : TypeId} {v0 v1 v2 v3 v4 v5 v6 v7 : Value} (h : w.heap[z]? = some (.cells #[v0, v1, v2, v3, v4, v5, v6, v7] e (0, 0))) :
    w.cell? ⟨z, 0, none⟩ = some v0 ∧ w.cell? ⟨z, 1, none⟩ = some v1 ∧ w.cell? ⟨z, 2, none⟩ = some v2 ∧ w.cell? ⟨z, 3, none⟩ = some v3 ∧ w.cell? ⟨z, 4, none⟩ = some v4 ∧ w.cell? ⟨z, 5, none⟩ = some v5 ∧ w.cell? ⟨z, 6, none⟩ = some v6 ∧ w.cell? ⟨z, 7, none⟩ = some v7 := by
  simp [World.cell?, h]
theorem twelve_at {w : World} {z : Nat} {e : TypeId} {v0 v1 v2 v3 v4 v5 v6 v7 v8 v9 v10 v11 : Value} (h : w.heap[z]? = some (.cells #[v0, v1, v2, v3, v4, v5, v6, v7, v8, v9, v10, v11] e (0, 0))) :
    w.cell? ⟨z, 0, none⟩ = some v0 ∧ w.cell? ⟨z, 1, none⟩ = some v1 ∧ w.cell? ⟨z, 2, none⟩ = some v2 ∧ w.cell? ⟨z, 3, none⟩ = some v3 ∧ w.cell? ⟨z, 4, none⟩ = some v4 ∧ w.cell? ⟨z, 5, none⟩ = some v5 ∧ w.cell? ⟨z, 6, none⟩ = some v6 ∧ w.cell? ⟨z, 7, none⟩ = some v7 ∧ w.cell? ⟨z, 8, none⟩ = some v8 ∧ w.cell? ⟨z, 9, none⟩ = some v9 ∧ w.cell? ⟨z, 10, none⟩ = some v10 ∧ w.cell? ⟨z, 11, none⟩ = some v11 := by
  simp [World.cell?, h]
/-- An expression as a value. -/
abbrev agg8 (e : Ex) (q : At) : Value := .agg #[.int .i64 e.h.k, .int .i64 e.h.n, .string e.h.t, .slice q.a1 e.h.ns.length q.c1, .slice q.a2 e.h.m q.c2, .slice q.a3 e.args.len q.c3, .slice q.a4 e.arms.len q.c4, .int .i64 0]
def SizeSaid (e : Ex) : Prop := ∀ (q : At) (w : World), EIs w (lt w) e q → e.size ≤ 100000 → Calls Tryz.prog 21 #[agg8 e q] w (IntEnds (e.size : Int) w)
set_option maxHeartbeats 2000000 in
theorem size_head (e : Ex) (hA : EachX SizeSaid e.args) (hB : EachX SizeSaid e.arms) : SizeSaid e := by
  intro q w he hn
  obtain ⟨h, args, arms⟩ := e
  simp only [Ex.size] at hn hA hB ⊢
  obtain ⟨m, hm⟩ : ∃ m, m = args.len := ⟨_, rfl⟩
  obtain ⟨m2, hm2⟩ : ∃ m2, m2 = arms.len := ⟨_, rfl⟩
  have hml : m ≤ 100000 := by have := args.len_size false; omega
  have hml2 : m2 ≤ 100000 := by have := arms.len_size true; omega
  have hrest := xrest he.r3
  have hrest2 := arest he.r4
  simp only at hrest hrest2
  rw [← hm] at hrest
  rw [← hm2] at hrest2
  simp only [agg8, ← hm, ← hm2]
  obtain ⟨N, hN⟩ : ∃ N, N = 1 + sizeX false args + sizeX true arms := ⟨_, rfl⟩
  rw [← hN]
  rw [← hN] at hn
  have HN := Lib.hid hN
  obtain ⟨nl, hnl⟩ : ∃ nl, nl = h.ns.length := ⟨_, rfl⟩
  rw [← hnl]
  obtain ⟨hk, hn', ht, hns, hm'⟩ := h
  obtain ⟨a1, c1, a2, c2, a3, c3, a4, c4⟩ := q
  simp only at hrest hrest2 hnl ⊢
  obtain ⟨W1, hW1⟩ : ∃ W1, W1 = w.alloc (.cells #[.int .i64 hk, .int .i64 hn', .string ht, .slice a1 nl c1, .slice a2 hm' c2, .slice a3 m c3, .slice a4 m2 c4, .int .i64 0] 50) := ⟨_, rfl⟩
  have hz1 : W1.heap[w.heap.size]? = some (.cells #[.int .i64 hk, .int .i64 hn', .string ht, .slice a1 nl c1, .slice a2 hm' c2, .slice a3 m c3, .slice a4 m2 c4, .int .i64 0] 50 (0, 0)) := by rw [hW1]; exact heap_alloc_new w _
  have hb1 : Below w.heap.size w W1 := by rw [hW1]; exact (Below.refl _ _).alloc (Nat.le_refl _) _
  have hs1 : W1.heap.size = w.heap.size + 1 := by rw [hW1]; simp
  have HW1 := Lib.hid hW1
  have HZ1 := Lib.hid hz1
  clear hm hm2 he hnl hN hW1 hz1
  go_enter Tryz.func21, Tryz.ntmps21
  go_wp2
  go_loopw [3, 11] (fun s i wr => ∃ (j sm : Nat) (r : X), j ≤ m ∧ i = .int .i64 j ∧ s = .int .i64 sm ∧ sm + sizeX false r + sizeX true arms = N ∧ EachX SizeSaid r ∧ XRest w (lt w) a3 m j r ∧ Below W1.heap.size W1 wr) (fun _ i _ => m - (intOf i).toNat)
  case atStart => exact ⟨0, 1, args, Nat.zero_le _, rfl, rfl, by rw [HN.out], hA, hrest, by rw [HW1.out]; exact Below.refl _ _⟩
  case round =>
    obtain ⟨j, sm, r, hj, rfl, rfl, hs, hq, hre, hb⟩ := hrel
    have hbw : Below w.heap.size w wr := hb1.trans (hb.mono hb1.size)
    have hbs := hb.size
    cases r with
    | nil =>
      obtain rfl : j = m := by have := hre.1; simp only [X.len] at this; omega
      simp only [sizeX] at hs
      obtain ⟨y0, y1, y2, y3, y4, y5, y6, y7⟩ := eight_at ((hb.block _ (by omega)).trans HZ1.out)
      have hs' : sm + sizeX true arms = N := by omega
      have HS := Lib.hid hs'
      have hsmN : sm ≤ 100000 := by omega
      clear hs hs'
      go_wp2
      go_loopw [3, 23] (fun s i wr' => ∃ (j2 sm2 : Nat) (r2 : X), j2 ≤ m2 ∧ i = .int .i64 j2 ∧ s = .int .i64 sm2 ∧ sm2 + sizeX true r2 = N ∧ EachX SizeSaid r2 ∧ ARest w (lt w) a4 m2 j2 r2 ∧ Below wr.heap.size wr wr') (fun _ i _ => m2 - (intOf i).toNat)
      case atStart => exact ⟨0, sm, arms, Nat.zero_le _, rfl, rfl, HS.out, hB, hrest2, Below.refl _ _⟩
      case round =>
        obtain ⟨j2, sm2, r2, hj2, rfl, rfl, hs2, hq2, hre2, hb2⟩ := hrel
        have hbw2 : Below w.heap.size w wr := hbw.trans (hb2.mono hbw.size)
        have hbs2 := hb2.size
        cases r2 with
        | nil =>
          obtain rfl : j2 = m2 := by have := hre2.1; simp only [X.len] at this; omega
          simp only [sizeX] at hs2
          have hs2' : sm2 = N := hs2
          subst hs2'
          clear y0 y1 y2 y3 y4 y5 y6 y7
          go_wp2
          go_ret
          exact ⟨rfl, hbw2⟩
        | cons p h' ar' am' r' =>
          have hlt : j2 < m2 := by have := hre2.1; simp only [X.len] at this; omega
          obtain ⟨ad, q', A', c', rfl, hab, hc4, hpg, hpl, hpm, hc8, hei, hre'⟩ := hre2.step
          obtain ⟨hq1, hq2⟩ := hq2
          have hab : (ad.add (j2 * 12)).block < w.heap.size := by rw [add_block]; exact hab
          have hd4 := hc4.keep (w' := wr) fun p hp => hbw2.cell (by rw [hp]; exact hab)
          have hd8 := hc8.keep (w' := wr) fun p hp => hbw2.cell (by rw [hp]; exact hab)
          simp only [sizeX, if_true] at hs2
          obtain ⟨b, hbe⟩ : ∃ b, b = 1 + sizeX false ar' + sizeX true am' := ⟨_, rfl⟩
          obtain ⟨b2, hbe2⟩ : ∃ b2, b2 = 1 + p.a.nodes := ⟨_, rfl⟩
          have hs' : sm2 + (b + b2) + sizeX true r' = N := by omega
          have HS2 := Lib.hid hs'
          have hcall : ∀ W : World, Below w.heap.size w W → Calls Tryz.prog 21 #[agg8 ⟨h', ar', am'⟩ q'] W (IntEnds (b : Int) W) := fun W hW => by
            rw [hbe]
            exact hq1 q' W (hei.below hW) (by simp only [Ex.size]; omega)
          have hcallp : ∀ W : World, Below w.heap.size w W → Calls Tryz.prog 50 #[agg4 p.k p.n p.t A' p.a.len c'] W (IntEnds (b2 : Int) W) := fun W hW => by
            rw [hbe2]
            exact patSize_says p.k p.n p.t p.a A' c' W ((row_of hpg).keep (fun b h => Nat.lt_of_lt_of_le h hW.size) fun p hp => hW.cell hp) hpl hpm (by omega)
          have hsmb : sm2 + (b + b2) ≤ 100000 := by omega
          obtain ⟨pk, pn, pt, pa⟩ := p
          obtain ⟨k', n', t', ns', m'⟩ := h'
          obtain ⟨x1, d1, x2, d2, x3, d3, x4, d4⟩ := q'
          simp only [cells4, cells8, agg8] at hd4 hd8 hcall hcallp
          obtain ⟨e0, e1, e2, e3⟩ := hd4
          obtain ⟨f0, f1, f2, f3, f4, f5, f6, f7⟩ := hd8
          obtain ⟨l1, hl1⟩ : ∃ l, l = ns'.length := ⟨_, rfl⟩
          obtain ⟨l2, hl2⟩ : ∃ l, l = ar'.len := ⟨_, rfl⟩
          obtain ⟨l3, hl3⟩ : ∃ l, l = am'.len := ⟨_, rfl⟩
          obtain ⟨l4, hl4⟩ : ∃ l, l = pa.len := ⟨_, rfl⟩
          rw [← hl1, ← hl2, ← hl3] at hcall
          rw [← hl4] at hcallp e3
          rw [← hl1] at f3
          rw [← hl2] at f5
          rw [← hl3] at f6
          clear hl1 hl2 hl3 hl4 hq1 hei hpg hpl hpm hc4 hc8 hs2 hs' hbe hbe2 y0 y1 y2 y3 y4 y5 y6 y7
          have hws : w.heap.size ≤ wr.heap.size := hbw2.size
          have e0' := (hbw2.cell (p := ad.add (j2 * 12)) hab).symm
          have hO : ∀ W : World, Below (wr.heap.size + 1) (wr.alloc (.cells #[.int .i64 pk, .int .i64 pn, .string pt, .slice A' l4 c', .int .i64 k', .int .i64 n', .string t', .slice x1 l1 d1, .slice x2 m' d2, .slice x3 l2 d3, .slice x4 l3 d4, .int .i64 0] 70)) W → W.heap[wr.heap.size]? = some (.cells #[.int .i64 pk, .int .i64 pn, .string pt, .slice A' l4 c', .int .i64 k', .int .i64 n', .string t', .slice x1 l1 d1, .slice x2 m' d2, .slice x3 l2 d3, .slice x4 l3 d4, .int .i64 0] 70 (0, 0)) := fun W hW => (hW.block _ (Nat.lt_succ_self _)).trans (heap_alloc_new wr _)
          have HO := Lib.hid hO
          clear hO e0'
          obtain ⟨w1, hw1⟩ : ∃ w1, w1 = (wr.alloc (.cells #[.int .i64 pk, .int .i64 pn, .string pt, .slice A' l4 c', .int .i64 k', .int .i64 n', .string t', .slice x1 l1 d1, .slice x2 m' d2, .slice x3 l2 d3, .slice x4 l3 d4, .int .i64 0] 70)) := ⟨_, rfl⟩
          rw [← hw1] at HO
          have hbw1 : Below w.heap.size w w1 := by rw [hw1]; exact hbw2.alloc hws _
          have hs1w : w1.heap.size = wr.heap.size + 1 := by rw [hw1]; simp
          have hbr1 : Below wr.heap.size wr w1 := by rw [hw1]; exact (Below.refl _ _).alloc (Nat.le_refl _) _
          have H0 := twelve_at (HO.out w1 (Below.refl _ _))
          have HW1 := Lib.hid hw1
          clear hw1
          go_wp2
          rw [← HW1.out]
          go_region_held3 (fun w' => w'.cell? ⟨wr.heap.size, 0, none⟩ = some (.int .i64 pk) ∧ w'.cell? ⟨wr.heap.size, 1, none⟩ = some (.int .i64 pn) ∧ w'.cell? ⟨wr.heap.size, 2, none⟩ = some (.string pt) ∧ w'.cell? ⟨wr.heap.size, 3, none⟩ = some (.slice A' l4 c') ∧ w'.cell? ⟨wr.heap.size, 4, none⟩ = some (.int .i64 k') ∧ w'.cell? ⟨wr.heap.size, 5, none⟩ = some (.int .i64 n') ∧ w'.cell? ⟨wr.heap.size, 6, none⟩ = some (.string t') ∧ w'.cell? ⟨wr.heap.size, 7, none⟩ = some (.slice x1 l1 d1) ∧ w'.cell? ⟨wr.heap.size, 8, none⟩ = some (.slice x2 m' d2) ∧ w'.cell? ⟨wr.heap.size, 9, none⟩ = some (.slice x3 l2 d3) ∧ w'.cell? ⟨wr.heap.size, 10, none⟩ = some (.slice x4 l3 d4) ∧ w'.cell? ⟨wr.heap.size, 11, none⟩ = some (.int .i64 0))
            (first
              | (with_reducible exact H3)
              | (with_reducible exact H2)
              | exact H0
              | fail "none")
            (first
              | (go_at_call 21
                 (with_reducible refine (hcall _ hbw1.drew).mono ?_)
                 rintro e w3 ⟨rfl, hb3⟩
                 have hbw3 : Below w.heap.size w w3 := hbw1.drew.trans (hb3.mono hbw1.size)
                 have hbr3 : Below w1.heap.size w1 w3 := (Below.refl _ _).drew.trans hb3
                 have H2 := twelve_at (HO.out w3 (hbr3.mono (by omega))))
              | (go_at_call 50
                 (with_reducible refine (hcallp _ hbw1.drew).mono ?_)
                 rintro e w3 ⟨rfl, hb3⟩
                 have hbw3 : Below w.heap.size w w3 := hbw1.drew.trans (hb3.mono hbw1.size)
                 have hbr3 : Below w1.heap.size w1 w3 := (Below.refl _ _).drew.trans hb3
                 have H2 := twelve_at (HO.out w3 (hbr3.mono (by omega))))
              | (go_at_call 21
                 (with_reducible refine (hcall _ hbw3).mono ?_)
                 rintro e w4 ⟨rfl, hb4⟩
                 have hbr4 : Below w1.heap.size w1 w4 := hbr3.trans (hb4.mono hbr3.size)
                 have H3 := twelve_at (HO.out w4 (hbr4.mono (by omega))))
              | (go_at_call 50
                 (with_reducible refine (hcallp _ hbw3).mono ?_)
                 rintro e w4 ⟨rfl, hb4⟩
                 have hbr4 : Below w1.heap.size w1 w4 := hbr3.trans (hb4.mono hbr3.size)
                 have H3 := twelve_at (HO.out w4 (hbr4.mono (by omega))))
              | fail "none")
          all_goals
            have hwA : IntKind.i64.wrap ((b : Int) + (b2 : Int)) = ((b + b2 : Nat) : Int) := by rw [show ((b : Int) + (b2 : Int)) = ((b + b2 : Nat) : Int) by omega]; exact IntWalk.i64_in _ (by omega)
            have hwB : IntKind.i64.wrap ((sm2 : Int) + ((b + b2 : Nat) : Int)) = ((sm2 + (b + b2) : Nat) : Int) := by rw [show ((sm2 : Int) + ((b + b2 : Nat) : Int)) = ((sm2 + (b + b2) : Nat) : Int) by omega]; exact IntWalk.i64_in _ (by omega)
            go_wp2
            go_roundw
            case rel => exact ⟨j2 + 1, sm2 + (b + b2), r', by omega, by go_num, by rw [hwA, hwB], HS2.out, hq2, hre', (hb2.trans (hbr1.mono hbs2)).trans (hbr4.mono (by omega))⟩
            case measure => simp [intOf]; omega
    | cons p h' ar' am' r' =>
      have hlt : j < m := by have := hre.1; simp only [X.len] at this; omega
      obtain ⟨ad, q', rfl, hab, hc8, hei, hre'⟩ := hre.step
      obtain ⟨hq1, hq2⟩ := hq
      have hab : (ad.add (j * 8)).block < w.heap.size := by rw [add_block]; exact hab
      have hd8 := hc8.keep (w' := wr) fun p hp => hbw.cell (by rw [hp]; exact hab)
      simp only [sizeX, Bool.false_eq_true, if_false] at hs
      obtain ⟨b, hbe⟩ : ∃ b, b = 1 + sizeX false ar' + sizeX true am' := ⟨_, rfl⟩
      have hs' : sm + b + sizeX false r' + sizeX true arms = N := by omega
      have HS := Lib.hid hs'
      have hcall : ∀ W : World, Below w.heap.size w W → Calls Tryz.prog 21 #[agg8 ⟨h', ar', am'⟩ q'] W (IntEnds (b : Int) W) := fun W hW => by
        rw [hbe]
        exact hq1 q' W (hei.below hW) (by simp only [Ex.size]; omega)
      have hsmb : sm + b ≤ 100000 := by omega
      obtain ⟨k', n', t', ns', m'⟩ := h'
      obtain ⟨x1, d1, x2, d2, x3, d3, x4, d4⟩ := q'
      simp only [cells8, agg8] at hd8 hcall
      obtain ⟨f0, f1, f2, f3, f4, f5, f6, f7⟩ := hd8
      obtain ⟨l1, hl1⟩ : ∃ l, l = ns'.length := ⟨_, rfl⟩
      obtain ⟨l2, hl2⟩ : ∃ l, l = ar'.len := ⟨_, rfl⟩
      obtain ⟨l3, hl3⟩ : ∃ l, l = am'.len := ⟨_, rfl⟩
      rw [← hl1, ← hl2, ← hl3] at hcall
      rw [← hl1] at f3
      rw [← hl2] at f5
      rw [← hl3] at f6
      have hws : w.heap.size ≤ wr.heap.size := hbw.size
      clear hl1 hl2 hl3 hq1 hei hc8 hs hs' hbe
      go_wp2_with (first
        | (go_at_call 21; (with_reducible refine (hcall _ (hbw.alloc hws _)).mono ?_); rintro e w2 ⟨rfl, hb2⟩)
        | fail "none")
      go_roundw
      case rel => exact ⟨j + 1, sm + b, r', by omega, by go_num, by go_num, HS.out, hq2, hre', (hb.alloc hbs _).trans (hb2.mono (by simp; omega))⟩
      case measure => simp [intOf]; omega
theorem size_says (e : Ex) : SizeSaid e := each_ex size_head e
end Go.Proofs.YtiinghgfojicdaaGreat
