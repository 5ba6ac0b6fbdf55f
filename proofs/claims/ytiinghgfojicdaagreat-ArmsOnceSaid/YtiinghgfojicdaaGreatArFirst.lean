/- A part of the proofs of the laws of the arms: First. No conditions. -/
import Derived.Test.YtiinghgfojicdaaGreatArBind6
set_option linter.unusedVariables false
set_option linter.unusedSimpArgs false
namespace Go.Proofs.YtiinghgfojicdaaGreat
open Go.RowKit Go.RowG Go.FRow
set_option linter.unusedVariables false
attribute [local go_sem ↓] Go.wp_at_zero Go.wp_at_succ

/-- The first pattern that fits, counted from j on, and what it binds. -/
def firstF (k' n' : Int) (t' : ByteArray) (a' : F) : F → Nat → Option (Nat × F)
  | .nil, _ => none
  | .cons k n t a r, j => match bind1 k n t a k' n' t' a' with
    | some b => some (j, b)
    | none => firstF k' n' t' a' r (j + 1)
def FirstEnds (B : Nat) (res : Option (Nat × F)) (w : World) (e : Ending) (w' : World) : Prop :=
  (match res with
  | none => e = .returned (.tuple #[.int .i64 (-1), .slice none 0 0])
  | some (i, f) => ∃ A c, e = .returned (.tuple #[.int .i64 (i : Int), .slice A f.len c]) ∧ TopAt w B w' A f) ∧ Below w.heap.size w w'

theorem TopAt.move {w wr w' : World} {B : Nat} {A : Option Addr} {f : F} (h : TopAt wr B w' A f) (hk : ∀ p : Addr, p.block < B → w.cell? p = wr.cell? p) : TopAt w B w' A f := by
  obtain ⟨xs, h1, h2⟩ := h
  exact ⟨xs, h1.keep hk, h2⟩

set_option maxRecDepth 100000 in
set_option maxHeartbeats 2000000 in
theorem first_says (a : F) (k' n' : Int) (t' : ByteArray) (a' : F) (A A' : Option Addr) (c c' B : Nat) (w : World) (h : RowAt w w.heap.size A a) (h' : RowAt w B A' a') (hB : B ≤ w.heap.size) (hc' : a'.len ≤ c') (hcm' : c' ≤ maxLen) (hn : a.nodes ≤ 100000) (hn' : a'.nodes ≤ 100000) :
    Calls Tryz.prog 13 #[.slice A a.len c, agg4 k' n' t' A' a'.len c'] w (FirstEnds B (firstF k' n' t' a' a 0) w) := by
  obtain ⟨m, hm⟩ : ∃ m, m = a.len := ⟨_, rfl⟩
  have hml : m ≤ 100000 := by have := a.len_nodes; omega
  have hrest := h.rest
  rw [← hm] at hrest
  rw [← hm]
  obtain ⟨m', hm'⟩ : ∃ m', m' = a'.len := ⟨_, rfl⟩
  obtain ⟨res, hres⟩ : ∃ res, res = firstF k' n' t' a' a 0 := ⟨_, rfl⟩
  rw [← hres, ← hm']
  have HRES := Lib.hid hres
  have HM' := Lib.hid hm'
  have hq0 := bind_all a
  obtain ⟨W1, hW1⟩ : ∃ W1, W1 = w.alloc (.cells #[.int .i64 k', .int .i64 n', .string t', .slice A' m' c'] 29) := ⟨_, rfl⟩
  have hbW : Below w.heap.size w W1 := by rw [hW1]; exact (Below.refl _ _).alloc (Nat.le_refl _) _
  have hzW1 : w.heap.size + 1 ≤ W1.heap.size := by rw [hW1]; simp
  have hx : ∀ j u, (#[.int .i64 k', .int .i64 n', .string t', .slice A' m' c'] : Array Value).toList[j]? = some u → W1.cell? ((⟨w.heap.size, 0, none⟩ : Addr).add j) = some u := by
    rw [hW1]
    exact World.news_of_block (heap_alloc_new w _)
  have x0 := hx 0 _ rfl
  have x1 := hx 1 _ rfl
  have x2 := hx 2 _ rfl
  have x3 := hx 3 _ rfl
  simp [Addr.add] at x0 x1 x2 x3
  have HW1 := Lib.hid hW1
  clear hW1 hx hm hm' hres h
  unfold agg4
  go_enter Tryz.func13, Tryz.ntmps13
  go_wp2
  go_loopw [12] (fun i wr => ∃ (j : Nat) (r : F), j ≤ m ∧ i = .int .i64 j ∧ r.nodes ≤ 100000 ∧ Each BindSaid r ∧ Rest w w.heap.size A m j r ∧ firstF k' n' t' a' r j = res ∧ Below W1.heap.size W1 wr) (fun i _ => m - (intOf i).toNat)
  case atStart => exact ⟨0, a, Nat.zero_le _, rfl, hn, hq0, hrest, HRES.out.symm, by rw [HW1.out]; exact Below.refl _ _⟩
  case round =>
    obtain ⟨j, r, hj, rfl, hno, hq, hre, hb0, hb⟩ := hrel
    have hbw : Below w.heap.size w wr := hbW.trans (hb.mono (by omega))
    have hbs := hb.size
    cases r with
    | nil =>
      obtain rfl : j = m := by have := hre.1; simp only [F.len] at this; omega
      simp only [firstF] at hb0
      subst hb0
      clear hno
      go_wp2
      go_ret2
      exact ⟨rfl, hbw⟩
    | cons k2 n2 t2 a2 r2 =>
      simp only [firstF] at hb0
      have hlt : j < m := by have := hre.1; simp only [F.len] at this; omega
      obtain ⟨ad, R, rc, rfl, hab, hc0, hc1, hc2, hc3, hrl, hrm, hra, hre'⟩ := hre.step
      obtain ⟨hq1, hq2⟩ := hq
      simp only [F.nodes] at hno
      have hcall : ∀ W : World, Below w.heap.size w W → Calls Tryz.prog 14 #[.agg #[.int .i64 k2, .int .i64 n2, .string t2, .slice R a2.len rc], .agg #[.int .i64 k', .int .i64 n', .string t', .slice A' m' c']] W (BindEnds B (bind1 k2 n2 t2 a2 k' n' t' a') W) := fun W hW => by
        rw [HM'.out]
        exact hq1 k' n' t' a' R A' rc c' B W (hra.keep hW.size fun p hp => hW.cell hp) (h'.keep (Nat.le_refl _) fun p hp => hW.cell (by omega)) (by have := hW.size; omega) hc' hcm' (by omega) hn'
      have d0 := (hbw.cell (p := ad.add (j * 4)) (by rw [add_block]; exact hab)).trans hc0
      have d1 := (hbw.cell (p := ⟨(ad.add (j * 4)).block, (ad.add (j * 4)).off + 1, none⟩) (by rw [add_block]; exact hab)).trans hc1
      have d2 := (hbw.cell (p := ⟨(ad.add (j * 4)).block, (ad.add (j * 4)).off + 2, none⟩) (by rw [add_block]; exact hab)).trans hc2
      have d3 := (hbw.cell (p := ⟨(ad.add (j * 4)).block, (ad.add (j * 4)).off + 3, none⟩) (by rw [add_block]; exact hab)).trans hc3
      have y0 := (hb.cell (p := ⟨w.heap.size, 0, none⟩) (by show w.heap.size < _; omega)).trans x0
      have y1 := (hb.cell (p := ⟨w.heap.size, 1, none⟩) (by show w.heap.size < _; omega)).trans x1
      have y2 := (hb.cell (p := ⟨w.heap.size, 2, none⟩) (by show w.heap.size < _; omega)).trans x2
      have y3 := (hb.cell (p := ⟨w.heap.size, 3, none⟩) (by show w.heap.size < _; omega)).trans x3
      obtain ⟨m2, hm2⟩ : ∃ m2, m2 = a2.len := ⟨_, rfl⟩
      rw [← hm2] at hcall d3
      clear hc0 hc1 hc2 hc3 x0 x1 x2 x3 hm2 hrl hq1
      have hgt : w.heap.size < wr.heap.size := by omega
      cases hb1 : bind1 k2 n2 t2 a2 k' n' t' a' with
      | none =>
        rw [hb1] at hb0 hcall
        have HB0 := Lib.hid hb0
        clear hb0 hb1
        have hcallS : ∀ W : World, Below w.heap.size w W → Calls Tryz.prog 14 #[.agg #[.int .i64 k2, .int .i64 n2, .string t2, .slice R m2 rc], .agg #[.int .i64 k', .int .i64 n', .string t', .slice A' m' c']] W (BindNone W) := fun W hW =>
          (hcall W hW).mono fun e w' ⟨h1, h5⟩ => ⟨h1, h5⟩
        clear hcall
        go_wp2_with (first
          | (go_at_call 14; (with_reducible refine (hcallS _ (hbw.alloc (by omega) _)).mono ?_); rintro e w3 ⟨rfl, hb3⟩))
        go_roundw
        case rel => exact ⟨j + 1, r2, by omega, by go_num, by omega, hq2, hre', HB0.out, (hb.alloc hbs _).trans (hb3.mono (by simp; omega))⟩
        case measure => simp [intOf]; omega
      | some f =>
        rw [hb1] at hb0 hcall
        subst hb0
        clear hb1
        have hcallS : ∀ W : World, Below w.heap.size w W → Calls Tryz.prog 14 #[.agg #[.int .i64 k2, .int .i64 n2, .string t2, .slice R m2 rc], .agg #[.int .i64 k', .int .i64 n', .string t', .slice A' m' c']] W (BindSome B f W) := fun W hW =>
          (hcall W hW).mono fun e w' ⟨⟨A, c, h1, h2, _, _⟩, h5⟩ => ⟨A, c, h1, h2, h5⟩
        clear hcall
        go_wp2_with (first
          | (go_at_call 14; (with_reducible refine (hcallS _ (hbw.alloc (by omega) _)).mono ?_); rintro e w3 ⟨A3, c3, rfl, htop, hb3⟩))
        go_ret2
        exact ⟨⟨A3, c3, rfl, htop.move fun p hp => ((hbw.alloc (by omega) (.cells #[.int .i64 k2, .int .i64 n2, .string t2, .slice R m2 rc] 40)).cell (by omega)).symm⟩, (hbw.alloc (by omega) _).trans (hb3.mono (by simp; omega))⟩
end Go.Proofs.YtiinghgfojicdaaGreat
