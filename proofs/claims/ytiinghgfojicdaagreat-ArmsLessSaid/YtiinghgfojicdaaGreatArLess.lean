/- ArmsLess: patterns behind the first that fits change nothing. No conditions. -/
import Derived.Test.YtiinghgfojicdaaGreatArPicks
set_option linter.unusedVariables false
set_option linter.unusedSimpArgs false
namespace Go.Proofs.YtiinghgfojicdaaGreat
open Go.RowKit Go.RowG Go.FRow Go.GMem
set_option linter.unusedVariables false
set_option maxRecDepth 100000
attribute [local go_sem ↓] Go.wp_at_zero Go.wp_at_succ

def takeF : Nat → F → F
  | 0, _ => .nil
  | _ + 1, .nil => .nil
  | n + 1, .cons k m t a r => .cons k m t a (takeF n r)
theorem takeF_len : ∀ (n : Nat) (f : F), n ≤ f.len → (takeF n f).len = n
  | 0, _, _ => rfl
  | n + 1, .nil, h => by simp [F.len] at h
  | n + 1, .cons _ _ _ _ r, h => by
    simp only [takeF, F.len] at h ⊢
    rw [takeF_len n r (by omega)]
theorem takeF_nodes : ∀ (n : Nat) (f : F), (takeF n f).nodes ≤ f.nodes
  | 0, _ => Nat.zero_le _
  | n + 1, .nil => Nat.le_refl _
  | n + 1, .cons _ _ _ _ r => by
    have := takeF_nodes n r
    simp only [takeF, F.nodes]
    omega
theorem Kin.take : ∀ (n : Nat) {f : F}, Kin f → Kin (takeF n f)
  | 0, _, _ => trivial
  | n + 1, .nil, _ => trivial
  | n + 1, .cons _ _ _ _ r, ⟨h1, h2, h3⟩ => ⟨h1, h2, Kin.take n (f := r) h3⟩
theorem fat_take {w : World} {S : Nat → Prop} : ∀ (n : Nat) {f : F} {ad : Addr}, FRow.FAt w S f ad → FRow.FAt w S (takeF n f) ad
  | 0, _, _, _ => trivial
  | n + 1, .nil, _, _ => trivial
  | n + 1, .cons _ _ _ _ r, _, ⟨h1, h2, h3, h4, h5⟩ => ⟨h1, h2, h3, h4, fat_take n (f := r) h5⟩
theorem row_take {w : World} {S : Nat → Prop} {A : Option Addr} {f : F} (n : Nat) (h : FRow.RowAt w S A f) : FRow.RowAt w S A (takeF n f) := fun hl => by
  have hf : 0 < f.len := by
    cases n with
    | zero => simp [takeF, F.len] at hl
    | succ n =>
      cases f with
      | nil => simp [takeF, F.len] at hl
      | cons k m t a r => simp [F.len]
  obtain ⟨ad, e, hb, hfa⟩ := h hf
  exact ⟨ad, e, hb, fat_take n hfa⟩
theorem arm_low (k n : Int) (t : ByteArray) (a : F) : ∀ (P : F) (j : Nat), armF (firstF k n t a P j) = -1 ∨ (j : Int) ≤ armF (firstF k n t a P j)
  | .nil, _ => Or.inl rfl
  | .cons k' n' t' a' r, j => by
    simp only [firstF]
    cases bind1 k' n' t' a' k n t a with
    | some b => exact Or.inr (Int.le_refl _)
    | none =>
      simp only
      rcases arm_low k n t a r (j + 1) with h | h
      · exact Or.inl h
      · exact Or.inr (by omega)
theorem less_law (k n : Int) (t : ByteArray) (a : F) : ∀ (P : F) (r j : Nat), (armF (firstF k n t a (takeF r P) j) = -1 ∧ (armF (firstF k n t a P j) = -1 ∨ ((j + r : Nat) : Int) ≤ armF (firstF k n t a P j))) ∨ (0 ≤ armF (firstF k n t a (takeF r P) j) ∧ armF (firstF k n t a (takeF r P) j) = armF (firstF k n t a P j))
  | .nil, 0, _ => Or.inl ⟨rfl, Or.inl rfl⟩
  | .nil, _ + 1, _ => Or.inl ⟨rfl, Or.inl rfl⟩
  | .cons k' n' t' a' r, 0, j => Or.inl ⟨rfl, by simpa using arm_low k n t a (.cons k' n' t' a' r) j⟩
  | .cons k' n' t' a' r, q + 1, j => by
    simp only [takeF, firstF]
    cases bind1 k' n' t' a' k n t a with
    | some b => exact Or.inr ⟨Int.natCast_nonneg _, rfl⟩
    | none =>
      simp only
      have h := less_law k n t a r q (j + 1)
      rw [show j + 1 + q = j + (q + 1) by omega] at h
      exact h

set_option maxHeartbeats 8000000 in
theorem less_says (haw : ∀ w : World, Calls Tryz.prog 8 #[] w (TrueEnds w)) (A1 A2 : Option Addr) (n1 c1 n2 c2 : Nat) (L1 L2 : List Int) (x : Int) (w : World) (h1 : L1.length = n1) (h2 : L2.length = n2) (hI1 : IntsAt w w.heap.size A1 L1) (hI2 : IntsAt w w.heap.size A2 L2) :
    Calls Tryz.prog 6 #[.slice A1 n1 c1, .slice A2 n2 c2, .int .i64 x] w (TrueEnds w) := by
  have hs1 := fun w => short_says A1 n1 c1 w
  have hs2 := fun w => short_says A2 n2 c2 w
  by_cases hn1 : n1 ≤ 300
  · have d1 : decide ((n1 : Int) ≤ 300) = true := decide_eq_true (by omega)
    rw [d1] at hs1
    by_cases hn2 : n2 ≤ 300
    · have d2 : decide ((n2 : Int) ≤ 300) = true := decide_eq_true (by omega)
      rw [d2] at hs2
      have HP := Lib.hid fun (W : World) (hb : Below w.heap.size w W) => pats_says A1 n1 c1 L1 W h1 (hI1.after hb) hn1
      have HL := Lib.hid fun (W : World) (hb : Below w.heap.size w W) => leafy_made A2 n2 c2 L2 W h2 (hI2.after hb) hn2
      clear h1 h2 hI1 hI2 hn1 hn2 d1 d2
      go_enter Tryz.func6, Tryz.ntmps6
      go_wp2_with (first
        | (go_at_call 8; (with_reducible refine (haw _).mono ?_); rintro e w2 ⟨rfl, hb2⟩)
        | (go_at_call 9; (with_reducible refine (hs1 _).mono ?_); rintro e w3 ⟨rfl, rfl⟩)
        | (go_at_call 9; (with_reducible refine (hs2 _).mono ?_); rintro e w3 ⟨rfl, rfl⟩)
        | (go_at_call 10; (with_reducible refine (HP.out _ hb2).mono ?_); rintro e w4 ⟨P, AP, cP, rfl, hP, hPc, hPm, hPn, hPk, hb4⟩
           have hb4' : Below w.heap.size w w4 := hb2.trans (hb4.mono hb2.size))
        | (go_at_call 11; (with_reducible refine (HL.out _ hb4').mono ?_); rintro e w5 ⟨xk, xn, xt, xf, AX, cX, rfl, hX, hXc, hXm, hXn, hXk, hb5⟩
           have hb5' : Below w.heap.size w w5 := hb4'.trans (hb5.mono hb4'.size)
           have hbs5 := hb5'.size
           obtain ⟨wX, hwX⟩ : ∃ wX, wX = w5.alloc (.cells #[.int .i64 xk, .int .i64 xn, .string xt, .slice AX xf.len cX] 29) := ⟨_, rfl⟩
           have hb45 : Below w4.heap.size w4 wX := by rw [hwX]; exact hb5.alloc hb5.size _
           have hbX : Below w.heap.size w wX := by rw [hwX]; exact hb5'.alloc hbs5 _
           have hxX : Own4 wX w5.heap.size 29 (.int .i64 xk) (.int .i64 xn) (.string xt) (.slice AX xf.len cX) := by rw [hwX]; exact heap_alloc_new w5 _
           have hPr : RowAt wX wX.heap.size AP P := (row_of hP).keep (fun b hb => Nat.lt_of_lt_of_le hb.2 hb45.size) (fun p hp => hb45.cell hp.2)
           have hXr : RowAt wX wX.heap.size AX xf := (row_of hX).keep (fun b hb => by rw [hwX]; exact Nat.lt_of_lt_of_le hb.2 (by simp)) (fun p hp => by rw [hwX]; exact World.cell?_of_block (Below.heap_alloc _ _ _ hp.2))
           have hK : Known wX P AP P.len cP xk xn xt xf AX xf.len cX := known hPr hPn hPk hXr hXc hXm hXn
           obtain ⟨r, hrl, hrq⟩ := pickQ_few x (P.len + 1) (by omega) (by have := P.len_nodes; omega)
           have hKr : Known wX (takeF r P) AP (takeF r P).len cP xk xn xt xf AX xf.len cX := known (row_take r hPr) (Nat.le_trans (takeF_nodes r P) hPn) (Kin.take r hPk) hXr hXc hXm hXn
           rw [takeF_len r P (by omega)] at hKr
           have hlaw := less_law xk xn xt xf P r 0
           rw [Nat.zero_add] at hlaw
           have HWX := Lib.hid hwX
           have hpick : ∀ W : World, Calls Tryz.prog 27 #[.int .i64 x, .int .i64 ((P.len + 1 : Nat) : Int)] W fun e w' => e = .returned (.int .i64 (r : Int)) ∧ w' = W := fun W => by
             have := pick_eq x (P.len + 1) (by omega) (by have := P.len_nodes; omega) W
             rwa [hrq] at this
           rw [show ((P.len + 1 : Nat) : Int) = (P.len : Int) + 1 by omega] at hpick
           have hml := P.len_nodes
           obtain ⟨m, hm⟩ : ∃ m, m = P.len := ⟨_, rfl⟩
           obtain ⟨xm, hxm⟩ : ∃ xm, xm = xf.len := ⟨_, rfl⟩
           rw [← hm, ← hxm] at hK
           rw [← hxm] at hKr
           rw [← hm] at hpick hrl hPc hml
           rw [← hxm] at hxX HWX
           simp only [← hm, ← hxm]
           have hm200 : m ≤ 200 := by omega
           have hask := hK.asks wX (Below.refl _ _)
           obtain ⟨q, hq⟩ : ∃ q, q = asksF P := ⟨_, rfl⟩
           rw [← hq] at hask
           obtain ⟨am, ham⟩ : ∃ am, am = armF (firstF xk xn xt xf (takeF r P) 0) := ⟨_, rfl⟩
           obtain ⟨jm, hjm⟩ : ∃ jm, jm = armF (firstF xk xn xt xf P 0) := ⟨_, rfl⟩
           have hpck := hK.pick
           have hpckr := hKr.pick
           rw [← hjm] at hpck
           rw [← ham] at hpckr
           rw [← ham, ← hjm] at hlaw
           have HPK := Lib.hid hpck
           have HPR := Lib.hid hpckr
           have HOF := Lib.hid hK.of
           have HOR := Lib.hid hKr.of
           have HLAW := Lib.hid hlaw
           have hlx : w5.heap.size < wX.heap.size := hxX.lt
           have hr0 : (0 : Int) ≤ (r : Int) := Int.natCast_nonneg _
           have hr1 : (r : Int) ≤ (cP : Int) := by omega
           clear hpck hpckr hK hKr hwX hPr hXr hP hX hb45 hm hxm hq ham hjm hlaw hrl hrq hml hPm)
        | (rw [← HWX.out]; go_at_call 12; (with_reducible refine hask.mono ?_); rintro e w6 ⟨rfl, hb6⟩
           have hxX6 := hxX.keep hb6
           obtain ⟨⟨x0, x1, x2, x3⟩, _, _, _, _⟩ := hxX6.cells
           have hof6 := HOR.out w6.drew hb6.drew)
        | (go_at_call 27; (with_reducible refine (hpick _).mono ?_); rintro e w6' ⟨rfl, rfl⟩)
        | fail "none")
      · go_ret
        exact ⟨rfl, hbX.trans (hb6.mono hbX.size)⟩
      · have hb6w := hb6.size
        clear hask hs1 hs2 haw hXn hPn hpick
        go_region_with (first
          | (go_at_call 22
             (with_reducible refine hof6.mono ?_)
             rintro e w7 ⟨xs7, rfl, hg7, hb7⟩
             obtain ⟨b7, a7, A7, n7, c7, k7, m7, s7, A71, n71, c71, A72, n72, c72, rfl⟩ := tree_nine hg7
             have hb7X : Below wX.heap.size wX w7 := hb6.drew.trans (hb7.mono hb6w)
             obtain ⟨⟨y0, y1, y2, y3⟩, _, _, _, _⟩ := (hxX.keep hb7X).cells
             have hpk := HPR.out _ _ w7 hb7X (fun b hb => by rcases hb with h | h; exact h.elim; exact h.2) hg7)
          | (go_at_call 28
             (with_reducible refine hpk.mono ?_)
             rintro e w8 ⟨rfl, hb8⟩
             have hb8X : Below wX.heap.size wX w8 := hb7X.trans (hb8.mono hb7X.size)
             have hb8s := hb8X.size
             obtain ⟨⟨z0, z1, z2, z3⟩, _, _, _, _⟩ := (hxX.keep hb8X).cells
             have hof8 := HOF.out w8.drew hb8X.drew)
          | fail "none")
        all_goals
          clear y0 y1 y2 y3 x0 x1 x2 x3 hof6 hpk
          go_wp2
          go_region_with (first
            | (go_at_call 22
               (with_reducible refine hof8.mono ?_)
               rintro e w9 ⟨xs9, rfl, hg9, hb9⟩
               obtain ⟨b17, a17, A17, n17, c17, k17, m17, s17, A171, n171, c171, A172, n172, c172, rfl⟩ := tree_nine hg9
               have hb9X : Below wX.heap.size wX w9 := hb8X.drew.trans (hb9.mono hb8s)
               obtain ⟨⟨y0, y1, y2, y3⟩, _, _, _, _⟩ := (hxX.keep hb9X).cells
               have hpk := HPK.out _ _ w9 hb9X (fun b hb => by rcases hb with h | h; exact h.elim; exact h.2) hg9)
            | (go_at_call 28
               (with_reducible refine hpk.mono ?_)
               rintro e w10 ⟨rfl, hb10⟩
               have hb10X : Below wX.heap.size wX w10 := hb9X.trans (hb10.mono hb9X.size))
            | fail "none")
          all_goals
            have hfin : Below w.heap.size w w10 := hbX.trans (hb10X.mono hbX.size)
            rcases HLAW.out with ⟨h1, h2 | h2⟩ | ⟨h1, h2⟩
            · have g1 : decide (am < 0) = true := decide_eq_true (by omega)
              have g2 : decide (jm < 0) = true := decide_eq_true (by omega)
              go_wp2
              go_ret
              exact ⟨rfl, hfin⟩
            · have g1 : decide (am < 0) = true := decide_eq_true (by omega)
              have g2 : decide (jm < 0) = false := decide_eq_false (by omega)
              have g3 : decide ((r : Int) ≤ jm) = true := decide_eq_true h2
              go_wp2
              go_ret
              exact ⟨rfl, hfin⟩
            · have g1 : decide (am < 0) = false := decide_eq_false (by omega)
              have g2 : decide (0 ≤ am) = true := decide_eq_true h1
              have g3 : (am == jm) = true := by simpa using h2
              go_wp2
              go_ret
              exact ⟨rfl, hfin⟩
    · have d2 : decide ((n2 : Int) ≤ 300) = false := decide_eq_false (by omega)
      rw [d2] at hs2
      clear h1 h2 hI1 hI2 hn1 hn2 d1 d2
      go_enter Tryz.func6, Tryz.ntmps6
      go_wp2_with (first
        | (go_at_call 8; (with_reducible refine (haw _).mono ?_); rintro e w2 ⟨rfl, hb2⟩)
        | (go_at_call 9; (with_reducible refine (hs1 _).mono ?_); rintro e w3 ⟨rfl, rfl⟩)
        | (go_at_call 9; (with_reducible refine (hs2 _).mono ?_); rintro e w3 ⟨rfl, rfl⟩)
        | fail "none")
      go_ret
      exact ⟨rfl, hb2⟩
  · have d1 : decide ((n1 : Int) ≤ 300) = false := decide_eq_false (by omega)
    rw [d1] at hs1
    clear h1 h2 hI1 hI2 hn1 d1
    go_enter Tryz.func6, Tryz.ntmps6
    go_wp2_with (first
      | (go_at_call 8; (with_reducible refine (haw _).mono ?_); rintro e w2 ⟨rfl, hb2⟩)
      | (go_at_call 9; (with_reducible refine (hs1 _).mono ?_); rintro e w3 ⟨rfl, rfl⟩)
      | fail "none")
    go_ret
    exact ⟨rfl, hb2⟩
end Go.Proofs.YtiinghgfojicdaaGreat
