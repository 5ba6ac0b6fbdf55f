/- ArmsPick: the tree leads to the first pattern that fits. No conditions. -/
import Derived.Test.YtiinghgfojicdaaGreatArPickM
import Derived.Test.YtiinghgfojicdaaGreatArOfM
import Derived.Deep.RegionWith
set_option linter.unusedVariables false
set_option linter.unusedSimpArgs false
namespace Go.Proofs.YtiinghgfojicdaaGreat
open Go.RowKit Go.RowG Go.FRow Go.GMem
set_option linter.unusedVariables false
set_option maxRecDepth 100000
attribute [local go_sem ↓] Go.wp_at_zero Go.wp_at_succ

/-- What First hands back: the number of the first that fits. -/
def ArmEnds (a : Int) (w : World) (e : Ending) (w' : World) : Prop := ∃ A n c, e = .returned (.tuple #[.int .i64 a, .slice A n c]) ∧ Below w.heap.size w w'
theorem first_arm {B : Nat} {res : Option (Nat × F)} {w w' : World} {e : Ending} (h : FirstEnds B res w e w') : ArmEnds (armF res) w e w' := by
  obtain ⟨h1, h2⟩ := h
  cases res with
  | none => exact ⟨_, _, _, h1, h2⟩
  | some r =>
    obtain ⟨i, f⟩ := r
    obtain ⟨A, c, h3, _⟩ := h1
    exact ⟨_, _, _, h3, h2⟩
/-- What is known of patterns and value, once they are drawn: the calls over them. -/
structure Known (wX : World) (P : F) (AP : Option Addr) (m cP : Nat) (xk xn : Int) (xt : ByteArray) (xf : F) (AX : Option Addr) (xm cX : Nat) : Prop where
  asks : ∀ W, Below wX.heap.size wX W → Calls Tryz.prog 12 #[.slice AP m cP] W (IntEnds (asksF P) W)
  of : ∀ W, Below wX.heap.size wX W → Calls Tryz.prog 22 #[.slice AP m cP] W (TreeEnds (fun _ => False) (buildR (asksF P + 1) (rowsF P 0)) W)
  first : ∀ W, Below wX.heap.size wX W → Calls Tryz.prog 13 #[.slice AP m cP, agg4 xk xn xt AX xm cX] W (ArmEnds (armF (firstF xk xn xt xf P 0)) W)
  pick : ∀ (xs : List Value) (S : Nat → Prop) (W : World), Below wX.heap.size wX W → (∀ b, S b → b < W.heap.size) → GCells W S (encTr (buildR (asksF P + 1) (rowsF P 0)) .nil) xs →
    Calls Tryz.prog 28 #[.agg xs.toArray, agg4 xk xn xt AX xm cX] W (PickEnds (armF (firstF xk xn xt xf P 0)) (deepT (buildR (asksF P + 1) (rowsF P 0)) ⟨xk, xn, xt, xf⟩) W)
theorem known {wX : World} {P : F} {AP : Option Addr} {cP : Nat} {xk xn : Int} {xt : ByteArray} {xf : F} {AX : Option Addr} {cX : Nat} (hP : RowAt wX wX.heap.size AP P) (hPn : P.nodes ≤ 200) (hPk : Kin P)
    (hX : RowAt wX wX.heap.size AX xf) (hXc : xf.len ≤ cX) (hXm : cX ≤ maxLen) (hXn : xf.nodes ≤ 200) : Known wX P AP P.len cP xk xn xt xf AX xf.len cX where
  asks := fun W hW => asks_all P AP cP W (hP.keep hW.size fun p hp => hW.cell hp) (by omega)
  of := fun W hW => armsOf_says P AP cP W (hP.keep hW.size fun p hp => hW.cell hp) hPn _ (by have := total_asks P 0; omega)
  first := fun W hW => (first_says P xk xn xt xf AP AX cP cX wX.heap.size W (hP.keep hW.size fun p hp => hW.cell hp) (hX.keep (Nat.le_refl _) fun p hp => hW.cell hp) hW.size hXc hXm (by omega) (by omega)).mono fun _ _ h => first_arm h
  pick := fun xs S W hW hS hg => by
    have h1 : armT (buildR (asksF P + 1) (rowsF P 0)) ⟨xk, xn, xt, xf⟩ = armF (firstF xk xn xt xf P 0) := pick_first ⟨xk, xn, xt, xf⟩ _ P hPk (by have := total_asks P 0; omega)
    rw [← h1]
    exact pickT_says _ xs S xk xn xt xf AX cX W hS hg (few_build _ _ fun x hx => (rows_few hPn x hx).2) (Nat.le_trans (high_build _ _) (by have := asksF_le P; omega)) (hX.keep hW.size fun p hp => hW.cell hp) hXc hXm (by omega)

/-- The one pattern 3. -/
abbrev three : F := .cons 3 3 ⟨#[]⟩ .nil .nil
theorem three_row (W : World) : RowAt (W.alloc (.cells #[.int .i64 3, .int .i64 3, .string ⟨#[]⟩, .slice none 0 0] 40)) (W.alloc (.cells #[.int .i64 3, .int .i64 3, .string ⟨#[]⟩, .slice none 0 0] 40)).heap.size (some ⟨W.heap.size, 0, none⟩) three := fun _ => by
  have hc := (Own4.cells (heap_alloc_new W (.cells #[.int .i64 3, .int .i64 3, .string ⟨#[]⟩, .slice none 0 0] 40))).1
  exact ⟨_, rfl, by show W.heap.size < _; simp, hc.1, hc.2.1, hc.2.2.1, ⟨none, 0, hc.2.2.2, Nat.le_refl _, by simp, fun h => by simp [F.len] at h⟩, trivial⟩
theorem three_total : total (rowsF three 0) < 2 := by simp [rowsF, tests1, total]
theorem three_deep : deepT (buildR 2 (rowsF three 0)) ⟨2, 3, ⟨#[]⟩, .nil⟩ = 1 := by
  simp [rowsF, tests1, buildR, yesR, noR, yes1, no1, head_idx, deepT, holdsT, partV, fits]
theorem three_of (W : World) : Calls Tryz.prog 22 #[.slice (some ⟨W.heap.size, 0, none⟩) 1 1] (W.alloc (.cells #[.int .i64 3, .int .i64 3, .string ⟨#[]⟩, .slice none 0 0] 40)) (TreeEnds (fun _ => False) (buildR 2 (rowsF three 0)) (W.alloc (.cells #[.int .i64 3, .int .i64 3, .string ⟨#[]⟩, .slice none 0 0] 40))) :=
  armsOf_says three _ 1 _ (three_row W) (by decide) 2 three_total
theorem three_pick (xs : List Value) (S : Nat → Prop) (W : World) (hS : ∀ b, S b → b < W.heap.size) (hg : GCells W S (encTr (buildR 2 (rowsF three 0)) .nil) xs) : Calls Tryz.prog 28 #[.agg xs.toArray, agg4 2 3 ⟨#[]⟩ none 0 0] W (PickEnds 0 1 W) := by
  have h1 : armT (buildR 2 (rowsF three 0)) ⟨2, 3, ⟨#[]⟩, .nil⟩ = 0 := (pick_first ⟨2, 3, ⟨#[]⟩, .nil⟩ 2 three ⟨by decide, trivial, trivial⟩ three_total).trans (by simp [armF, firstF, bind1])
  have h := pickT_says _ xs S 2 3 ⟨#[]⟩ .nil none 0 W hS hg (few_build _ _ fun x hx => (rows_few (P := three) (by decide) x hx).2) (Nat.le_trans (high_build _ _) (by decide)) (FRow.RowAt.nil _ _ _) (Nat.le_refl _) (by simp) (by decide)
  rw [h1, three_deep] at h
  exact h

set_option maxHeartbeats 8000000 in
theorem picks_says (haw : ∀ w : World, Calls Tryz.prog 8 #[] w (TrueEnds w)) (A1 A2 : Option Addr) (n1 c1 n2 c2 : Nat) (L1 L2 : List Int) (w : World) (h1 : L1.length = n1) (h2 : L2.length = n2) (hI1 : IntsAt w w.heap.size A1 L1) (hI2 : IntsAt w w.heap.size A2 L2) :
    Calls Tryz.prog 7 #[.slice A1 n1 c1, .slice A2 n2 c2] w (TrueEnds w) := by
  have hs1 := fun w => short_says A1 n1 c1 w
  have hs2 := fun w => short_says A2 n2 c2 w
  by_cases hn1 : n1 ≤ 300
  · have d1 : decide ((n1 : Int) ≤ 300) = true := decide_eq_true (by omega)
    rw [d1] at hs1
    by_cases hn2 : n2 ≤ 300
    · have d2 : decide ((n2 : Int) ≤ 300) = true := decide_eq_true (by omega)
      rw [d2] at hs2
      have HP := Lib.hid fun (W : World) (hb : Below w.heap.size w W) => pats_says A1 n1 c1 L1 W h1 (hI1.after hb) hn1
      have HL := Lib.hid fun (W : World) (hb : Below w.heap.size w W) => leafy_made A2 n2 c2 L2 W h2 (hI2.after hb) hn2
      clear h1 h2 hI1 hI2 hn1 hn2 d1 d2
      go_enter Tryz.func7, Tryz.ntmps7
      go_wp2_with (first
        | (go_at_call 8; (with_reducible refine (haw _).mono ?_); rintro e w2 ⟨rfl, hb2⟩)
        | (go_at_call 9; (with_reducible refine (hs1 _).mono ?_); rintro e w3 ⟨rfl, rfl⟩)
        | (go_at_call 9; (with_reducible refine (hs2 _).mono ?_); rintro e w3 ⟨rfl, rfl⟩)
        | (go_at_call 10; (with_reducible refine (HP.out _ hb2).mono ?_); rintro e w4 ⟨P, AP, cP, rfl, hP, hPc, hPm, hPn, hPk, hb4⟩
           have hb4' : Below w.heap.size w w4 := hb2.trans (hb4.mono hb2.size))
        | (go_at_call 11; (with_reducible refine (HL.out _ hb4').mono ?_); rintro e w5 ⟨xk, xn, xt, xf, AX, cX, rfl, hX, hXc, hXm, hXn, hXk, hb5⟩
           have hb5' : Below w.heap.size w w5 := hb4'.trans (hb5.mono hb4'.size)
           have hbs5 := hb5'.size
           obtain ⟨wX, hwX⟩ : ∃ wX, wX = w5.alloc (.cells #[.int .i64 xk, .int .i64 xn, .string xt, .slice AX xf.len cX] 29) := ⟨_, rfl⟩
           have hb45 : Below w4.heap.size w4 wX := by rw [hwX]; exact hb5.alloc hb5.size _
           have hbX : Below w.heap.size w wX := by rw [hwX]; exact hb5'.alloc hbs5 _
           have hxX : Own4 wX w5.heap.size 29 (.int .i64 xk) (.int .i64 xn) (.string xt) (.slice AX xf.len cX) := by rw [hwX]; exact heap_alloc_new w5 _
           have hPr : RowAt wX wX.heap.size AP P := (row_of hP).keep (fun b hb => Nat.lt_of_lt_of_le hb.2 hb45.size) (fun p hp => hb45.cell hp.2)
           have hXr : RowAt wX wX.heap.size AX xf := (row_of hX).keep (fun b hb => by rw [hwX]; exact Nat.lt_of_lt_of_le hb.2 (by simp)) (fun p hp => by rw [hwX]; exact World.cell?_of_block (Below.heap_alloc _ _ _ hp.2))
           have hK : Known wX P AP P.len cP xk xn xt xf AX xf.len cX := known hPr hPn hPk hXr hXc hXm hXn
           have HWX := Lib.hid hwX
           obtain ⟨m, hm⟩ : ∃ m, m = P.len := ⟨_, rfl⟩
           obtain ⟨xm, hxm⟩ : ∃ xm, xm = xf.len := ⟨_, rfl⟩
           rw [← hm, ← hxm] at hK
           rw [← hxm] at hxX HWX
           simp only [← hm, ← hxm]
           have hask := hK.asks wX (Below.refl _ _)
           obtain ⟨q, hq⟩ : ∃ q, q = asksF P := ⟨_, rfl⟩
           rw [← hq] at hask
           obtain ⟨am, ham⟩ : ∃ am, am = armF (firstF xk xn xt xf P 0) := ⟨_, rfl⟩
           obtain ⟨dp, hdp⟩ : ∃ dp, dp = deepT (buildR (asksF P + 1) (rowsF P 0)) ⟨xk, xn, xt, xf⟩ := ⟨_, rfl⟩
           have hfst := hK.first
           have hpck := hK.pick
           rw [← ham] at hfst
           rw [← ham, ← hdp] at hpck
           have HF := Lib.hid hfst
           have HPK := Lib.hid hpck
           have HOF := Lib.hid hK.of
           have hdp0 : (0 : Int) ≤ (dp : Int) := Int.natCast_nonneg _
           have hlx : w5.heap.size < wX.heap.size := hxX.lt
           clear hfst hpck hK hwX hPr hXr hP hX hb45 hm hxm hq ham hdp)
        | (rw [← HWX.out]; go_at_call 12; (with_reducible refine hask.mono ?_); rintro e w6 ⟨rfl, hb6⟩
           have hxX6 := hxX.keep hb6
           obtain ⟨⟨x0, x1, x2, x3⟩, _, _, _, _⟩ := hxX6.cells
           have hof6 := HOF.out w6.drew hb6.drew)
        | fail "none")
      · go_ret
        exact ⟨rfl, hbX.trans (hb6.mono hbX.size)⟩
      · have hb6w := hb6.size
        clear hask hs1 hs2 haw hXn hPn
        have hge : decide ((0 : Int) ≤ (dp : Int)) = true := decide_eq_true hdp0
        go_region_with (first
          | (go_at_call 22
             (with_reducible refine hof6.mono ?_)
             rintro e w7 ⟨xs7, rfl, hg7, hb7⟩
             obtain ⟨b7, a7, A7, n7, c7, k7, m7, s7, A71, n71, c71, A72, n72, c72, rfl⟩ := tree_nine hg7
             have hb7X : Below wX.heap.size wX w7 := hb6.drew.trans (hb7.mono hb6w)
             obtain ⟨⟨y0, y1, y2, y3⟩, _, _, _, _⟩ := (hxX.keep hb7X).cells
             have hpk := HPK.out _ _ w7 hb7X (fun b hb => by rcases hb with h | h; exact h.elim; exact h.2) hg7)
          | (go_at_call 28
             (with_reducible refine hpk.mono ?_)
             rintro e w8 ⟨rfl, hb8⟩
             have hb8X : Below wX.heap.size wX w8 := hb7X.trans (hb8.mono hb7X.size)
             obtain ⟨⟨z0, z1, z2, z3⟩, _, _, _, _⟩ := (hxX.keep hb8X).cells
             have hfs := HF.out w8 hb8X)
          | fail "none")
        all_goals
          go_wp2_with (first
            | (go_at_call 13
               (with_reducible refine hfs.mono ?_)
               rintro e w9 ⟨A9, n9, c9, rfl, hb9⟩
               have hb9X : Below wX.heap.size wX w9 := hb8X.trans (hb9.mono hb8X.size))
            | (go_at_call 22
               (with_reducible refine (three_of w9).mono ?_)
               rintro e w10 ⟨xs10, rfl, hg10, hb10⟩
               obtain ⟨b17, a17, A17, n17, c17, k17, m17, s17, A171, n171, c171, A172, n172, c172, rfl⟩ := tree_nine hg10
               have hpk3 := three_pick _ _ w10 (fun b hb => by rcases hb with h | h; exact h.elim; exact h.2) hg10
               have hb10X : Below wX.heap.size wX w10 := (hb9X.alloc hb9X.size _).trans (hb10.mono (by have := hb9X.size; simp; omega)))
            | (go_at_call 28
               (with_reducible refine hpk3.mono ?_)
               rintro e w11 ⟨rfl, hb11⟩
               have hb11X : Below wX.heap.size wX w11 := hb10X.trans (hb11.mono hb10X.size))
            | fail "none")
          go_ret
          refine ⟨?_, hbX.trans (hb11X.mono hbX.size)⟩
          first | rfl | simp
    · have d2 : decide ((n2 : Int) ≤ 300) = false := decide_eq_false (by omega)
      rw [d2] at hs2
      clear h1 h2 hI1 hI2 hn1 hn2 d1 d2
      go_enter Tryz.func7, Tryz.ntmps7
      go_wp2_with (first
        | (go_at_call 8; (with_reducible refine (haw _).mono ?_); rintro e w2 ⟨rfl, hb2⟩)
        | (go_at_call 9; (with_reducible refine (hs1 _).mono ?_); rintro e w3 ⟨rfl, rfl⟩)
        | (go_at_call 9; (with_reducible refine (hs2 _).mono ?_); rintro e w3 ⟨rfl, rfl⟩)
        | fail "none")
      go_ret
      exact ⟨rfl, hb2⟩
  · have d1 : decide ((n1 : Int) ≤ 300) = false := decide_eq_false (by omega)
    rw [d1] at hs1
    clear h1 h2 hI1 hI2 hn1 d1
    go_enter Tryz.func7, Tryz.ntmps7
    go_wp2_with (first
      | (go_at_call 8; (with_reducible refine (haw _).mono ?_); rintro e w2 ⟨rfl, hb2⟩)
      | (go_at_call 9; (with_reducible refine (hs1 _).mono ?_); rintro e w3 ⟨rfl, rfl⟩)
      | fail "none")
    go_ret
    exact ⟨rfl, hb2⟩
end Go.Proofs.YtiinghgfojicdaaGreat
