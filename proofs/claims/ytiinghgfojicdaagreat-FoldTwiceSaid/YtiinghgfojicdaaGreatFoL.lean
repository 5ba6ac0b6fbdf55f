/- A part of the proof of FoldTwice: laws for fold.Expr. No conditions. -/
import Derived.Test.YtiinghgfojicdaaGreatFoI
import Derived.Test.YtiinghgfojicdaaGreatFoH
import Derived.Deep.RegionHeld3
import Derived.Deep.RegionWith
import Derived.Test.YtiinghgfojicdaaGreatLater
import Derived.Test.YtiinghgfojicdaaGreatFoK
set_option linter.unusedVariables false
set_option linter.unusedSimpArgs false
namespace Go.Proofs.YtiinghgfojicdaaGreat
open Go.RowKit Go.RowG Go.FRow Go.GMem
set_option linter.unusedVariables false
theorem small_at : ∀ {x : X} {i : Nat} {e : Ex}, smallX x → nthX x i = some e → e.small
  | .nil, _, _, _, h => by simp [nthX] at h
  | .cons p h a b r, 0, e, ⟨h1, h2, h3, h4⟩, hh => by
    simp only [nthX, Option.some.injEq] at hh
    subst hh
    exact ⟨h1, h2, h3⟩
  | .cons p h a b r, i + 1, e, ⟨_, _, _, h4⟩, hh => small_at (x := r) h4 hh
theorem leaf_small {k n : Int} {t : ByteArray} (h : t.size ≤ 100) : (leafE k n t).small := ⟨⟨by simp, by simp, h⟩, trivial, trivial⟩
theorem truth_small (b : Bool) : (truthE b).small := by
  cases b <;> exact leaf_small (by decide)
theorem two_small {e : Ex} {a b : Hd} (he : e.small) : (twoF e a b).small := by
  unfold twoF
  split
  · exact truth_small _
  · split
    · rename_i h
      exact leaf_small (by rw [ByteArray.size_append]; omega)
    · repeat' split
      all_goals first
        | exact he
        | exact truth_small _
        | exact leaf_small (by decide)
theorem fold1_small (fr : Ex → Bool) {e : Ex} (he : e.small) : (fold1 fr e).small := by
  unfold fold1
  split
  · rename_i h
    exact small_at he.2.1 (atX_some (by have := h.2.1; unfold ifNum; split <;> omega))
  · split
    · exact truth_small _
    · split
      · exact two_small he
      · exact he
theorem foldX_small (fr : Ex → Bool) : ∀ {x : X}, smallX x → smallX (foldX fr x)
  | .nil, _ => trivial
  | .cons p h a b r, ⟨h1, h2, h3, h4⟩ => by
    have hs := fold1_small fr (e := ⟨h, foldX fr a, foldX fr b⟩) ⟨h1, foldX_small fr h2, foldX_small fr h3⟩
    exact ⟨hs.1, hs.2.1, hs.2.2, foldX_small fr h4⟩
end Go.Proofs.YtiinghgfojicdaaGreat
namespace Go.Proofs.YtiinghgfojicdaaGreat
open Go.RowKit Go.RowG Go.FRow Go.GMem
set_option linter.unusedVariables false
theorem ExEnds.drew {S : Nat → Prop} {e : Ex} {w w' : World} {en : Ending} (h : ExEnds S e w en w') : ExEnds S e w en w'.drew := by
  obtain ⟨q, h1, h2, h3⟩ := h
  exact ⟨q, h1, h2.keep (fun _ h => h) (fun _ _ => rfl), h3.drew⟩
/-- The i-th of what is left of a row. -/
theorem XRest.nth {w : World} {S : Nat → Prop} {A : Option Addr} {m : Nat} : ∀ {x : X} {i j : Nat} {e : Ex}, XRest w S A m j x → nthX x i = some e → ∃ ad q, A = some ad ∧ S ad.block ∧ cells8 w (ad.add ((j + i) * 8)) e q ∧ EIs w S e q
  | .nil, _, _, _, _, h => by simp [nthX] at h
  | .cons p h a b r, 0, j, e, hx, hh => by
    simp only [nthX, Option.some.injEq] at hh
    subst hh
    obtain ⟨ad, q, h1, h2, h3, h4, _⟩ := hx.step
    exact ⟨ad, q, h1, h2, h3, h4⟩
  | .cons p h a b r, i + 1, j, e, hx, hh => by
    obtain ⟨ad, q, _, _, _, _, hr⟩ := hx.step
    have := XRest.nth (i := i) hr hh
    rw [show j + (i + 1) = j + 1 + i by omega]
    exact this
/-- Eight stores into one block leave the others' cells. -/
theorem fill8_cell (w : World) (z : Nat) (v0 v1 v2 v3 v4 v5 v6 v7 : Value) {p : Addr} (hp : z ≠ p.block) : ((((((((w.setCell ⟨z, 0, none⟩ v0).setCell ⟨z, 1, none⟩ v1).setCell ⟨z, 2, none⟩ v2).setCell ⟨z, 3, none⟩ v3).setCell ⟨z, 4, none⟩ v4).setCell ⟨z, 5, none⟩ v5).setCell ⟨z, 6, none⟩ v6).setCell ⟨z, 7, none⟩ v7).drew.cell? p = w.cell? p := by
  have hd : ∀ W : World, W.drew.cell? p = W.cell? p := fun _ => rfl
  rw [hd]
  exact World.cell?_of_block (fill8_far w z v0 v1 v2 v3 v4 v5 v6 v7 (Ne.symm hp))
theorem lit_later (k n : Int) (t : ByteArray) (a1 a2 a3 a4 : Option Addr) (l1 l2 l3 l4 c1 c2 c3 c4 : Nat) {W : World} (x : Later W) :
    Calls Tryz.prog 40 #[.agg #[.int .i64 k, .int .i64 n, .string t, .slice a1 l1 c1, .slice a2 l2 c2, .slice a3 l3 c3, .slice a4 l4 c4, .int .i64 0]] x.val (fun e w' => e = .returned (.bool (litH k n)) ∧ ∃ y : Later W, w' = y.val) :=
  Calls.later_below (literal_says k n t a1 a2 a3 a4 l1 l2 l3 l4 c1 c2 c3 c4 x.val)
/-- What lay there lies in every later world. -/
theorem later_cell {W Wc : World} {a : Addr} {v : Value} (hB : Below W.heap.size W Wc) (h : W.cell? a = some v) (y : Later Wc) : y.val.cell? a = some v :=
  (y.ok.cell (Nat.lt_of_lt_of_le (World.block_lt_of_cell? W _ h) hB.size)).trans ((hB.cell (World.block_lt_of_cell? W _ h)).trans h)
theorem below_cell {W Wc : World} {a : Addr} {v : Value} (hB : Below W.heap.size W Wc) (h : W.cell? a = some v) : Wc.cell? a = some v :=
  (hB.cell (World.block_lt_of_cell? W _ h)).trans h
theorem two_says (h : Hd) (A arms : X) (q : At) (w : World) (S : Nat → Prop) (hS : ∀ b, S b → b < w.heap.size) (hl : A.len = 2) (hs : smallX A) (he : EIs w S ⟨h, A, arms⟩ q) :
    Calls Tryz.prog 43 #[agg8 ⟨h, A, arms⟩ q] w (ExEnds S (twoF ⟨h, A, arms⟩ (atX A 0).h (atX A 1).h) w) := by
  match A, hl, hs, he with
  | .cons p1 h1 ar1 am1 (.cons p2 h2 ar2 am2 .nil), _, hs, he => exact two_try h p1 p2 h1 h2 ar1 am1 ar2 am2 arms q w S hS hs.1.2.2 hs.2.2.2.1.2.2 he
  | .nil, hl, _, _ => simp [X.len] at hl
  | .cons _ _ _ _ .nil, hl, _, _ => simp [X.len] at hl
  | .cons _ _ _ _ (.cons _ _ _ _ (.cons _ _ _ _ _)), hl, _, _ => simp [X.len] at hl
end Go.Proofs.YtiinghgfojicdaaGreat
