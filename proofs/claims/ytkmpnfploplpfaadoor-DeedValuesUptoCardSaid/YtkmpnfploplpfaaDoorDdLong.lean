/- A part of the proofs of the laws of the deeds: Long. -/
import Derived.Test.YtkmpnfploplpfaaDoorDdPrintAll
set_option linter.unusedVariables false
set_option linter.unusedSimpArgs false
namespace Go.Proofs.YtkmpnfploplpfaaDoor
open Go.RowKit Go.Deed Go.RowG
set_option linter.unusedVariables false
theorem rng_bare : ∀ f : F, Rng f → Rng (bareF f)
  | .nil, _ => trivial
  | .cons k n t a r, ⟨h1, h2, h3⟩ => by
    refine ⟨?_, ?_, rng_bare r h3⟩
    · split
      · exact h1
      · unfold R64; omega
    · split
      · exact rng_bare a h2
      · trivial
theorem wt_bare : ∀ f : F, wt (bareF f) ≤ wt f
  | .nil => Nat.le_refl _
  | .cons k n t a r => by
    have h1 := wt_bare a
    have h2 := wt_bare r
    have h3 : (if k = 4 ∨ k = 5 then t else toB []).size ≤ t.size := by
      split
      · exact Nat.le_refl _
      · rw [toB_size]; simp
    have h4 : wt (if k = 5 then bareF a else .nil) ≤ wt a := by
      split
      · exact h1
      · exact Nat.zero_le _
    simp only [bareF, wt]
    omega
theorem lens1_cons (x : L) (l : List L) : lens1 (x :: l) = x.length + 1 + lens1 l := by simp [lens1]
theorem lens1_append (l r : List L) : lens1 (l ++ r) = lens1 l + lens1 r := by simp [lens1]
theorem tail_len (r : List L) : (Lib.joinTail [32] r).length = lens1 r := by
  rw [Lib.joinTail_length]
  induction r with
  | nil => rfl
  | cons y r ih =>
    rw [lens1_cons]
    simp only [Lib.lens, List.map_cons, List.sum_cons, List.length_cons, List.length_nil] at ih ⊢
    omega
theorem wordOf_len : ∀ k : Fin 14, (wordOf (k.val : Int)).length ≤ 20 := by decide
theorem print_len {d : D} {s : L} (h : printL d = some s) (ha : R64 d.a) (hb : R64 d.b) (hg : Rng d.args) : s.length ≤ 100 + d.t.length + wt d.args := by
  cases hgd : goodL d.k d.a d.b d.t d.args.len with
  | false =>
    rw [printL_bad hgd] at h
    cases h
  | true =>
    rw [printL_good hgd] at h
    cases hl : textsF d.args 40 with
    | none => rw [hl] at h; cases h
    | some l =>
      rw [hl] at h
      simp only [Option.map_some, Option.some.injEq] at h
      subst h
      have h1 := texts_len d.args 40 l hl hg
      have h2 : (wordOf d.k).length ≤ 20 := by
        have hk : 1 ≤ d.k ∧ d.k < 14 := by
          simp only [goodL, Bool.and_eq_true, decide_eq_true_eq] at hgd
          exact ⟨hgd.1.1.1.1.1.1, hgd.1.1.1.1.1.2⟩
        have := wordOf_len ⟨d.k.toNat, by omega⟩
        rwa [show ((d.k.toNat : Nat) : Int) = d.k by omega] at this
      have h3 := itoa_len ha
      have h4 := itoa_len hb
      have h5 : lens1 (numTexts d.k d.a d.b) ≤ 42 := by
        unfold numTexts
        split
        · simp [lens1]
        · split
          · simp only [lens1, List.map_cons, List.map_nil, List.sum_cons, List.sum_nil]; omega
          · simp only [lens1, List.map_cons, List.map_nil, List.sum_cons, List.sum_nil]; omega
      have h6 : lens1 (if d.t.isEmpty then [] else [d.t]) ≤ d.t.length + 1 := by
        split
        · simp [lens1]
        · simp [lens1]
      rw [List.length_append, tail_len, lens1_append, lens1_append]
      omega
end Go.Proofs.YtkmpnfploplpfaaDoor
