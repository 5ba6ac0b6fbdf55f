/- A part of the proofs of the laws of the arms: Count. No conditions. -/
import Derived.Test.YtiinghgfojicdaaGreatArAsks
set_option linter.unusedVariables false
set_option linter.unusedSimpArgs false
namespace Go.Proofs.YtiinghgfojicdaaGreat
open Go.RowKit Go.RowG Go.FRow
set_option linter.unusedVariables false
mutual
theorem bindF_count : ∀ (f g h : F), bindF f g = some h → h.len = bindsF f
  | .nil, g, h, e => by
    simp only [bindF, Option.some.injEq] at e
    subst e
    rfl
  | .cons k n t a r, .nil, h, e => by simp [bindF] at e
  | .cons k n t a r, .cons k' n' t' a' r', h, e => by
    rw [bindF_cons] at e
    cases hb : bind1 k n t a k' n' t' a' with
    | none => rw [hb] at e; simp at e
    | some b =>
      cases hc : bindF r r' with
      | none => rw [hb, hc] at e; simp at e
      | some d =>
        rw [hb, hc] at e
        simp only [Option.bind_some, Option.map_some, Option.some.injEq] at e
        subst e
        rw [F.app_len, bindF_count r r' d hc, bind1_count k n t a k' n' t' a' b hb]
        simp only [bindsF, binds1]
theorem bind1_count (k n : Int) (t : ByteArray) (a : F) (k' n' : Int) (t' : ByteArray) (a' b : F) (hb : bind1 k n t a k' n' t' a' = some b) : b.len = binds1 k a := by
  unfold bind1 at hb
  unfold binds1
  split at hb
  · next h1 => simp only [Option.some.injEq] at hb; subst hb; rw [if_neg (by omega), if_neg (by omega)]; rfl
  · split at hb
    · next h2 => simp only [Option.some.injEq] at hb; subst hb; rw [if_pos h2]; rfl
    · next h2 =>
      rw [if_neg h2]
      split at hb
      · next h3 => rw [if_neg (by omega)]; split at hb <;> simp at hb; subst hb; rfl
      · split at hb
        · next h3 => rw [if_neg (by omega)]; split at hb <;> simp at hb; subst hb; rfl
        · split at hb
          · next h3 => rw [if_neg (by omega)]; split at hb <;> simp at hb; subst hb; rfl
          · split at hb
            · next h6 =>
              rw [if_pos h6]
              split at hb
              · exact bindF_count a a' b hb
              · simp at hb
            · simp at hb
end
mutual
theorem bindF_nodes : ∀ (f g h : F), bindF f g = some h → h.nodes ≤ g.nodes
  | .nil, g, h, e => by
    simp only [bindF, Option.some.injEq] at e
    subst e
    exact Nat.zero_le _
  | .cons k n t a r, .nil, h, e => by simp [bindF] at e
  | .cons k n t a r, .cons k' n' t' a' r', h, e => by
    rw [bindF_cons] at e
    cases hb : bind1 k n t a k' n' t' a' with
    | none => rw [hb] at e; simp at e
    | some b =>
      cases hc : bindF r r' with
      | none => rw [hb, hc] at e; simp at e
      | some d =>
        rw [hb, hc] at e
        simp only [Option.bind_some, Option.map_some, Option.some.injEq] at e
        subst e
        have h1 := bindF_nodes r r' d hc
        have h2 := bind1_nodes k n t a k' n' t' a' b hb
        rw [F.app_nodes]
        simp only [F.nodes]
        omega
theorem bind1_nodes (k n : Int) (t : ByteArray) (a : F) (k' n' : Int) (t' : ByteArray) (a' b : F) (hb : bind1 k n t a k' n' t' a' = some b) : b.nodes ≤ a'.nodes + 1 := by
  unfold bind1 at hb
  split at hb
  · simp only [Option.some.injEq] at hb; subst hb; simp [F.nodes]
  · split at hb
    · simp only [Option.some.injEq] at hb; subst hb; simp [F.nodes]
    · split at hb
      · split at hb <;> simp at hb; subst hb; simp [F.nodes]
      · split at hb
        · split at hb <;> simp at hb; subst hb; simp [F.nodes]
        · split at hb
          · split at hb <;> simp at hb; subst hb; simp [F.nodes]
          · split at hb
            · split at hb
              · have := bindF_nodes a a' b hb; omega
              · simp at hb
            · simp at hb
end
theorem first_ge {k' n' : Int} {t' : ByteArray} {a' : F} : ∀ {r : F} {j i : Nat} {b : F}, firstF k' n' t' a' r j = some (i, b) → j ≤ i
  | .nil, _, _, _, h => by simp [firstF] at h
  | .cons k n t a r, j, i, b, h => by
    simp only [firstF] at h
    split at h
    · simp only [Option.some.injEq, Prod.mk.injEq] at h
      omega
    · have := first_ge h
      omega
theorem first_lt {k' n' : Int} {t' : ByteArray} {a' : F} : ∀ {r : F} {j i : Nat} {b : F}, firstF k' n' t' a' r j = some (i, b) → i < j + r.len
  | .nil, _, _, _, h => by simp [firstF] at h
  | .cons k n t a r, j, i, b, h => by
    simp only [firstF] at h
    simp only [F.len]
    split at h
    · simp only [Option.some.injEq, Prod.mk.injEq] at h
      omega
    · have := first_lt h
      omega
/-- Ahead of the one that fits. -/
theorem first_before {k' n' k n : Int} {t' t : ByteArray} {a' a r b : F} {j i : Nat} (h : firstF k' n' t' a' (.cons k n t a r) j = some (i, b)) (hj : j < i) : bind1 k n t a k' n' t' a' = none ∧ firstF k' n' t' a' r (j + 1) = some (i, b) := by
  simp only [firstF] at h
  split at h
  · simp only [Option.some.injEq, Prod.mk.injEq] at h
    omega
  · next hb => exact ⟨hb, h⟩
/-- The one that fits. -/
theorem first_at {k' n' k n : Int} {t' t : ByteArray} {a' a r b : F} {i : Nat} (h : firstF k' n' t' a' (.cons k n t a r) i = some (i, b)) : bind1 k n t a k' n' t' a' = some b := by
  simp only [firstF] at h
  split at h
  · next hb =>
    simp only [Option.some.injEq, Prod.mk.injEq] at h
    rw [hb, h.2]
  · have := first_ge h
    omega
end Go.Proofs.YtiinghgfojicdaaGreat
