/- A part of the proofs of the laws of the arms: Make. No conditions. -/
import Derived.Test.YtiinghgfojicdaaGreatArBind
set_option linter.unusedVariables false
set_option linter.unusedSimpArgs false
namespace Go.Proofs.YtiinghgfojicdaaGreat
open Go.RowKit Go.RowG Go.FRow
set_option linter.unusedVariables false
attribute [local go_sem ↓] Go.wp_at_zero Go.wp_at_succ

theorem val_info49 : (Tryz.prog.info? 29).map (fun i => (i.zero.map (·.cells.size), i.size, i.bytes)) = some (some 4, 4, 56) := by kernel_rfl
theorem val_info : ∃ i z, Tryz.prog.info? 29 = some i ∧ i.zero = some z ∧ i.size = 4 ∧ i.bytes = 56 ∧ z.cells.size = 4 := by
  have h := val_info49
  cases hi : Tryz.prog.info? 29 with
  | none => rw [hi] at h; simp at h
  | some i =>
    rw [hi] at h
    simp only [Option.map_some, Option.some.injEq, Prod.mk.injEq] at h
    obtain ⟨h1, h2, h3⟩ := h
    cases hz : i.zero with
    | none => rw [hz] at h1; simp at h1
    | some z =>
      rw [hz] at h1
      simp only [Option.map_some, Option.some.injEq] at h1
      exact ⟨i, z, rfl, hz, h2, h3, h1⟩

/-- append of values, none too. -/
theorem run_append_vals (w : World) (ty : TypeId) (base : Nat) (v : Value) (n : Nat) (X L : List Value) (hown : w.ownsRow base 29 4 v n X) (A : Option Addr) (m c : Nat) (hm : L.length = m * 4) (hr : 0 < m → ∃ ad, A = some ad ∧ ∀ j u, L[j]? = some u → w.cell? (ad.add j) = some u)
    (h1 : ∀ u ∈ L, u.oneCell' = true) (h63 : n + m ≤ 1000000) (hbase : base ≤ w.heap.size) :
    ∃ v' w', (Builtin.append_ #[27, 27] ty #[v, .slice A m c]).run Tryz.prog w = .ok v' w' ∧ w'.ownsRow base 29 4 v' (n + m) (X ++ L) ∧ w.grownBy w' v.ownBlock := by
  obtain ⟨i0, z, hi0, hz0, hz1, hz2, hz3⟩ := val_info
  have hgo : ∀ ad : Addr, (∀ j u, L[j]? = some u → w.cell? (ad.add j) = some u) → ∃ v' w', (Builtin.append_ #[27, 27] ty #[v, .slice (some ad) m c]).run Tryz.prog w = .ok v' w' ∧ w'.ownsRow base 29 4 v' (n + m) (X ++ L) ∧ w.grownBy w' v.ownBlock := fun ad hcell => by
    obtain ⟨v', w', hrun, h2, h3, _, h5⟩ := run_append_own_at (P := Tryz.prog) w base 27 ty 29 i0 z 4 56 Tryz.underlying27 hi0 hz0 hz1 hz2 hz3 (by omega) v n X hown ad m c L hm hcell h1 (by unfold maxLen; omega) (by omega) hbase
    exact ⟨v', w', hrun, h2, h3⟩
  rcases Nat.eq_zero_or_pos m with h0 | h0
  · subst h0
    obtain rfl := List.eq_nil_of_length_eq_zero hm
    rcases A with _ | ad
    · refine ⟨v, w, ?_, by simpa using hown, World.grownBy.refl w _⟩
      rcases hown.2 with ⟨rfl, rfl⟩ | ⟨g, cap, cur, rfl, _, _, hnc, _⟩
      · simp [Builtin.append_, run_underlying Tryz.underlying27, sizeOf, typeInfo, hi0, Builtin.lenOf, Builtin.firstCells]
      · simp [Builtin.append_, run_underlying Tryz.underlying27, sizeOf, typeInfo, hi0, Builtin.lenOf, Builtin.firstCells, hnc, storeCells]
    · exact hgo ad (fun j u h => by simp at h)
  · obtain ⟨ad, rfl, hc⟩ := hr h0
    exact hgo ad hc

theorem wpList_append_vals {ops : Array Oper} {rest : List Oper} {o : Oper} {a : Act} {Q : Exit → Act → World → Prop} (w : World) (hgd : o.guard = none) (s x : Operand)
    (ho : o.op = .call { callee := .builtin .append, args := #[s, x], argTypes := #[27, 27] })
    (base : Nat) (v : Value) (n : Nat) (X L : List Value) (hs : a.eval s = v) (hown : w.ownsRow base 29 4 v n X) (A : Option Addr) (m c : Nat) (hx : a.eval x = .slice A m c) (hm : L.length = m * 4) (hr : 0 < m → ∃ ad, A = some ad ∧ ∀ j u, L[j]? = some u → w.cell? (ad.add j) = some u)
    (h1 : ∀ u ∈ L, u.oneCell' = true) (h63 : n + m ≤ 1000000) (hbase : base ≤ w.heap.size)
    (h : ∀ v' w', w'.ownsRow base 29 4 v' (n + m) (X ++ L) → w.grownBy w' v.ownBlock → wpList Tryz.prog ops Q rest (a.put o.dst v') w') : wpList Tryz.prog ops Q (o :: rest) a w :=
  wpList_plain hgd fun _ hK => by
    obtain ⟨v', w', hrun, h2, h3⟩ := run_append_vals w o.type base v n X L hown A m c hm hr h1 h63 hbase
    unfold Oper.wp execOp
    simp only [ho, resolve, invoke, builtin, Sem.run_bind, Sem.run_pure, Result.andThen_ok, List.map_toArray, List.map_cons, List.map_nil, hs, hx, hrun]
    exact hK _ _ (h v' w' h2 h3)

theorem FCells.length {w : World} {B : Nat} : ∀ {f : F} {xs : List Value}, FCells w B f xs → xs.length = f.len * 4
  | .nil, _, h => by
    simp only [FCells] at h
    subst h
    rfl
  | .cons k n t a r, _, ⟨R, c, ys, e, _, _, _, h⟩ => by
    have := FCells.length h
    subst e
    simp only [List.length_cons, F.len]
    omega
theorem FCells.one {w : World} {B : Nat} : ∀ {f : F} {xs : List Value}, FCells w B f xs → ∀ u ∈ xs, u.oneCell' = true
  | .nil, _, h => by
    simp only [FCells] at h
    subst h
    simp
  | .cons k n t a r, _, ⟨R, c, ys, e, _, _, _, h⟩ => by
    have := FCells.one h
    subst e
    intro u hu
    simp only [List.mem_cons] at hu
    rcases hu with rfl | rfl | rfl | rfl | hu
    · rfl
    · rfl
    · rfl
    · rfl
    · exact this u hu
theorem FCells.app {w : World} {B : Nat} : ∀ {f g : F} {xs ys : List Value}, FCells w B f xs → FCells w B g ys → FCells w B (f.app g) (xs ++ ys)
  | .nil, _, _, _, h, h' => by
    simp only [FCells] at h
    subst h
    exact h'
  | .cons k n t a r, _, _, _, ⟨R, c, ys, e, h1, h2, h3, h⟩, h' => by
    subst e
    exact ⟨R, c, _, rfl, h1, h2, h3, FCells.app h h'⟩
theorem FCells.keep {w w' : World} {B : Nat} (hk : ∀ p : Addr, p.block < B → w'.cell? p = w.cell? p) {f : F} {xs : List Value} (h : FCells w B f xs) : FCells w' B f xs := FRow.FCells.keep (fun _ h => h) hk h
theorem bindF_cons (k n : Int) (t : ByteArray) (a r : F) (k' n' : Int) (t' : ByteArray) (a' r' : F) :
    bindF (.cons k n t a r) (.cons k' n' t' a' r') = (bind1 k n t a k' n' t' a').bind fun b => (bindF r r').map b.app := by
  show (match bind1 k n t a k' n' t' a' with | none => none | some b => match bindF r r' with | none => none | some c => some (b.app c)) = _
  cases bind1 k n t a k' n' t' a' with
  | none => rfl
  | some b => cases bindF r r' <;> rfl
theorem bindF_len : ∀ (f g h : F), bindF f g = some h → h.len ≤ g.nodes
  | .nil, g, h, e => by
    simp only [bindF, Option.some.injEq] at e
    subst e
    exact Nat.zero_le _
  | .cons k n t a r, .nil, h, e => by simp [bindF] at e
  | .cons k n t a r, .cons k' n' t' a' r', h, e => by
    rw [bindF_cons] at e
    cases hb : bind1 k n t a k' n' t' a' with
    | none => rw [hb] at e; simp at e
    | some b =>
      cases hc : bindF r r' with
      | none => rw [hb, hc] at e; simp at e
      | some d =>
        rw [hb, hc] at e
        simp only [Option.bind_some, Option.map_some, Option.some.injEq] at e
        subst e
        have h1 := bindF_len r r' d hc
        have h2 : b.len ≤ a'.nodes + 1 := by
          unfold bind1 at hb
          split at hb
          · simp only [Option.some.injEq] at hb; subst hb; simp [F.len]
          · split at hb
            · simp only [Option.some.injEq] at hb; subst hb; simp [F.len]
            · split at hb
              · split at hb <;> simp at hb; subst hb; simp [F.len]
              · split at hb
                · split at hb <;> simp at hb; subst hb; simp [F.len]
                · split at hb
                  · split at hb <;> simp at hb; subst hb; simp [F.len]
                  · split at hb
                    · split at hb
                      · have := bindF_len a a' b hb; omega
                      · simp at hb
                    · simp at hb
        rw [F.app_len]
        simp only [F.nodes]
        omega
end Go.Proofs.YtiinghgfojicdaaGreat
