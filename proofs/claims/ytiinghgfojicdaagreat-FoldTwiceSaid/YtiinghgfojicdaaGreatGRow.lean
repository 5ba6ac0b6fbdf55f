/- Rows in memory: part GRow. No conditions. -/
import Derived.Below
import Derived.Tactics
import Derived.Tactics2
import Derived.WalkKit
import Derived.Lib.Hide
import Derived.Maps.AppendAt
import Derived.Deep.AppendLies
import Derived.Deep.RegionHeld3
import Derived.Deep.DrawnRows
import Derived.RegionTactic
import Derived.OwnWalk
set_option linter.unusedVariables false
set_option linter.unusedSimpArgs false
namespace Go.RowG
open Go.RowKit
variable {P : Program}

/-- A slice's type and its elements' type. -/
structure RowTy (P : Program) (t e : TypeId) (size bytes : Nat) : Prop where
  under : P.underlying t = some (.slice e)
  info : ∃ i z, P.info? e = some i ∧ i.zero = some z ∧ i.size = size ∧ i.bytes = bytes ∧ z.cells.size = size
  pos : 0 < size
theorem RowTy.of {t e : TypeId} {size bytes : Nat} (hu : P.underlying t = some (.slice e)) (h : (P.info? e).map (fun i => (i.zero.map (·.cells.size), i.size, i.bytes)) = some (some size, size, bytes)) (hp : 0 < size) : RowTy P t e size bytes := by
  refine ⟨hu, ?_, hp⟩
  cases hi : P.info? e with
  | none => rw [hi] at h; simp at h
  | some i =>
    rw [hi] at h
    simp only [Option.map_some, Option.some.injEq, Prod.mk.injEq] at h
    obtain ⟨h1, h2, h3⟩ := h
    cases hz : i.zero with
    | none => rw [hz] at h1; simp at h1
    | some z =>
      rw [hz] at h1
      simp only [Option.map_some, Option.some.injEq] at h1
      exact ⟨i, z, rfl, hz, h2, h3, h1⟩

theorem run_append_g {t e : TypeId} {size bytes : Nat} (T : RowTy P t e size bytes) (hby : bytes ≤ 1000) (w : World) (ty : TypeId) (base : Nat) (v : Value) (n : Nat) (X L : List Value) (hown : w.ownsRow base e size v n X) (A : Option Addr) (m c : Nat) (hm : L.length = m * size)
    (hr : 0 < m → ∃ ad, A = some ad ∧ ∀ j u, L[j]? = some u → w.cell? (ad.add j) = some u) (h1 : ∀ u ∈ L, u.oneCell' = true) (h63 : n + m ≤ 100000000) (hbase : base ≤ w.heap.size) :
    ∃ v' w', (Builtin.append_ #[t, t] ty #[v, .slice A m c]).run P w = .ok v' w' ∧ w'.ownsRow base e size v' (n + m) (X ++ L) ∧ w.grownBy w' v.ownBlock ∧ (v'.ownBlock = v.ownBlock ∨ v'.ownBlock = some w.heap.size) := by
  obtain ⟨i0, z, hi0, hz0, hz1, hz2, hz3⟩ := T.info
  have hmul : (n + m) * bytes ≤ 100000000 * 1000 := Nat.mul_le_mul h63 hby
  have hgo : ∀ ad : Addr, (∀ j u, L[j]? = some u → w.cell? (ad.add j) = some u) → ∃ v' w', (Builtin.append_ #[t, t] ty #[v, .slice (some ad) m c]).run P w = .ok v' w' ∧ w'.ownsRow base e size v' (n + m) (X ++ L) ∧ w.grownBy w' v.ownBlock ∧ (v'.ownBlock = v.ownBlock ∨ v'.ownBlock = some w.heap.size) := fun ad hcell => by
    obtain ⟨v', w', hrun, h2, h3, _, h5⟩ := run_append_own_at (P := P) w base t ty e i0 z size bytes T.under hi0 hz0 hz1 hz2 hz3 T.pos v n X hown ad m c L hm hcell h1 (by unfold maxLen; omega) (by omega) hbase
    exact ⟨v', w', hrun, h2, h3, h5⟩
  rcases Nat.eq_zero_or_pos m with h0 | h0
  · subst h0
    obtain rfl := List.eq_nil_of_length_eq_zero (by simpa using hm)
    rcases A with _ | ad
    · refine ⟨v, w, ?_, by simpa using hown, World.grownBy.refl w _, .inl rfl⟩
      rcases hown.2 with ⟨rfl, rfl⟩ | ⟨g, cap, cur, rfl, _, _, hnc, _⟩
      · simp [Builtin.append_, run_underlying T.under, sizeOf, typeInfo, hi0, Builtin.lenOf, Builtin.firstCells]
      · simp [Builtin.append_, run_underlying T.under, sizeOf, typeInfo, hi0, Builtin.lenOf, Builtin.firstCells, hnc, storeCells]
    · exact hgo ad (fun j u h => by simp at h)
  · obtain ⟨ad, rfl, hc⟩ := hr h0
    exact hgo ad hc

theorem wpList_append_g {t e : TypeId} {size bytes : Nat} (T : RowTy P t e size bytes) (hby : bytes ≤ 1000) {ops : Array Oper} {rest : List Oper} {o : Oper} {a : Act} {Q : Exit → Act → World → Prop} (w : World) (hgd : o.guard = none) (s x : Operand)
    (ho : o.op = .call { callee := .builtin .append, args := #[s, x], argTypes := #[t, t] })
    (base : Nat) (v : Value) (n : Nat) (X L : List Value) (hs : a.eval s = v) (hown : w.ownsRow base e size v n X) (A : Option Addr) (m c : Nat) (hx : a.eval x = .slice A m c) (hm : L.length = m * size)
    (hr : 0 < m → ∃ ad, A = some ad ∧ ∀ j u, L[j]? = some u → w.cell? (ad.add j) = some u)
    (h1 : ∀ u ∈ L, u.oneCell' = true) (h63 : n + m ≤ 100000000) (hbase : base ≤ w.heap.size)
    (h : ∀ v' w', w'.ownsRow base e size v' (n + m) (X ++ L) → w.grownBy w' v.ownBlock → (v'.ownBlock = v.ownBlock ∨ v'.ownBlock = some w.heap.size) → wpList P ops Q rest (a.put o.dst v') w') : wpList P ops Q (o :: rest) a w :=
  wpList_plain hgd fun _ hK => by
    obtain ⟨v', w', hrun, h2, h3, h4⟩ := run_append_g T hby w o.type base v n X L hown A m c hm hr h1 h63 hbase
    unfold Oper.wp execOp
    simp only [ho, resolve, invoke, builtin, Sem.run_bind, Sem.run_pure, Result.andThen_ok, List.map_toArray, List.map_cons, List.map_nil, hs, hx, hrun]
    exact hK _ _ (h v' w' h2 h3 h4)

/-- One element more: it lies in a block of its own, just made. -/
theorem wpList_append_one {t e : TypeId} {size bytes : Nat} (T : RowTy P t e size bytes) (hby : bytes ≤ 1000) {ops : Array Oper} {rest : List Oper} {o : Oper} {a : Act} {Q : Exit → Act → World → Prop} (w : World) (xs : List Value) (u : TypeId) (hgd : o.guard = none) (s x : Operand)
    (ho : o.op = .call { callee := .builtin .append, args := #[s, x], argTypes := #[t, t] })
    (base : Nat) (v : Value) (n : Nat) (X : List Value) (hs : a.eval s = v) (hown : w.ownsRow base e size v n X) (hx : a.eval x = .slice (some ⟨w.heap.size, 0, none⟩) 1 1) (hl : xs.length = size)
    (h1 : ∀ u ∈ xs, u.oneCell' = true) (h63 : n + 1 ≤ 100000000) (hbase : base ≤ w.heap.size)
    (h : ∀ v' w', w'.ownsRow base e size v' (n + 1) (X ++ xs) → (w.alloc (.cells xs.toArray u)).grownBy w' v.ownBlock → (v'.ownBlock = v.ownBlock ∨ v'.ownBlock = some (w.heap.size + 1)) → wpList P ops Q rest (a.put o.dst v') w') : wpList P ops Q (o :: rest) a (w.alloc (.cells xs.toArray u)) := by
  refine wpList_append_g T hby _ hgd s x ho base v n X xs hs (hown.alloc _) (some ⟨w.heap.size, 0, none⟩) 1 1 hx (by simpa using hl) (fun _ => ⟨_, rfl, fun j y hy => ?_⟩) h1 h63 (by simp; omega) ?_
  · exact World.news_of_block (heap_alloc_new w _) j y (by simpa using hy)
  · simpa using h

theorem wpList_append_onez {t e : TypeId} {size bytes : Nat} (T : RowTy P t e size bytes) (hby : bytes ≤ 1000) {ops : Array Oper} {rest : List Oper} {o : Oper} {a : Act} {Q : Exit → Act → World → Prop} (w : World) (xs : List Value) (u : TypeId) (z : Nat) (hz : z = w.heap.size) (hgd : o.guard = none) (s x : Operand)
    (ho : o.op = .call { callee := .builtin .append, args := #[s, x], argTypes := #[t, t] })
    (base : Nat) (v : Value) (n : Nat) (X : List Value) (hs : a.eval s = v) (hown : w.ownsRow base e size v n X) (hx : a.eval x = .slice (some ⟨z, 0, none⟩) 1 1) (hl : xs.length = size)
    (h1 : ∀ u ∈ xs, u.oneCell' = true) (h63 : n + 1 ≤ 100000000) (hbase : base ≤ w.heap.size)
    (h : ∀ v' w', w'.ownsRow base e size v' (n + 1) (X ++ xs) → (w.alloc (.cells xs.toArray u)).grownBy w' v.ownBlock → (v'.ownBlock = v.ownBlock ∨ v'.ownBlock = some (w.heap.size + 1)) → wpList P ops Q rest (a.put o.dst v') w') : wpList P ops Q (o :: rest) a (w.alloc (.cells xs.toArray u)) := by
  subst hz
  exact wpList_append_one T hby w xs u hgd s x ho base v n X hs hown hx hl h1 h63 hbase h

/-- Cells that lie from the place A on, below block B. -/
def CellsAt (w : World) (B : Nat) (A : Option Addr) (xs : List Value) : Prop := 0 < xs.length → ∃ g o, A = some ⟨g, o, none⟩ ∧ g < B ∧ ∀ j u, xs[j]? = some u → w.cell? ⟨g, o + j, none⟩ = some u
theorem CellsAt.keep {w w' : World} {B B' : Nat} {A : Option Addr} {xs : List Value} (h : CellsAt w B A xs) (hB : B ≤ B') (hk : ∀ p : Addr, p.block < B → w'.cell? p = w.cell? p) : CellsAt w' B' A xs := fun hn => by
  obtain ⟨g, o, e, hb, hc⟩ := h hn
  exact ⟨g, o, e, by omega, fun j u hu => (hk ⟨g, o + j, none⟩ hb).trans (hc j u hu)⟩
theorem CellsAt.below {w w' : World} {A : Option Addr} {xs : List Value} (h : CellsAt w w.heap.size A xs) (hb : Below w.heap.size w w') : CellsAt w' w'.heap.size A xs := h.keep hb.size fun _ hp => hb.cell hp
theorem CellsAt.of_own {w : World} {base : Nat} {e : TypeId} {size : Nat} {v : Value} {n : Nat} {xs : List Value} (h : w.ownsRow base e size v n xs) : ∃ A c, v = .slice A n c ∧ n ≤ c ∧ c ≤ maxLen ∧ CellsAt w w.heap.size A xs := by
  rcases h.2 with ⟨rfl, rfl⟩ | ⟨g, cap, cur, rfl, _, h1, h2, h3, _⟩
  · refine ⟨none, 0, rfl, Nat.le_refl _, Nat.zero_le _, fun hn => ?_⟩
    rw [h.1] at hn
    simp at hn
  · refine ⟨_, cap, rfl, h2, h3, fun _ => ⟨g, 0, rfl, (Array.getElem?_eq_some_iff.1 h1).1, fun j u hu => ?_⟩⟩
    have := h.cells (g := g) rfl j u hu
    cases j with
    | zero => exact this
    | succ j => simpa [Addr.add] using this
theorem CellsAt.drop {w : World} {B : Nat} {A : Option Addr} {xs : List Value} (h : CellsAt w B A xs) {k cap : Nat} (hc : xs.length ≤ cap) : CellsAt w B (if cap = k then A else A.map (·.add k)) (xs.drop k) := fun hn => by
  rw [List.length_drop] at hn
  obtain ⟨g, o, rfl, hb, hcell⟩ := h (by omega)
  rw [if_neg (by omega)]
  refine ⟨g, o + k, ?_, hb, fun j u hu => ?_⟩
  · simp [Addr.add]
  · rw [Nat.add_assoc]
    exact hcell _ u (by rw [← hu, List.getElem?_drop])
end Go.RowG
