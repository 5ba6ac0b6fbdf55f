/- A part of the proofs of the laws of the deeds: Bare. -/
import Derived.Test.YtkmpnfploplpfaaDoorDdParts
import Derived.Deep.RegionLaw
set_option linter.unusedVariables false
set_option linter.unusedSimpArgs false
namespace Go.Proofs.YtkmpnfploplpfaaDoor
open Go.RowKit Go.Deed Go.RowG
attribute [local go_sem ↓] Go.wp_at_zero Go.wp_at_succ
set_option linter.unusedVariables false

theorem step_append_onez {P : Program} {t e : TypeId} {size bytes : Nat} (T : RowTy P t e size bytes) (hby : bytes ≤ 1000) {ops : Array Oper} {o : Oper} {a : Act} {K : Act → World → Prop} {Q : Exit → Act → World → Prop} {E : Prop} (w : World) (xs : List Value) (u : TypeId) (z : Nat) (hz : z = w.heap.size) (hgd : o.guard = none) (s x : Operand)
    (ho : o.op = .call { callee := .builtin .append, args := #[s, x], argTypes := #[t, t] })
    (base : Nat) (v : Value) (n : Nat) (X : List Value) (hs : a.eval s = v) (hown : w.ownsRow base e size v n X) (hx : a.eval x = .slice (some ⟨z, 0, none⟩) 1 1) (hl : xs.length = size)
    (h1 : ∀ u ∈ xs, u.oneCell' = true) (h63 : n + 1 ≤ 100000000) (hbase : base ≤ w.heap.size)
    (h : ∀ v' w', w'.ownsRow base e size v' (n + 1) (X ++ xs) → (w.alloc (.cells xs.toArray u)).grownBy w' v.ownBlock → (v'.ownBlock = v.ownBlock ∨ v'.ownBlock = some (w.heap.size + 1)) → K (a.put o.dst v') w') :
    if Region.wanted o (yielded ops a.tmps) = true then Oper.wp P o a (w.alloc (.cells xs.toArray u)) K Q else E := by
  have hw : Region.wanted o (yielded ops a.tmps) = true := by simp [Region.wanted, hgd]
  rw [if_pos hw]
  subst hz
  obtain ⟨v', w', hrun, h2, h3, h4⟩ := run_append_g T hby (w.alloc (.cells xs.toArray u)) o.type base v n X xs (hown.alloc _) (some ⟨w.heap.size, 0, none⟩) 1 1 (by simpa using hl) (fun _ => ⟨_, rfl, fun j y hy => World.news_of_block (heap_alloc_new w _) j y (by simpa using hy)⟩) h1 h63 (by simp; omega)
  unfold Oper.wp execOp
  simp only [ho, resolve, invoke, builtin, Sem.run_bind, Sem.run_pure, Result.andThen_ok, List.map_toArray, List.map_cons, List.map_nil, hs, hx, hrun]
  exact h v' w' h2 h3 (by simpa using h4)

/-- What bareValue hands back. -/
def BareEnds (v : V) (w : World) (e : Ending) (w' : World) : Prop := Below w.heap.size w w' ∧ ∃ A c, e = .returned (agg4 v.k v.n v.t A v.a.len c) ∧ RowAt w' (fresh w w') A v.a ∧ v.a.len ≤ c ∧ c ≤ maxLen
def BareSaid (k n : Int) (t : ByteArray) (a : F) : Prop := ∀ (A : Option Addr) (c : Nat) (w : World), RowAt w (lt w) A a → a.len ≤ c → c ≤ maxLen → wt a ≤ 100000000 → Calls Tryd.prog 12 #[agg4 k n t A a.len c] w (BareEnds (bareV k n t a) w)

theorem bare_leaf {w W : World} (hb : Below w.heap.size w W) (k n : Int) (t : L) : BareEnds ⟨k, n, toB t, .nil⟩ w (.returned (agg4 k n (toB t) none 0 0)) W :=
  ⟨hb, none, 0, rfl, RowAt.nil _ _ _, Nat.le_refl _, Nat.zero_le _⟩
theorem bare_leafs {w W : World} (hb : Below w.heap.size w W) (k n : Int) (t : ByteArray) : BareEnds ⟨k, n, t, .nil⟩ w (.returned (agg4 k n t none 0 0)) W :=
  ⟨hb, none, 0, rfl, RowAt.nil _ _ _, Nat.le_refl _, Nat.zero_le _⟩
theorem below3 (w : World) (o1 o2 o3 : Obj) : Below w.heap.size w (((w.alloc o1).alloc o2).alloc o3) :=
  ((((Below.refl _ _).alloc (Nat.le_refl _) _).alloc (by simp) _).alloc (by simp; omega) _)
set_option maxRecDepth 100000 in
theorem bare_num (k n : Int) (t : ByteArray) (m : Nat) (hk : k = 2 ∨ k = 3 ∨ k = 6) (A : Option Addr) (c : Nat) (w : World) : Calls Tryd.prog 12 #[agg4 k n t A m c] w (BareEnds ⟨k, n, toB [], .nil⟩ w) := by
  rcases hk with rfl | rfl | rfl
  all_goals
    go_enter Tryd.func12, Tryd.ntmps12
    go_wp2
  · refine bodyPost_ret (v := agg4 2 n ⟨#[]⟩ none 0 0) (by simp [results, Tryd.results12, go_sem, agg4, *]) rfl ?_
    exact bare_leaf (below3 w _ _ _) _ _ _
  · refine bodyPost_ret (v := agg4 3 n ⟨#[]⟩ none 0 0) (by simp [results, Tryd.results12, go_sem, agg4, *]) rfl ?_
    exact bare_leaf (below3 w _ _ _) _ _ _
  · refine bodyPost_ret (v := agg4 6 n ⟨#[]⟩ none 0 0) (by simp [results, Tryd.results12, go_sem, agg4, *]) rfl ?_
    exact bare_leaf (below3 w _ _ _) _ _ _
set_option maxRecDepth 100000 in
theorem bare_text (n : Int) (t : ByteArray) (m : Nat) (A : Option Addr) (c : Nat) (w : World) : Calls Tryd.prog 12 #[agg4 4 n t A m c] w (BareEnds ⟨4, 0, t, .nil⟩ w) := by
  go_enter Tryd.func12, Tryd.ntmps12
  go_wp2
  refine bodyPost_ret (v := agg4 4 0 t none 0 0) (by simp [results, Tryd.results12, go_sem, agg4, *]) rfl ?_
  exact bare_leafs (below3 w _ _ _) _ _ _
set_option maxRecDepth 100000 in
theorem bare_other (k n : Int) (t : ByteArray) (m : Nat) (h2 : k ≠ 2) (h3 : k ≠ 3) (h4 : k ≠ 4) (h5 : k ≠ 5) (h6 : k ≠ 6) (A : Option Addr) (c : Nat) (w : World) : Calls Tryd.prog 12 #[agg4 k n t A m c] w (BareEnds ⟨k, 0, toB [], .nil⟩ w) := by
  have e2 : (k == 2) = false := by simpa using h2
  have e3 : (k == 3) = false := by simpa using h3
  have e4 : (k == 4) = false := by simpa using h4
  have e5 : (k == 5) = false := by simpa using h5
  have e6 : (k == 6) = false := by simpa using h6
  clear h2 h3 h4 h5 h6
  go_enter Tryd.func12, Tryd.ntmps12
  go_wp2
  refine bodyPost_ret (v := agg4 k 0 ⟨#[]⟩ none 0 0) (by simp [results, Tryd.results12, go_sem, agg4, *]) rfl ?_
  exact bare_leaf (below3 w _ _ _) _ _ _
end Go.Proofs.YtkmpnfploplpfaaDoor
