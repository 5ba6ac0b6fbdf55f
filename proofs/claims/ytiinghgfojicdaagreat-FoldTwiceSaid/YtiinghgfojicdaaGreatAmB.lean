/- The abstract machine's operations do what the model's do: trees, memory, arithmetic, equality, conversions. For every program, tape and world. -/
import Derived.Test.YtiinghgfojicdaaGreatAmA
import Derived.Control
import Derived.Laws.Cells
import Derived.Laws.Entries
import Derived.Laws.Strings
import Derived.Laws.BytesString
import Derived.Laws.Append
set_option linter.unusedVariables false
set_option linter.unusedSimpArgs false
/- Trees: what a place holds behind a change. -/
namespace Go.AM
variable {α : Type}

theorem Tree.get_leaf (p : Pos) : (Tree.leaf : Tree α).get p = none := by cases p <;> rfl
theorem Tree.get_h (l r : Tree α) (v : Option α) : (Tree.node l v r).get .h = v := rfl
theorem Tree.get_o (l r : Tree α) (v : Option α) (p : Pos) : (Tree.node l v r).get (.o p) = l.get p := rfl
theorem Tree.get_i (l r : Tree α) (v : Option α) (p : Pos) : (Tree.node l v r).get (.i p) = r.get p := rfl

theorem Tree.get_set_same (p : Pos) (x : α) : ∀ t : Tree α, (t.set p x).get p = some x := by
  induction p with
  | h => intro t; cases t <;> rfl
  | o p ih => intro t; cases t <;> exact ih _
  | i p ih => intro t; cases t <;> exact ih _

theorem Tree.get_set_ne (p : Pos) (x : α) : ∀ (q : Pos) (t : Tree α), q ≠ p → (t.set p x).get q = t.get q := by
  induction p with
  | h =>
    intro q t h
    cases q with
    | h => exact absurd rfl h
    | o q => cases t <;> first | rfl | exact Tree.get_leaf q
    | i q => cases t <;> first | rfl | exact Tree.get_leaf q
  | o p ih =>
    intro q t h
    cases q with
    | h => cases t <;> rfl
    | o q =>
      have hq : q ≠ p := fun e => h (by rw [e])
      cases t with
      | leaf => exact (ih q .leaf hq).trans (Tree.get_leaf q)
      | node l v r => exact ih q l hq
    | i q => cases t <;> first | rfl | exact Tree.get_leaf q
  | i p ih =>
    intro q t h
    cases q with
    | h => cases t <;> rfl
    | i q =>
      have hq : q ≠ p := fun e => h (by rw [e])
      cases t with
      | leaf => exact (ih q .leaf hq).trans (Tree.get_leaf q)
      | node l v r => exact ih q r hq
    | o q => cases t <;> first | rfl | exact Tree.get_leaf q

theorem Tree.get_set (p q : Pos) (x : α) (t : Tree α) : (t.set p x).get q = if q = p then some x else t.get q := by
  by_cases h : q = p
  · subst h; simp [Tree.get_set_same]
  · simp [h, Tree.get_set_ne p x q t h]

theorem Tree.get_over : ∀ (t u : Tree α) (p : Pos), (t.over u).get p = match u.get p with | some x => some x | none => t.get p
  | .leaf, u, p => by
    simp only [Tree.over, Tree.get_leaf]
    cases u.get p <;> rfl
  | .node l v r, .leaf, p => by simp only [Tree.over, Tree.get_leaf]
  | .node l v r, .node l' v' r', p => by
    simp only [Tree.over]
    cases p with
    | h => simp only [Tree.get_h]; cases v' <;> rfl
    | o p => simp only [Tree.get_o]; exact Tree.get_over l l' p
    | i p => simp only [Tree.get_i]; exact Tree.get_over r r' p

theorem Pos.succ_toNat : ∀ p : Pos, p.succ.toNat = p.toNat + 1
  | .h => rfl
  | .o p => by simp [Pos.succ, Pos.toNat]
  | .i p => by simp [Pos.succ, Pos.toNat, Pos.succ_toNat p]; omega

theorem Pos.toNat_pos : ∀ p : Pos, 0 < p.toNat
  | .h => by simp [Pos.toNat]
  | .o p => by have := Pos.toNat_pos p; simp [Pos.toNat]; omega
  | .i p => by simp [Pos.toNat]

theorem Pos.toNat_inj : ∀ p q : Pos, p.toNat = q.toNat → p = q
  | .h, .h, _ => rfl
  | .h, .o q, e => by have := Pos.toNat_pos q; simp [Pos.toNat] at e; omega
  | .h, .i q, e => by have := Pos.toNat_pos q; simp [Pos.toNat] at e; omega
  | .o p, .h, e => by have := Pos.toNat_pos p; simp [Pos.toNat] at e; omega
  | .i p, .h, e => by have := Pos.toNat_pos p; simp [Pos.toNat] at e; omega
  | .o p, .o q, e => by rw [Pos.toNat_inj p q (by simp [Pos.toNat] at e; omega)]
  | .i p, .i q, e => by rw [Pos.toNat_inj p q (by simp [Pos.toNat] at e; omega)]
  | .o p, .i q, e => by simp [Pos.toNat] at e; omega
  | .i p, .o q, e => by simp [Pos.toNat] at e; omega

theorem Pos.ofNat_toNat : ∀ n : Nat, (Pos.ofNat n).toNat = n + 1
  | 0 => rfl
  | n + 1 => by simp [Pos.ofNat, Pos.succ_toNat, Pos.ofNat_toNat n]

theorem Pos.ofNat_inj (n m : Nat) (h : Pos.ofNat n = Pos.ofNat m) : n = m := by
  have := congrArg Pos.toNat h
  simp [Pos.ofNat_toNat] at this
  exact this

theorem Pos.beq_eq : ∀ p q : Pos, p.beq q = true → p = q
  | .h, .h, _ => rfl
  | .o p, .o q, e => by rw [Pos.beq_eq p q (by simpa [Pos.beq] using e)]
  | .i p, .i q, e => by rw [Pos.beq_eq p q (by simpa [Pos.beq] using e)]
  | .h, .o _, e => by simp [Pos.beq] at e
  | .h, .i _, e => by simp [Pos.beq] at e
  | .o _, .h, e => by simp [Pos.beq] at e
  | .i _, .h, e => by simp [Pos.beq] at e
  | .o _, .i _, e => by simp [Pos.beq] at e
  | .i _, .o _, e => by simp [Pos.beq] at e

theorem Pos.beq_refl : ∀ p : Pos, p.beq p = true
  | .h => rfl
  | .o p => by simpa [Pos.beq] using Pos.beq_refl p
  | .i p => by simpa [Pos.beq] using Pos.beq_refl p

theorem Pos.beq_ne {p q : Pos} (h : p.beq q = false) : p ≠ q := by
  rintro rfl; rw [Pos.beq_refl] at h; exact Bool.noConfusion h

theorem Pos.le_max_left (p q : Pos) : p.toNat ≤ (Pos.max p q).toNat := by
  unfold Pos.max
  split
  · rename_i h; exact Nat.le_of_ble_eq_true h
  · exact Nat.le_refl _
theorem Pos.le_max_right (p q : Pos) : q.toNat ≤ (Pos.max p q).toNat := by
  unfold Pos.max
  split
  · exact Nat.le_refl _
  · rename_i h
    have : ¬ p.toNat ≤ q.toNat := fun h' => by rw [Nat.ble_eq_true_of_le h'] at h; exact Bool.noConfusion h
    omega

theorem Tree.get_build : ∀ (l : List α) (i : Nat) (t : Tree α) (n : Nat),
    (Tree.build i l t).get (Pos.ofNat n) = if n < i then t.get (Pos.ofNat n) else if n < i + l.length then l[n - i]? else t.get (Pos.ofNat n)
  | [], i, t, n => by
    simp only [Tree.build, List.length_nil, Nat.add_zero]
    split <;> simp_all
  | x :: l, i, t, n => by
    rw [Tree.build, Tree.get_build l (i + 1) _ n, Tree.get_set]
    by_cases h0 : n < i
    · have hne : Pos.ofNat n ≠ Pos.ofNat i := fun e => by have := Pos.ofNat_inj _ _ e; omega
      rw [if_pos (by omega), if_neg hne, if_pos h0]
    · by_cases h1 : n = i
      · subst h1
        rw [if_pos (by omega), if_pos rfl, if_neg (by omega), if_pos (by simp)]
        simp
      · have hne : Pos.ofNat n ≠ Pos.ofNat i := fun e => h1 (Pos.ofNat_inj _ _ e)
        rw [if_neg (by omega), if_neg hne, if_neg h0]
        by_cases h2 : n < i + 1 + l.length
        · rw [if_pos h2, if_pos (by simp; omega)]
          have : n - i = (n - (i + 1)) + 1 := by omega
          rw [this, List.getElem?_cons_succ]
        · rw [if_neg h2, if_neg (by simp; omega)]

theorem Tree.build_some {l : List α} {n : Nat} {x : α} (h : (Tree.build 0 l .leaf).get (Pos.ofNat n) = some x) : l[n]? = some x := by
  rw [Tree.get_build] at h
  simp only [Nat.not_lt_zero, if_false, Nat.zero_add, Tree.get_leaf, Nat.sub_zero] at h
  split at h
  · exact h
  · exact absurd h (by simp)
end Go.AM

/- How the abstract machine's values and heaps stand to the model's. -/
namespace Go.AM

/-- Where blocks lie: of cells (by generation) the machine's block, how many of its cells are known, and how many it has; of maps and iterators the machine's block; and what stamps are. -/
structure Phi where
  cell : Pos → Nat → Option (Nat × Nat × Nat)
  obj : Pos → Option Nat
  st : Nat → Option Int

mutual
def RV (φ : Phi) : AV → Value → Prop
  | .undef, v => v = undef
  | .bad, _ => True
  | .int k n, v => v = .int k n
  | .bool b, v => v = .bool b
  | .str s, v => ∃ b : ByteArray, v = .string b ∧ b.data.toList.map UInt8.toNat = s
  | .nilptr, v => v = .pointer none
  | .ptr b g off ext, v => ∃ n L N, φ.cell b g = some (n, L, N) ∧ off + ext ≤ L ∧ v = .pointer (some ⟨n, off, none⟩)
  | .nilslice, v => v = .slice none 0 0
  | .slice b g off len kc ex sz, v => ∃ n L N o cap, φ.cell b g = some (n, L, N) ∧ v = .slice (some ⟨n, o, none⟩) len cap ∧ (o = off ∨ cap = 0) ∧
      off + len * sz ≤ L ∧ len ≤ kc ∧ kc ≤ cap ∧ (ex = true → cap = kc) ∧ off + cap * sz ≤ N
  | .nilmap, v => v = .map none
  | .map b, v => ∃ n, φ.obj b = some n ∧ v = .map (some n)
  | .iter b, v => ∃ n, φ.obj b = some n ∧ v = .pointer (some ⟨n, 0, none⟩)
  | .stamp s, v => ∃ m, φ.st s = some m ∧ v = .int .i64 m
  | .niliface, v => v = .nilIface
  | .iface t x, v => ∃ u, v = .iface t u ∧ RV φ x u
  | .nilfunc, v => v = .nilFunc
  | .func f a b, v => ∃ us ws : List Value, v = .func (.func f) us.toArray ws.toArray ∧ RVs φ a us ∧ RVs φ b ws
  | .meth name r, v => ∃ u, v = .func (.method name) #[u] #[] ∧ RV φ r u
  | .agg cs, v => ∃ us : List Value, v = .agg us.toArray ∧ RVs φ cs us ∧ ∀ c ∈ cs, c.isCell = true
  | .tuple cs, v => ∃ us : List Value, v = .tuple us.toArray ∧ RVs φ cs us
def RVs (φ : Phi) : List AV → List Value → Prop
  | [], us => us = []
  | a :: as, us => ∃ u us', us = u :: us' ∧ RV φ a u ∧ RVs φ as us'
end

structure Sub (φ φ' : Phi) : Prop where
  cell : ∀ {b g x}, φ.cell b g = some x → φ'.cell b g = some x
  obj : ∀ {b n}, φ.obj b = some n → φ'.obj b = some n
  st : ∀ {s m}, φ.st s = some m → φ'.st s = some m

theorem Sub.refl (φ : Phi) : Sub φ φ := ⟨id, id, id⟩
theorem Sub.trans {a b c : Phi} (h : Sub a b) (k : Sub b c) : Sub a c := ⟨fun x => k.cell (h.cell x), fun x => k.obj (h.obj x), fun x => k.st (h.st x)⟩

mutual
theorem RV.mono {φ φ' : Phi} (h : Sub φ φ') : ∀ {a : AV} {v : Value}, RV φ a v → RV φ' a v
  | .undef, _, r => r
  | .bad, _, _ => by simp [RV]
  | .int _ _, _, r => by simpa [RV] using r
  | .bool _, _, r => by simpa [RV] using r
  | .str _, _, r => by simpa [RV] using r
  | .nilptr, _, r => by simpa [RV] using r
  | .ptr _ _ _ _, _, r => by simp only [RV] at *; obtain ⟨n, L, N, hc, r⟩ := r; exact ⟨n, L, N, h.cell hc, r⟩
  | .nilslice, _, r => by simpa [RV] using r
  | .slice _ _ _ _ _ _ _, _, r => by simp only [RV] at *; obtain ⟨n, L, N, o, cap, hc, r⟩ := r; exact ⟨n, L, N, o, cap, h.cell hc, r⟩
  | .nilmap, _, r => by simpa [RV] using r
  | .map _, _, r => by simp only [RV] at *; obtain ⟨n, hc, r⟩ := r; exact ⟨n, h.obj hc, r⟩
  | .iter _, _, r => by simp only [RV] at *; obtain ⟨n, hc, r⟩ := r; exact ⟨n, h.obj hc, r⟩
  | .stamp _, _, r => by simp only [RV] at *; obtain ⟨n, hc, r⟩ := r; exact ⟨n, h.st hc, r⟩
  | .niliface, _, r => by simpa [RV] using r
  | .iface _ x, _, r => by simp only [RV] at *; obtain ⟨u, e, r⟩ := r; exact ⟨u, e, RV.mono h r⟩
  | .nilfunc, _, r => by simpa [RV] using r
  | .func _ _ _, _, r => by simp only [RV] at *; obtain ⟨us, ws, e, r, q⟩ := r; exact ⟨us, ws, e, RVs.mono h r, RVs.mono h q⟩
  | .meth _ _, _, r => by simp only [RV] at *; obtain ⟨u, e, r⟩ := r; exact ⟨u, e, RV.mono h r⟩
  | .agg _, _, r => by simp only [RV] at *; obtain ⟨us, e, r, q⟩ := r; exact ⟨us, e, RVs.mono h r, q⟩
  | .tuple _, _, r => by simp only [RV] at *; obtain ⟨us, e, r⟩ := r; exact ⟨us, e, RVs.mono h r⟩
theorem RVs.mono {φ φ' : Phi} (h : Sub φ φ') : ∀ {a : List AV} {v : List Value}, RVs φ a v → RVs φ' a v
  | [], _, r => by simpa [RVs] using r
  | _ :: _, _, r => by simp only [RVs] at *; obtain ⟨u, us, e, r, q⟩ := r; exact ⟨u, us, e, RV.mono h r, RVs.mono h q⟩
end

theorem RVs.length {φ : Phi} : ∀ {a : List AV} {v : List Value}, RVs φ a v → v.length = a.length
  | [], _, r => by simp only [RVs] at r; simp [r]
  | _ :: _, _, r => by simp only [RVs] at r; obtain ⟨u, us, e, _, q⟩ := r; simp [e, RVs.length q]

theorem RVs.get {φ : Phi} : ∀ {a : List AV} {v : List Value} (j : Nat) {x : AV}, RVs φ a v → a[j]? = some x → ∃ u, v[j]? = some u ∧ RV φ x u
  | [], _, _, _, _, h => by simp at h
  | _ :: _, _, 0, _, r, h => by
    simp only [RVs] at r; obtain ⟨u, us, e, r, _⟩ := r
    simp only [List.getElem?_cons_zero, Option.some.injEq] at h
    subst h; exact ⟨u, by simp [e], r⟩
  | _ :: _, _, j + 1, _, r, h => by
    simp only [RVs] at r; obtain ⟨u, us, e, _, q⟩ := r
    obtain ⟨u', h', r'⟩ := RVs.get j q (by simpa using h)
    exact ⟨u', by simp [e, h'], r'⟩

theorem RVs.append {φ : Phi} : ∀ {a b : List AV} {v u : List Value}, RVs φ a v → RVs φ b u → RVs φ (a ++ b) (v ++ u)
  | [], _, _, _, r, q => by simp only [RVs] at r; simpa [r] using q
  | _ :: _, _, _, _, r, q => by
    simp only [RVs] at r; obtain ⟨x, us, e, r, s⟩ := r
    simp only [List.cons_append, RVs, e]
    exact ⟨x, _, rfl, r, RVs.append s q⟩

theorem RVs.drop {φ : Phi} : ∀ (n : Nat) {a : List AV} {v : List Value}, RVs φ a v → RVs φ (a.drop n) (v.drop n)
  | 0, _, _, r => by simpa using r
  | n + 1, [], _, r => by simp only [RVs] at r; simp [r, RVs]
  | n + 1, _ :: _, _, r => by simp only [RVs] at r; obtain ⟨x, us, e, r, s⟩ := r; simpa [e] using RVs.drop n s

theorem RVs.take {φ : Phi} : ∀ (n : Nat) {a : List AV} {v : List Value}, RVs φ a v → RVs φ (a.take n) (v.take n)
  | 0, _, _, _ => by simp [RVs]
  | n + 1, [], _, r => by simp only [RVs] at r; simp [r, RVs]
  | n + 1, _ :: _, _, r => by
    simp only [RVs] at r; obtain ⟨x, us, e, r, s⟩ := r
    simp only [List.take_succ_cons, e, RVs]; exact ⟨x, _, rfl, r, RVs.take n s⟩

/-- Values of one cell. -/
theorem RV.oneCell {φ : Phi} {x : AV} {u : Value} (h : RV φ x u) (hc : x.isCell = true) : u.cells = #[u] ∧ (∀ a, u ≠ .agg a) ∧ (∀ a, u ≠ .tuple a) := by
  cases x <;> simp only [AV.isCell, Bool.false_eq_true] at hc <;> simp only [RV] at h
  all_goals first
    | (subst h; exact ⟨rfl, by simp, by simp⟩)
    | (obtain ⟨_, rfl, _⟩ := h; exact ⟨rfl, by simp, by simp⟩)
    | (obtain ⟨_, _, rfl⟩ := h; exact ⟨rfl, by simp, by simp⟩)
    | (obtain ⟨_, _, _, _, _, rfl⟩ := h; exact ⟨rfl, by simp, by simp⟩)
    | (obtain ⟨_, _, _, _, _, _, rfl, _⟩ := h; exact ⟨rfl, by simp, by simp⟩)
    | (obtain ⟨_, _, rfl, _⟩ := h; exact ⟨rfl, by simp, by simp⟩)

/-- What can be stored: cell by cell. -/
theorem RV.stored {φ : Phi} {x : AV} {u : Value} (h : RV φ x u) (hs : x.stores = true) : RVs φ x.cells u.cells.toList ∧ ∀ c ∈ x.cells, c.isCell = true := by
  cases x
  case agg cs =>
    simp only [RV] at h
    obtain ⟨us, rfl, r, q⟩ := h
    exact ⟨by simpa [AV.cells, Value.cells] using r, q⟩
  all_goals
    have hc := hs
    simp only [AV.stores] at hc
    obtain ⟨h1, _, _⟩ := RV.oneCell h hc
    rw [h1]
    simp only [AV.cells]
    exact ⟨by simp only [RVs]; exact ⟨u, [], rfl, h, rfl⟩, by simpa using hc⟩

end Go.AM

/- The machine's memory: rows that are read and written, whatever of them is frozen beyond. -/
namespace Go.AM
open Go

/-- Two worlds that differ in one block alone. -/
structure Only (g : Nat) (w w' : World) : Prop where
  os : w'.os = w.os
  tape : w'.tape = w.tape
  output : w'.output = w.output
  size : w'.heap.size = w.heap.size
  other : ∀ n, n ≠ g → w'.heap[n]? = w.heap[n]?

theorem Only.refl (g : Nat) (w : World) : Only g w w := ⟨rfl, rfl, rfl, rfl, fun _ _ => rfl⟩
theorem Only.trans {g : Nat} {a b c : World} (h : Only g a b) (k : Only g b c) : Only g a c :=
  ⟨k.os.trans h.os, k.tape.trans h.tape, k.output.trans h.output, k.size.trans h.size, fun n hn => (k.other n hn).trans (h.other n hn)⟩

theorem only_setCell (w : World) (a : Addr) (v : Value) : Only a.block w (w.setCell a v) := by
  refine ⟨rfl, rfl, rfl, by simp, fun n hn => ?_⟩
  simp only [World.setCell, Array.getElem?_modify]
  rw [if_neg (fun e => hn e.symm)]

theorem cell_of_row {w : World} {n : Nat} {c : Array Value} {t : TypeId} {fr : Nat × Nat} (h : w.heap[n]? = some (.cells c t fr)) (o : Nat) : w.cell? ⟨n, o, none⟩ = c[o]? := by
  simp [World.cell?, h]

theorem frozen_of_row {w : World} {n : Nat} {c : Array Value} {t : TypeId} {fr : Nat × Nat} (h : w.heap[n]? = some (.cells c t fr)) (o : Nat) : w.frozen? ⟨n, o, none⟩ = (decide (fr.1 ≤ o) && decide (o < fr.2)) := by
  obtain ⟨lo, hi⟩ := fr
  simp [World.frozen?, h]

theorem add_none (n o i : Nat) : (⟨n, o, none⟩ : Addr).add i = ⟨n, o + i, none⟩ := by
  unfold Addr.add
  split
  · rename_i h; simp [h]
  · rfl

theorem run_storeRow (P : Program) (n o : Nat) (t : TypeId) (fr : Nat × Nat) : ∀ (vs : List Value) (i : Nat) (c : Array Value) (w : World),
    w.heap[n]? = some (.cells c t fr) → o + i + vs.length ≤ c.size → (∀ j, j < c.size → ¬ (fr.1 ≤ j ∧ j < fr.2)) → (∀ v ∈ vs, v.oneCell' = true) →
    ∃ c' w', (storeCells ⟨n, o, none⟩ vs i).run P w = .ok () w' ∧ Only n w w' ∧ w'.heap[n]? = some (.cells c' t fr) ∧ c'.size = c.size ∧ w'.drawn = w.drawn ∧
      ∀ j, c'[j]? = if o + i ≤ j ∧ j < o + i + vs.length then vs[j - (o + i)]? else c[j]?
  | [], i, c, w, h, _, _, _ => ⟨c, w, rfl, Only.refl _ _, h, rfl, rfl, fun j => by rw [if_neg]; simp only [List.length_nil]; omega⟩
  | v :: vs, i, c, w, h, hb, hf, hv => by
    simp only [List.length_cons] at hb
    have hv1 := hv v (by simp)
    have hlt : o + i < c.size := by omega
    have hcell : w.cell? ⟨n, o + i, none⟩ = some c[o + i] := by rw [cell_of_row h]; simp [hlt]
    have hfz : w.frozen? ⟨n, o + i, none⟩ = false := by
      rw [frozen_of_row h]
      have := hf (o + i) hlt
      by_cases h1 : fr.1 ≤ o + i
      · have h2 : ¬ (o + i < fr.2) := fun h2 => this ⟨h1, h2⟩
        simp [h2]
      · simp [h1]
    have hrow : (w.setCell ⟨n, o + i, none⟩ v).heap[n]? = some (.cells (c.setIfInBounds (o + i) v) t fr) := by
      simp only [World.setCell, Array.getElem?_modify, if_true, h, Option.map_some]
      simp
    obtain ⟨c', w', hr, ho, hrow', hsz, hdr, hj⟩ := run_storeRow P n o t fr vs (i + 1) (c.setIfInBounds (o + i) v) (w.setCell ⟨n, o + i, none⟩ v) hrow (by simp; omega) (by simpa using hf) (fun u hu => hv u (by simp [hu]))
    refine ⟨c', w', ?_, (only_setCell w ⟨n, o + i, none⟩ v).trans ho, hrow', by simpa using hsz, by rw [hdr]; rfl, fun j => ?_⟩
    · rw [storeCells, Sem.run_bind, add_none, run_store P w _ v _ hv1, hcell]
      simp only [hfz, Bool.false_eq_true, if_false, Result.andThen_ok]
      exact hr
    · rw [hj j]
      by_cases h1 : o + (i + 1) ≤ j ∧ j < o + (i + 1) + vs.length
      · rw [if_pos h1, if_pos (by simp only [List.length_cons]; omega)]
        have : j - (o + i) = (j - (o + (i + 1))) + 1 := by omega
        rw [this, List.getElem?_cons_succ]
      · rw [if_neg h1]
        by_cases h2 : j = o + i
        · subst h2
          rw [if_pos (by simp only [List.length_cons]; omega)]
          simp [hlt]
        · rw [if_neg (by simp only [List.length_cons]; omega)]
          rw [Array.getElem?_setIfInBounds_ne (fun e => h2 e.symm)]

theorem run_loadRow (P : Program) {w : World} {n o : Nat} {c : Array Value} {t : TypeId} {fr : Nat × Nat} (h : w.heap[n]? = some (.cells c t fr)) (us : List Value)
    (hu : ∀ j u, us[j]? = some u → c[o + j]? = some u) : (loadCells ⟨n, o, none⟩ us.length).run P w = .ok us.toArray w :=
  run_loadCells_list (P := P) (w := w) ⟨n, o, none⟩ us fun j v hj => by
    rw [add_none, cell_of_row h]; exact hu j v hj

end Go.AM

/- The heap of the abstract machine, and the model's world. -/
namespace Go.AM
open Go

def CellsAt (φ : Phi) (w : World) (n L N : Nat) (st : Bool) (cs : List AV) : Prop :=
  ∃ c elem lo hi, w.heap[n]? = some (.cells c elem (lo, hi)) ∧ c.size = N ∧ L ≤ N ∧ (∀ j, j < N → ¬ (lo ≤ j ∧ j < hi)) ∧ (st = false → lo = 0 ∧ hi = 0) ∧
    ∀ j, j < L → ∃ x u, cs[j]? = some x ∧ c[j]? = some u ∧ x.isCell = true ∧ RV φ x u

structure RowOk (φ : Phi) (w : World) (b : Pos) (st : Bool) (cur min len : Nat) (cs : List AV) : Prop where
  length : cs.length = len
  minle : min ≤ cur
  gens : ∀ {g n L N}, φ.cell b g = some (n, L, N) → g ≤ cur ∧ (g = cur → L = len) ∧ L ≤ len ∧ (min ≤ g → CellsAt φ w n L N st cs)

def EsRel (φ : Phi) : List (AV × AV) → List MapEntry → Prop
  | [], l => l = []
  | x :: es, l => ∃ e l', l = e :: l' ∧ RV φ x.1 e.key ∧ RV φ x.2 e.val ∧ EsRel φ es l'

def MapAt (φ : Phi) (w : World) (n : Nat) (es : List (AV × AV)) : Prop :=
  ∃ entries clock l, w.heap[n]? = some (.map entries clock) ∧ l.Perm entries.toList ∧ EsRel φ es l ∧ (∀ e ∈ l, e.born < clock) ∧ (l.map (·.born)).Nodup ∧
    es.Pairwise fun a b => a.1.keq b.1 = some false

def IterAt (φ : Phi) (B : Tree ABlk) (H : Heap) (w : World) (n : Nat) (ver : Nat) (left : List (AV × AV)) (now : Option AV) : Option Pos → Prop
  | none => (∃ since seen last, w.heap[n]? = some (.mapIter none since seen last)) ∧ left = []
  | some mb => ∃ nm since seen last, φ.obj mb = some nm ∧ w.heap[n]? = some (.mapIter (some nm) since seen last) ∧
      ∀ ver' es', blk B H mb = some (.map ver' es') → ver ≤ ver' ∧ (ver = ver' → ∃ entries clock l ll, w.heap[nm]? = some (.map entries clock) ∧ l.Perm entries.toList ∧ EsRel φ es' l ∧
        since = clock ∧ (∀ e ∈ l, e.born < clock) ∧ ll.Perm (l.filter fun e => !(seen.contains e.born)) ∧ EsRel φ left ll ∧ (seen.isEmpty = false → last = clock) ∧
        ∀ k, now = some k → last = clock ∧ ∃ e ∈ l, seen.back? = some e.born ∧ RV φ k e.key)

def BlkAt (φ : Phi) (B : Tree ABlk) (H : Heap) (w : World) (b : Pos) : Option ABlk → Prop
  | some (.cells st cur min len cs) => RowOk φ w b st cur min len cs
  | some (.map _ es) => ∀ n, φ.obj b = some n → MapAt φ w n es
  | some (.iter m ver left now) => ∀ n, φ.obj b = some n → IterAt φ B H w n ver left now m
  | _ => True

def Phi.Im (φ : Phi) (n : Nat) : Prop := (∃ b g L N, φ.cell b g = some (n, L, N)) ∨ ∃ b, φ.obj b = some n
def Phi.Has (φ : Phi) (b : Pos) : Prop := (∃ g x, φ.cell b g = some x) ∨ ∃ n, φ.obj b = some n

def arithZ (op : BinOp) (x y : Int) : Int := match op with
  | .add => IntKind.i64.wrap (x + y)
  | .sub => IntKind.i64.wrap (x - y)
  | .mul => IntKind.i64.wrap (x * y)
  | .quo => IntKind.i64.wrap (x.tdiv y)
  | .rem => x.tmod y
  | _ => 0
/-- The first two of the unknown integers are no 1, the next two no 0; and what comes of two is told. -/
structure Far (st : Nat → Option Int) : Prop where
  one : ∀ {s m}, st s = some m → s < 2 → m ≠ 1
  zero : ∀ {s m}, st s = some m → 2 ≤ s → s < 4 → m ≠ 0
  sym : ∀ {op s s' c m m'}, symOp op s s' = some c → st s = some m → st s' = some m' → st c = some (arithZ op m m')

theorem symOp_of {op : BinOp} {s s' c : Nat} (h : symOp op s s' = some c) : s < 8 ∧ s' < 8 ∧ c < 400 ∧ (op = .add ∨ op = .sub ∨ op = .mul ∨ ((op = .quo ∨ op = .rem) ∧ 2 ≤ s' ∧ s' < 4)) := by
  unfold symOp at h
  cases hi : symIdx op with
  | none => rw [hi] at h; simp at h
  | some i =>
    rw [hi] at h
    simp only at h
    cases hb : (Nat.blt s 8 && Nat.blt s' 8 && (Nat.blt i 3 || (Nat.ble 2 s' && Nat.blt s' 4))) with
    | false => rw [hb] at h; simp at h
    | true =>
      rw [hb] at h
      simp only [Option.some.injEq] at h
      simp only [Bool.and_eq_true, Bool.or_eq_true, Nat.blt_eq, Nat.ble_eq] at hb
      obtain ⟨⟨h1, h2⟩, h3⟩ := hb
      have hi5 : i < 5 := by cases op <;> simp [symIdx] at hi <;> omega
      refine ⟨h1, h2, by omega, ?_⟩
      cases op <;> simp [symIdx] at hi <;> subst hi <;> simp at h3 ⊢
      all_goals exact h3

structure Rel (φ : Phi) (B : Tree ABlk) (H : Heap) (w : World) : Prop where
  blks : ∀ b, BlkAt φ B H w b (blk B H b)
  injC : ∀ {b b' g g' n L N L' N'}, φ.cell b g = some (n, L, N) → φ.cell b' g' = some (n, L', N') → b = b'
  injO : ∀ {b b' n}, φ.obj b = some n → φ.obj b' = some n → b = b'
  apart : ∀ {b b' g n L N}, φ.cell b g = some (n, L, N) → φ.obj b' = some n → False
  mono : ∀ {b g g' n n' L L' N N'}, φ.cell b g = some (n, L, N) → φ.cell b g' = some (n', L', N') → g ≤ g' → L ≤ L'
  LN : ∀ {b g n L N}, φ.cell b g = some (n, L, N) → L ≤ N
  im : ∀ {n}, φ.Im n → n < w.heap.size
  has : ∀ {b}, φ.Has b → b.toNat < H.next.toNat
  stamps : ∀ {s m}, φ.st s = some m → s < H.stamps
  last : ∀ {s b k}, H.last = some (s, b, k) → ∀ {n m}, φ.obj b = some n → φ.st s = some m → ∃ entries clock, w.heap[n]? = some (.map entries clock) ∧
    ∃ e ∈ entries.toList, (e.born : Int) = m ∧ RV φ k e.key
  far : Far φ.st

/-- From one world to a later one: what a piece of code may do. Below 'bd' only blocks of φ's turn. -/
structure Step (bd : Nat) (φ : Phi) (nx : Nat) (w : World) (φ' : Phi) (w' : World) : Prop where
  sub : Sub φ φ'
  os : w'.os = w.os
  tape : w'.tape = w.tape
  output : w'.output = w.output
  size : w.heap.size ≤ w'.heap.size
  frame : ∀ n, n < bd → ¬ φ.Im n → w'.heap[n]? = w.heap[n]?
  ext : ∀ n, φ'.Im n → n < bd → φ.Im n
  grow : ∀ b, φ'.Has b → φ.Has b ∨ nx ≤ b.toNat

theorem Step.refl (bd : Nat) (φ : Phi) (nx : Nat) (w : World) : Step bd φ nx w φ w :=
  ⟨Sub.refl φ, rfl, rfl, rfl, Nat.le_refl _, fun _ _ _ => rfl, fun _ h _ => h, fun _ h => .inl h⟩

theorem Step.trans {bd nx nx' : Nat} {φ φ₁ φ₂ : Phi} {w w₁ w₂ : World} (h : Step bd φ nx w φ₁ w₁) (hn : nx ≤ nx') (k : Step bd φ₁ nx' w₁ φ₂ w₂) : Step bd φ nx w φ₂ w₂ where
  sub := h.sub.trans k.sub
  os := k.os.trans h.os
  tape := k.tape.trans h.tape
  output := k.output.trans h.output
  size := Nat.le_trans h.size k.size
  frame n hn hi := (k.frame n hn fun hi' => hi (h.ext n hi' hn)).trans (h.frame n hn hi)
  ext n hi hn := h.ext n (k.ext n hi hn) hn
  grow b hb := by
    rcases k.grow b hb with h' | h'
    · exact h.grow b h'
    · exact .inr (Nat.le_trans hn h')

theorem Step.mono {bd bd' nx : Nat} {φ φ' : Phi} {w w' : World} (h : Step bd φ nx w φ' w') (hb : bd' ≤ bd) : Step bd' φ nx w φ' w' :=
  { h with frame := fun n hn hi => h.frame n (Nat.lt_of_lt_of_le hn hb) hi, ext := fun n hi hn => h.ext n hi (Nat.lt_of_lt_of_le hn hb) }

theorem EsRel.mono {φ φ' : Phi} (h : Sub φ φ') : ∀ {es : List (AV × AV)} {l : List MapEntry}, EsRel φ es l → EsRel φ' es l
  | [], _, r => r
  | _ :: _, _, r => by simp only [EsRel] at *; obtain ⟨e, l', rfl, a, b, c⟩ := r; exact ⟨e, l', rfl, RV.mono h a, RV.mono h b, EsRel.mono h c⟩

theorem CellsAt.mono {φ φ' : Phi} (h : Sub φ φ') {w w' : World} {n L N : Nat} {st : Bool} {cs : List AV} (hw : w'.heap[n]? = w.heap[n]?) (r : CellsAt φ w n L N st cs) : CellsAt φ' w' n L N st cs := by
  obtain ⟨c, elem, lo, hi, h1, h2, h3, h4, h5, h6⟩ := r
  refine ⟨c, elem, lo, hi, hw.trans h1, h2, h3, h4, h5, fun j hj => ?_⟩
  obtain ⟨x, u, a, b, c, d⟩ := h6 j hj
  exact ⟨x, u, a, b, c, RV.mono h d⟩

theorem MapAt.mono {φ φ' : Phi} (h : Sub φ φ') {w w' : World} {n : Nat} {es : List (AV × AV)} (hw : w'.heap[n]? = w.heap[n]?) (r : MapAt φ w n es) : MapAt φ' w' n es := by
  obtain ⟨en, cl, l, h1, h2, h3, h4, h5, h6⟩ := r
  exact ⟨en, cl, l, hw.trans h1, h2, h3.mono h, h4, h5, h6⟩

/-- What a change lets be: a block, where it lies, and the map that an iterator goes over (or that map is a later one). -/
theorem BlkAt.keep {φ φ' : Phi} {B B' : Tree ABlk} {H H' : Heap} {w w' : World} {b : Pos} {x : Option ABlk} (h : BlkAt φ B H w b x) (hs : Sub φ φ')
    (hc : ∀ g y, φ'.cell b g = some y → φ.cell b g = some y) (ho : ∀ n, φ'.obj b = some n → φ.obj b = some n)
    (hw : ∀ n, ((∃ g L N, φ.cell b g = some (n, L, N)) ∨ φ.obj b = some n) → w'.heap[n]? = w.heap[n]?)
    (hm : ∀ mb nm, φ.obj mb = some nm → ∀ ver es, blk B' H' mb = some (.map ver es) →
      (blk B H mb = some (.map ver es) ∧ w'.heap[nm]? = w.heap[nm]?) ∨ ∃ ver' es', blk B H mb = some (.map ver' es') ∧ ver' < ver) : BlkAt φ' B' H' w' b x := by
  cases x with
  | none => trivial
  | some x =>
    cases x with
    | dead => trivial
    | cells st cur min len cs =>
      refine ⟨h.length, h.minle, fun {g n L N} hg => ?_⟩
      have hg' := hc g _ hg
      obtain ⟨h1, h2, h3, h4⟩ := h.gens hg'
      exact ⟨h1, h2, h3, fun hm => (h4 hm).mono hs (hw n (.inl ⟨g, L, N, hg'⟩))⟩
    | map ver es => exact fun n hn => (h n (ho n hn)).mono hs (hw n (.inr (ho n hn)))
    | iter m ver left now =>
      intro n hn
      have hn' := ho n hn
      have hi := h n hn'
      have hwn := hw n (.inr hn')
      cases m with
      | none =>
        obtain ⟨⟨s, sn, ls, h1⟩, h2⟩ := hi
        exact ⟨⟨s, sn, ls, hwn.trans h1⟩, h2⟩
      | some mb =>
        obtain ⟨nm, s, sn, ls, h1, h2, h3⟩ := hi
        refine ⟨nm, s, sn, ls, hs.obj h1, hwn.trans h2, fun ver' es' hb => ?_⟩
        rcases hm mb nm h1 ver' es' hb with ⟨hb', hwm⟩ | ⟨v₀, e₀, hb', hlt⟩
        · obtain ⟨h4, h5⟩ := h3 ver' es' hb'
          refine ⟨h4, fun e => ?_⟩
          obtain ⟨en, cl, l, ll, a1, a2, a3, a4, a5, a6, a7, a8, a9⟩ := h5 e
          exact ⟨en, cl, l, ll, hwm.trans a1, a2, a3.mono hs, a4, a5, a6, a7.mono hs, a8, fun k hk => by
            obtain ⟨c1, e1, c2, c3, c4⟩ := a9 k hk
            exact ⟨c1, e1, c2, c3, RV.mono hs c4⟩⟩
        · obtain ⟨h4, _⟩ := h3 v₀ e₀ hb'
          exact ⟨by omega, fun e => by omega⟩

/-- A world that is as it was at the blocks that φ speaks of. -/
theorem Rel.same {φ : Phi} {B : Tree ABlk} {H : Heap} {w w' : World} (h : Rel φ B H w) (hs : w.heap.size ≤ w'.heap.size) (hw : ∀ n, φ.Im n → w'.heap[n]? = w.heap[n]?) : Rel φ B H w' where
  blks b := (h.blks b).keep (Sub.refl φ) (fun _ _ x => x) (fun _ x => x) (fun n hn => hw n (hn.elim (fun ⟨g, L, N, hg⟩ => .inl ⟨b, g, L, N, hg⟩) (fun hn => .inr ⟨b, hn⟩)))
    (fun mb nm hnm ver es hb => .inl ⟨hb, hw nm (.inr ⟨mb, hnm⟩)⟩)
  injC := h.injC
  injO := h.injO
  apart := h.apart
  mono := h.mono
  LN := h.LN
  im hi := Nat.lt_of_lt_of_le (h.im hi) hs
  has := h.has
  stamps := h.stamps
  far := h.far
  last hl n m hn hm := by
    obtain ⟨en, cl, h1, h2⟩ := h.last hl hn hm
    exact ⟨en, cl, (hw n (.inr ⟨_, hn⟩)).trans h1, h2⟩

theorem RVs.of_get {φ : Phi} : ∀ {cs : List AV} {us : List Value}, cs.length = us.length → (∀ (j : Nat) x u, cs[j]? = some x → us[j]? = some u → RV φ x u) → RVs φ cs us
  | [], [], _, _ => by simp [RVs]
  | [], _ :: _, h, _ => by simp at h
  | _ :: _, [], h, _ => by simp at h
  | c :: cs, u :: us, h, r => by
    simp only [RVs]
    exact ⟨u, us, rfl, r 0 c u (by simp) (by simp), RVs.of_get (by simpa using h) fun j x v hx hv => r (j + 1) x v (by simpa using hx) (by simpa using hv)⟩

/-- A row's cells, from a place on. -/
theorem CellsAt.part {φ : Phi} {w : World} {n L N : Nat} {st : Bool} {cs : List AV} (h : CellsAt φ w n L N st cs) {off k : Nat} (hk : off + k ≤ L) :
    ∃ us : List Value, RVs φ ((cs.drop off).take k) us ∧ us.length = k ∧ (∀ c ∈ (cs.drop off).take k, c.isCell = true) ∧ ∀ P : Program, (loadCells ⟨n, off, none⟩ k).run P w = .ok us.toArray w := by
  obtain ⟨c, elem, lo, hi, h1, h2, h3, h4, h5, h6⟩ := h
  have hlen : ((c.toList.drop off).take k).length = k := by
    simp only [List.length_take, List.length_drop, Array.length_toList]; omega
  have hcs : L ≤ cs.length := by
    rcases Nat.lt_or_ge cs.length L with hlt | hge
    · obtain ⟨x, u, hx, _⟩ := h6 cs.length hlt
      simp at hx
    · exact hge
  have hlen' : ((cs.drop off).take k).length = k := by
    simp only [List.length_take, List.length_drop]; omega
  have key : ∀ (j : Nat) x, ((cs.drop off).take k)[j]? = some x → ∃ u, c[off + j]? = some u ∧ x.isCell = true ∧ RV φ x u := by
    intro j x hx
    have hj : j < k := by
      rcases Nat.lt_or_ge j k with h' | h'
      · exact h'
      · rw [List.getElem?_eq_none (by omega)] at hx; simp at hx
    rw [List.getElem?_take, if_pos hj, List.getElem?_drop] at hx
    obtain ⟨y, u, a1, a2, a3, a4⟩ := h6 (off + j) (by omega)
    rw [hx] at a1
    obtain rfl := Option.some.inj a1
    exact ⟨u, a2, a3, a4⟩
  have hus : ∀ (j : Nat) u, ((c.toList.drop off).take k)[j]? = some u → c[off + j]? = some u := by
    intro j u hu
    have hj : j < k := by
      rcases Nat.lt_or_ge j k with h' | h'
      · exact h'
      · rw [List.getElem?_eq_none (by omega)] at hu; simp at hu
    rw [List.getElem?_take, if_pos hj, List.getElem?_drop] at hu
    simpa using hu
  refine ⟨(c.toList.drop off).take k, RVs.of_get (by rw [hlen, hlen']) fun j x u hx hu => ?_, hlen, fun x hx => ?_, fun P => ?_⟩
  · obtain ⟨u', a1, _, a3⟩ := key j x hx
    have := hus j u hu
    rw [a1] at this
    obtain rfl := Option.some.inj this
    exact a3
  · obtain ⟨j, hj⟩ := List.getElem?_of_mem hx
    obtain ⟨_, _, a2, _⟩ := key j x hj
    exact a2
  · have := run_loadRow P h1 ((c.toList.drop off).take k) (o := off) hus
    rw [hlen] at this
    exact this

/-- Cells that are read. -/
theorem Rel.read {φ : Phi} {B : Tree ABlk} {H : Heap} {w : World} (h : Rel φ B H w) {b : Pos} {g off k n L N : Nat} {cs : List AV} (hr : readCells B H b g off k = some cs) (hc : φ.cell b g = some (n, L, N)) (hk : off + k ≤ L) :
    ∃ us : List Value, RVs φ cs us ∧ us.length = k ∧ (∀ c ∈ cs, c.isCell = true) ∧ ∀ P : Program, (loadCells ⟨n, off, none⟩ k).run P w = .ok us.toArray w := by
  unfold readCells at hr
  have hb := h.blks b
  cases hx : blk B H b with
  | none => rw [hx] at hr; simp at hr
  | some x =>
    rw [hx] at hr hb
    cases x with
    | cells st cur min len l =>
      simp only at hr
      cases hm : Nat.ble min g with
      | false => rw [hm] at hr; simp at hr
      | true =>
        rw [hm] at hr
        simp only [Option.some.injEq] at hr
        subst hr
        obtain ⟨_, _, _, h4⟩ := RowOk.gens hb hc
        exact (h4 (Nat.le_of_ble_eq_true hm)).part hk
    | map _ _ => simp at hr
    | iter _ _ _ _ => simp at hr
    | dead => simp at hr

end Go.AM

/- Changes of the heap that keep the relation. -/
namespace Go.AM
open Go

/-- One block (b) turns, or is new. -/
theorem Rel.extend {φ φ' : Phi} {B : Tree ABlk} {H H' : Heap} {w w' : World} (h : Rel φ B H w) (b : Pos) (hs : Sub φ φ')
    (hnx : H.next.toNat ≤ H'.next.toNat)
    (hblk : ∀ b', b' ≠ b → blk B H' b' = blk B H b')
    (hcell : ∀ b' g y, b' ≠ b → φ'.cell b' g = some y → φ.cell b' g = some y)
    (hobj : ∀ b' n, b' ≠ b → φ'.obj b' = some n → φ.obj b' = some n)
    (hw : ∀ n, φ.Im n → (∀ g L N, φ.cell b g ≠ some (n, L, N)) → φ.obj b ≠ some n → w'.heap[n]? = w.heap[n]?)
    (hsz : w.heap.size ≤ w'.heap.size)
    (hnew : BlkAt φ' B H' w' b (blk B H' b))
    (hver : ∀ nm, φ.obj b = some nm → ∀ ver es, blk B H' b = some (.map ver es) →
      (blk B H b = some (.map ver es) ∧ w'.heap[nm]? = w.heap[nm]?) ∨ ∃ ver' es', blk B H b = some (.map ver' es') ∧ ver' < ver)
    (hown : ∀ n, ((∃ g L N, φ'.cell b g = some (n, L, N)) ∨ φ'.obj b = some n) → n < w'.heap.size ∧ ((∃ g L N, φ.cell b g = some (n, L, N)) ∨ φ.obj b = some n ∨ ¬ φ.Im n))
    (hkind : ∀ g n L N, φ'.cell b g = some (n, L, N) → φ'.obj b ≠ some n)
    (hmono : ∀ {g g' n n' L L' N N'}, φ'.cell b g = some (n, L, N) → φ'.cell b g' = some (n', L', N') → g ≤ g' → L ≤ L')
    (hLN : ∀ {g n L N}, φ'.cell b g = some (n, L, N) → L ≤ N)
    (hhas : b.toNat < H'.next.toNat)
    (hstamps : ∀ {s m}, φ'.st s = some m → s < H'.stamps)
    (hlast : ∀ {s b k}, H'.last = some (s, b, k) → ∀ {n m}, φ'.obj b = some n → φ'.st s = some m → ∃ entries clock, w'.heap[n]? = some (.map entries clock) ∧
      ∃ e ∈ entries.toList, (e.born : Int) = m ∧ RV φ' k e.key) (hfar : Far φ'.st) : Rel φ' B H' w' := by
  -- whose a block of the machine's is
  have own : ∀ {b' n}, b' ≠ b → ((∃ g L N, φ.cell b' g = some (n, L, N)) ∨ φ.obj b' = some n) → (∀ g L N, φ.cell b g ≠ some (n, L, N)) ∧ φ.obj b ≠ some n := by
    intro b' n hne hn
    rcases hn with ⟨g, L, N, hg⟩ | hn
    · exact ⟨fun g' L' N' hg' => hne (h.injC hg hg'), fun ho => h.apart hg ho⟩
    · exact ⟨fun g' L' N' hg' => h.apart hg' hn, fun ho => hne (h.injO hn ho)⟩
  have im : ∀ {b' n}, ((∃ g L N, φ.cell b' g = some (n, L, N)) ∨ φ.obj b' = some n) → φ.Im n := by
    intro b' n hn
    rcases hn with ⟨g, L, N, hg⟩ | hn
    · exact .inl ⟨b', g, L, N, hg⟩
    · exact .inr ⟨b', hn⟩
  -- a block of the machine's that is b's behind the change is b's own, or nobody's, ahead of it
  have alien : ∀ {b' n}, b' ≠ b → ((∃ g L N, φ.cell b' g = some (n, L, N)) ∨ φ.obj b' = some n) → ((∃ g L N, φ'.cell b g = some (n, L, N)) ∨ φ'.obj b = some n) → False := by
    intro b' n hne hn hn'
    obtain ⟨o1, o2⟩ := own hne hn
    rcases (hown n hn').2 with ⟨g, L, N, hg⟩ | ho | hi
    · exact o1 g L N hg
    · exact o2 ho
    · exact hi (im hn)
  have old : ∀ {b' n}, b' ≠ b → ((∃ g L N, φ'.cell b' g = some (n, L, N)) ∨ φ'.obj b' = some n) → ((∃ g L N, φ.cell b' g = some (n, L, N)) ∨ φ.obj b' = some n) := by
    intro b' n hne hn
    rcases hn with ⟨g, L, N, hg⟩ | hn
    · exact .inl ⟨g, L, N, hcell b' g _ hne hg⟩
    · exact .inr (hobj b' n hne hn)
  refine ⟨fun b' => ?_, ?_, ?_, ?_, ?_, ?_, ?_, ?_, hstamps, hlast, hfar⟩
  · by_cases hne : b' = b
    · rw [hne]; exact hnew
    · rw [hblk b' hne]
      refine (h.blks b').keep hs (fun g y hy => hcell b' g y hne hy) (fun n hn => hobj b' n hne hn) (fun n hn => ?_) (fun mb nm hnm ver es hb => ?_)
      · obtain ⟨o1, o2⟩ := own hne hn
        exact hw n (im hn) o1 o2
      · by_cases hmb : mb = b
        · subst hmb; exact hver nm hnm ver es hb
        · rw [hblk mb hmb] at hb
          obtain ⟨o1, o2⟩ := own hmb (.inr hnm)
          exact .inl ⟨hb, hw nm (.inr ⟨mb, hnm⟩) o1 o2⟩
  · intro b₁ b₂ g g' n L N L' N' h1 h2
    by_cases e1 : b₁ = b
    · by_cases e2 : b₂ = b
      · rw [e1, e2]
      · subst e1; exact (alien e2 (old e2 (.inl ⟨_, _, _, h2⟩)) (.inl ⟨_, _, _, h1⟩)).elim
    · by_cases e2 : b₂ = b
      · subst e2; exact (alien e1 (old e1 (.inl ⟨_, _, _, h1⟩)) (.inl ⟨_, _, _, h2⟩)).elim
      · exact h.injC (hcell _ _ _ e1 h1) (hcell _ _ _ e2 h2)
  · intro b₁ b₂ n h1 h2
    by_cases e1 : b₁ = b
    · by_cases e2 : b₂ = b
      · rw [e1, e2]
      · subst e1; exact (alien e2 (old e2 (.inr h2)) (.inr h1)).elim
    · by_cases e2 : b₂ = b
      · subst e2; exact (alien e1 (old e1 (.inr h1)) (.inr h2)).elim
      · exact h.injO (hobj _ _ e1 h1) (hobj _ _ e2 h2)
  · intro b₁ b₂ g n L N h1 h2
    by_cases e1 : b₁ = b
    · by_cases e2 : b₂ = b
      · subst e1; rw [e2] at h2; exact hkind _ _ _ _ h1 h2
      · subst e1; exact alien e2 (old e2 (.inr h2)) (.inl ⟨_, _, _, h1⟩)
    · by_cases e2 : b₂ = b
      · subst e2; exact alien e1 (old e1 (.inl ⟨_, _, _, h1⟩)) (.inr h2)
      · exact h.apart (hcell _ _ _ e1 h1) (hobj _ _ e2 h2)
  · intro b₁ g g' n n' L L' N N' h1 h2 hle
    by_cases e1 : b₁ = b
    · subst e1; exact hmono h1 h2 hle
    · exact h.mono (hcell _ _ _ e1 h1) (hcell _ _ _ e1 h2) hle
  · intro b₁ g n L N h1
    by_cases e1 : b₁ = b
    · subst e1; exact hLN h1
    · exact h.LN (hcell _ _ _ e1 h1)
  · intro n hn
    rcases hn with ⟨b₁, g, L, N, hg⟩ | ⟨b₁, hn⟩
    · by_cases e1 : b₁ = b
      · subst e1; exact (hown n (.inl ⟨g, L, N, hg⟩)).1
      · exact Nat.lt_of_lt_of_le (h.im (.inl ⟨b₁, g, L, N, hcell _ _ _ e1 hg⟩)) hsz
    · by_cases e1 : b₁ = b
      · subst e1; exact (hown n (.inr hn)).1
      · exact Nat.lt_of_lt_of_le (h.im (.inr ⟨b₁, hobj _ _ e1 hn⟩)) hsz
  · intro b₁ hb
    by_cases e1 : b₁ = b
    · subst e1; exact hhas
    · refine Nat.lt_of_lt_of_le (h.has ?_) hnx
      rcases hb with ⟨g, x, hg⟩ | ⟨n, hn⟩
      · exact .inl ⟨g, x, hcell _ _ _ e1 hg⟩
      · exact .inr ⟨n, hobj _ _ e1 hn⟩
end Go.AM

/- Cells that are written; new blocks. -/
namespace Go.AM
open Go

theorem splice_length (vs : List AV) : ∀ (o : Nat) (cs : List AV), o + vs.length ≤ cs.length → (splice vs o cs).length = cs.length
  | 0, cs, h => by simp [splice]; omega
  | o + 1, [], h => by simp at h
  | o + 1, c :: cs, h => by
    simp only [splice, List.length_cons] at *
    rw [splice_length vs o cs (by omega)]

theorem splice_get (vs : List AV) : ∀ (o : Nat) (cs : List AV) (j : Nat), o + vs.length ≤ cs.length →
    (splice vs o cs)[j]? = if o ≤ j ∧ j < o + vs.length then vs[j - o]? else cs[j]?
  | 0, cs, j, h => by
    simp only [splice, Nat.zero_add, Nat.zero_le, true_and, Nat.sub_zero]
    by_cases hj : j < vs.length
    · rw [if_pos hj, List.getElem?_append_left hj]
    · rw [if_neg hj, List.getElem?_append_right (by omega), List.getElem?_drop]
      congr 1; omega
  | o + 1, [], _, h => by simp at h
  | o + 1, c :: cs, 0, h => by simp [splice]
  | o + 1, c :: cs, j + 1, h => by
    simp only [splice, List.length_cons, List.getElem?_cons_succ] at *
    rw [splice_get vs o cs j (by omega)]
    by_cases hj : o ≤ j ∧ j < o + vs.length
    · rw [if_pos hj, if_pos (by omega)]; congr 1; omega
    · rw [if_neg hj, if_neg (by omega)]

theorem blk_setBlk_same (B : Tree ABlk) (H : Heap) (b : Pos) (x : ABlk) : blk B (setBlk H b x) b = some x := by
  simp [blk, setBlk, onHeap, Tree.get_set_same]
theorem blk_setBlk_ne (B : Tree ABlk) (H : Heap) (b b' : Pos) (x : ABlk) (h : b' ≠ b) : blk B (setBlk H b x) b' = blk B H b' := by
  simp only [blk, setBlk, onHeap]; rw [Tree.get_set_ne _ _ _ _ h]
theorem blk_newBlk_same (B : Tree ABlk) (H : Heap) (x : ABlk) : blk B (newBlk x H) H.next = some x := by
  simp [blk, newBlk, onHeap, Tree.get_set_same]
theorem blk_newBlk_ne (B : Tree ABlk) (H : Heap) (b' : Pos) (x : ABlk) (h : b' ≠ H.next) : blk B (newBlk x H) b' = blk B H b' := by
  simp only [blk, newBlk, onHeap]; rw [Tree.get_set_ne _ _ _ _ h]

theorem oneCell_of {φ : Phi} : ∀ {vs : List AV} {us : List Value}, RVs φ vs us → (∀ c ∈ vs, c.isCell = true) → ∀ u ∈ us, u.oneCell' = true
  | [], us, h, _, u, hu => by simp only [RVs] at h; subst h; simp at hu
  | v :: vs, us, h, hc, u, hu => by
    simp only [RVs] at h
    obtain ⟨x, us', rfl, r, q⟩ := h
    rcases List.mem_cons.1 hu with rfl | hu
    · obtain ⟨_, h1, h2⟩ := RV.oneCell r (hc v (by simp))
      cases u <;> first | rfl | exact absurd rfl (h1 _) | exact absurd rfl (h2 _)
    · exact oneCell_of q (fun c hc' => hc c (by simp [hc'])) u hu

theorem Rel.write {φ : Phi} {B : Tree ABlk} {H H' : Heap} {w : World} (h : Rel φ B H w) {b : Pos} {g off n L N : Nat} {vs : List AV} {us : List Value} (hr : writeCells B H b g off vs = some H') (hc : φ.cell b g = some (n, L, N))
    (hv : RVs φ vs us) (hcell : ∀ c ∈ vs, c.isCell = true) (bd nx : Nat) (P : Program) :
    ∃ w', (storeCells ⟨n, off, none⟩ us 0).run P w = .ok () w' ∧ Rel φ B H' w' ∧ Step bd φ nx w φ w' ∧ H'.next = H.next := by
  cases vs with
  | nil =>
    simp only [RVs] at hv
    subst hv
    simp only [writeCells, Option.some.injEq] at hr
    subst hr
    exact ⟨w, rfl, h, Step.refl _ _ _ _, rfl⟩
  | cons v vs =>
    simp only [writeCells, writeRow] at hr
    have hb := h.blks b
    cases hx : blk B H b with
    | none => rw [hx] at hr; simp at hr
    | some x =>
      rw [hx] at hr hb
      cases x with
      | map _ _ => simp at hr
      | iter _ _ _ _ => simp at hr
      | dead => simp at hr
      | cells st cur min len cs =>
        simp only at hr
        cases hm : (Nat.beq cur g && Nat.ble (off + (v :: vs).length) len) with
        | false => rw [hm] at hr; simp at hr
        | true =>
          rw [hm] at hr
          simp only [Option.some.injEq] at hr
          subst hr
          simp only [Bool.and_eq_true] at hm
          obtain ⟨hm1, hm2⟩ := hm
          have hcur : cur = g := Nat.eq_of_beq_eq_true hm1
          have hle : off + (v :: vs).length ≤ len := Nat.le_of_ble_eq_true hm2
          subst hcur
          have hlen : cs.length = len := RowOk.length hb
          obtain ⟨_, hL, _, hat⟩ := RowOk.gens hb hc
          have hL := hL rfl
          subst hL
          have hmin : min ≤ cur := RowOk.minle hb
          obtain ⟨c, elem, lo, hi, h1, h2, h3, h4, h5, h6⟩ := hat hmin
          have hul : us.length = (v :: vs).length := RVs.length hv
          obtain ⟨c', w', hrun, honly, hrow, hsz, hdr, hj⟩ := run_storeRow P n off elem (lo, hi) us 0 c w h1 (by omega) (by rw [h2]; exact h4) (oneCell_of hv hcell)
          have honly' : ∀ n', n' ≠ n → w'.heap[n']? = w.heap[n']? := honly.other
          refine ⟨w', hrun, ?_, ⟨Sub.refl φ, honly.os, honly.tape, honly.output, Nat.le_of_eq honly.size.symm, fun n' _ hi' => honly' n' (fun e => hi' (e ▸ .inl ⟨b, cur, _, _, hc⟩)), fun _ h _ => h, fun _ h => .inl h⟩, rfl⟩
          refine h.extend b (Sub.refl φ) (Nat.le_refl _) (fun b' hne => blk_setBlk_ne _ _ _ _ _ hne) (fun _ _ _ _ x => x) (fun _ _ _ x => x)
            (fun n' _ hn' _ => honly' n' (fun e => hn' cur _ _ (e ▸ hc))) (Nat.le_of_eq honly.size.symm) ?_ ?_ ?_ (fun g n L N h1 h2 => h.apart h1 h2) (fun a b c => h.mono a b c) (fun a => h.LN a)
            (h.has (.inl ⟨cur, _, hc⟩)) (fun hs => h.stamps hs) ?_ h.far
          · rw [blk_setBlk_same]
            refine ⟨?_, Nat.le_refl _, fun {g' n' L' N'} hg' => ?_⟩
            · rw [splice_length _ _ _ (by rw [hlen]; exact hle), hlen]
            · obtain ⟨g1, g2, g3, _⟩ := RowOk.gens hb hg'
              refine ⟨g1, g2, g3, fun hge => ?_⟩
              have : g' = cur := by omega
              subst this
              rw [hc] at hg'
              simp only [Option.some.injEq, Prod.mk.injEq] at hg'
              obtain ⟨rfl, rfl, rfl⟩ := hg'
              refine ⟨c', elem, lo, hi, hrow, hsz.trans h2, h3, h4, h5, fun j hlt => ?_⟩
              rw [splice_get _ _ _ _ (by rw [hlen]; exact hle), hj j, hul, Nat.add_zero]
              by_cases hin : off ≤ j ∧ j < off + (v :: vs).length
              · rw [if_pos hin, if_pos hin]
                have hlt' : j - off < (v :: vs).length := by omega
                obtain ⟨u, hu, hru⟩ := RVs.get (j - off) hv (List.getElem?_eq_getElem hlt')
                exact ⟨_, u, List.getElem?_eq_getElem hlt', hu, hcell _ (List.getElem_mem _), hru⟩
              · rw [if_neg hin, if_neg hin]
                exact h6 j hlt
          · intro nm hnm ver es hb'
            rw [blk_setBlk_same] at hb'
            simp at hb'
          · intro n' hn'
            refine ⟨?_, ?_⟩
            · rw [honly.size]
              exact h.im (hn'.elim (fun ⟨g, L, N, hg⟩ => .inl ⟨b, g, L, N, hg⟩) (fun ho => .inr ⟨b, ho⟩))
            · exact hn'.elim (fun x => .inl x) (fun x => .inr (.inl x))
          · intro s b' k hl n' m hn' hm'
            obtain ⟨en, cl, e1, e2⟩ := h.last (s := s) (b := b') (k := k) hl hn' hm'
            exact ⟨en, cl, (honly' n' (fun e => h.apart hc (e ▸ hn'))).trans e1, e2⟩
def Phi.withCell (φ : Phi) (b : Pos) (g : Nat) (y : Nat × Nat × Nat) : Phi := { φ with cell := fun b' g' => if b' = b ∧ g' = g then some y else φ.cell b' g' }
def Phi.withObj (φ : Phi) (b : Pos) (n : Nat) : Phi := { φ with obj := fun b' => if b' = b then some n else φ.obj b' }

theorem Phi.cell_withCell (φ : Phi) (b : Pos) (g : Nat) (y : Nat × Nat × Nat) : (φ.withCell b g y).cell b g = some y := by simp [Phi.withCell]
theorem Phi.obj_withObj (φ : Phi) (b : Pos) (n : Nat) : (φ.withObj b n).obj b = some n := by simp [Phi.withObj]

theorem Rel.cell_new {φ : Phi} {B : Tree ABlk} {H : Heap} {w : World} (h : Rel φ B H w) (g : Nat) : φ.cell H.next g = none := by
  cases hx : φ.cell H.next g with
  | none => rfl
  | some y => exact absurd (h.has (.inl ⟨g, y, hx⟩)) (Nat.lt_irrefl _)
theorem Rel.obj_new {φ : Phi} {B : Tree ABlk} {H : Heap} {w : World} (h : Rel φ B H w) : φ.obj H.next = none := by
  cases hx : φ.obj H.next with
  | none => rfl
  | some y => exact absurd (h.has (.inr ⟨y, hx⟩)) (Nat.lt_irrefl _)

theorem next_newBlk (x : ABlk) (H : Heap) : (newBlk x H).next = H.next.succ := rfl
theorem stamps_newBlk (x : ABlk) (H : Heap) : (newBlk x H).stamps = H.stamps := rfl
theorem last_newBlk (x : ABlk) (H : Heap) : (newBlk x H).last = H.last := rfl

/-- A world with one block more. -/
structure Grew (w w' : World) (o : Obj) : Prop where
  os : w'.os = w.os
  tape : w'.tape = w.tape
  output : w'.output = w.output
  heap : w'.heap = w.heap.push o

theorem Grew.size {w w' : World} {o : Obj} (h : Grew w w' o) : w'.heap.size = w.heap.size + 1 := by rw [h.heap]; simp
theorem Grew.new {w w' : World} {o : Obj} (h : Grew w w' o) : w'.heap[w.heap.size]? = some o := by rw [h.heap]; simp
theorem Grew.old {w w' : World} {o : Obj} (h : Grew w w' o) {n : Nat} (hn : n < w.heap.size) : w'.heap[n]? = w.heap[n]? := by
  rw [h.heap, Array.getElem?_push]; rw [if_neg (by omega)]
theorem grew_alloc (w : World) (o : Obj) : Grew w (w.alloc o) o := ⟨rfl, rfl, rfl, rfl⟩

/-- A new row: its first cells are told; it may have more. -/
theorem Rel.newRow {φ : Phi} {B : Tree ABlk} {H : Heap} {w w' : World} (h : Rel φ B H w) {vs : List AV} {us : List Value} (hv : RVs φ vs us) (hcell : ∀ c ∈ vs, c.isCell = true)
    (st : Bool) (c : Array Value) (t : TypeId) (lo hi len : Nat) (hlen : vs.length = len) (hle : len ≤ c.size) (hc : ∀ (j : Nat) u, us[j]? = some u → c[j]? = some u)
    (hfz : ∀ j, j < c.size → ¬ (lo ≤ j ∧ j < hi)) (hst : st = false → lo = 0 ∧ hi = 0) (hw : Grew w w' (.cells c t (lo, hi))) (bd : Nat) (hbd : bd ≤ w.heap.size) :
    Rel (φ.withCell H.next 0 (w.heap.size, len, c.size)) B (AM.newRow st len vs H) w' ∧ Step bd φ H.next.toNat w (φ.withCell H.next 0 (w.heap.size, len, c.size)) w' := by
  have hs : Sub φ (φ.withCell H.next 0 (w.heap.size, len, c.size)) := by
    refine ⟨fun {b g x} hx => ?_, fun hx => hx, fun hx => hx⟩
    simp only [Phi.withCell]
    by_cases e : b = H.next ∧ g = 0
    · rw [e.1, h.cell_new] at hx; simp at hx
    · rw [if_neg e]; exact hx
  have hcellinv : ∀ {b' g y}, (φ.withCell H.next 0 (w.heap.size, len, c.size)).cell b' g = some y → (b' = H.next ∧ g = 0 ∧ y = (w.heap.size, len, c.size)) ∨ φ.cell b' g = some y := by
    intro b' g y hy
    simp only [Phi.withCell] at hy
    by_cases e : b' = H.next ∧ g = 0
    · rw [if_pos e] at hy; exact .inl ⟨e.1, e.2, (Option.some.inj hy).symm⟩
    · rw [if_neg e] at hy; exact .inr hy
  have hownc : ∀ {g y}, (φ.withCell H.next 0 (w.heap.size, len, c.size)).cell H.next g = some y → g = 0 ∧ y = (w.heap.size, len, c.size) := by
    intro g y hy
    rcases hcellinv hy with ⟨_, a, b⟩ | hy
    · exact ⟨a, b⟩
    · rw [h.cell_new] at hy; simp at hy
  have hul : us.length = vs.length := RVs.length hv
  refine ⟨?_, ⟨hs, hw.os, hw.tape, hw.output, by rw [hw.size]; omega, fun n hn _ => hw.old (by omega), fun n hn hlt => ?_, fun b hb => ?_⟩⟩
  · refine h.extend H.next hs (by rw [AM.newRow, next_newBlk, Pos.succ_toNat]; omega) (fun b' hne => blk_newBlk_ne _ _ _ _ hne) (fun b' g y hne hy => ?_) (fun _ _ _ x => x)
      (fun n hn _ _ => hw.old (h.im hn)) (by rw [hw.size]; omega) ?_ ?_ ?_ ?_ ?_ ?_ (by rw [AM.newRow, next_newBlk, Pos.succ_toNat]; omega) (fun hm => h.stamps hm) ?_ h.far
    · rcases hcellinv hy with ⟨e, _⟩ | hy
      · exact absurd e hne
      · exact hy
    · rw [AM.newRow, blk_newBlk_same]
      refine ⟨hlen, Nat.le_refl _, fun {g n L N} hg => ?_⟩
      obtain ⟨rfl, e⟩ := hownc hg
      simp only [Prod.mk.injEq] at e
      obtain ⟨rfl, rfl, rfl⟩ := e
      refine ⟨Nat.le_refl _, fun _ => rfl, Nat.le_refl _, fun _ => ⟨c, t, lo, hi, hw.new, rfl, hle, hfz, hst, fun j hj => ?_⟩⟩
      have hj' : j < vs.length := by omega
      obtain ⟨u, hu, hr⟩ := RVs.get j hv (List.getElem?_eq_getElem hj')
      exact ⟨_, u, List.getElem?_eq_getElem hj', hc j u hu, hcell _ (List.getElem_mem _), RV.mono hs hr⟩
    · intro nm hnm
      rw [h.obj_new] at hnm; simp at hnm
    · intro n hn
      rcases hn with ⟨g, L, N, hg⟩ | hn
      · obtain ⟨_, e⟩ := hownc hg
        simp only [Prod.mk.injEq] at e
        obtain ⟨rfl, _, _⟩ := e
        exact ⟨by rw [hw.size]; omega, .inr (.inr fun hi => Nat.lt_irrefl _ (h.im hi))⟩
      · have : φ.obj H.next = some n := hn
        rw [h.obj_new] at this; simp at this
    · intro g n L N hg hn
      have : φ.obj H.next = some n := hn
      rw [h.obj_new] at this; simp at this
    · intro g g' n n' L L' N N' h1 h2 _
      obtain ⟨_, e1⟩ := hownc h1
      obtain ⟨_, e2⟩ := hownc h2
      simp only [Prod.mk.injEq] at e1 e2
      omega
    · intro g n L N h1
      obtain ⟨_, e1⟩ := hownc h1
      simp only [Prod.mk.injEq] at e1
      omega
    · intro s b' k hl n' m hn' hm'
      obtain ⟨en, cl, e1, e, e2, e3, e4⟩ := h.last (s := s) (b := b') (k := k) hl hn' hm'
      exact ⟨en, cl, (hw.old (h.im (.inr ⟨b', hn'⟩))).trans e1, e, e2, e3, RV.mono hs e4⟩
  · rcases hn with ⟨b, g, L, N, hg⟩ | ⟨b, hn⟩
    · rcases hcellinv hg with ⟨_, _, e⟩ | hg
      · simp only [Prod.mk.injEq] at e
        omega
      · exact .inl ⟨b, g, L, N, hg⟩
    · exact .inr ⟨b, hn⟩
  · rcases hb with ⟨g, x, hg⟩ | ⟨n, hn⟩
    · rcases hcellinv hg with ⟨e, _⟩ | hg
      · exact .inr (by rw [e]; exact Nat.le_refl _)
      · exact .inl (.inl ⟨g, x, hg⟩)
    · exact .inl (.inr ⟨n, hn⟩)
end Go.AM

/- Types' rows; constants; what an operation comes to. -/
namespace Go.AM
open Go
variable {P : Program}

theorem info_of {t : TypeId} {i : TypeInfo} (h : infoOf P t = some i) : P.info? t = some i := by
  unfold infoOf typeTree at h
  have := Tree.build_some h
  have h' : P.types[t]? = some i := by simpa using this
  have hlt : t < P.types.size := (Array.getElem?_eq_some_iff.1 h').1
  simp only [Tables.info?, hlt, if_true, h']

theorem under_of {t : TypeId} {d : TypeDesc} (h : underOf P t = some d) : P.underlying t = some d := by
  unfold underOf at h
  cases hi : infoOf P t with
  | none => rw [hi] at h; simp at h
  | some i =>
    rw [hi] at h
    have h1 := info_of hi
    unfold Program.underlying
    rw [h1]
    obtain ⟨desc, str, size, bytes, hp, al, fa, zero, comp, methods⟩ := i
    simp only at h
    cases desc
    case named n u =>
      simp only at h
      cases hu : infoOf P u with
      | none => rw [hu] at h; simp at h
      | some j =>
        rw [hu] at h
        simp only [info_of hu]
        simpa using h
    all_goals simpa using h

theorem size_of {t : TypeId} {n : Nat} (h : sizeOf P t = some n) : ∃ i, P.info? t = some i ∧ i.size = n := by
  unfold sizeOf at h
  cases hi : infoOf P t with
  | none => rw [hi] at h; simp at h
  | some i => rw [hi] at h; exact ⟨i, info_of hi, by simpa using h⟩

theorem run_sizeOf_of {t : TypeId} {n : Nat} (h : sizeOf P t = some n) (w : World) : (Go.sizeOf t).run P w = .ok n w := by
  obtain ⟨i, hi, rfl⟩ := size_of h
  simp [Go.sizeOf, typeInfo, hi]

theorem run_underlying_of {t : TypeId} {d : TypeDesc} (h : underOf P t = some d) (w : World) : (underlying t).run P w = .ok d w := run_underlying (under_of h) w

theorem isAgg_of {t : TypeId} {b : Bool} (h : isAgg P t = some b) (w : World) : (Go.isAgg t).run P w = .ok b w := by
  unfold isAgg at h
  cases hd : underOf P t with
  | none => rw [hd] at h; simp at h
  | some d =>
    rw [hd] at h
    have hr := run_underlying_of hd w
    unfold Go.isAgg
    simp only [Sem.run_bind, hr, Result.andThen_ok]
    cases d <;> simp at h <;> subst h <;> rfl

theorem rvs_map {φ : Phi} (f : Value → AV) (hf : ∀ v, RV φ (f v) v) : ∀ l : List Value, RVs φ (l.map f) l
  | [] => by simp [RVs]
  | v :: l => by simp only [List.map_cons, RVs]; exact ⟨v, l, rfl, hf v, rvs_map f hf l⟩

theorem rv_ofValue (φ : Phi) : ∀ (n : Nat) (v : Value), RV φ (AV.ofValue n v) v
  | 0, v => by simp [AV.ofValue, RV]
  | n + 1, v => by
    cases v with
    | bool b => simp [AV.ofValue, RV]
    | int k m => simp [AV.ofValue, RV]
    | float _ _ => simp [AV.ofValue, RV]
    | complex _ _ _ => simp [AV.ofValue, RV]
    | string s => simp only [AV.ofValue, RV]; exact ⟨s, rfl, rfl⟩
    | pointer a => cases a <;> simp [AV.ofValue, RV]
    | slice a len cap =>
      cases a with
      | some _ => simp [AV.ofValue, RV]
      | none =>
        cases len with
        | succ _ => simp [AV.ofValue, RV]
        | zero => cases cap <;> simp [AV.ofValue, RV]
    | map r => cases r <;> simp [AV.ofValue, RV]
    | chan _ => simp [AV.ofValue, RV]
    | func fn a b =>
      cases fn with
      | func f =>
        simp only [AV.ofValue, RV]
        exact ⟨a.toList, b.toList, by simp, rvs_map _ (rv_ofValue φ n) _, rvs_map _ (rv_ofValue φ n) _⟩
      | _ => simp [AV.ofValue, RV]
    | nilFunc => simp [AV.ofValue, RV]
    | iface t x => simp only [AV.ofValue, RV]; exact ⟨x, rfl, rv_ofValue φ n x⟩
    | nilIface => simp [AV.ofValue, RV]
    | agg cs =>
      simp only [AV.ofValue, aggOf]
      split
      · rename_i hall
        simp only [RV]
        exact ⟨cs.toList, by simp, rvs_map _ (rv_ofValue φ n) _, List.all_eq_true.1 hall⟩
      · simp [RV]
    | tuple vs => simp only [AV.ofValue, RV]; exact ⟨vs.toList, by simp, rvs_map _ (rv_ofValue φ n) _⟩

theorem zero_of {t : TypeId} {z : AV} (h : zeroOf P t = some z) : ∃ v, (∀ w, (zeroValue t).run P w = .ok v w) ∧ z = AV.ofValue 6 v ∧ (P.info? t).bind (·.zero) = some v := by
  unfold zeroOf at h
  cases hi : infoOf P t with
  | none => rw [hi] at h; simp at h
  | some i =>
    rw [hi] at h
    simp only at h
    cases hz : i.zero with
    | none => rw [hz] at h; simp at h
    | some v =>
      rw [hz] at h
      simp only [Option.some.injEq] at h
      refine ⟨v, fun w => ?_, h.symm, by simp [info_of hi, hz]⟩
      simp [zeroValue, typeInfo, info_of hi, hz]

/-- An operation that gives a value. -/
def RanV (P : Program) (s : Sem Value) (bd : Nat) (φ : Phi) (B : Tree ABlk) (H : Heap) (w : World) (v : AV) (H' : Heap) : Prop :=
  ∃ φ' u w', s.run P w = .ok u w' ∧ RV φ' v u ∧ Rel φ' B H' w' ∧ Step bd φ H.next.toNat w φ' w' ∧ H.next.toNat ≤ H'.next.toNat

def Ran (P : Program) (s : Sem Next) (bd : Nat) (φ : Phi) (B : Tree ABlk) (H : Heap) (w : World) (v : AV) (H' : Heap) : Prop :=
  ∃ φ' u w', (s.run P w = .ok (.value u) w' ∨ (s.run P w = .ok .skip w' ∧ u = undef)) ∧ RV φ' v u ∧ Rel φ' B H' w' ∧ Step bd φ H.next.toNat w φ' w' ∧ H.next.toNat ≤ H'.next.toNat

theorem RanV.ran {s : Sem Value} {bd : Nat} {φ : Phi} {B : Tree ABlk} {H H' : Heap} {w : World} {v : AV} (h : RanV P s bd φ B H w v H') : Ran P (do pure (.value (← s))) bd φ B H w v H' := by
  obtain ⟨φ', u, w', hr, r⟩ := h
  exact ⟨φ', u, w', .inl (by simp [hr]), r⟩

theorem RanV.same {s : Sem Value} {bd : Nat} {φ : Phi} {B : Tree ABlk} {H : Heap} {w : World} {v : AV} {u : Value} (h : Rel φ B H w) (hr : s.run P w = .ok u w) (hv : RV φ v u) : RanV P s bd φ B H w v H :=
  ⟨φ, u, w, hr, hv, h, Step.refl _ _ _ _, Nat.le_refl _⟩

end Go.AM

/- Memory operations of the abstract machine do what the model's do. -/
namespace Go.AM
open Go
variable {P : Program} {φ : Phi} {B : Tree ABlk} {H H' : Heap} {w : World} {bd : Nat}

theorem readVar_sound (h : Rel φ B H w) {t : TypeId} {b : Pos} {g off ext n L N : Nat} {v : AV} (hc : φ.cell b g = some (n, L, N)) (he : off + ext ≤ L)
    (hr : readVar P B t H b g off ext = some v) : ∃ u, (loadVar t ⟨n, off, none⟩).run P w = .ok u w ∧ RV φ v u := by
  unfold readVar at hr
  cases ha : isAgg P t with
  | none => rw [ha] at hr; simp at hr
  | some x =>
    rw [ha] at hr
    have hra := isAgg_of ha w
    cases x with
    | true =>
      simp only at hr
      cases hs : sizeOf P t with
      | none => rw [hs] at hr; simp at hr
      | some sz =>
        rw [hs] at hr
        simp only at hr
        cases hl : Nat.ble sz ext with
        | false => rw [hl] at hr; simp at hr
        | true =>
          rw [hl] at hr
          simp only at hr
          cases hq : readCells B H b g off sz with
          | none => rw [hq] at hr; simp at hr
          | some cs =>
            rw [hq] at hr
            simp only [Option.some.injEq] at hr
            subst hr
            have := Nat.le_of_ble_eq_true hl
            obtain ⟨us, h1, h2, h3, h4⟩ := h.read hq hc (by omega)
            refine ⟨.agg us.toArray, ?_, ?_⟩
            · unfold loadVar
              simp only [Sem.run_bind, hra, Result.andThen_ok, if_true, run_sizeOf_of hs w, h4 P]
              rfl
            · simp only [RV]; exact ⟨us, rfl, h1, h3⟩
    | false =>
      simp only at hr
      cases hl : Nat.ble 1 ext with
      | false => rw [hl] at hr; simp at hr
      | true =>
        rw [hl] at hr
        simp only at hr
        have h1e := Nat.le_of_ble_eq_true hl
        cases hq : readCells B H b g off 1 with
        | none => rw [hq] at hr; simp at hr
        | some cs =>
          rw [hq] at hr
          obtain ⟨us, h1, h2, h3, h4⟩ := h.read hq hc (by omega)
          match cs, h1, hr with
          | [c], h1, hr =>
            simp only [Option.some.injEq] at hr
            subst hr
            simp only [RVs] at h1
            obtain ⟨u, us', rfl, hru, rfl⟩ := h1
            refine ⟨u, ?_, hru⟩
            have h5 := h4 P
            unfold loadVar
            simp only [Sem.run_bind, hra, Result.andThen_ok, Bool.false_eq_true, if_false]
            simp only [loadCells, loadCellsFrom, Sem.run_bind] at h5
            have hadd : (⟨n, off, none⟩ : Addr).add 0 = ⟨n, off, none⟩ := rfl
            rw [hadd] at h5
            cases hld : (load ⟨n, off, none⟩).run P w with
            | halt x y => rw [hld] at h5; simp at h5
            | ok x y =>
              rw [hld] at h5
              simp only [Result.andThen_ok, Sem.run_pure, Result.ok.injEq] at h5
              obtain ⟨h6, rfl⟩ := h5
              have : x = u := by
                have := congrArg Array.toList h6
                simpa using this
              rw [this]
          | [], _, hr => simp at hr
          | _ :: _ :: _, _, hr => simp at hr

theorem load_sound (h : Rel φ B H w) {t : TypeId} {a v : AV} {u : Value} (ha : RV φ a u) (hr : doLoad P B t a H = .ok v H') : RanV P (Instr.loadAt t u) bd φ B H w v H' := by
  cases a <;> simp only [doLoad] at hr <;> try (exact R2.noConfusion hr)
  case ptr b g off ext =>
    simp only [RV] at ha
    obtain ⟨n, L, N, hc, he, rfl⟩ := ha
    cases hq : readVar P B t H b g off ext with
    | none => rw [hq] at hr; simp [retn] at hr
    | some x =>
      rw [hq] at hr
      simp only [retn, R2.ok.injEq] at hr
      obtain ⟨rfl, rfl⟩ := hr
      obtain ⟨u, h1, h2⟩ := readVar_sound h hc he hq
      exact RanV.same h (by simp only [Instr.loadAt, Instr.sureAddr, Sem.run_bind, Sem.run_pure, Result.andThen_ok, h1]) h2

theorem store_sound (h : Rel φ B H w) {t : TypeId} {a x v : AV} {u y : Value} (ha : RV φ a u) (hx : RV φ x y) (hr : doStore P B t a x H = .ok v H') :
    ∃ w', (Instr.storeAt t u y).run P w = .ok () w' ∧ v = .undef ∧ Rel φ B H' w' ∧ Step bd φ H.next.toNat w φ w' ∧ H'.next = H.next := by
  cases a <;> simp only [doStore] at hr <;> try (exact R2.noConfusion hr)
  case ptr b g off ext =>
    simp only [RV] at ha
    obtain ⟨n, L, N, hc, he, rfl⟩ := ha
    cases hs : sizeOf P t with
    | none => rw [hs] at hr; simp at hr
    | some sz =>
      rw [hs] at hr
      simp only at hr
      cases hl : (x.stores && Nat.beq x.cells.length sz && Nat.ble sz ext) with
      | false => rw [hl] at hr; simp at hr
      | true =>
        rw [hl] at hr
        simp only at hr
        simp only [Bool.and_eq_true] at hl
        obtain ⟨⟨hl1, hl2⟩, hl3⟩ := hl
        have e2 := Nat.eq_of_beq_eq_true hl2
        obtain ⟨hv1, hv2⟩ := RV.stored hx hl1
        cases hq : writeCells B H b g off x.cells with
        | none => rw [hq] at hr; simp [retu] at hr
        | some H1 =>
          rw [hq] at hr
          simp only [retu, R2.ok.injEq] at hr
          obtain ⟨rfl, rfl⟩ := hr
          obtain ⟨w', h1, h2, h3, h4⟩ := h.write hq hc hv1 hv2 bd H.next.toNat P
          refine ⟨w', ?_, rfl, h2, h3, h4⟩
          have hsz : y.cells.size = sz := by
            have := RVs.length hv1
            rw [e2] at this
            simpa using this
          simp only [Instr.storeAt, Instr.sureAddr, Sem.run_bind, Sem.run_pure, Result.andThen_ok, storeVar, run_sizeOf_of hs w]
          simp [hsz, h1]

theorem rows_of_cells {vs : List AV} {us : List Value} (h : RVs φ vs us) : ∀ (j : Nat) u, us[j]? = some u → us.toArray[j]? = some u := by
  intro j u hu; simpa using hu

/-- A new variable. -/
theorem newVar_sound (h : Rel φ B H w) (hbd : bd ≤ w.heap.size) {x : AV} {y : Value} (hx : RV φ x y) (hs : x.stores = true) (t : TypeId) :
    RanV P (do pure (.pointer (some (← newVar t y)))) bd φ B H w (.ptr H.next 0 0 x.cells.length) (newRow false x.cells.length x.cells H) := by
  obtain ⟨hv1, hv2⟩ := RV.stored hx hs
  have hl := RVs.length hv1
  obtain ⟨h1, h2⟩ := h.newRow hv1 hv2 false y.cells t 0 0 x.cells.length rfl (by rw [← hl]; simp) (fun j u hu => by simpa using hu) (fun j _ => by omega) (fun _ => ⟨rfl, rfl⟩)
    (grew_alloc w (.cells y.cells t)) bd hbd
  refine ⟨_, .pointer (some ⟨w.heap.size, 0, none⟩), w.alloc (.cells y.cells t), ?_, ?_, h1, h2, ?_⟩
  · simp [newVar, newRow, Go.newRow]
  · simp only [RV]; exact ⟨_, _, _, Phi.cell_withCell _ _ _ _, by simp, rfl⟩
  · simp only [AM.newRow, next_newBlk, Pos.succ_toNat]; omega

theorem box_sound (h : Rel φ B H w) (hbd : bd ≤ w.heap.size) {x v : AV} {y : Value} (hx : RV φ x y) (t : TypeId) (hr : doBox x H = .ok v H') : RanV P (Instr.box t y) bd φ B H w v H' := by
  simp only [doBox] at hr
  cases hs : x.stores with
  | false => rw [hs] at hr; simp at hr
  | true =>
    rw [hs] at hr
    simp only [R2.ok.injEq] at hr
    obtain ⟨rfl, rfl⟩ := hr
    exact newVar_sound h hbd hx hs t

theorem alloc_sound (h : Rel φ B H w) (hbd : bd ≤ w.heap.size) {v : AV} (t : TypeId) (hr : doAlloc P t H = .ok v H') : RanV P (Instr.alloc t true (.tuple #[])) bd φ B H w v H' := by
  simp only [doAlloc] at hr
  cases hz : zeroOf P t with
  | none => rw [hz] at hr; simp at hr
  | some z =>
    rw [hz] at hr
    simp only at hr
    cases hs : z.stores with
    | false => rw [hs] at hr; simp at hr
    | true =>
      rw [hs] at hr
      simp only [R2.ok.injEq] at hr
      obtain ⟨rfl, rfl⟩ := hr
      obtain ⟨u, h1, rfl, _⟩ := zero_of hz
      obtain ⟨φ', y, w', a, b⟩ := newVar_sound (P := P) h hbd (rv_ofValue φ 6 u) hs t
      refine ⟨φ', y, w', ?_, b⟩
      simpa [Instr.alloc, h1] using a
end Go.AM

/- Addresses and parts. -/
namespace Go.AM
open Go
variable {P : Program} {φ : Phi} {B : Tree ABlk} {H H' : Heap} {w : World} {bd : Nat}

theorem blt_lt {a b : Nat} (h : Nat.blt a b = true) : a < b := Nat.le_of_ble_eq_true h
theorem int_in {m n : Nat} (h : m < n) : (0 : Int) ≤ Int.ofNat m ∧ Int.ofNat m < (n : Int) := ⟨Int.natCast_nonneg m, Int.ofNat_lt.2 h⟩

theorem fieldSpot_of {fields : Array Field} {i o n : Nat} (h : fieldSpot P fields i = some (o, n)) : ∃ f, fields[i]? = some f ∧ f.offset = o ∧ sizeOf P f.type = some n := by
  unfold fieldSpot at h
  cases hf : fields[i]? with
  | none => rw [hf] at h; simp at h
  | some f =>
    rw [hf] at h
    simp only at h
    cases hs : sizeOf P f.type with
    | none => rw [hs] at h; simp at h
    | some s =>
      rw [hs] at h
      simp only [Option.some.injEq, Prod.mk.injEq] at h
      exact ⟨f, rfl, h.1, by rw [← h.2]; exact hs⟩

theorem fieldAddr_sound (h : Rel φ B H w) {s : TypeId} {f : Nat} {x v : AV} {u : Value} (hx : RV φ x u) (hr : doFieldAddr P s x f H = .ok v H') : RanV P (Instr.fieldAt s u f) bd φ B H w v H' := by
  cases x <;> simp only [doFieldAddr] at hr <;> try (exact R2.noConfusion hr)
  case ptr b g off ext =>
    simp only [RV] at hx
    obtain ⟨n, L, N, hc, he, rfl⟩ := hx
    cases hd : underOf P s with
    | none => rw [hd] at hr; simp at hr
    | some d =>
      rw [hd] at hr
      cases d <;> simp only at hr <;> try (exact R2.noConfusion hr)
      case struct fields =>
        cases hf : fieldSpot P fields f with
        | none => rw [hf] at hr; simp at hr
        | some y =>
          obtain ⟨o, k⟩ := y
          rw [hf] at hr
          cases k with
          | zero => simp at hr
          | succ k =>
            simp only at hr
            cases hl : Nat.ble o ext with
            | false => rw [hl] at hr; simp at hr
            | true =>
              rw [hl] at hr
              simp only [R2.ok.injEq] at hr
              obtain ⟨rfl, rfl⟩ := hr
              have hle := Nat.le_of_ble_eq_true hl
              obtain ⟨fd, h1, rfl, h3⟩ := fieldSpot_of hf
              refine RanV.same h (u := .pointer (some ⟨n, off + fd.offset, none⟩)) ?_ ?_
              · simp [Instr.fieldAt, run_underlying_of hd w, h1, Instr.sureAddr, fieldPlace, run_sizeOf_of h3 w, add_none]
              · simp only [RV]; exact ⟨n, L, N, hc, by omega, rfl⟩

theorem indexAddr_sound (h : Rel φ B H w) {t : TypeId} {x i v : AV} {u j : Value} (hx : RV φ x u) (hi : RV φ i j) (hr : doIndexAddr P t x i H = .ok v H') : RanV P (Instr.indexAt t u j) bd φ B H w v H' := by
  cases i <;> simp only [doIndexAddr] at hr <;> try (exact R2.noConfusion hr)
  case int k m =>
    simp only [RV] at hi
    subst hi
    cases m with
    | negSucc _ => simp at hr
    | ofNat m =>
      simp only at hr
      cases x <;> simp only at hr <;> try (exact R2.noConfusion hr)
      case slice b g off len kc ex sz =>
        simp only [RV] at hx
        obtain ⟨n, L, N, o, cap, hc, rfl, ho, hL, hk, hcap, hex, hN⟩ := hx
        simp only [indexSlice] at hr
        cases hd : underOf P t with
        | none => rw [hd] at hr; simp at hr
        | some d =>
          rw [hd] at hr
          cases d <;> simp only at hr <;> try (exact R2.noConfusion hr)
          case slice elem =>
            cases hs : sizeOf P elem with
            | none => rw [hs] at hr; simp at hr
            | some sz' =>
              rw [hs] at hr
              simp only at hr
              cases hl : (Nat.beq sz sz' && Nat.blt m len) with
              | false => rw [hl] at hr; simp at hr
              | true =>
                rw [hl] at hr
                simp only [R2.ok.injEq] at hr
                obtain ⟨rfl, rfl⟩ := hr
                simp only [Bool.and_eq_true] at hl
                obtain ⟨hl1, hl2⟩ := hl
                have e1 := Nat.eq_of_beq_eq_true hl1
                subst e1
                have hlt : m < len := blt_lt hl2
                have ho' : o = off := by omega
                subst ho'
                refine RanV.same h (u := .pointer (some ⟨n, o + m * sz, none⟩)) ?_ ?_
                · have h0 : (0 : Int) ≤ Int.ofNat m ∧ Int.ofNat m < (len : Int) := int_in hlt
                  simp only [Instr.indexAt, asIntOf, Sem.run_bind, Sem.run_pure, Result.andThen_ok, run_underlying_of hd w, Sem.run_ite, if_pos h0, run_sizeOf_of hs w, add_none]
                  simp
                · simp only [RV]
                  refine ⟨n, L, N, hc, ?_, rfl⟩
                  have : m * sz + (len - m) * sz = len * sz := by rw [← Nat.add_mul]; congr 1; omega
                  omega
      case ptr b g off ext =>
        simp only [RV] at hx
        obtain ⟨n, L, N, hc, he, rfl⟩ := hx
        simp only [indexArr] at hr
        cases hd : underOf P t with
        | none => rw [hd] at hr; simp at hr
        | some d =>
          rw [hd] at hr
          cases d <;> simp only at hr <;> try (exact R2.noConfusion hr)
          case array len elem =>
            cases hs : sizeOf P elem with
            | none => rw [hs] at hr; simp at hr
            | some sz =>
              rw [hs] at hr
              simp only at hr
              cases hl : (Nat.blt m len && Nat.ble (m * sz) ext) with
              | false => rw [hl] at hr; simp at hr
              | true =>
                rw [hl] at hr
                simp only [R2.ok.injEq] at hr
                obtain ⟨rfl, rfl⟩ := hr
                simp only [Bool.and_eq_true] at hl
                obtain ⟨hl1, hl2⟩ := hl
                have hlt : m < len := blt_lt hl1
                have hle := Nat.le_of_ble_eq_true hl2
                refine RanV.same h (u := .pointer (some ⟨n, off + m * sz, none⟩)) ?_ ?_
                · have h0 : (0 : Int) ≤ Int.ofNat m ∧ Int.ofNat m < (len : Int) := int_in hlt
                  simp only [Instr.indexAt, asIntOf, Instr.sureAddr, Sem.run_bind, Sem.run_pure, Result.andThen_ok, run_underlying_of hd w, Sem.run_ite, if_pos h0, run_sizeOf_of hs w, add_none]
                  simp
                · simp only [RV]
                  exact ⟨n, L, N, hc, by omega, rfl⟩

theorem partA_sound {t : TypeId} {cs : List AV} {us : List Value} {off : Nat} {v : AV} (hu : RVs φ cs us) (hcell : ∀ c ∈ cs, c.isCell = true) (hr : partA P t cs off = some v) (w : World) :
    ∃ u, (part t us.toArray off).run P w = .ok u w ∧ RV φ v u := by
  unfold partA at hr
  cases ha : isAgg P t with
  | none => rw [ha] at hr; simp at hr
  | some b =>
    rw [ha] at hr
    have hra := isAgg_of ha w
    cases b with
    | true =>
      simp only at hr
      cases hs : sizeOf P t with
      | none => rw [hs] at hr; simp at hr
      | some sz =>
        rw [hs] at hr
        simp only [Option.some.injEq] at hr
        subst hr
        refine ⟨.agg ((us.drop off).take sz).toArray, ?_, ?_⟩
        · simp only [part, Sem.run_bind, hra, Result.andThen_ok, if_true, run_sizeOf_of hs w, Sem.run_pure]
          congr 2
          apply Array.ext'
          simp [List.extract_eq_take_drop]
        · simp only [RV]
          exact ⟨_, rfl, (hu.drop off).take sz, fun c hc => hcell c (List.mem_of_mem_drop (List.mem_of_mem_take hc))⟩
    | false =>
      simp only at hr
      obtain ⟨u, h1, h2⟩ := RVs.get off hu hr
      exact ⟨u, by simp [part, hra, h1], h2⟩

theorem field_sound (h : Rel φ B H w) {t : TypeId} {f : Nat} {x v : AV} {u : Value} (hx : RV φ x u) (hr : doField P t x f H = .ok v H') : RanV P (Instr.field t u f) bd φ B H w v H' := by
  cases x <;> simp only [doField] at hr <;> try (exact R2.noConfusion hr)
  case agg cs =>
    simp only [RV] at hx
    obtain ⟨us, rfl, h1, h2⟩ := hx
    cases hd : underOf P t with
    | none => rw [hd] at hr; simp at hr
    | some d =>
      rw [hd] at hr
      cases d <;> simp only at hr <;> try (exact R2.noConfusion hr)
      case struct fields =>
        cases hf : fields[f]? with
        | none => rw [hf] at hr; simp at hr
        | some fd =>
          rw [hf] at hr
          simp only at hr
          cases hp : partA P fd.type cs fd.offset with
          | none => rw [hp] at hr; simp [retn] at hr
          | some y =>
            rw [hp] at hr
            simp only [retn, R2.ok.injEq] at hr
            obtain ⟨rfl, rfl⟩ := hr
            obtain ⟨u, h3, h4⟩ := partA_sound h1 h2 hp w
            exact RanV.same h (by simp [Instr.field, run_underlying_of hd w, hf, asAgg, h3]) h4

theorem index_sound (h : Rel φ B H w) {t : TypeId} {x i v : AV} {u j : Value} (hx : RV φ x u) (hi : RV φ i j) (hr : doIndex P t x i H = .ok v H') : RanV P (Instr.index t u j) bd φ B H w v H' := by
  cases i <;> simp only [doIndex] at hr <;> try (exact R2.noConfusion hr)
  case int k m =>
    simp only [RV] at hi
    subst hi
    cases m with
    | negSucc _ => simp at hr
    | ofNat m =>
      simp only at hr
      cases x <;> simp only at hr <;> try (exact R2.noConfusion hr)
      case agg cs =>
        simp only [RV] at hx
        obtain ⟨us, rfl, h1, h2⟩ := hx
        cases hd : underOf P t with
        | none => rw [hd] at hr; simp at hr
        | some d =>
          rw [hd] at hr
          cases d <;> simp only at hr <;> try (exact R2.noConfusion hr)
          case array len elem =>
            cases hs : sizeOf P elem with
            | none => rw [hs] at hr; simp at hr
            | some sz =>
              rw [hs] at hr
              cases hl : Nat.blt m len with
              | false => rw [hl] at hr; simp at hr
              | true =>
                rw [hl] at hr
                simp only at hr
                have hlt : m < len := blt_lt hl
                cases hp : partA P elem cs (m * sz) with
                | none => rw [hp] at hr; simp [retn] at hr
                | some y =>
                  rw [hp] at hr
                  simp only [retn, R2.ok.injEq] at hr
                  obtain ⟨rfl, rfl⟩ := hr
                  obtain ⟨u, h3, h4⟩ := partA_sound h1 h2 hp w
                  have h0 : (0 : Int) ≤ Int.ofNat m ∧ Int.ofNat m < (len : Int) := int_in hlt
                  refine RanV.same h ?_ h4
                  simp only [Instr.index, asIntOf, Sem.run_bind, Sem.run_pure, Result.andThen_ok, run_underlying_of hd w, Sem.run_ite, if_pos h0, run_sizeOf_of hs w]
                  simpa using h3
      case str s =>
        simp only [RV] at hx
        obtain ⟨b, rfl, rfl⟩ := hx
        cases hd : underOf P t with
        | none => rw [hd] at hr; simp at hr
        | some d =>
          rw [hd] at hr
          cases d
          case string =>
            cases hc : (b.data.toList.map UInt8.toNat)[m]? with
            | none => rw [hc] at hr; simp at hr
            | some c =>
              rw [hc] at hr
              simp only [R2.ok.injEq] at hr
              obtain ⟨rfl, rfl⟩ := hr
              simp only [List.getElem?_map, Option.map_eq_some_iff] at hc
              obtain ⟨y, hy, rfl⟩ := hc
              refine RanV.same h (u := .int .u8 y.toNat) ?_ (by simp [RV])
              have hlt : m < b.data.size := by
                have := (List.getElem?_eq_some_iff.1 hy).1
                simpa using this
              have h0 : (0 : Int) ≤ Int.ofNat m := Int.natCast_nonneg m
              have hb : b[m]? = some y := by
                have hsz : m < b.size := hlt
                rw [getElem?_pos b m hsz]
                have := (List.getElem?_eq_some_iff.1 hy).2
                congr 1
              simp only [Instr.index, asIntOf, Sem.run_bind, Sem.run_pure, Result.andThen_ok, run_underlying_of hd w, if_pos h0]
              simp [hb]
          all_goals (simp at hr)

theorem extract_sound (h : Rel φ B H w) {i : Nat} {x v : AV} {u : Value} (hx : RV φ x u) (hr : doExtract x i H = .ok v H') : RanV P (Instr.extract u i) bd φ B H w v H' := by
  cases x <;> simp only [doExtract] at hr <;> try (exact R2.noConfusion hr)
  case tuple vs =>
    simp only [RV] at hx
    obtain ⟨us, rfl, h1⟩ := hx
    cases hv : vs[i]? with
    | none => rw [hv] at hr; simp [retn] at hr
    | some y =>
      rw [hv] at hr
      simp only [retn, R2.ok.injEq] at hr
      obtain ⟨rfl, rfl⟩ := hr
      obtain ⟨u, h2, h3⟩ := RVs.get i h1 hv
      exact RanV.same h (by simp [Instr.extract, h2]) h3
end Go.AM

/- Numbers, texts, comparisons, conversions. -/
namespace Go.AM
open Go
variable {P : Program} {φ : Phi} {B : Tree ABlk} {H H' : Heap} {w : World} {bd : Nat}

theorem pureRun_run {α : Type} (P : Program) : ∀ (s : Sem α) (a : α), pureRun P s = some a → ∀ w, s.run P w = .ok a w
  | .pure x, a, h, w => by simp only [pureRun, Option.some.injEq] at h; subst h; rfl
  | .program k, a, h, w => by simp only [pureRun] at h; exact pureRun_run P (k P) a h w
  | .mark _ k, a, h, w => by simp only [pureRun] at h; exact pureRun_run P k a h w
  | .load .., _, h, _ => by simp [pureRun] at h
  | .store .., _, h, _ => by simp [pureRun] at h
  | .new .., _, h, _ => by simp [pureRun] at h
  | .shape .., _, h, _ => by simp [pureRun] at h
  | .freeze .., _, h, _ => by simp [pureRun] at h
  | .frozen .., _, h, _ => by simp [pureRun] at h
  | .getObj .., _, h, _ => by simp [pureRun] at h
  | .setObj .., _, h, _ => by simp [pureRun] at h
  | .choose .., _, h, _ => by simp [pureRun] at h
  | .sys .., _, h, _ => by simp [pureRun] at h
  | .halt .., _, h, _ => by simp [pureRun] at h

theorem ground_sound (h : Rel φ B H w) {s : Sem Value} {v : AV} (hr : ground P s H = .ok v H') : RanV P s bd φ B H w v H' := by
  unfold ground at hr
  cases hp : pureRun P s with
  | none => rw [hp] at hr; simp at hr
  | some u =>
    rw [hp] at hr
    simp only [R2.ok.injEq] at hr
    obtain ⟨rfl, rfl⟩ := hr
    exact RanV.same h (pureRun_run P s u hp w) (rv_ofValue φ 6 u)

theorem bytes_back (b : ByteArray) : (⟨((b.data.toList.map UInt8.toNat).map UInt8.ofNat).toArray⟩ : ByteArray) = b := by
  have : (b.data.toList.map UInt8.toNat).map UInt8.ofNat = b.data.toList := by
    rw [List.map_map]
    have : (UInt8.ofNat ∘ UInt8.toNat) = id := by funext x; simp
    rw [this, List.map_id]
  rw [this]

theorem toValue_of {x : AV} {u u' : Value} (hx : RV φ x u) (h : x.toValue = some u') : u = u' := by
  cases x <;> simp only [AV.toValue, Option.some.injEq] at h <;> simp only [RV] at hx <;> try (exact absurd h (by simp))
  case int => rw [hx, h]
  case bool => rw [hx, h]
  case str => obtain ⟨b, rfl, rfl⟩ := hx; rw [← h, bytes_back]

theorem doInt_of {f : IntKind → Int → Int → AV} {x y v : AV} (hr : doInt f x y H = .ok v H') : ∃ k a b, x = .int k a ∧ y = .int k b ∧ v = f k a b ∧ H' = H := by
  cases x <;> simp only [doInt] at hr <;> try (exact R2.noConfusion hr)
  case int k a =>
    cases y <;> simp only at hr <;> try (exact R2.noConfusion hr)
    case int k' b =>
      cases hk : decide (k = k') with
      | false => rw [hk] at hr; simp at hr
      | true =>
        rw [hk] at hr
        simp only [R2.ok.injEq] at hr
        obtain ⟨rfl, rfl⟩ := hr
        have := of_decide_eq_true hk
        subst this
        exact ⟨k, a, b, rfl, rfl, rfl, rfl⟩

/-- The guard ahead of ==, where it lets by. -/
theorem eqGuard_other {op : BinOp} (t : TypeId) (ox oy : Operand) (a b : Value) (h1 : op ≠ .eql) (h2 : op ≠ .neq) (w : World) : (eqGuard op t ox oy a b).run P w = .ok () w := by
  cases op <;> first | rfl | exact absurd rfl h1 | exact absurd rfl h2

def guardFree : Value → Value → Bool
  | .nilIface, .nilIface => false
  | .agg _, .agg _ => false
  | _, _ => true

theorem eqGuard_lets {op : BinOp} (t : TypeId) (ox oy : Operand) {a b : Value} (h : guardFree a b = true) (w : World) : (eqGuard op t ox oy a b).run P w = .ok () w := by
  by_cases h1 : op = .eql
  · subst h1; cases a <;> cases b <;> first | rfl | (simp [guardFree] at h)
  · by_cases h2 : op = .neq
    · subst h2; cases a <;> cases b <;> first | rfl | (simp [guardFree] at h)
    · exact eqGuard_other t ox oy a b h1 h2 w

theorem groundOp_sound (h : Rel φ B H w) {op : BinOp} {t : TypeId} {x y v : AV} {u z : Value} (hx : RV φ x u) (hy : RV φ y z) (hr : groundOp P op t x y H = .ok v H') : RanV P (binOp op t u z) bd φ B H w v H' := by
  unfold groundOp at hr
  cases h1 : x.toValue with
  | none => rw [h1] at hr; simp at hr
  | some u' =>
    cases h2 : y.toValue with
    | none => rw [h1, h2] at hr; simp at hr
    | some z' =>
      rw [h1, h2] at hr
      rw [toValue_of hx h1, toValue_of hy h2]
      exact ground_sound h hr

/-- Two pointers that lie in two blocks, or in one. -/
theorem ptrEq_sound (h : Rel φ B H w) {t : TypeId} {b b' : Pos} {g o e g' o' e' : Nat} {u u' : Value} {r : Bool} (hx : RV φ (.ptr b g o e) u) (hy : RV φ (.ptr b' g' o' e') u') (hr : ptrEq P B H t b g o b' g' o' = some r) :
    ∀ d, (Op.equalIn (d + 1) t u u').run P w = .ok r w := by
  intro depth
  simp only [RV] at hx hy
  obtain ⟨n, L, N, hc, _, rfl⟩ := hx
  obtain ⟨n', L', N', hc', _, rfl⟩ := hy
  unfold ptrEq at hr
  cases hd : underOf P t with
  | none => rw [hd] at hr; simp at hr
  | some d =>
    rw [hd] at hr
    cases d <;> simp only at hr <;> try (exact absurd hr (by simp))
    case pointer el =>
      cases hs : sizeOf P el with
      | none => rw [hs] at hr; simp at hr
      | some k =>
        rw [hs] at hr
        cases k with
        | zero => simp at hr
        | succ k =>
          simp only at hr
          have hne : (k + 1 ≠ 0) := by omega
          cases hb : b.beq b' with
          | true =>
            rw [hb] at hr
            simp only at hr
            have := Pos.beq_eq _ _ hb
            subst this
            cases hg : Nat.beq g g' with
            | false => rw [hg] at hr; simp at hr
            | true =>
              rw [hg] at hr
              simp only [Option.some.injEq] at hr
              have := Nat.eq_of_beq_eq_true hg
              subst this
              rw [hc] at hc'
              simp only [Option.some.injEq, Prod.mk.injEq] at hc'
              obtain ⟨rfl, _, _⟩ := hc'
              subst hr
              rw [Op.equalIn]
              simp only [Sem.run_bind, run_underlying_of hd w, Result.andThen_ok, run_sizeOf_of hs w]
              simp only [hne, ne_eq, not_false_eq_true, if_true, sameAddr, beq_self_eq_true, Sem.run_pure]
              congr 1
              cases hoo : Nat.beq o o' with
              | true => have := Nat.eq_of_beq_eq_true hoo; subst this; simp
              | false =>
                have : o ≠ o' := fun e => by subst e; simp [Nat.beq_refl] at hoo
                simp [this]
          | false =>
            rw [hb] at hr
            simp only at hr
            have hbne := Pos.beq_ne hb
            have hnn : n ≠ n' := fun e => hbne (h.injC (e ▸ hc) hc')
            have h1 := h.blks b
            have h2 := h.blks b'
            cases hx1 : blk B H b with
            | none => rw [hx1] at hr; simp at hr
            | some x1 =>
              rw [hx1] at hr h1
              cases x1 with
              | map _ _ => simp at hr
              | iter _ _ _ _ => simp at hr
              | dead => simp at hr
              | cells st cur min len cs =>
                cases st with
                | true => simp at hr
                | false =>
                  cases hx2 : blk B H b' with
                  | none => rw [hx2] at hr; simp at hr
                  | some x2 =>
                    rw [hx2] at hr h2
                    cases x2 with
                    | map _ _ => simp at hr
                    | iter _ _ _ _ => simp at hr
                    | dead => simp at hr
                    | cells st' cur' min' len' cs' =>
                      cases st' with
                      | true => simp at hr
                      | false =>
                        simp only at hr
                        cases hm : (Nat.ble min g && Nat.ble min' g') with
                        | false => rw [hm] at hr; simp at hr
                        | true =>
                          rw [hm] at hr
                          simp only [Option.some.injEq] at hr
                          subst hr
                          simp only [Bool.and_eq_true] at hm
                          obtain ⟨_, _, _, hat⟩ := RowOk.gens h1 hc
                          obtain ⟨_, _, _, hat'⟩ := RowOk.gens h2 hc'
                          obtain ⟨c, el1, lo, hi, a1, _, _, _, a5, _⟩ := hat (Nat.le_of_ble_eq_true hm.1)
                          obtain ⟨c', el2, lo', hi', b1, _, _, _, b5, _⟩ := hat' (Nat.le_of_ble_eq_true hm.2)
                          obtain ⟨rfl, rfl⟩ := a5 rfl
                          obtain ⟨rfl, rfl⟩ := b5 rfl
                          have f1 : ∀ k, w.frozen? ⟨n, k, none⟩ = false := fun k => by rw [frozen_of_row a1]; simp
                          have f2 : ∀ k, w.frozen? ⟨n', k, none⟩ = false := fun k => by rw [frozen_of_row b1]; simp
                          have s1 : w.shape? n = some (el1, c.size) := by simp [World.shape?, a1]
                          have s2 : w.shape? n' = some (el2, c'.size) := by simp [World.shape?, b1]
                          rw [Op.equalIn]
                          simp only [Sem.run_bind, run_underlying_of hd w, Result.andThen_ok, run_sizeOf_of hs w]
                          simp [hne, sameAddr, hnn, f1, noView, viewAt, s1, s2, mayBeOne, stringish, f2]
end Go.AM

/- == and !=. -/
namespace Go.AM
open Go
variable {P : Program} {φ : Phi} {B : Tree ABlk} {H H' : Heap} {w : World} {bd : Nat}

theorem map_toNat_beq (x y : List UInt8) : (x.map UInt8.toNat == y.map UInt8.toNat) = (x == y) := by
  rw [Bool.eq_iff_iff]
  simp only [beq_iff_eq]
  constructor
  · intro h
    exact (List.map_inj_right (fun a b e => UInt8.toNat_inj.1 e)).1 h
  · rintro rfl; rfl

theorem sameStamp_sound {s s' : Nat} {u z : Value} {r : Bool} (hx : RV φ (.stamp s) u) (hy : RV φ (.stamp s') z) (hr : sameStamp s s' = some r) : ∃ m m' : Int, u = .int .i64 m ∧ z = .int .i64 m' ∧ r = (m == m') := by
  simp only [RV] at hx hy
  obtain ⟨m, hm, rfl⟩ := hx
  obtain ⟨m', hm', rfl⟩ := hy
  refine ⟨m, m', rfl, rfl, ?_⟩
  unfold sameStamp at hr
  cases hk : Nat.beq s s' with
  | true =>
    rw [hk] at hr
    have := Nat.eq_of_beq_eq_true hk
    subst this
    rw [hm] at hm'
    obtain rfl := Option.some.inj hm'
    simp only [Option.some.injEq] at hr
    simp [hr.symm]
  | false =>
    rw [hk] at hr
    simp at hr
theorem farFrom_sound (hf : Far φ.st) {s : Nat} {k : IntKind} {a : Int} {u : Value} {r : Bool} (hx : RV φ (.stamp s) u) (hr : farFrom s k a = some r) : ∃ m : Int, u = .int .i64 m ∧ k = .i64 ∧ r = (m == a) ∧ r = (a == m) := by
  simp only [RV] at hx
  obtain ⟨m, hm, rfl⟩ := hx
  refine ⟨m, rfl, ?_⟩
  unfold farFrom at hr
  cases hb : (decide (k = .i64) && ((Nat.blt s 2 && decide (a = 1)) || (Nat.ble 2 s && Nat.blt s 4 && decide (a = 0)))) with
  | false => rw [hb] at hr; simp at hr
  | true =>
    rw [hb] at hr
    simp only [Bool.and_eq_true, Bool.or_eq_true, Nat.blt_eq, Nat.ble_eq, decide_eq_true_eq] at hb
    have hne : m ≠ a := by
      rcases hb.2 with ⟨h1, rfl⟩ | ⟨⟨h1, h2⟩, rfl⟩
      · exact hf.one hm h1
      · exact hf.zero hm h1 h2
    simp only [Option.some.injEq] at hr
    refine ⟨hb.1, ?_, ?_⟩
    · simp [hr.symm, hne]
    · simp [hr.symm]; exact fun e => hne e.symm

theorem equalIn_typed (hf : Far φ.st) {t : TypeId} {x y : AV} {u z : Value} {r : Bool} (hx : RV φ x u) (hy : RV φ y z) (hr : eqTyped P t x y = some r) (d : Nat) (w : World) : (Op.equalIn (d + 1) t u z).run P w = .ok r w := by
  unfold eqTyped at hr
  cases hd : underOf P t with
  | none => rw [hd] at hr; simp at hr
  | some dd =>
    rw [hd] at hr
    have hrun := run_underlying_of hd w
    rw [Op.equalIn]
    simp only [Sem.run_bind, hrun, Result.andThen_ok]
    cases dd
    case int k0 =>
      simp only at hr
      cases x <;> try (simp at hr; done)
      case int k a =>
        cases y <;> try (simp at hr; done)
        case int k' b =>
          simp only at hr
          simp only [RV] at hx hy
          subst hx hy
          cases hk : decide (k = k') with
          | false => rw [hk] at hr; simp at hr
          | true =>
            rw [hk] at hr
            have := of_decide_eq_true hk
            subst this
            simp only [Option.some.injEq] at hr
            simp [hr]
        case stamp s =>
          obtain ⟨m, rfl, rfl, _, hr⟩ := farFrom_sound hf hy hr
          simp only [RV] at hx
          subst hx hr
          simp
      case stamp s =>
        cases y <;> try (simp at hr; done)
        case int k' b =>
          obtain ⟨m, rfl, rfl, hr, _⟩ := farFrom_sound hf hx hr
          simp only [RV] at hy
          subst hy hr
          simp
        case stamp s' =>
          obtain ⟨m, m', rfl, rfl, rfl⟩ := sameStamp_sound hx hy hr
          simp
    case string =>
      simp only at hr
      cases x <;> try (simp at hr; done)
      case str a =>
        cases y <;> try (simp at hr; done)
        case str b =>
          simp only [Option.some.injEq] at hr
          simp only [RV] at hx hy
          obtain ⟨p, rfl, rfl⟩ := hx
          obtain ⟨q, rfl, rfl⟩ := hy
          rw [map_toNat_beq] at hr
          subst hr
          cases p; cases q
          rename_i p q
          have e : ((ByteArray.mk p) == (ByteArray.mk q)) = (p == q) := rfl
          simp only [Sem.run_pure, e, Result.ok.injEq, and_true]
          rw [Bool.eq_iff_iff]
          simp only [beq_iff_eq]
          exact ⟨fun h => by rw [h], fun h => Array.ext' h⟩
    case bool =>
      simp only at hr
      cases x <;> try (simp at hr; done)
      case bool a =>
        cases y <;> try (simp at hr; done)
        case bool b =>
          simp only [Option.some.injEq] at hr
          simp only [RV] at hx hy
          subst hx hy
          simp [hr]
    all_goals (simp at hr)
theorem run_fields (f : Field → Option Bool × Unit → Sem (ForInStep (Option Bool × Unit))) (w : World) :
    ∀ (fs : List Field) (i : Nat) (xs ys : List AV) (us zs : List Value) (pre pre' : List Value) (r : Bool), flatFields P i fs = true → eqCells P fs xs ys = some r → RVs φ xs us → RVs φ ys zs → pre.length = i → pre'.length = i →
    (∀ (fd : Field) (x y : AV) (u z : Value) (b : Bool), (fd.name == "_") = false → size1 P fd.type = true → eqTyped P fd.type x y = some b → RV φ x u → RV φ y z → (pre ++ us)[fd.offset]? = some u → (pre' ++ zs)[fd.offset]? = some z →
      (f fd (none, ())).run P w = .ok (if b then .yield (none, ()) else .done (some false, ())) w) →
    (forIn fs (none, ()) f).run P w = .ok (if r then (none, ()) else (some false, ())) w
  | [], _, [], [], _, _, _, _, r, _, he, _, _, _, _, _ => by
    simp only [eqCells, Option.some.injEq] at he; subst he; rfl
  | [], _, _ :: _, _, _, _, _, _, _, _, he, _, _, _, _, _ => by simp [eqCells] at he
  | [], _, [], _ :: _, _, _, _, _, _, _, he, _, _, _, _, _ => by simp [eqCells] at he
  | _ :: _, _, [], _, _, _, _, _, _, _, he, _, _, _, _, _ => by simp [eqCells] at he
  | _ :: _, _, _ :: _, [], _, _, _, _, _, _, he, _, _, _, _, _ => by simp [eqCells] at he
  | fd :: fs, i, x :: xs, y :: ys, us, zs, pre, pre', r, hf, he, hx, hy, hp, hp', H => by
    simp only [flatFields, Bool.and_eq_true, Bool.not_eq_true'] at hf
    obtain ⟨⟨⟨h1, h2⟩, h3⟩, h4⟩ := hf
    have ho := Nat.eq_of_beq_eq_true h1
    simp only [RVs] at hx hy
    obtain ⟨u, us', rfl, hxu, hx⟩ := hx
    obtain ⟨z, zs', rfl, hyz, hy⟩ := hy
    simp only [eqCells] at he
    cases hb : eqTyped P fd.type x y with
    | none => rw [hb] at he; simp at he
    | some b =>
      rw [hb] at he
      have hstep := H fd x y u z b h2 h3 hb hxu hyz (by rw [ho, ← hp]; simp) (by rw [ho, ← hp']; simp)
      rw [List.forIn_cons, Sem.run_bind, hstep]
      cases b with
      | false =>
        simp only [Option.some.injEq] at he
        subst he
        simp
      | true =>
        simp only at he
        simp only [Result.andThen_ok, if_true]
        exact run_fields f w fs (i + 1) xs ys us' zs' (pre ++ [u]) (pre' ++ [z]) r h4 he hx hy (by simp [hp]) (by simp [hp'])
          (fun fd' x' y' u' z' b' a1 a2 a3 a4 a5 a6 a7 => H fd' x' y' u' z' b' a1 a2 a3 a4 a5 (by simpa using a6) (by simpa using a7))

theorem equalIn_agg (hf : Far φ.st) {t : TypeId} {xs ys : List AV} {us zs : List Value} {r : Bool} (hx : RVs φ xs us) (hy : RVs φ ys zs) (hr : eqAgg P t xs ys = some r) (d : Nat) (w : World) :
    (Op.equalIn (d + 2) t (.agg us.toArray) (.agg zs.toArray)).run P w = .ok r w ∧ P.eqGuardType P.depth t = false := by
  unfold eqAgg at hr
  cases hd : underOf P t with
  | none => rw [hd] at hr; simp at hr
  | some dd =>
    rw [hd] at hr
    cases dd <;> try (simp at hr; done)
    case struct fields =>
      simp only at hr
      cases hc : (flatFields P 0 fields.toList && !(P.stoodInHeld t) && !(P.eqGuardType P.depth t)) with
      | false => rw [hc] at hr; simp at hr
      | true =>
        rw [hc] at hr
        simp only at hr
        simp only [Bool.and_eq_true, Bool.not_eq_true'] at hc
        obtain ⟨⟨h1, h2⟩, h3⟩ := hc
        refine ⟨?_, h3⟩
        rw [Op.equalIn]
        simp only [Sem.run_bind, run_underlying_of hd w, Result.andThen_ok, run_program, h2, Bool.false_eq_true, if_false]
        rw [← Array.forIn_toList]
        rw [run_fields (P := P) (φ := φ) _ w fields.toList 0 xs ys us zs [] [] r h1 hr hx hy rfl rfl ?_]
        · cases r <;> simp
        · intro fd x y u z b a1 a2 a3 a4 a5 a6 a7
          have hne : fd.name ≠ "_" := by simpa using a1
          have hs : (Go.sizeOf fd.type).run P w = .ok 1 w := by
            unfold size1 at a2
            cases hz : sizeOf P fd.type with
            | none => rw [hz] at a2; simp at a2
            | some k => rw [hz] at a2; have := Nat.eq_of_beq_eq_true a2; subst this; exact run_sizeOf_of hz w
          have hagg : (Go.isAgg fd.type).run P w = .ok false w := by
            unfold eqTyped at a3
            cases hu : underOf P fd.type with
            | none => rw [hu] at a3; simp at a3
            | some q =>
              rw [hu] at a3
              simp only [Go.isAgg, Sem.run_bind, run_underlying_of hu w, Result.andThen_ok]
              cases q <;> first | rfl | (simp at a3; done)
          have p1 : (part fd.type us.toArray fd.offset).run P w = .ok u w := by
            simp only [List.nil_append] at a6
            simp [part, hagg, a6]
          have p2 : (part fd.type zs.toArray fd.offset).run P w = .ok z w := by
            simp only [List.nil_append] at a7
            simp [part, hagg, a7]
          rw [if_pos hne]
          simp only [Sem.run_bind, p1, p2, Result.andThen_ok, equalIn_typed hf a4 a5 a3 d w]
          cases b <;> simp
end Go.AM

/- == and !=, over all kinds; the other operators. -/
namespace Go.AM
open Go
variable {P : Program} {φ : Phi} {B : Tree ABlk} {H H' : Heap} {w : World} {bd : Nat}

def viaEqual : Value → Value → Bool
  | .int _ _, .int _ _ => false
  | .float _ _, .float _ _ => false
  | .complex _ _ _, .complex _ _ _ => false
  | .string _, .string _ => false
  | _, _ => true

theorem binOp_eql {t : TypeId} {u z : Value} (h : viaEqual u z = true) : binOp .eql t u z = (do pure (.bool (← Op.equal t u z))) := by
  cases u <;> cases z <;> first | rfl | (simp [viaEqual] at h)
theorem binOp_neq {t : TypeId} {u z : Value} (h : viaEqual u z = true) : binOp .neq t u z = (do pure (.bool (!(← Op.equal t u z)))) := by
  cases u <;> cases z <;> first | rfl | (simp [viaEqual] at h)

/-- What == and != come to, where their guard lets by. -/
structure EqRuns (P : Program) (t : TypeId) (u z : Value) (r : Bool) (w : World) : Prop where
  guard : ∀ op ox oy, (eqGuard op t ox oy u z).run P w = .ok () w
  eql : (binOp .eql t u z).run P w = .ok (.bool r) w
  neq : (binOp .neq t u z).run P w = .ok (.bool (!r)) w

theorem EqRuns.of_equal {t : TypeId} {u z : Value} {r : Bool} (hv : viaEqual u z = true) (hg : ∀ op ox oy, (eqGuard op t ox oy u z).run P w = .ok () w) (he : ∀ d, (Op.equalIn (d + 2) t u z).run P w = .ok r w) : EqRuns P t u z r w := by
  have : (Op.equal t u z).run P w = .ok r w := he 9998
  exact ⟨hg, by rw [binOp_eql hv]; simp [this], by rw [binOp_neq hv]; simp [this]⟩

theorem EqRuns.of_free {t : TypeId} {u z : Value} {r : Bool} (hv : viaEqual u z = true) (hg : guardFree u z = true) (he : ∀ d, (Op.equalIn (d + 2) t u z).run P w = .ok r w) : EqRuns P t u z r w :=
  .of_equal hv (fun op ox oy => eqGuard_lets t ox oy hg w) he

theorem eqA_sound (h : Rel φ B H w) {t : TypeId} {x y : AV} {u z : Value} {r : Bool} (hx : RV φ x u) (hy : RV φ y z) (hr : eqA P B H t x y = some r) : EqRuns P t u z r w := by
  cases x
  case int k a =>
    cases y <;> simp only [eqA] at hr <;> try (simp at hr; done)
    case int k' b =>
      simp only [RV] at hx hy
      subst hx hy
      cases hk : decide (k = k') with
      | false => rw [hk] at hr; simp at hr
      | true =>
        rw [hk] at hr
        simp only [Option.some.injEq] at hr
        have := of_decide_eq_true hk
        subst this hr
        exact ⟨fun op ox oy => eqGuard_lets t ox oy rfl w, by simp [binOp, Op.intCmp], by simp [binOp, Op.intCmp, bne]⟩
    case stamp s =>
      obtain ⟨m, rfl, rfl, _, hr⟩ := farFrom_sound h.far hy hr
      simp only [RV] at hx
      subst hx hr
      exact ⟨fun op ox oy => eqGuard_lets t ox oy rfl w, by simp [binOp, Op.intCmp], by simp [binOp, Op.intCmp, bne]⟩
  case stamp s =>
    cases y <;> simp only [eqA] at hr <;> try (simp at hr; done)
    case int k b =>
      obtain ⟨m, rfl, rfl, hr, _⟩ := farFrom_sound h.far hx hr
      simp only [RV] at hy
      subst hy hr
      exact ⟨fun op ox oy => eqGuard_lets t ox oy rfl w, by simp [binOp, Op.intCmp], by simp [binOp, Op.intCmp, bne]⟩
    case stamp s' =>
      obtain ⟨m, m', rfl, rfl, rfl⟩ := sameStamp_sound hx hy hr
      exact ⟨fun op ox oy => eqGuard_lets t ox oy rfl w, by simp [binOp, Op.intCmp], by simp [binOp, Op.intCmp, bne]⟩
  case str a =>
    cases y <;> simp only [eqA] at hr <;> try (simp at hr; done)
    case str b =>
      simp only [RV] at hx hy
      obtain ⟨p, rfl, rfl⟩ := hx
      obtain ⟨q, rfl, rfl⟩ := hy
      simp only [Option.some.injEq] at hr
      rw [map_toNat_beq] at hr
      subst hr
      exact ⟨fun op ox oy => eqGuard_lets t ox oy rfl w, by simp [binOp, Op.stringOp, ByteArray.toList_eq], by simp [binOp, Op.stringOp, ByteArray.toList_eq]⟩
  case bool a =>
    cases y <;> simp only [eqA] at hr <;> try (simp at hr; done)
    case bool b =>
      cases hd : underOf P t with
      | none => rw [hd] at hr; simp at hr
      | some dd =>
        rw [hd] at hr
        cases dd <;> try (simp at hr; done)
        case bool =>
          refine EqRuns.of_free (by simp only [RV] at hx hy; subst hx hy; rfl) (by simp only [RV] at hx hy; subst hx hy; rfl) fun d => equalIn_typed h.far hx hy ?_ (d + 1) w
          unfold eqTyped
          rw [hd]
          exact hr
  case agg a =>
    cases y <;> simp only [eqA] at hr <;> try (simp at hr; done)
    case agg b =>
      simp only [RV] at hx hy
      obtain ⟨us, rfl, h1, _⟩ := hx
      obtain ⟨zs, rfl, h2, _⟩ := hy
      have hq := fun d => (equalIn_agg h.far h1 h2 hr d w)
      refine EqRuns.of_equal rfl (fun op ox oy => ?_) fun d => (hq d).1
      by_cases e1 : op = .eql
      · subst e1; simp [eqGuard, (hq 0).2]
      · by_cases e2 : op = .neq
        · subst e2; simp [eqGuard, (hq 0).2]
        · exact eqGuard_other t ox oy _ _ e1 e2 w
  case nilptr =>
    simp only [RV] at hx
    subst hx
    cases y <;> simp only [eqA] at hr
    case nilptr =>
      simp only [RV] at hy
      subst hy
      cases hd : underOf P t with
      | none => rw [hd] at hr; simp at hr
      | some dd =>
        rw [hd] at hr
        cases dd <;> try (simp at hr; done)
        case pointer e =>
          simp only [Option.some.injEq] at hr
          subst hr
          exact .of_free rfl rfl fun d => by rw [Op.equalIn]; simp [run_underlying_of hd w]
    case ptr b g o ex =>
      simp only [RV] at hy
      obtain ⟨n, L, N, _, _, rfl⟩ := hy
      cases hd : underOf P t with
      | none => rw [hd] at hr; simp at hr
      | some dd =>
        rw [hd] at hr
        cases dd <;> try (simp at hr; done)
        case pointer e =>
          simp only [Option.some.injEq] at hr
          subst hr
          exact .of_free rfl rfl fun d => by rw [Op.equalIn]; simp [run_underlying_of hd w]
    all_goals (cases hd : underOf P t with | none => rw [hd] at hr; simp at hr | some dd => rw [hd] at hr; cases dd <;> simp at hr)
  case ptr b g o ex =>
    cases y <;> simp only [eqA] at hr <;> try (simp at hr; done)
    case nilptr =>
      simp only [RV] at hx hy
      obtain ⟨n, L, N, _, _, rfl⟩ := hx
      subst hy
      cases hd : underOf P t with
      | none => rw [hd] at hr; simp at hr
      | some dd =>
        rw [hd] at hr
        cases dd <;> try (simp at hr; done)
        case pointer e =>
          simp only [Option.some.injEq] at hr
          subst hr
          exact .of_free rfl rfl fun d => by rw [Op.equalIn]; simp [run_underlying_of hd w]
    case ptr b' g' o' ex' =>
      refine EqRuns.of_free ?_ ?_ fun d => ptrEq_sound h hx hy hr (d + 1)
      · simp only [RV] at hx hy; obtain ⟨_, _, _, _, _, rfl⟩ := hx; obtain ⟨_, _, _, _, _, rfl⟩ := hy; rfl
      · simp only [RV] at hx hy; obtain ⟨_, _, _, _, _, rfl⟩ := hx; obtain ⟨_, _, _, _, _, rfl⟩ := hy; rfl
  case nilslice =>
    simp only [RV] at hx
    subst hx
    cases y <;> simp only [eqA] at hr
    case nilslice =>
      simp only [RV] at hy
      subst hy
      cases hd : underOf P t with
      | none => rw [hd] at hr; simp at hr
      | some dd =>
        rw [hd] at hr
        cases dd <;> try (simp at hr; done)
        case slice e =>
          simp only [Option.some.injEq] at hr
          subst hr
          exact .of_free rfl rfl fun d => by rw [Op.equalIn]; simp [run_underlying_of hd w]
    case slice b g o l kc ex sz =>
      simp only [RV] at hy
      obtain ⟨n, L, N, o, cap, _, rfl, _⟩ := hy
      cases hd : underOf P t with
      | none => rw [hd] at hr; simp at hr
      | some dd =>
        rw [hd] at hr
        cases dd <;> try (simp at hr; done)
        case slice e =>
          simp only [Option.some.injEq] at hr
          subst hr
          exact .of_free rfl rfl fun d => by rw [Op.equalIn]; simp [run_underlying_of hd w]
    all_goals (cases hd : underOf P t with | none => rw [hd] at hr; simp at hr | some dd => rw [hd] at hr; cases dd <;> simp at hr)
  case slice b g o l kc ex sz =>
    cases y <;> simp only [eqA] at hr <;> try (simp at hr; done)
    case nilslice =>
      simp only [RV] at hx hy
      obtain ⟨n, L, N, o, cap, _, rfl, _⟩ := hx
      subst hy
      cases hd : underOf P t with
      | none => rw [hd] at hr; simp at hr
      | some dd =>
        rw [hd] at hr
        cases dd <;> try (simp at hr; done)
        case slice e =>
          simp only [Option.some.injEq] at hr
          subst hr
          exact .of_free rfl rfl fun d => by rw [Op.equalIn]; simp [run_underlying_of hd w]
  case nilmap =>
    simp only [RV] at hx
    subst hx
    cases y <;> simp only [eqA] at hr
    case nilmap =>
      simp only [RV] at hy
      subst hy
      cases hd : underOf P t with
      | none => rw [hd] at hr; simp at hr
      | some dd =>
        rw [hd] at hr
        cases dd <;> try (simp at hr; done)
        case map e _ =>
          simp only [Option.some.injEq] at hr
          subst hr
          exact .of_free rfl rfl fun d => by rw [Op.equalIn]; simp [run_underlying_of hd w]
    case map b =>
      simp only [RV] at hy
      obtain ⟨n, _, rfl⟩ := hy
      cases hd : underOf P t with
      | none => rw [hd] at hr; simp at hr
      | some dd =>
        rw [hd] at hr
        cases dd <;> try (simp at hr; done)
        case map e _ =>
          simp only [Option.some.injEq] at hr
          subst hr
          exact .of_free rfl rfl fun d => by rw [Op.equalIn]; simp [run_underlying_of hd w]
    all_goals (cases hd : underOf P t with | none => rw [hd] at hr; simp at hr | some dd => rw [hd] at hr; cases dd <;> simp at hr)
  case map b =>
    cases y <;> simp only [eqA] at hr <;> try (simp at hr; done)
    case nilmap =>
      simp only [RV] at hx hy
      obtain ⟨n, _, rfl⟩ := hx
      subst hy
      cases hd : underOf P t with
      | none => rw [hd] at hr; simp at hr
      | some dd =>
        rw [hd] at hr
        cases dd <;> try (simp at hr; done)
        case map e _ =>
          simp only [Option.some.injEq] at hr
          subst hr
          exact .of_free rfl rfl fun d => by rw [Op.equalIn]; simp [run_underlying_of hd w]
  case iface tx vx =>
    cases y <;> simp only [eqA] at hr <;> try (simp at hr; done)
    case niliface =>
      simp only [RV] at hx hy
      obtain ⟨n, rfl, _⟩ := hx
      subst hy
      cases hd : underOf P t with
      | none => rw [hd] at hr; simp at hr
      | some dd =>
        rw [hd] at hr
        cases dd <;> try (simp at hr; done)
        case interface e =>
          simp only [Option.some.injEq] at hr
          subst hr
          exact .of_free rfl rfl fun d => by rw [Op.equalIn]; simp [run_underlying_of hd w]
  case niliface =>
    cases y <;> simp only [eqA] at hr <;> try (simp at hr; done)
    case iface tx vx =>
      simp only [RV] at hx hy
      obtain ⟨n, rfl, _⟩ := hy
      subst hx
      cases hd : underOf P t with
      | none => rw [hd] at hr; simp at hr
      | some dd =>
        rw [hd] at hr
        cases dd <;> try (simp at hr; done)
        case interface e =>
          simp only [Option.some.injEq] at hr
          subst hr
          exact .of_free rfl rfl fun d => by rw [Op.equalIn]; simp [run_underlying_of hd w]
  case func f a b =>
    cases y <;> simp only [eqA] at hr <;> try (simp at hr; done)
    case nilfunc =>
      simp only [RV] at hx hy
      obtain ⟨us, ws, rfl, _⟩ := hx
      subst hy
      cases hd : underOf P t with
      | none => rw [hd] at hr; simp at hr
      | some dd =>
        rw [hd] at hr
        cases dd <;> try (simp at hr; done)
        case func e _ _ =>
          simp only [Option.some.injEq] at hr
          subst hr
          exact .of_free rfl rfl fun d => by rw [Op.equalIn]; simp [run_underlying_of hd w]
  case nilfunc =>
    cases y <;> simp only [eqA] at hr <;> try (simp at hr; done)
    case func f a b =>
      simp only [RV] at hx hy
      obtain ⟨us, ws, rfl, _⟩ := hy
      subst hx
      cases hd : underOf P t with
      | none => rw [hd] at hr; simp at hr
      | some dd =>
        rw [hd] at hr
        cases dd <;> try (simp at hr; done)
        case func e _ _ =>
          simp only [Option.some.injEq] at hr
          subst hr
          exact .of_free rfl rfl fun d => by rw [Op.equalIn]; simp [run_underlying_of hd w]
  all_goals (cases y <;> simp [eqA] at hr)
end Go.AM

/- The operators, conversions, interfaces and functions. -/
namespace Go.AM
open Go
variable {P : Program} {φ : Phi} {B : Tree ABlk} {H H' : Heap} {w : World} {bd : Nat}

theorem RanV.after {g : Sem Unit} {s : Sem Value} {v : AV} (hg : g.run P w = .ok () w) (h : RanV P s bd φ B H w v H') : RanV P (do g; s) bd φ B H w v H' := by
  obtain ⟨φ', u, w', hr, r⟩ := h
  exact ⟨φ', u, w', by simp [hg, hr], r⟩

theorem intOp_sound (h : Rel φ B H w) {op : BinOp} {t : TypeId} {ox oy : Operand} {x y v : AV} {u z : Value} (hx : RV φ x u) (hy : RV φ y z) (h1 : op ≠ .eql) (h2 : op ≠ .neq) {f : IntKind → Int → Int → AV}
    (hf : ∀ k a b, ∃ r, (binOp op t (.int k a) (.int k b)).run P w = .ok r w ∧ RV φ (f k a b) r) (hr : doInt f x y H = .ok v H') : RanV P (do eqGuard op t ox oy u z; binOp op t u z) bd φ B H w v H' := by
  obtain ⟨k, a, b, rfl, rfl, rfl, rfl⟩ := doInt_of hr
  simp only [RV] at hx hy
  subst hx hy
  obtain ⟨r, h3, h4⟩ := hf k a b
  exact RanV.after (eqGuard_other t ox oy _ _ h1 h2 w) (RanV.same h h3 h4)

theorem binOp_sound (h : Rel φ B H w) {op : BinOp} {t : TypeId} {ox oy : Operand} {x y v : AV} {u z : Value} (hx : RV φ x u) (hy : RV φ y z) (hr : doBinOp P B op t x y H = .ok v H') :
    RanV P (do eqGuard op t ox oy u z; binOp op t u z) bd φ B H w v H' := by
  have hground : ∀ op, op ≠ .eql → op ≠ .neq → groundOp P op t x y H = .ok v H' → RanV P (do eqGuard op t ox oy u z; binOp op t u z) bd φ B H w v H' :=
    fun op h1 h2 hr => RanV.after (eqGuard_other t ox oy _ _ h1 h2 w) (groundOp_sound h hx hy hr)
  have hsym : ∀ {op : BinOp} {r : R2}, op ≠ .eql → op ≠ .neq → doSym op x y H r = .ok v H' → (r = .ok v H' → RanV P (do eqGuard op t ox oy u z; binOp op t u z) bd φ B H w v H') → RanV P (do eqGuard op t ox oy u z; binOp op t u z) bd φ B H w v H' := by
    intro op r h1 h2 hd hold
    clear hr
    cases x <;> simp only [doSym] at hd <;> try exact hold hd
    rename_i s
    cases y <;> simp only at hd <;> try (simp at hd; done)
    case int k n =>
      simp only [RV] at hx hy
      obtain ⟨m, hm, rfl⟩ := hx
      subst hy
      unfold lostSym at hd
      split at hd <;> try (simp at hd; done)
      split at hd <;> try (simp at hd; done)
      all_goals
        simp only [R2.ok.injEq] at hd
        obtain ⟨rfl, rfl⟩ := hd
      · exact RanV.after (eqGuard_other t ox oy _ _ h1 h2 w) (RanV.same h (u := .int .i64 (arithZ .add m n)) (by simp [binOp, Op.intArith, arithZ]) (by simp [RV]))
      · exact RanV.after (eqGuard_other t ox oy _ _ h1 h2 w) (RanV.same h (u := .int .i64 (arithZ .sub m n)) (by simp [binOp, Op.intArith, arithZ]) (by simp [RV]))
      · exact RanV.after (eqGuard_other t ox oy _ _ h1 h2 w) (RanV.same h (u := .int .i64 (arithZ .mul m n)) (by simp [binOp, Op.intArith, arithZ]) (by simp [RV]))
    rename_i s'
    simp only [RV] at hx hy
    obtain ⟨m, hm, rfl⟩ := hx
    obtain ⟨m', hm', rfl⟩ := hy
    cases hc : symOp op s s' with
    | none => rw [hc] at hd; simp [retSym] at hd
    | some c =>
      rw [hc] at hd
      simp only [retSym, R2.ok.injEq] at hd
      obtain ⟨rfl, rfl⟩ := hd
      have hst := h.far.sym hc hm hm'
      refine RanV.after (eqGuard_other t ox oy _ _ h1 h2 w) (RanV.same h (u := .int .i64 (arithZ op m m')) ?_ (by simp only [RV]; exact ⟨_, hst, rfl⟩))
      obtain ⟨_, _, _, hop⟩ := symOp_of hc
      rcases hop with rfl | rfl | rfl | ⟨hop, q1, q2⟩
      · simp [binOp, Op.intArith, arithZ]
      · simp [binOp, Op.intArith, arithZ]
      · simp [binOp, Op.intArith, arithZ]
      · have hz := h.far.zero hm' q1 q2
        rcases hop with rfl | rfl
        · simp [binOp, Op.intDiv, arithZ, hz]
        · simp [binOp, Op.intDiv, arithZ, hz]
  cases op
  case add =>
    simp only [doBinOp] at hr
    refine hsym (by simp) (by simp) hr fun h2 => ?_
    clear hr hsym
    have hr := h2
    clear h2
    simp only [doAdd] at hr
    cases x
    case str a =>
      cases y <;> simp only at hr <;> try (simp at hr; done)
      case str b =>
        cases hl : Nat.ble (a.length + b.length) 1099511627776 with
        | false => rw [hl] at hr; simp at hr
        | true =>
          rw [hl] at hr
          simp only [R2.ok.injEq] at hr
          obtain ⟨rfl, rfl⟩ := hr
          have hle := Nat.le_of_ble_eq_true hl
          simp only [RV] at hx hy
          obtain ⟨p, rfl, rfl⟩ := hx
          obtain ⟨q, rfl, rfl⟩ := hy
          refine RanV.after (eqGuard_other t ox oy _ _ (by simp) (by simp) w) (RanV.same h (u := .string (p ++ q)) ?_ ?_)
          · have hsz : ¬ (((p.size + q.size : Nat) : Int) > IntKind.i64.max) := by
              simp only [List.length_map, Array.length_toList] at hle
              have e1 : p.data.size = p.size := rfl
              have e2 : q.data.size = q.size := rfl
              have : IntKind.i64.max = 9223372036854775807 := by decide
              rw [this]; omega
            simp only [binOp, Op.stringOp]
            rw [if_neg hsz]
            rfl
          · simp only [RV]
            exact ⟨p ++ q, rfl, by simp⟩
    case int k a =>
      exact intOp_sound h hx hy (by simp) (by simp) (fun k a b => ⟨_, by simp [binOp, Op.intArith]; rfl, by simp [RV]⟩) hr
    all_goals exact hground _ (by simp) (by simp) hr
  case mul =>
    simp only [doBinOp] at hr
    exact hsym (by simp) (by simp) hr fun hr => hground _ (by simp) (by simp) hr
  case quo =>
    simp only [doBinOp] at hr
    exact hsym (by simp) (by simp) hr fun hr => hground _ (by simp) (by simp) hr
  case rem =>
    simp only [doBinOp] at hr
    exact hsym (by simp) (by simp) hr fun hr => hground _ (by simp) (by simp) hr
  case sub =>
    simp only [doBinOp] at hr
    refine hsym (by simp) (by simp) hr fun hr => ?_
    exact intOp_sound h hx hy (by simp) (by simp) (fun k a b => ⟨_, by simp [binOp, Op.intArith]; rfl, by simp [RV]⟩) hr
  case eql =>
    simp only [doBinOp] at hr
    cases he : eqA P B H t x y with
    | none => rw [he] at hr; simp [retb] at hr
    | some b =>
      rw [he] at hr
      simp only [retb, R2.ok.injEq] at hr
      obtain ⟨rfl, rfl⟩ := hr
      have := eqA_sound h hx hy he
      exact RanV.after (this.guard _ _ _) (RanV.same h this.eql (by simp [RV]))
  case neq =>
    simp only [doBinOp] at hr
    cases he : eqA P B H t x y with
    | none => rw [he] at hr; simp [retb] at hr
    | some b =>
      rw [he] at hr
      simp only [retb, R2.ok.injEq] at hr
      obtain ⟨rfl, rfl⟩ := hr
      have := eqA_sound h hx hy he
      exact RanV.after (this.guard _ _ _) (RanV.same h this.neq (by simp [RV]))
  case lss =>
    simp only [doBinOp] at hr
    cases x
    case int k a => exact intOp_sound h hx hy (by simp) (by simp) (fun k a b => ⟨_, by simp [binOp, Op.intCmp]; rfl, by simp [RV]⟩) hr
    all_goals exact hground _ (by simp) (by simp) hr
  case leq =>
    simp only [doBinOp] at hr
    cases x
    case int k a => exact intOp_sound h hx hy (by simp) (by simp) (fun k a b => ⟨_, by simp [binOp, Op.intCmp]; rfl, by simp [RV]⟩) hr
    all_goals exact hground _ (by simp) (by simp) hr
  case gtr =>
    simp only [doBinOp] at hr
    cases x
    case int k a => exact intOp_sound h hx hy (by simp) (by simp) (fun k a b => ⟨_, by simp [binOp, Op.intCmp]; rfl, by simp [RV]⟩) hr
    all_goals exact hground _ (by simp) (by simp) hr
  case geq =>
    simp only [doBinOp] at hr
    cases x
    case int k a => exact intOp_sound h hx hy (by simp) (by simp) (fun k a b => ⟨_, by simp [binOp, Op.intCmp]; rfl, by simp [RV]⟩) hr
    all_goals exact hground _ (by simp) (by simp) hr
  all_goals exact hground _ (by simp) (by simp) hr

theorem unOp_sound (h : Rel φ B H w) {op : UnOp} {x v : AV} {u : Value} (hx : RV φ x u) (hr : doUnOp P op x H = .ok v H') : RanV P (Op.unary op u) bd φ B H w v H' := by
  have hground : ∀ op, (match x.toValue with | some u => ground P (Op.unary op u) H | none => R2.none) = .ok v H' → RanV P (Op.unary op u) bd φ B H w v H' := by
    intro op hr
    cases ht : x.toValue with
    | none => rw [ht] at hr; simp at hr
    | some u' =>
      rw [ht] at hr
      rw [toValue_of hx ht]
      exact ground_sound h hr
  cases op
  case not =>
    simp only [doUnOp] at hr
    cases x <;> simp only at hr <;> try (simp at hr; done)
    case bool b =>
      simp only [R2.ok.injEq] at hr
      obtain ⟨rfl, rfl⟩ := hr
      simp only [RV] at hx
      subst hx
      exact RanV.same h rfl (by simp [RV])
  all_goals exact hground _ hr

theorem pick_sound (h : Rel φ B H w) {c a b v : AV} {x y z : Value} (hc : RV φ c x) (ha : RV φ a y) (hb : RV φ b z) (hr : doPick c a b H = .ok v H') : Ran P (do pure (.value (if ← asBool x then y else z))) bd φ B H w v H' := by
  cases c <;> simp only [doPick] at hr <;> try (simp at hr; done)
  case bool c =>
    simp only [R2.ok.injEq] at hr
    obtain ⟨rfl, rfl⟩ := hr
    simp only [RV] at hc
    subst hc
    refine ⟨φ, if c then y else z, w, .inl (by simp [asBool]), ?_, h, Step.refl _ _ _ _, Nat.le_refl _⟩
    cases c <;> simpa

theorem makeInterface_sound (h : Rel φ B H w) {t : TypeId} {x v : AV} {u : Value} (hx : RV φ x u) (hr : doMakeInterface P t x H = .ok v H') : RanV P (Instr.makeInterface t u) bd φ B H w v H' := by
  simp only [doMakeInterface] at hr
  cases hd : underOf P t with
  | none => rw [hd] at hr; simp at hr
  | some d =>
    rw [hd] at hr
    have hrun := run_underlying_of hd w
    cases d <;> simp only at hr <;> try (simp at hr; done)
    all_goals
      simp only [R2.ok.injEq] at hr
      obtain ⟨rfl, rfl⟩ := hr
      exact RanV.same h (u := .iface t u) (by simp [Instr.makeInterface, hrun]) (by simp only [RV]; exact ⟨u, rfl, hx⟩)

theorem makeFunc_sound (h : Rel φ B H w) {fn : Fn} {xs ys : List AV} {us zs : Array Value} {v : AV} (hx : RVs φ xs us.toList) (hy : RVs φ ys zs.toList) (hr : doMakeFunc fn xs ys H = .ok v H') : RanV P (Instr.makeFunc fn us zs) bd φ B H w v H' := by
  cases fn <;> simp only [doMakeFunc] at hr <;> try (simp at hr; done)
  case func f =>
    simp only [R2.ok.injEq] at hr
    obtain ⟨rfl, rfl⟩ := hr
    exact RanV.same h rfl (by simp only [RV]; exact ⟨us.toList, zs.toList, by simp, hx, hy⟩)
  case method name =>
    match xs, ys, hx, hy, hr with
    | [x], [], hx, hy, hr =>
      simp only [R2.ok.injEq] at hr
      obtain ⟨rfl, rfl⟩ := hr
      simp only [RVs] at hx hy
      obtain ⟨u, us', e, hxu, rfl⟩ := hx
      refine RanV.same h (u := .func (.method name) us zs) rfl ?_
      simp only [RV]
      refine ⟨u, ?_, hxu⟩
      have e1 : us = #[u] := Array.ext' (by simpa using e)
      have e2 : zs = #[] := Array.ext' (by simpa using hy)
      rw [e1, e2]
    | [], _, _, _, hr => simp at hr
    | _ :: _ :: _, _, _, _, hr => simp at hr
    | [_], _ :: _, _, _, hr => simp at hr

theorem typeAssert_sound (h : Rel φ B H w) {xt t : TypeId} {ok : Bool} {x v : AV} {u : Value} (hx : RV φ x u) (hr : doTypeAssert P t ok x H = .ok v H') : RanV P (Instr.typeAssert u xt t ok) bd φ B H w v H' := by
  cases x <;> simp only [doTypeAssert] at hr <;> try (simp at hr; done)
  case iface tx vx =>
    simp only [RV] at hx
    obtain ⟨y, rfl, hy⟩ := hx
    cases hd : underOf P t with
    | none => rw [hd] at hr; simp at hr
    | some d =>
      rw [hd] at hr
      have hrun := run_underlying_of hd w
      cases d <;> simp only at hr <;> try (simp at hr; done)
      all_goals
        cases hb : Nat.beq tx t with
        | false => rw [hb] at hr; simp at hr
        | true =>
          rw [hb] at hr
          simp only [R2.ok.injEq] at hr
          obtain ⟨rfl, rfl⟩ := hr
          have := Nat.eq_of_beq_eq_true hb
          subst this
          refine RanV.same h (u := if ok then .tuple #[y, .bool true] else y) ?_ ?_
          · simp [Instr.typeAssert, hrun]
          · cases ok with
            | false => simpa [commaOk] using hy
            | true => simp only [commaOk, if_true, RV]; exact ⟨[y, .bool true], rfl, by simp only [RVs, RV]; exact ⟨y, _, rfl, hy, .bool true, [], rfl, rfl, rfl⟩⟩
end Go.AM

/- Conversions; slices of slices, of texts, of arrays. -/
namespace Go.AM
open Go
variable {P : Program} {φ : Phi} {B : Tree ABlk} {H H' : Heap} {w : World} {bd : Nat}

theorem isU8_of {e : TypeId} (h : isU8 P e = true) : underOf P e = some (.int .u8) := by
  unfold isU8 at h
  cases hd : underOf P e with
  | none => rw [hd] at h; simp at h
  | some d =>
    rw [hd] at h
    cases d <;> try (simp at h; done)
    case int k => cases k <;> first | rfl | (simp at h; done)

theorem bytesOf_rvs (φ : Phi) (b : List UInt8) : RVs φ (bytesOf (b.map UInt8.toNat)) (b.map fun x => Value.int .u8 x.toNat) := by
  induction b with
  | nil => simp [bytesOf, RVs]
  | cons x b ih => simp only [bytesOf, List.map_cons, RVs]; exact ⟨_, _, rfl, by simp [RV], ih⟩

theorem bytesOf_cells (l : List Nat) : ∀ c ∈ bytesOf l, c.isCell = true := by
  intro c hc
  simp only [bytesOf, List.mem_map] at hc
  obtain ⟨n, _, rfl⟩ := hc
  rfl

theorem asByte_of {a : AV} {n : Nat} {u : Value} (h : asByte a = some n) (ha : RV φ a u) : u = .int .u8 (Int.ofNat n) ∧ n < 256 := by
  unfold asByte at h
  cases a <;> try (simp at h; done)
  case int k m =>
    cases k <;> try (simp at h; done)
    cases m with
    | negSucc _ => simp at h
    | ofNat m =>
      simp only at h
      cases hb : Nat.blt m 256 with
      | false => rw [hb] at h; simp at h
      | true =>
        rw [hb] at h
        simp only [Option.some.injEq] at h
        subst h
        simp only [RV] at ha
        exact ⟨ha, blt_lt hb⟩

theorem asBytes_of : ∀ {cs : List AV} {l : List Nat} {us : List Value}, asBytes cs = some l → RVs φ cs us → us = l.map (fun n => Value.int .u8 (Int.ofNat n)) ∧ ∀ n ∈ l, n < 256
  | [], l, us, h, r => by
    simp only [asBytes, Option.some.injEq] at h; subst h
    simp only [RVs] at r; subst r; simp
  | c :: cs, l, us, h, r => by
    simp only [asBytes] at h
    cases h1 : asByte c with
    | none => rw [h1] at h; simp at h
    | some n =>
      rw [h1] at h
      simp only at h
      cases h2 : asBytes cs with
      | none => rw [h2] at h; simp at h
      | some ns =>
        rw [h2] at h
        simp only [Option.some.injEq] at h
        subst h
        simp only [RVs] at r
        obtain ⟨u, us', rfl, hu, r⟩ := r
        obtain ⟨e1, e2⟩ := asByte_of h1 hu
        obtain ⟨e3, e4⟩ := asBytes_of h2 r
        exact ⟨by simp [e1, e3], fun m hm => by exact (List.mem_cons.1 hm).elim (fun e => e ▸ e2) (fun hm => e4 m hm)⟩

theorem fold_bytes (l : List Nat) (s : ByteArray) (h : ∀ n ∈ l, n < 256) : ((l.map Int.ofNat).foldl (fun r n => r.push (UInt8.ofNat n.toNat)) s).data.toList.map UInt8.toNat = s.data.toList.map UInt8.toNat ++ l := by
  induction l generalizing s with
  | nil => simp
  | cons n l ih =>
    simp only [List.map_cons, List.foldl_cons]
    rw [ih _ (fun m hm => h m (by simp [hm]))]
    have hn := h n (by simp)
    have : (s.push (UInt8.ofNat (Int.ofNat n).toNat)).data.toList = s.data.toList ++ [UInt8.ofNat n] := by
      simp [ByteArray.push]
    rw [this]
    simp [Nat.mod_eq_of_lt hn]

theorem convert_sound (h : Rel φ B H w) (hbd : bd ≤ w.heap.size) {s d : TypeId} {x v : AV} {u : Value} (hx : RV φ x u) (hr : doConvert P B s d x H = .ok v H') : RanV P (convert s d u) bd φ B H w v H' := by
  cases x <;> simp only [doConvert] at hr <;> try (simp at hr; done)
  case int k n =>
    simp only [RV] at hx
    subst hx
    cases hs : underOf P s with
    | none => rw [hs] at hr; simp at hr
    | some ds =>
      rw [hs] at hr
      cases ds <;> try (simp at hr; done)
      case int ks =>
        simp only [doConvInt] at hr
        cases hd : underOf P d with
        | none => rw [hd] at hr; simp at hr
        | some dd =>
          rw [hd] at hr
          cases dd <;> try (simp at hr; done)
          case int kd =>
            simp only [R2.ok.injEq] at hr
            obtain ⟨rfl, rfl⟩ := hr
            exact RanV.same h (u := .int kd (kd.wrap n)) (by simp [convert, run_underlying_of hs w, run_underlying_of hd w, Conv.intToInt]) (by simp [RV])
  case str l =>
    simp only [RV] at hx
    obtain ⟨b, rfl, rfl⟩ := hx
    cases hs : underOf P s with
    | none => rw [hs] at hr; simp at hr
    | some ds =>
      rw [hs] at hr
      cases ds <;> try (simp at hr; done)
      case string =>
        simp only [doConvStr] at hr
        cases hd : underOf P d with
        | none => rw [hd] at hr; simp at hr
        | some dd =>
          rw [hd] at hr
          cases dd <;> try (simp at hr; done)
          case string =>
            simp only [R2.ok.injEq] at hr
            obtain ⟨rfl, rfl⟩ := hr
            exact RanV.same h (u := .string b) (by simp [convert, run_underlying_of hs w, run_underlying_of hd w]) (by simp only [RV]; exact ⟨b, rfl, rfl⟩)
          case slice e =>
            simp only at hr
            cases hu : isU8 P e with
            | false => rw [hu] at hr; simp at hr
            | true =>
              rw [hu] at hr
              simp only [R2.ok.injEq] at hr
              obtain ⟨rfl, rfl⟩ := hr
              have hue := isU8_of hu
              -- the capacity that is drawn
              obtain ⟨cap, hcap, hrun⟩ : ∃ cap, b.size ≤ cap ∧ (choose (.appendCap b.size 0 e)).run P w = .ok cap w.drew :=
                ⟨b.size + w.tape w.drawn (.appendCap b.size 0 e) % (2 ^ 63 - b.size), by omega, by simp [Question.forced, Question.cut]⟩
              have hsz : b.data.size = b.size := rfl
              let c : Array Value := (b.data.map fun x => Value.int .u8 x.toNat) ++ Array.replicate (cap - b.size) (.int .u8 0)
              have hc : c.size = cap := by simp [c]; omega
              have hgrew : Grew w ((w.drew.alloc (.cells c e)).freeze ⟨w.heap.size, cap, none⟩ 1) (.cells c e (cap, cap + 1)) := by
                refine ⟨rfl, rfl, rfl, ?_⟩
                simp only [World.freeze, World.alloc, World.drew]
                apply Array.ext_getElem?
                intro i
                simp only [Nat.one_ne_zero, if_false, Array.getElem?_modify, Array.getElem?_push]
                by_cases hi : w.heap.size = i
                · simp [hi]
                · have hi' : ¬ i = w.heap.size := fun e => hi e.symm
                  simp [hi, hi']
              obtain ⟨h1, h2⟩ := h.newRow (bytesOf_rvs φ b.data.toList) (bytesOf_cells _) true c e cap (cap + 1) b.size (by simp [bytesOf, hsz]) (by omega)
                (fun j u hu => by
                  simp only [List.getElem?_map, Option.map_eq_some_iff] at hu
                  obtain ⟨y, hy, rfl⟩ := hu
                  have hlt : j < b.data.size := by have := (List.getElem?_eq_some_iff.1 hy).1; simpa using this
                  simp only [c]
                  rw [Array.getElem?_append_left (by simpa using hlt)]
                  have : b.data[j]? = some y := by simpa using hy
                  simp [this])
                (fun j hj => by omega) (fun e => by simp at e) hgrew bd hbd
              refine ⟨_, .slice (some ⟨w.heap.size, 0, none⟩) b.size cap, _, ?_, ?_, ?_, h2, ?_⟩
              · simp only [convert, Sem.run_bind, run_underlying_of hs w, run_underlying_of hd w, Result.andThen_ok, run_underlying_of hue w, Conv.stringToBytes, hrun]
                simp only [Go.newRow, Sem.run_bind, run_newObj, Result.andThen_ok, Sem.run_pure, World.alloc_eq, markStringish, run_shape, World.size_drew]
                have hshape : (w.drew.alloc (.cells c e)).shape? w.heap.size = some (e, cap) := by
                  simp only [World.shape?, World.alloc, World.drew]
                  simp [hc]
                have hshape' : (w.drew.alloc (.cells (b.data.map (fun x => Value.int .u8 x.toNat) ++ Array.replicate (cap - b.size) (.int .u8 0)) e)).shape? w.heap.size = some (e, cap) := hshape
                rw [hshape']
                simp [c]
              · simp only [RV]
                refine ⟨_, _, _, 0, cap, Phi.cell_withCell _ _ _ _, by simp [hsz], .inl rfl, by simp [hsz], Nat.le_refl _, by simp [hsz]; omega, fun e => by simp at e, by simp [hc]⟩
              · have : (b.data.toList.map UInt8.toNat).length = b.size := by simp [hsz]
                rw [this]; exact h1
              · simp only [AM.newRow, next_newBlk, Pos.succ_toNat]; omega
  case nilslice =>
    simp only [RV] at hx
    subst hx
    cases hs : underOf P s with
    | none => rw [hs] at hr; simp at hr
    | some ds =>
      rw [hs] at hr
      cases ds <;> try (simp at hr; done)
      case slice e =>
        cases hd : underOf P d with
        | none => rw [hd] at hr; simp at hr
        | some dd =>
          rw [hd] at hr
          cases dd <;> try (simp at hr; done)
          case string =>
            simp only at hr
            cases hu : isU8 P e with
            | false => rw [hu] at hr; simp at hr
            | true =>
              rw [hu] at hr
              simp only [R2.ok.injEq] at hr
              obtain ⟨rfl, rfl⟩ := hr
              exact RanV.same h (u := .string .empty) (by simp [convert, run_underlying_of hs w, run_underlying_of hd w, run_underlying_of (isU8_of hu) w, Conv.bytesToString]) (by simp only [RV]; exact ⟨_, rfl, rfl⟩)
  case slice b g off len kc ex sz =>
    simp only [RV] at hx
    obtain ⟨n, L, N, o, cap, hc, rfl, ho, hL, hk, hcap, hex, hN⟩ := hx
    simp only [doConvBytes] at hr
    cases hs : underOf P s with
    | none => rw [hs] at hr; simp at hr
    | some ds =>
      rw [hs] at hr
      cases ds <;> try (simp at hr; done)
      case slice e =>
        cases hd : underOf P d with
        | none => rw [hd] at hr; simp at hr
        | some dd =>
          rw [hd] at hr
          cases dd <;> try (simp at hr; done)
          case string =>
            simp only at hr
            cases hu : (isU8 P e && Nat.beq sz 1) with
            | false => rw [hu] at hr; simp at hr
            | true =>
              rw [hu] at hr
              simp only [Bool.and_eq_true] at hu
              have h1z := Nat.eq_of_beq_eq_true hu.2
              subst h1z
              simp only at hr
              cases hq : readCells B H b g off len with
              | none => rw [hq] at hr; simp at hr
              | some cs =>
                rw [hq] at hr
                simp only at hr
                cases hb : asBytes cs with
                | none => rw [hb] at hr; simp [retStr] at hr
                | some l =>
                  rw [hb] at hr
                  simp only [retStr, R2.ok.injEq] at hr
                  obtain ⟨rfl, rfl⟩ := hr
                  obtain ⟨us, r1, r2, _, r4⟩ := h.read hq hc (by omega)
                  obtain ⟨e1, e2⟩ := asBytes_of hb r1
                  have hload : (loadCells ⟨n, o, none⟩ len).run P w = .ok ((l.map Int.ofNat).map (Value.int .u8)).toArray w := by
                    have hus : us = (l.map Int.ofNat).map (Value.int .u8) := by rw [e1]; simp
                    rcases ho with rfl | rfl
                    · rw [r4 P, hus]
                    · have hl0 : len = 0 := by omega
                      subst hl0
                      have : us = [] := List.eq_nil_of_length_eq_zero r2
                      rw [← hus, this]; rfl
                  refine RanV.same h (u := .string _) ((run_convert_bytes_string w s d e _ _ _ (under_of hs) (under_of (isU8_of hu.1)) (under_of hd)).trans (run_bytesToString w _ _ _ _ hload)) ?_
                  simp only [RV]
                  refine ⟨_, rfl, ?_⟩
                  rw [fold_bytes l _ e2]
                  rfl
end Go.AM

/- Slices of slices, of texts, of arrays; lengths. -/
namespace Go.AM
open Go
variable {P : Program} {φ : Phi} {B : Tree ABlk} {H H' : Heap} {w : World} {bd : Nat}

/-- A bound of a slice expression: absent, or a number. -/
def BoundIs (x : Option AV) (u : Option Value) : Prop := match x, u with
  | none, none => True
  | some (.int k n), some v => v = .int k n
  | some _, some _ => True
  | _, _ => False

theorem boundIs_of {φ : Phi} {x : Option AV} {u : Option Value} (h : match x, u with | none, none => True | some a, some v => RV φ a v | _, _ => False) : BoundIs x u := by
  cases x with
  | none => cases u <;> simp_all [BoundIs]
  | some a => cases u with
    | none => simp_all
    | some v => cases a <;> simp_all [BoundIs, RV]

theorem bound_none {u : Option Value} (h : BoundIs none u) : u = none := by cases u <;> simp_all [BoundIs]
theorem bound_some {x : AV} {d l : Nat} {u : Option Value} (h : BoundIs (some x) u) (hb : bound (some x) d = some l) : ∃ k, u = some (.int k (Int.ofNat l)) := by
  cases x <;> simp only [bound] at hb <;> try (simp at hb; done)
  case int k n =>
    cases n with
    | negSucc _ => simp at hb
    | ofNat m =>
      simp only [Option.some.injEq] at hb
      subst hb
      cases u with
      | none => simp [BoundIs] at h
      | some v => simp only [BoundIs] at h; exact ⟨k, by rw [h]⟩

theorem run_sliceBound {k : IntKind} {l y : Nat} (code : BoundsCode) (h : l ≤ y) (w : World) : (Instr.sliceBound (.int k (Int.ofNat l)) y code).run P w = .ok l w := by
  have : (0 : Int) ≤ Int.ofNat l ∧ Int.ofNat l ≤ (y : Int) := ⟨Int.natCast_nonneg l, Int.ofNat_le.2 h⟩
  simp only [Instr.sliceBound, asIntOf, Sem.run_bind, Sem.run_pure, Result.andThen_ok, Sem.run_ite, if_pos this]
  rfl

/-- The bounds, all told. -/
theorem run_bounds (isSlice : Bool) {len cap l h : Nat} {lo hi : Option AV} {ul uh : Option Value} (hl : BoundIs lo ul) (hh : BoundIs hi uh) (el : bound lo 0 = some l) (eh : bound hi len = some h) (h1 : l ≤ h) (h2 : h ≤ cap) (w : World) :
    (Instr.sliceBounds isSlice len cap ul uh none).run P w = .ok (l, h, cap) w := by
  unfold Instr.sliceBounds
  cases hi with
  | none =>
    rw [bound_none hh]
    simp only [bound, Option.some.injEq] at eh
    subst eh
    cases lo with
    | none =>
      rw [bound_none hl]
      simp only [bound, Option.some.injEq] at el
      subst el; rfl
    | some x =>
      obtain ⟨k, rfl⟩ := bound_some hl el
      simp only [Sem.run_bind, Sem.run_pure, Result.andThen_ok, run_sliceBound _ h1 w]
  | some y =>
    obtain ⟨k', rfl⟩ := bound_some hh eh
    cases lo with
    | none =>
      rw [bound_none hl]
      simp only [bound, Option.some.injEq] at el
      subst el
      simp only [Sem.run_bind, Sem.run_pure, Result.andThen_ok, run_sliceBound _ h2 w]
    | some x =>
      obtain ⟨k, rfl⟩ := bound_some hl el
      simp only [Sem.run_bind, Sem.run_pure, Result.andThen_ok, run_sliceBound _ h2 w, run_sliceBound _ h1 w]

theorem run_bounds3 (isSlice : Bool) {len cap l h m : Nat} {lo : Option AV} {hi mx : AV} {ul uh um : Option Value} (hl : BoundIs lo ul) (hh : BoundIs (some hi) uh) (hm : BoundIs (some mx) um) {d d' : Nat}
    (el : bound lo 0 = some l) (eh : bound (some hi) d = some h) (em : bound (some mx) d' = some m) (h1 : l ≤ h) (h2 : h ≤ m) (h3 : m ≤ cap) (w : World) :
    (Instr.sliceBounds isSlice len cap ul uh um).run P w = .ok (l, h, m) w := by
  obtain ⟨km, rfl⟩ := bound_some hm em
  obtain ⟨kh, rfl⟩ := bound_some hh eh
  unfold Instr.sliceBounds
  simp only [Sem.run_bind, run_sliceBound _ h3 w, Result.andThen_ok, run_sliceBound _ h2 w]
  cases lo with
  | none =>
    rw [bound_none hl]
    simp only [bound, Option.some.injEq] at el
    subst el; rfl
  | some x =>
    obtain ⟨k, rfl⟩ := bound_some hl el
    simp only [Sem.run_bind, Sem.run_pure, Result.andThen_ok, run_sliceBound _ h1 w]

/-- A slice's new bounds lie within its block. -/
theorem slice_rv {b : Pos} {g off sz n L N o cap l h m kc' : Nat} {ex : Bool} (hc : φ.cell b g = some (n, L, N)) (ho : o = off ∨ cap = 0) (hN : off + cap * sz ≤ N) (h1 : l ≤ h) (h2 : h ≤ m) (h3 : m ≤ cap) (hk1 : h - l ≤ kc') (hk2 : kc' ≤ m - l) (hex : ex = true → m - l = kc')
    (hL : off + h * sz ≤ L) (a : Addr) (ha : a = if m = l then ⟨n, o, none⟩ else (⟨n, o, none⟩ : Addr).add (l * sz)) : RV φ (.slice b g (off + l * sz) (h - l) kc' ex sz) (.slice (some a) (h - l) (m - l)) := by
  simp only [RV]
  have hmul : l * sz + (h - l) * sz = h * sz := by rw [← Nat.add_mul]; congr 1; omega
  have hmul2 : l * sz + (m - l) * sz = m * sz := by rw [← Nat.add_mul]; congr 1; omega
  have hmle : m * sz ≤ cap * sz := Nat.mul_le_mul_right _ h3
  by_cases e : m = l
  · rw [if_pos e] at ha
    subst ha
    exact ⟨n, L, N, o, m - l, hc, rfl, .inr (by omega), by omega, hk1, hk2, hex, by omega⟩
  · rw [if_neg e, add_none] at ha
    subst ha
    have : o = off := by omega
    subst this
    exact ⟨n, L, N, o + l * sz, m - l, hc, rfl, .inl rfl, by omega, hk1, hk2, hex, by omega⟩

theorem roomOk_of (h : Rel φ B H w) {b : Pos} {g off len sz hh n L N : Nat} (hc : φ.cell b g = some (n, L, N)) (hL : off + len * sz ≤ L) (hr : roomOk B H b g off len sz hh = true) : off + hh * sz ≤ L := by
  unfold roomOk at hr
  cases hl : Nat.ble hh len with
  | true =>
    have := Nat.mul_le_mul_right sz (Nat.le_of_ble_eq_true hl)
    omega
  | false =>
    rw [hl] at hr
    simp only at hr
    have hb := h.blks b
    cases hx : blk B H b with
    | none => rw [hx] at hr; simp at hr
    | some x =>
      rw [hx] at hr hb
      cases x <;> try (simp at hr; done)
      case cells st cur min blen cs =>
        simp only [Bool.and_eq_true] at hr
        have h1 := Nat.eq_of_beq_eq_true hr.1
        have h2 := Nat.le_of_ble_eq_true hr.2
        obtain ⟨_, h3, _⟩ := RowOk.gens hb hc
        have := h3 h1.symm
        omega

theorem slice_sound (h : Rel φ B H w) {t : TypeId} {x v : AV} {lo hi mx : Option AV} {u : Value} {ul uh um : Option Value} (hx : RV φ x u) (hl : BoundIs lo ul) (hh : BoundIs hi uh) (hm : BoundIs mx um)
    (hr : doSlice P B t x lo hi mx H = .ok v H') : RanV P (Instr.sliceAt t u ul uh um) bd φ B H w v H' := by
  cases x <;> simp only [doSlice] at hr <;> try (simp at hr; done)
  case str s =>
    simp only [RV] at hx
    obtain ⟨b, rfl, rfl⟩ := hx
    simp only [sliceStr] at hr
    cases hd : underOf P t with
    | none => rw [hd] at hr; simp at hr
    | some d =>
      rw [hd] at hr
      cases d <;> try (simp at hr; done)
      case string =>
        cases mx with
        | some _ => simp at hr
        | none =>
          have := bound_none hm
          subst this
          simp only at hr
          cases el : bound lo 0 with
          | none => rw [el] at hr; simp at hr
          | some l =>
            cases eh : bound hi (b.data.toList.map UInt8.toNat).length with
            | none => rw [el, eh] at hr; simp at hr
            | some hh' =>
              rw [el, eh] at hr
              simp only at hr
              cases hb : (Nat.ble l hh' && Nat.ble hh' (b.data.toList.map UInt8.toNat).length) with
              | false => rw [hb] at hr; simp at hr
              | true =>
                rw [hb] at hr
                simp only [R2.ok.injEq] at hr
                obtain ⟨rfl, rfl⟩ := hr
                simp only [Bool.and_eq_true] at hb
                have h1 := Nat.le_of_ble_eq_true hb.1
                have h2 := Nat.le_of_ble_eq_true hb.2
                have hlen : (b.data.toList.map UInt8.toNat).length = b.size := by simp
                rw [hlen] at eh h2
                refine RanV.same h (u := .string (b.extract l hh')) ?_ ?_
                · have hb := run_bounds (P := P) false hl hh el eh h1 h2 w
                  simp [Instr.sliceAt, run_underlying_of hd w, Instr.slice, hb]
                · simp only [RV]
                  refine ⟨_, rfl, ?_⟩
                  simp [ByteArray.data_extract, List.extract_eq_take_drop]
  case nilslice =>
    simp only [RV] at hx
    subst hx
    simp only [sliceNil] at hr
    cases hd : underOf P t with
    | none => rw [hd] at hr; simp at hr
    | some d =>
      rw [hd] at hr
      cases d <;> try (simp at hr; done)
      case slice elem =>
        cases el : bound lo 0 with
        | none => rw [el] at hr; simp at hr
        | some l =>
          cases eh : bound hi 0 with
          | none => rw [el, eh] at hr; simp at hr
          | some hh' =>
            cases em : bound mx 0 with
            | none => rw [el, eh, em] at hr; simp at hr
            | some m =>
              rw [el, eh, em] at hr
              cases l with
              | succ _ => simp at hr
              | zero =>
                cases hh' with
                | succ _ => simp at hr
                | zero =>
                  cases m with
                  | succ _ => simp at hr
                  | zero =>
                    simp only at hr
                    cases hs : sizeOf P elem with
                    | none => rw [hs] at hr; cases hi <;> cases mx <;> simp at hr
                    | some sz =>
                      rw [hs] at hr
                      have hrs := run_sizeOf_of hs w
                      cases mx with
                      | none =>
                        have := bound_none hm
                        subst this
                        have hv : v = .nilslice ∧ H' = H := by cases hi <;> (simp only [R2.ok.injEq] at hr; exact ⟨hr.1.symm, hr.2.symm⟩)
                        obtain ⟨rfl, rfl⟩ := hv
                        have hb := run_bounds (P := P) true (len := 0) (cap := 0) hl hh el eh (Nat.le_refl _) (Nat.le_refl _) w
                        exact RanV.same h (u := .slice none 0 0) (by simp [Instr.sliceAt, run_underlying_of hd w, Instr.slice, hb, hrs]) (by simp [RV])
                      | some mx =>
                        cases hi with
                        | none => simp at hr
                        | some hi =>
                          simp only [R2.ok.injEq] at hr
                          obtain ⟨rfl, rfl⟩ := hr
                          have hb := run_bounds3 (P := P) true (len := 0) (cap := 0) hl hh hm el eh em (Nat.le_refl _) (Nat.le_refl _) (Nat.le_refl _) w
                          exact RanV.same h (u := .slice none 0 0) (by simp [Instr.sliceAt, run_underlying_of hd w, Instr.slice, hb, hrs]) (by simp [RV])
  case slice b g off len kc ex sz =>
    simp only [RV] at hx
    obtain ⟨n, L, N, o, cap, hc, rfl, ho, hL, hk, hcap, hex, hN⟩ := hx
    simp only [sliceSlice] at hr
    cases hd : underOf P t with
    | none => rw [hd] at hr; simp at hr
    | some d =>
      rw [hd] at hr
      cases d <;> try (simp at hr; done)
      case slice elem =>
        simp only at hr
        cases hs : sizeOf P elem with
        | none => rw [hs] at hr; simp at hr
        | some sz' =>
          rw [hs] at hr
          have hrs := run_sizeOf_of hs w
          simp only at hr
          cases hz : Nat.beq sz sz' with
          | false => rw [hz] at hr; simp at hr
          | true =>
            rw [hz] at hr
            have := Nat.eq_of_beq_eq_true hz
            subst this
            simp only at hr
            cases el : bound lo 0 with
            | none => rw [el] at hr; simp at hr
            | some l =>
              cases eh : bound hi len with
              | none => rw [el, eh] at hr; simp at hr
              | some hh' =>
                rw [el, eh] at hr
                cases mx with
                | none =>
                  have := bound_none hm
                  subst this
                  simp only at hr
                  cases hb : (Nat.ble l hh' && Nat.ble hh' kc && roomOk B H b g off len sz hh') with
                  | false => rw [hb] at hr; simp at hr
                  | true =>
                    rw [hb] at hr
                    simp only [R2.ok.injEq] at hr
                    obtain ⟨rfl, rfl⟩ := hr
                    simp only [Bool.and_eq_true] at hb
                    have h1 := Nat.le_of_ble_eq_true hb.1.1
                    have h2 := Nat.le_of_ble_eq_true hb.1.2
                    have h3 := roomOk_of h hc hL hb.2
                    have hbd := run_bounds (P := P) true (len := len) (cap := cap) hl hh el eh h1 (by omega) w
                    refine RanV.same h (u := .slice (some (if cap = l then ⟨n, o, none⟩ else (⟨n, o, none⟩ : Addr).add (l * sz))) (hh' - l) (cap - l)) ?_
                      (slice_rv (m := cap) hc ho hN h1 (by omega) (Nat.le_refl _) (by omega) (by omega) (fun e => by have := hex e; omega) h3 _ rfl)
                    simp only [Instr.sliceAt, Sem.run_bind, run_underlying_of hd w, Result.andThen_ok, Instr.slice, hbd, hrs, Sem.run_pure]
                    by_cases e : cap = l <;> simp [e]
                | some mx =>
                  simp only at hr
                  cases em : bound (some mx) 0 with
                  | none => rw [em] at hr; simp at hr
                  | some m =>
                    rw [em] at hr
                    cases hi with
                    | none => simp at hr
                    | some hi =>
                      simp only at hr
                      cases hb : (Nat.ble l hh' && Nat.ble hh' m && Nat.ble m kc && roomOk B H b g off len sz hh') with
                      | false => rw [hb] at hr; simp at hr
                      | true =>
                        rw [hb] at hr
                        simp only [R2.ok.injEq] at hr
                        obtain ⟨rfl, rfl⟩ := hr
                        simp only [Bool.and_eq_true] at hb
                        have h1 := Nat.le_of_ble_eq_true hb.1.1.1
                        have h2 := Nat.le_of_ble_eq_true hb.1.1.2
                        have h3 := Nat.le_of_ble_eq_true hb.1.2
                        have h4 := roomOk_of h hc hL hb.2
                        have hbd := run_bounds3 (P := P) true (len := len) (cap := cap) hl hh hm el eh em h1 h2 (by omega) w
                        refine RanV.same h (u := .slice (some (if m = l then ⟨n, o, none⟩ else (⟨n, o, none⟩ : Addr).add (l * sz))) (hh' - l) (m - l)) ?_
                          (slice_rv (m := m) hc ho hN h1 h2 (by omega) (by omega) (Nat.le_refl _) (fun _ => rfl) h4 _ rfl)
                        simp only [Instr.sliceAt, Sem.run_bind, run_underlying_of hd w, Result.andThen_ok, Instr.slice, hbd, hrs, Sem.run_pure]
                        by_cases e : m = l <;> simp [e]
  case ptr b g off ext =>
    simp only [RV] at hx
    obtain ⟨n, L, N, hc, he, rfl⟩ := hx
    have key : ∀ (arr : TypeId) (s : Sem Value), (∀ (k : Nat) (elem : TypeId) (sz l hh' : Nat), underOf P arr = some (.array k elem) → sizeOf P elem = some sz → bound lo 0 = some l → bound hi k = some hh' → l ≤ hh' → hh' ≤ k → um = none →
        s.run P w = .ok (.slice (some (if k = l then ⟨n, off, none⟩ else (⟨n, off, none⟩ : Addr).add (l * sz))) (hh' - l) (k - l)) w) → sliceArr P arr b g off ext lo hi mx H = .ok v H' → RanV P s bd φ B H w v H' := by
      intro arr s hrun hr
      simp only [sliceArr] at hr
      cases hd : underOf P arr with
      | none => rw [hd] at hr; simp at hr
      | some d =>
        rw [hd] at hr
        cases d <;> try (simp at hr; done)
        case array k elem =>
          cases mx with
          | some _ => simp at hr
          | none =>
            have hum := bound_none hm
            simp only at hr
            cases hs : sizeOf P elem with
            | none => rw [hs] at hr; simp at hr
            | some sz =>
              rw [hs] at hr
              simp only at hr
              cases el : bound lo 0 with
              | none => rw [el] at hr; simp at hr
              | some l =>
                cases eh : bound hi k with
                | none => rw [el, eh] at hr; simp at hr
                | some hh' =>
                  rw [el, eh] at hr
                  simp only at hr
                  cases hb : (Nat.ble l hh' && Nat.ble hh' k && Nat.ble (k * sz) ext) with
                  | false => rw [hb] at hr; simp at hr
                  | true =>
                    rw [hb] at hr
                    simp only [R2.ok.injEq] at hr
                    obtain ⟨rfl, rfl⟩ := hr
                    simp only [Bool.and_eq_true] at hb
                    have h1 := Nat.le_of_ble_eq_true hb.1.1
                    have h2 := Nat.le_of_ble_eq_true hb.1.2
                    have h3 := Nat.le_of_ble_eq_true hb.2
                    have hLN : L ≤ N := h.LN hc
                    have h4 : hh' * sz ≤ k * sz := Nat.mul_le_mul_right _ h2
                    exact RanV.same h (hrun k elem sz l hh' hd hs el eh h1 h2 hum)
                      (slice_rv (m := k) (cap := k) hc (.inl rfl) (by omega) h1 h2 (Nat.le_refl _) (by omega) (Nat.le_refl _) (fun _ => rfl) (by omega) _ rfl)
    cases hd : underOf P t with
    | none => rw [hd] at hr; simp at hr
    | some d =>
      rw [hd] at hr
      cases d <;> try (simp at hr; done)
      case pointer arr =>
        refine key arr _ (fun k elem sz l hh' h1 h2 h3 h4 h5 h6 h7 => ?_) hr
        subst h7
        have hb := run_bounds (P := P) false hl hh h3 h4 h5 h6 w
        simp only [Instr.sliceAt, Sem.run_bind, run_underlying_of hd w, Result.andThen_ok, Instr.slice, asAddr, Sem.run_pure, run_underlying_of h1 w, hb, run_sizeOf_of h2 w]
      case array k0 elem0 =>
        refine key t _ (fun k elem sz l hh' h1 h2 h3 h4 h5 h6 h7 => ?_) hr
        subst h7
        rw [hd] at h1
        simp only [Option.some.injEq, TypeDesc.array.injEq] at h1
        obtain ⟨rfl, rfl⟩ := h1
        have hb := run_bounds (P := P) false hl hh h3 h4 h5 h6 w
        simp only [Instr.sliceAt, Sem.run_bind, run_underlying_of hd w, Result.andThen_ok, Instr.sureAddr, Sem.run_pure, hb, run_sizeOf_of h2 w]
end Go.AM

/- append, make, copy, clear, len, cap, min, max. -/
namespace Go.AM
open Go
variable {P : Program} {φ : Phi} {B : Tree ABlk} {H H' : Heap} {w : World} {bd : Nat}

theorem rvs_rep {vs : List AV} {us : List Value} (h : RVs φ vs us) : ∀ n, RVs φ (repZero vs n) ((List.replicate n us).flatten)
  | 0 => by simp [repZero, RVs]
  | n + 1 => by simp only [repZero, List.replicate_succ, List.flatten_cons]; exact h.append (rvs_rep h n)

theorem rep_cells {vs : List AV} (h : ∀ c ∈ vs, c.isCell = true) : ∀ n, ∀ c ∈ repZero vs n, c.isCell = true
  | 0, c, hc => by simp [repZero] at hc
  | n + 1, c, hc => by
    simp only [repZero, List.mem_append] at hc
    exact hc.elim (h c) (rep_cells h n c)

theorem rep_length (vs : List AV) : ∀ n, (repZero vs n).length = n * vs.length
  | 0 => by simp [repZero]
  | n + 1 => by simp [repZero, rep_length vs n, Nat.add_mul, Nat.add_comm]

/-- Zeros, as the model writes them. -/
theorem flatten_get (us : List Value) (n : Nat) (j : Nat) (u : Value) (h : ((List.replicate n us).flatten)[j]? = some u) (hu : 0 < us.length) : us[j % us.length]? = some u ∧ j < n * us.length := by
  induction n generalizing j with
  | zero => simp at h
  | succ n ih =>
    rw [List.replicate_succ, List.flatten_cons] at h
    by_cases hj : j < us.length
    · rw [List.getElem?_append_left hj] at h
      rw [Nat.mod_eq_of_lt hj]
      exact ⟨h, by rw [Nat.add_mul]; omega⟩
    · rw [List.getElem?_append_right (by omega)] at h
      obtain ⟨h1, h2⟩ := ih (j - us.length) h
      rw [← Nat.mod_eq_sub_mod (by omega)] at h1
      exact ⟨h1, by rw [Nat.add_mul]; omega⟩

theorem zeroCells_list (z : Array Value) (n : Nat) : (Builtin.zeroCells z n).toList = (List.replicate n z.toList).flatten := by
  by_cases hz : z.size = 0
  · have : z = #[] := Array.eq_empty_of_size_eq_zero hz
    subst this
    simp [Builtin.zeroCells]
  · apply List.ext_getElem?
    intro j
    have hpos : 0 < z.toList.length := by simp; omega
    cases h : ((List.replicate n z.toList).flatten)[j]? with
    | some u =>
      obtain ⟨h1, h2⟩ := flatten_get _ _ _ _ h hpos
      simp only [Array.length_toList] at h1 h2
      have hlt : j % z.size < z.size := Nat.mod_lt _ (by omega)
      simp only [Builtin.zeroCells, Array.toList_map, Array.toList_range, List.getElem?_map, List.getElem?_range h2, Option.map_some]
      have : z[j % z.size]? = some u := by simpa using h1
      rw [getElem!_pos z (j % z.size) hlt]
      rw [Array.getElem?_eq_getElem hlt] at this
      exact this
    | none =>
      have : n * z.size ≤ j := by
        rcases Nat.lt_or_ge j (n * z.size) with hlt | hge
        · have hl : ((List.replicate n z.toList).flatten).length = n * z.size := by simp
          rw [List.getElem?_eq_none_iff] at h
          omega
        · exact hge
      rw [List.getElem?_eq_none]
      simp [Builtin.zeroCells, this]

theorem srcLen_of {x : AV} {u : Value} {n : Nat} (hx : RV φ x u) (h : srcLen x = some n) (w : World) : (Builtin.lenOf u).run P w = .ok n w := by
  cases x <;> simp only [srcLen] at h <;> try (simp at h; done)
  case str s =>
    simp only [Option.some.injEq] at h
    simp only [RV] at hx
    obtain ⟨b, rfl, rfl⟩ := hx
    subst h
    simp [Builtin.lenOf]
  case nilslice =>
    simp only [Option.some.injEq] at h
    simp only [RV] at hx
    subst hx h; rfl
  case slice =>
    simp only [Option.some.injEq] at h
    simp only [RV] at hx
    obtain ⟨n, L, N, o, cap, hc, rfl, _⟩ := hx
    subst h; rfl

theorem srcCells_of (h : Rel φ B H w) {x : AV} {u : Value} {n sz : Nat} {cs : List AV} (hx : RV φ x u) (hn : srcLen x = some n) (hr : srcCells B H sz x = some cs) :
    ∃ us : List Value, RVs φ cs us ∧ (∀ c ∈ cs, c.isCell = true) ∧ us.length = n * sz ∧ (Builtin.firstCells sz n u).run P w = .ok us.toArray w := by
  cases x <;> simp only [srcCells] at hr <;> try (simp at hr; done)
  case nilslice =>
    simp only [srcLen, Option.some.injEq] at hn hr
    simp only [RV] at hx
    subst hx hn hr
    exact ⟨[], by simp [RVs], by simp, by simp, rfl⟩
  case slice b g off len kc ex sz' =>
    simp only [srcLen, Option.some.injEq] at hn
    subst hn
    simp only [RV] at hx
    obtain ⟨n, L, N, o, cap, hc, rfl, ho, hL, hk, hcap, hex, hN⟩ := hx
    cases hz : Nat.beq sz sz' with
    | false => rw [hz] at hr; simp at hr
    | true =>
      rw [hz] at hr
      have := Nat.eq_of_beq_eq_true hz
      subst this
      simp only at hr
      obtain ⟨us, h1, h2, h3, h4⟩ := h.read hr hc hL
      refine ⟨us, h1, h3, h2, ?_⟩
      rcases ho with rfl | rfl
      · exact h4 P
      · have : len = 0 := by omega
        subst this
        simp only [Nat.zero_mul] at h2
        have : us = [] := List.eq_nil_of_length_eq_zero h2
        subst this
        simp [Builtin.firstCells, loadCells, loadCellsFrom]
  case str s =>
    simp only [srcLen, Option.some.injEq] at hn
    simp only [RV] at hx
    obtain ⟨b, rfl, rfl⟩ := hx
    subst hn
    cases hz : Nat.beq sz 1 with
    | false => rw [hz] at hr; simp at hr
    | true =>
      rw [hz] at hr
      have := Nat.eq_of_beq_eq_true hz
      subst this
      simp only [Option.some.injEq] at hr
      subst hr
      refine ⟨_, bytesOf_rvs φ b.data.toList, bytesOf_cells _, by simp, ?_⟩
      have hsz : b.data.size = b.size := rfl
      simp only [Builtin.firstCells, Sem.run_pure, Result.ok.injEq, and_true]
      apply Array.ext'
      simp [ByteArray.data_extract, hsz]
end Go.AM

/- append. -/
namespace Go.AM
open Go
variable {P : Program} {φ : Phi} {B : Tree ABlk} {H H' : Heap} {w : World} {bd : Nat}

/-- What is appended: elements of another slice or of a text, or so many zeros. -/
def AppSrc (P : Program) (w w1 : World) (xt : TypeId) (info : TypeInfo) (x : Value) (n : Nat) (us : List Value) : Prop :=
  (∃ d, P.underlying xt = some d ∧ (∀ k, d ≠ .int k) ∧ (Builtin.lenOf x).run P w = .ok n w ∧ (Builtin.firstCells info.size n x).run P w1 = .ok us.toArray w1) ∨
  (∃ k0 k z, P.underlying xt = some (.int k0) ∧ x = .int k (Int.ofNat n) ∧ n < 1099511627776 ∧ n * info.bytes ≤ 140737488355328 ∧ info.zero = some z ∧ us = (List.replicate n z.cells.toList).flatten ∧ 0 < info.size)

theorem wrap_small {n : Nat} (h : n < 1099511627776) : IntKind.i64.wrap (Int.ofNat n) = Int.ofNat n := by
  have h1 : (Int.ofNat n) % (2 ^ IntKind.i64.bits : Int) = Int.ofNat n := by
    apply Int.emod_eq_of_lt (Int.natCast_nonneg n)
    show (n : Int) < 2 ^ 64
    omega
  unfold IntKind.wrap
  simp only [h1]
  have h2 : ¬ (Int.ofNat n ≥ (2 ^ (IntKind.i64.bits - 1) : Int)) := by
    show ¬ ((n : Int) ≥ 2 ^ 63)
    omega
  simp only [h2, decide_false, Bool.and_false, Bool.false_eq_true, if_false]

theorem run_append_in {ts : Array TypeId} {ty st xt elem : TypeId} {info : TypeInfo} {base : Option Addr} {sLen sCap n : Nat} {x : Value} {us : List Value} (h0 : ts[0]? = some st) (h1 : ts[1]? = some xt)
    (hs : P.underlying st = some (.slice elem)) (hi : P.info? elem = some info) (hx : AppSrc P w w xt info x n us) (hn : sLen + n ≤ sCap) {w' : World}
    (hst : ∀ a, base = some a → (storeCells (a.add (sLen * info.size)) us 0).run P w = .ok () w') (hnil : base = none → w' = w) :
    (Builtin.append_ ts ty #[.slice base sLen sCap, x]).run P w = .ok (.slice base (sLen + n) sCap) w' := by
  rcases hx with ⟨d, hd, hdi, hl, hf⟩ | ⟨k0, k, z, hd, rfl, hn1, hn2, hz, rfl, hpos⟩
  · have hz : (match d with | .int _ => true | _ => false) = false := by cases d <;> first | rfl | exact absurd rfl (hdi _)
    simp only [Builtin.append_, h0, h1, Sem.run_bind, run_underlying hs, run_underlying hd, Result.andThen_ok, Go.sizeOf, typeInfo, run_program, hi, Sem.run_pure, List.getElem?_toArray, List.getElem?_cons_zero, List.getElem?_cons_succ]
    simp only [hz, Bool.false_eq_true, if_false, Sem.run_bind, hl, Result.andThen_ok, if_pos hn, Bool.not_false, if_true, hf]
    cases base with
    | none => rw [hnil rfl]; rfl
    | some a => simp only [Sem.run_bind]; rw [hst a rfl]; rfl
  · simp only [Builtin.append_, h0, h1, Sem.run_bind, run_underlying hs, run_underlying hd, Result.andThen_ok, Go.sizeOf, typeInfo, run_program, hi, Sem.run_pure, List.getElem?_toArray, List.getElem?_cons_zero, List.getElem?_cons_succ]
    have hneg : ¬ (Int.ofNat n < 0) := Int.not_lt.mpr (Int.natCast_nonneg n)
    have hbig : ¬ (Int.ofNat n * (info.bytes : Int) > 2 ^ 48) := by
      show ¬ ((n : Int) * (info.bytes : Int) > 2 ^ 48)
      rw [← Int.natCast_mul]; omega
    have htn : (Int.ofNat n).toNat = n := rfl
    simp only [if_true, asInt, asIntOf, Sem.run_bind, Sem.run_pure, Result.andThen_ok, wrap_small hn1, if_neg hneg, typeInfo, run_program, hi, if_neg hbig, htn, if_pos hn, Bool.not_true, Bool.false_eq_true, if_false]
    have happ : ∀ w0 : World, (if n * info.size = 0 then pure #[] else do let __do_lift ← zeroValue elem; pure (Builtin.zeroCells __do_lift.cells n) : Sem (Array Value)).run P w0 = .ok ((List.replicate n z.cells.toList).flatten).toArray w0 := by
      intro w0
      by_cases hn0 : n = 0
      · subst hn0; simp
      · have : n * info.size ≠ 0 := Nat.mul_ne_zero hn0 (by omega)
        rw [if_neg this]
        simp only [zeroValue, typeInfo, Sem.run_bind, run_program, Result.andThen_ok, hi, Sem.run_pure, hz]
        congr 1
        exact Array.ext' (by rw [zeroCells_list])
    rw [happ]
    simp only [Result.andThen_ok]
    cases base with
    | none => rw [hnil rfl]; rfl
    | some a => simp only [Sem.run_bind]; rw [hst a rfl]; rfl

theorem run_append_new {ts : Array TypeId} {ty st xt elem : TypeId} {info : TypeInfo} {z : Value} {base : Option Addr} {sLen sCap n : Nat} {x : Value} {us old : List Value} (h0 : ts[0]? = some st) (h1 : ts[1]? = some xt)
    (hs : P.underlying st = some (.slice elem)) (hi : P.info? elem = some info) (hz : info.zero = some z) (hx : AppSrc P w w.drew xt info x n us) (hn : ¬ sLen + n ≤ sCap) (hroom : roomFor (sLen + n) info.bytes = true)
    (hold : (Builtin.firstCells info.size sLen (.slice base sLen sCap)).run P w.drew = .ok old.toArray w.drew) :
    ∃ cap, sLen + n ≤ cap ∧ (Builtin.append_ ts ty #[.slice base sLen sCap, x]).run P w =
      .ok (.slice (some ⟨w.heap.size, 0, none⟩) (sLen + n) cap) (w.drew.alloc (.cells (old.toArray ++ us.toArray ++ Builtin.zeroCells z.cells (cap - (sLen + n))) elem)) := by
  unfold roomFor at hroom
  simp only [Bool.and_eq_true] at hroom
  have hr1 := Nat.le_of_ble_eq_true hroom.1
  have hr2 := blt_lt hroom.2
  have hlt : sCap < sLen + n := by omega
  have hb : (sLen + n) * info.bytes ≤ 140737488355328 := by
    have : (sLen + n) * info.bytes ≤ (2 * (sLen + n) + 1000) * info.bytes := Nat.mul_le_mul_right _ (by omega)
    omega
  have hfit : ¬ (Builtin.nextslicecap (sLen + n) sCap * info.bytes > 2 ^ 48) := by
    have := growslice_fits hlt hb
    omega
  have hmax : ¬ (((sLen + n : Nat) : Int) > IntKind.i64.max) := by
    have : IntKind.i64.max = 9223372036854775807 := by decide
    rw [this]; omega
  refine ⟨sLen + n + w.tape w.drawn (.appendCap (sLen + n) sCap elem) % (2 ^ 63 - (sLen + n)), by omega, ?_⟩
  have hch : (choose (.appendCap (sLen + n) sCap elem)).run P w = .ok (sLen + n + w.tape w.drawn (.appendCap (sLen + n) sCap elem) % (2 ^ 63 - (sLen + n))) w.drew := by
    simp [Question.forced, Question.cut]
  generalize sLen + n + w.tape w.drawn (.appendCap (sLen + n) sCap elem) % (2 ^ 63 - (sLen + n)) = cap at hch ⊢
  have hzv : ∀ w0 : World, (zeroValue elem).run P w0 = .ok z w0 := fun w0 => by simp [zeroValue, typeInfo, hi, hz]
  have hti : ∀ w0 : World, (typeInfo elem).run P w0 = .ok info w0 := fun w0 => by simp [typeInfo, hi]
  rcases hx with ⟨d, hd, hdi, hl, hf⟩ | ⟨k0, k, z', hd, rfl, hn1, hn2, hz', rfl, hpos⟩
  · have hzd : (match d with | .int _ => true | _ => false) = false := by cases d <;> first | rfl | exact absurd rfl (hdi _)
    simp only [Builtin.append_, h0, h1, Sem.run_bind, run_underlying hs, run_underlying hd, Result.andThen_ok, Go.sizeOf, hti, Sem.run_pure, List.getElem?_toArray, List.getElem?_cons_zero, List.getElem?_cons_succ]
    simp only [hzd, Bool.false_eq_true, if_false, Sem.run_bind, hl, Result.andThen_ok, if_neg hn, hti, Bool.not_false, if_true, hmax, false_and, hfit, hch, run_askRoom, hold, hf, hzv, Go.newRow, run_newObj, Sem.run_pure, World.alloc_eq, World.size_drew]
  · rw [hz] at hz'
    obtain rfl := Option.some.inj hz'
    simp only [Builtin.append_, h0, h1, Sem.run_bind, run_underlying hs, run_underlying hd, Result.andThen_ok, Go.sizeOf, hti, Sem.run_pure, List.getElem?_toArray, List.getElem?_cons_zero, List.getElem?_cons_succ]
    have hneg : ¬ (Int.ofNat n < 0) := Int.not_lt.mpr (Int.natCast_nonneg n)
    have hbig : ¬ (Int.ofNat n * (info.bytes : Int) > 2 ^ 48) := by
      show ¬ ((n : Int) * (info.bytes : Int) > 2 ^ 48)
      rw [← Int.natCast_mul]; omega
    have htn : (Int.ofNat n).toNat = n := rfl
    have happ : ∀ w0 : World, (if n * info.size = 0 then pure #[] else do let __do_lift ← zeroValue elem; pure (Builtin.zeroCells __do_lift.cells n) : Sem (Array Value)).run P w0 = .ok ((List.replicate n z.cells.toList).flatten).toArray w0 := by
      intro w0
      by_cases hn0 : n = 0
      · subst hn0; simp
      · have : n * info.size ≠ 0 := Nat.mul_ne_zero hn0 (by omega)
        rw [if_neg this]
        simp only [Sem.run_bind, hzv, Result.andThen_ok, Sem.run_pure]
        congr 1
        exact Array.ext' (by rw [zeroCells_list])
    simp only [if_true, asInt, asIntOf, Sem.run_bind, Sem.run_pure, Result.andThen_ok, wrap_small hn1, if_neg hneg, hti, if_neg hbig, htn, if_neg hn, Bool.not_true, Bool.false_eq_true, if_false, hmax, false_and, hfit, hch, run_askRoom, hold, happ, hzv, Go.newRow, run_newObj, World.alloc_eq, World.size_drew]
end Go.AM

/- append, as a whole. -/
namespace Go.AM
open Go
variable {P : Program} {φ : Phi} {B : Tree ABlk} {H H' : Heap} {w : World} {bd : Nat}

theorem appSrc_of {w1 : World} (h : Rel φ B H w1) {xt : TypeId} {info : TypeInfo} {x : AV} {u : Value} {n : Nat} {cs : List AV} (hx : RV φ x u) (hpos : 0 < info.size) (hr : newOnes P B xt info x H = some (n, cs)) (w : World) :
    ∃ us : List Value, AppSrc P w w1 xt info u n us ∧ RVs φ cs us ∧ (∀ c ∈ cs, c.isCell = true) ∧ us.length = n * info.size := by
  simp only [newOnes] at hr
  cases hd : underOf P xt with
  | none => rw [hd] at hr; simp at hr
  | some d =>
    rw [hd] at hr
    by_cases hi : ∃ k0, d = .int k0
    · obtain ⟨k0, rfl⟩ := hi
      cases x <;> try (simp at hr; done)
      case int k m =>
        cases m with
        | negSucc _ => simp at hr
        | ofNat m =>
          cases hz : info.zero with
          | none => rw [hz] at hr; simp at hr
          | some z =>
            rw [hz] at hr
            simp only at hr
            cases hb : (Nat.blt m 1099511627776 && Nat.ble (m * info.bytes) 140737488355328 && (AV.ofValue 6 z).stores && Nat.beq (AV.ofValue 6 z).cells.length info.size) with
            | false => rw [hb] at hr; simp at hr
            | true =>
              rw [hb] at hr
              simp only [Option.some.injEq, Prod.mk.injEq] at hr
              obtain ⟨rfl, rfl⟩ := hr
              simp only [Bool.and_eq_true] at hb
              have h1 := blt_lt hb.1.1.1
              have h2 := Nat.le_of_ble_eq_true hb.1.1.2
              have h3 := Nat.eq_of_beq_eq_true hb.2
              obtain ⟨hv1, hv2⟩ := RV.stored (rv_ofValue φ 6 z) hb.1.2
              simp only [RV] at hx
              subst hx
              refine ⟨(List.replicate m z.cells.toList).flatten, .inr ⟨k0, k, z, under_of hd, rfl, h1, h2, hz, rfl, hpos⟩, rvs_rep hv1 m, rep_cells hv2 m, ?_⟩
              have := RVs.length (rvs_rep hv1 m)
              rw [this, rep_length, h3]
    · have hr' : (match srcLen x, srcCells B H info.size x with | some n, some cs => some (n, cs) | _, _ => none) = some (n, cs) := by
        cases d <;> first | exact hr | exact absurd ⟨_, rfl⟩ hi
      cases hl : srcLen x with
      | none => rw [hl] at hr'; simp at hr'
      | some n' =>
        cases hc : srcCells B H info.size x with
        | none => rw [hl, hc] at hr'; simp at hr'
        | some cs' =>
          rw [hl, hc] at hr'
          simp only [Option.some.injEq, Prod.mk.injEq] at hr'
          obtain ⟨rfl, rfl⟩ := hr'
          obtain ⟨us, h1, h2, h3, h4⟩ := srcCells_of (P := P) h hx hl hc
          exact ⟨us, .inl ⟨d, under_of hd, fun k e => hi ⟨k, e⟩, srcLen_of hx hl w, h4⟩, h1, h2, h3⟩

/-- A row's next generation: in its own block of the machine's, or in a new one. -/
theorem Rel.bump {w' : World} (h : Rel φ B H w) {b : Pos} {g min blen n0 N n1 N' : Nat} {st : Bool} {bcs cs : List AV} (hb : blk B H b = some (.cells st g min blen bcs)) (hc : φ.cell b g = some (n0, blen, N))
    (hn1 : (n1 = n0 ∧ N' = N) ∨ w.heap.size ≤ n1) (hlt : n1 < w'.heap.size) (hos : w'.os = w.os) (htape : w'.tape = w.tape) (hout : w'.output = w.output) (hsz : w.heap.size ≤ w'.heap.size)
    (hw : ∀ n, n < w.heap.size → n ≠ n1 → w'.heap[n]? = w.heap[n]?) (hcells : CellsAt φ w' n1 (blen + cs.length) N' st (bcs ++ cs)) (hbd : bd ≤ w.heap.size) :
    Rel (φ.withCell b (g + 1) (n1, blen + cs.length, N')) B (setBlk H b (.cells st (g + 1) min (blen + cs.length) (bcs ++ cs))) w' ∧
      Step bd φ H.next.toNat w (φ.withCell b (g + 1) (n1, blen + cs.length, N')) w' := by
  have hrow : RowOk φ w b st g min blen bcs := by have := h.blks b; rw [hb] at this; exact this
  have hnone : φ.cell b (g + 1) = none := by
    cases hx : φ.cell b (g + 1) with
    | none => rfl
    | some y =>
      obtain ⟨n, L, M⟩ := y
      have := (hrow.gens hx).1
      omega
  have hs : Sub φ (φ.withCell b (g + 1) (n1, blen + cs.length, N')) := by
    refine ⟨fun {b' g' x} hx => ?_, fun hx => hx, fun hx => hx⟩
    simp only [Phi.withCell]
    by_cases e : b' = b ∧ g' = g + 1
    · rw [e.1, e.2, hnone] at hx; simp at hx
    · rw [if_neg e]; exact hx
  have hinv : ∀ {b' g' y}, (φ.withCell b (g + 1) (n1, blen + cs.length, N')).cell b' g' = some y → (b' = b ∧ g' = g + 1 ∧ y = (n1, blen + cs.length, N')) ∨ φ.cell b' g' = some y := by
    intro b' g' y hy
    simp only [Phi.withCell] at hy
    by_cases e : b' = b ∧ g' = g + 1
    · rw [if_pos e] at hy; exact .inl ⟨e.1, e.2, (Option.some.inj hy).symm⟩
    · rw [if_neg e] at hy; exact .inr hy
  have him0 : φ.Im n0 := .inl ⟨b, g, _, _, hc⟩
  have hLN : blen + cs.length ≤ N' := by obtain ⟨c, el, lo, hi, _, _, h3, _⟩ := hcells; exact h3
  have hne1 : ∀ n, φ.Im n → n ≠ n0 → n ≠ n1 := by
    intro n hn hne e
    rcases hn1 with ⟨e1, _⟩ | hge
    · exact hne (e.trans e1)
    · have := h.im hn; omega
  refine ⟨?_, ⟨hs, hos, htape, hout, hsz, fun n hn hi => hw n (by omega) (fun e => ?_), fun n hn hlt' => ?_, fun b' hb' => ?_⟩⟩
  · refine h.extend b hs (Nat.le_refl _) (fun b' hne => blk_setBlk_ne _ _ _ _ _ hne) (fun b' g' y hne hy => ?_) (fun _ _ _ x => x)
      (fun n hn hn' _ => hw n (h.im hn) (hne1 n hn (fun e => hn' g _ _ (e ▸ hc)))) hsz ?_ ?_ ?_ ?_ ?_ ?_ (h.has (.inl ⟨g, _, hc⟩)) (fun hm => h.stamps hm) ?_ h.far
    · rcases hinv hy with ⟨e, _⟩ | hy
      · exact absurd e hne
      · exact hy
    · rw [blk_setBlk_same]
      refine ⟨by simp [hrow.length], Nat.le_succ_of_le hrow.minle, fun {g' n L M} hg' => ?_⟩
      rcases hinv hg' with ⟨_, rfl, e⟩ | hk
      · simp only [Prod.mk.injEq] at e
        obtain ⟨rfl, rfl, rfl⟩ := e
        exact ⟨Nat.le_refl _, fun _ => rfl, Nat.le_refl _, fun _ => hcells.mono hs rfl⟩
      · obtain ⟨q1, q2, q3, q4⟩ := hrow.gens hk
        refine ⟨by omega, fun e => by omega, by omega, fun hm => ?_⟩
        have q4 := q4 hm
        by_cases e : n = n1
        · subst e
          rcases hn1 with ⟨rfl, rfl⟩ | hge
          · obtain ⟨c, el, lo, hi, a1, a2, a3, a4, a5, a6⟩ := hcells
            obtain ⟨c0, el0, lo0, hi0, b1, b2, b3, b4, b5, b6⟩ := q4
            obtain ⟨c1, el1, lo1, hi1, d1, d2, _⟩ := (hrow.gens hc).2.2.2 hrow.minle
            rw [b1] at d1
            simp only [Option.some.injEq, Obj.cells.injEq, Prod.mk.injEq] at d1
            obtain ⟨rfl, rfl, rfl, rfl⟩ := d1
            have : M = N' := b2.symm.trans d2
            subst this
            refine ⟨c, el, lo, hi, a1, a2, by omega, a4, a5, fun j hj => ?_⟩
            obtain ⟨x, u, c1, c2, c3, c4⟩ := a6 j (by omega)
            exact ⟨x, u, c1, c2, c3, RV.mono hs c4⟩
          · have := h.im (.inl ⟨b, g', L, M, hk⟩)
            omega
        · have hn := h.im (.inl ⟨b, g', L, M, hk⟩)
          obtain ⟨c, el, lo, hi, a1, a2, a3, a4, a5, a6⟩ := q4
          refine ⟨c, el, lo, hi, (hw n hn e).trans a1, a2, a3, a4, a5, fun j hj => ?_⟩
          obtain ⟨x, u, c1, c2, c3, c4⟩ := a6 j hj
          exact ⟨x, u, by rw [List.getElem?_append_left (by rw [hrow.length]; omega)]; exact c1, c2, c3, RV.mono hs c4⟩
    · intro nm _ ver es hb'
      rw [blk_setBlk_same] at hb'
      simp at hb'
    · intro n hn
      rcases hn with ⟨g', L, M, hg'⟩ | hn
      · rcases hinv hg' with ⟨_, _, e⟩ | hg'
        · simp only [Prod.mk.injEq] at e
          obtain ⟨rfl, _, _⟩ := e
          refine ⟨hlt, ?_⟩
          rcases hn1 with ⟨rfl, _⟩ | hge
          · exact .inl ⟨g, _, _, hc⟩
          · exact .inr (.inr fun hi => by have := h.im hi; omega)
        · exact ⟨Nat.lt_of_lt_of_le (h.im (.inl ⟨b, g', L, M, hg'⟩)) hsz, .inl ⟨g', L, M, hg'⟩⟩
      · exact ⟨Nat.lt_of_lt_of_le (h.im (.inr ⟨b, hn⟩)) hsz, .inr (.inl hn)⟩
    · intro g' n L M hg' hn
      have hn : φ.obj b = some n := hn
      rcases hinv hg' with ⟨_, _, e⟩ | hg'
      · simp only [Prod.mk.injEq] at e
        obtain ⟨rfl, _, _⟩ := e
        rcases hn1 with ⟨rfl, _⟩ | hge
        · exact h.apart hc hn
        · have := h.im (.inr ⟨b, hn⟩); omega
      · exact h.apart hg' hn
    · intro g1 g2 m1 m2 L1 L2 M1 M2 k1 k2 hle
      rcases hinv k1 with ⟨_, e1, f1⟩ | k1
      · rcases hinv k2 with ⟨_, e2, f2⟩ | k2
        · simp only [Prod.mk.injEq] at f1 f2; omega
        · have := (hrow.gens k2).1; omega
      · rcases hinv k2 with ⟨_, e2, f2⟩ | k2
        · have := (hrow.gens k1).2.2.1
          simp only [Prod.mk.injEq] at f2; omega
        · exact h.mono k1 k2 hle
    · intro g1 m1 L1 M1 k1
      rcases hinv k1 with ⟨_, e1, f1⟩ | k1
      · simp only [Prod.mk.injEq] at f1; omega
      · exact h.LN k1
    · intro s b' k hl n' m hn' hm'
      obtain ⟨en, cl, e1, e, e2, e3, e4⟩ := h.last (s := s) (b := b') (k := k) hl hn' hm'
      have hi : φ.Im n' := .inr ⟨b', hn'⟩
      exact ⟨en, cl, (hw n' (h.im hi) (hne1 n' hi (fun e => h.apart hc (e ▸ hn')))).trans e1, e, e2, e3, RV.mono hs e4⟩
  · subst e
    rcases hn1 with ⟨rfl, _⟩ | hge
    · exact hi him0
    · omega
  · rcases hn with ⟨b', g', L, M, hg'⟩ | ⟨b', hn⟩
    · rcases hinv hg' with ⟨_, _, e⟩ | hg'
      · simp only [Prod.mk.injEq] at e
        obtain ⟨rfl, _, _⟩ := e
        rcases hn1 with ⟨rfl, _⟩ | hge
        · exact him0
        · omega
      · exact .inl ⟨b', g', L, M, hg'⟩
    · exact .inr ⟨b', hn⟩
  · rcases hb' with ⟨g', x, hg'⟩ | ⟨n, hn⟩
    · rcases hinv hg' with ⟨e, _⟩ | hg'
      · exact .inl (.inl ⟨g, _, e ▸ hc⟩)
      · exact .inl (.inl ⟨g', x, hg'⟩)
    · exact .inl (.inr ⟨n, hn⟩)

theorem Rel.drew (h : Rel φ B H w) : Rel φ B H w.drew := h.same (Nat.le_refl _) (fun _ _ => rfl)
end Go.AM

/- append: the operation. -/
namespace Go.AM
open Go
variable {P : Program} {φ : Phi} {B : Tree ABlk} {H H' : Heap} {w : World} {bd : Nat}

theorem prefix_get {old us : List Value} {rest : Array Value} (j : Nat) (u : Value) (h : (old ++ us)[j]? = some u) : (old.toArray ++ us.toArray ++ rest)[j]? = some u := by
  have hlt : j < (old ++ us).length := (List.getElem?_eq_some_iff.1 h).1
  rw [Array.getElem?_append_left (by simpa using hlt)]
  simpa using h

theorem row_size {old us : List Value} {z : Array Value} {a n sz cap : Nat} (h1 : old.length = a * sz) (h2 : us.length = n * sz) (h3 : z.size = sz) (hc : a + n ≤ cap) :
    (old.toArray ++ us.toArray ++ Builtin.zeroCells z (cap - (a + n))).size = cap * sz := by
  have : (Builtin.zeroCells z (cap - (a + n))).size = (cap - (a + n)) * sz := by simp [Builtin.zeroCells, h3]
  simp only [Array.size_append, List.size_toArray, h1, h2, this]
  rw [← Nat.add_mul, ← Nat.add_mul]
  congr 1; omega

theorem grew_drew (w : World) (o : Obj) : Grew w (w.drew.alloc o) o := ⟨rfl, rfl, rfl, rfl⟩

/-- Into a new block. -/
theorem appendNew_sound (h : Rel φ B H w) (hbd : bd ≤ w.heap.size) {ts : Array TypeId} {ty st xt elem : TypeId} {info : TypeInfo} {z : Value} {base : Option Addr} {sLen sCap n : Nat} {x : Value} {us old : List Value} {olds cs : List AV}
    (h0 : ts[0]? = some st) (h1 : ts[1]? = some xt) (hs : P.underlying st = some (.slice elem)) (hi : P.info? elem = some info) (hz : info.zero = some z) (hzs : z.cells.size = info.size)
    (hx : AppSrc P w w.drew xt info x n us) (hn : ¬ sLen + n ≤ sCap) (hroom : roomFor (sLen + n) info.bytes = true)
    (hold : (Builtin.firstCells info.size sLen (.slice base sLen sCap)).run P w.drew = .ok old.toArray w.drew)
    (ho1 : RVs φ olds old) (ho2 : ∀ c ∈ olds, c.isCell = true) (ho3 : old.length = sLen * info.size) (hc1 : RVs φ cs us) (hc2 : ∀ c ∈ cs, c.isCell = true) (hc3 : us.length = n * info.size) :
    RanV P (Builtin.append_ ts ty #[.slice base sLen sCap, x]) bd φ B H w (.slice H.next 0 0 (sLen + n) (sLen + n) false info.size) (newRow false ((sLen + n) * info.size) (olds ++ cs) H) := by
  obtain ⟨cap, hcap, hrun⟩ := run_append_new h0 h1 hs hi hz hx hn hroom hold
  have hsz := row_size ho3 hc3 hzs hcap
  have hl1 := RVs.length ho1
  have hl2 := RVs.length hc1
  have hmul : (sLen + n) * info.size ≤ cap * info.size := Nat.mul_le_mul_right _ hcap
  obtain ⟨a, b⟩ := h.newRow (ho1.append hc1) (fun c hc => (List.mem_append.1 hc).elim (ho2 c) (hc2 c)) false (old.toArray ++ us.toArray ++ Builtin.zeroCells z.cells (cap - (sLen + n))) elem 0 0 ((sLen + n) * info.size)
    (by rw [List.length_append, ← hl1, ← hl2, ho3, hc3, Nat.add_mul]) (by rw [hsz]; exact hmul) prefix_get (fun j _ => by omega) (fun _ => ⟨rfl, rfl⟩) (grew_drew w _) bd hbd
  refine ⟨_, _, _, hrun, ?_, a, b, ?_⟩
  · simp only [RV]
    exact ⟨_, _, _, 0, cap, Phi.cell_withCell _ _ _ _, rfl, .inl rfl, by omega, Nat.le_refl _, hcap, by simp, by rw [hsz]; omega⟩
  · simp only [AM.newRow, next_newBlk, Pos.succ_toNat]; omega

theorem firstCells_part {φ : Phi} {w : World} {n L N off : Nat} {st : Bool} {cs : List AV} (h : CellsAt φ w n L N st cs) {len cap sz o : Nat} (ho : o = off ∨ cap = 0) (hl : len ≤ cap) (hk : off + len * sz ≤ L) :
    ∃ us : List Value, RVs φ ((cs.drop off).take (len * sz)) us ∧ us.length = len * sz ∧ (∀ c ∈ (cs.drop off).take (len * sz), c.isCell = true) ∧ ∀ P : Program, (Builtin.firstCells sz len (.slice (some ⟨n, o, none⟩) len cap)).run P w = .ok us.toArray w := by
  obtain ⟨us, a1, a2, a3, a4⟩ := h.part hk
  refine ⟨us, a1, a2, a3, fun P => ?_⟩
  rcases ho with rfl | rfl
  · exact a4 P
  · have : len = 0 := by omega
    subst this
    simp only [Nat.zero_mul] at a2
    have : us = [] := List.eq_nil_of_length_eq_zero a2
    subst this
    simp [Builtin.firstCells, loadCells, loadCellsFrom]

/-- In place, what is known: or a generation more. -/
theorem append_sound (h : Rel φ B H w) (hbd : bd ≤ w.heap.size) {ts : Array TypeId} {ty st xt : TypeId} {s x v : AV} {us ux : Value} (h0 : ts[0]? = some st) (h1 : ts[1]? = some xt) (hs : RV φ s us) (hx : RV φ x ux)
    (hr : doAppend P B st xt s x H = .ok v H') : RanV P (Builtin.append_ ts ty #[us, ux]) bd φ B H w v H' := by
  simp only [doAppend] at hr
  cases hd : underOf P st with
  | none => rw [hd] at hr; simp at hr
  | some d =>
    rw [hd] at hr
    cases d <;> try (simp at hr; done)
    case slice elem =>
      simp only at hr
      cases hi : infoOf P elem with
      | none => rw [hi] at hr; simp at hr
      | some info =>
        rw [hi] at hr
        simp only at hr
        cases hpos : Nat.blt 0 info.size with
        | false => rw [hpos] at hr; simp at hr
        | true =>
          cases hz : info.zero with
          | none => rw [hpos, hz] at hr; simp at hr
          | some z =>
            cases hnew : newOnes P B xt info x H with
            | none => rw [hpos, hz, hnew] at hr; simp at hr
            | some p =>
              obtain ⟨n, cs⟩ := p
              rw [hpos, hz, hnew] at hr
              simp only at hr
              cases hzz : ((AV.ofValue 6 z).stores && Nat.beq (AV.ofValue 6 z).cells.length info.size) with
              | false => rw [hzz] at hr; simp at hr
              | true =>
                rw [hzz] at hr
                simp only at hr
                simp only [Bool.and_eq_true] at hzz
                have hzs : z.cells.size = info.size := by
                  have := RVs.length (RV.stored (rv_ofValue φ 6 z) hzz.1).1
                  rw [Nat.eq_of_beq_eq_true hzz.2] at this
                  simpa using this
                have hpos := blt_lt hpos
                have hst := under_of hd
                have hif := info_of hi
                obtain ⟨ns, n1, n2, n3, n4⟩ := appSrc_of h hx hpos hnew w
                obtain ⟨ns', m1, m2, m3, m4⟩ := appSrc_of h.drew hx hpos hnew w
                cases s <;> simp only [appendTo] at hr <;> try (simp at hr; done)
                case nilslice =>
                  simp only [RV] at hs
                  subst hs
                  cases n with
                  | zero =>
                    simp only [R2.ok.injEq] at hr
                    obtain ⟨rfl, rfl⟩ := hr
                    exact RanV.same h (run_append_in h0 h1 hst hif n1 (Nat.le_refl _) (by simp) (fun _ => rfl)) (by simp [RV])
                  | succ n =>
                    simp only at hr
                    cases hroom : roomFor (n + 1) info.bytes with
                    | false => rw [hroom] at hr; simp at hr
                    | true =>
                      rw [hroom] at hr
                      simp only [R2.ok.injEq] at hr
                      obtain ⟨rfl, rfl⟩ := hr
                      have := appendNew_sound (old := []) (olds := []) (ty := ty) (base := none) (sLen := 0) (sCap := 0) h hbd h0 h1 hst hif hz hzs m1 (by omega) (by simpa using hroom) (by simp [Builtin.firstCells]) (by simp [RVs]) (by simp) (by simp) m2 m3 m4
                      simpa using this
                case slice b g off len kc ex sz =>
                  have hs0 := hs
                  simp only [RV] at hs
                  obtain ⟨n0, L, N, o, cap, hc, rfl, ho, hL, hk, hcap, hex, hN⟩ := hs
                  cases hsz : Nat.beq sz info.size with
                  | false => rw [hsz] at hr; simp at hr
                  | true =>
                    rw [hsz] at hr
                    have := Nat.eq_of_beq_eq_true hsz
                    subst this
                    simp only at hr
                    cases hin : Nat.ble (len + n) kc with
                    | true =>
                      rw [hin] at hr
                      have hin := Nat.le_of_ble_eq_true hin
                      simp only at hr
                      cases hro : roomOk B H b g off len info.size (len + n) with
                      | false => rw [hro] at hr; simp at hr
                      | true =>
                        rw [hro] at hr
                        have hro := roomOk_of h hc hL hro
                        simp only at hr
                        cases hq : writeCells B H b g (off + len * info.size) cs with
                        | none => rw [hq] at hr; simp [retSame] at hr
                        | some H1 =>
                          rw [hq] at hr
                          simp only [retSame, R2.ok.injEq] at hr
                          obtain ⟨rfl, rfl⟩ := hr
                          obtain ⟨w', p1, p2, p3, p4⟩ := h.write hq hc n2 n3 bd H.next.toNat P
                          refine ⟨φ, _, w', run_append_in h0 h1 hst hif n1 (by omega) (fun a ha => ?_) (by simp), ?_, p2, p3, by rw [p4]; exact Nat.le_refl _⟩
                          · simp only [Option.some.injEq] at ha
                            subst ha
                            rcases ho with rfl | rfl
                            · rw [add_none]; exact p1
                            · have hn0 : n = 0 := by omega
                              subst hn0
                              have : ns = [] := List.eq_nil_of_length_eq_zero (by rw [n4]; simp)
                              subst this
                              exact p1
                          · simp only [RV]
                            exact ⟨n0, L, N, o, cap, hc, rfl, ho, hro, hin, hcap, hex, hN⟩
                    | false =>
                      rw [hin] at hr
                      simp only at hr
                      have hin : ¬ len + n ≤ kc := fun e => by rw [Nat.ble_eq_true_of_le e] at hin; exact Bool.noConfusion hin
                      cases hroom : roomFor (len + n) info.bytes with
                      | false => rw [hroom] at hr; simp at hr
                      | true =>
                        rw [hroom] at hr
                        simp only [appendMore] at hr
                        cases ex with
                        | true =>
                          simp only at hr
                          cases hq : readCells B H b g off (len * info.size) with
                          | none => rw [hq] at hr; simp at hr
                          | some olds =>
                            rw [hq] at hr
                            simp only [R2.ok.injEq] at hr
                            obtain ⟨rfl, rfl⟩ := hr
                            obtain ⟨old, o1, o2, o3, o4⟩ := srcCells_of (P := P) (sz := info.size) (cs := olds) h.drew hs0 rfl (by simp only [srcCells, Nat.beq_refl]; exact hq)
                            have := hex rfl
                            exact appendNew_sound h hbd h0 h1 hst hif hz hzs m1 (by omega) hroom o4 o1 o2 o3 m2 m3 m4
                        | false =>
                          simp only at hr
                          cases hb : blk B H b with
                          | none => rw [hb] at hr; simp at hr
                          | some y =>
                            rw [hb] at hr
                            cases y <;> try (simp at hr; done)
                            case cells st0 cur min blen bcs =>
                              simp only at hr
                              cases hg : (Nat.beq cur g && Nat.beq off 0 && Nat.beq (len * info.size) blen) with
                              | false => rw [hg] at hr; simp at hr
                              | true =>
                                rw [hg] at hr
                                simp only [R2.ok.injEq] at hr
                                obtain ⟨rfl, rfl⟩ := hr
                                simp only [Bool.and_eq_true] at hg
                                have e1 := Nat.eq_of_beq_eq_true hg.1.1
                                have e2 := Nat.eq_of_beq_eq_true hg.1.2
                                have e3 := Nat.eq_of_beq_eq_true hg.2
                                subst e1 e2 e3
                                have hrow : RowOk φ w b st0 cur min (len * info.size) bcs := by have := h.blks b; rw [hb] at this; exact this
                                obtain ⟨_, hLe, _, hat⟩ := hrow.gens hc
                                have hLe := hLe rfl
                                subst hLe
                                have hat := hat hrow.minle
                                have hcl : cs.length = n * info.size := by rw [← RVs.length n2, n4]
                                have hmul : (len + n) * info.size = len * info.size + n * info.size := Nat.add_mul _ _ _
                                rw [← hcl]
                                by_cases hfit : len + n ≤ cap
                                · have ho : o = 0 := by omega
                                  subst ho
                                  have hmul2 : (len + n) * info.size ≤ cap * info.size := Nat.mul_le_mul_right _ hfit
                                  obtain ⟨c, el, lo, hi, a1, a2, a3, a4, a5, a6⟩ := hat
                                  obtain ⟨c', w', q1, q2, q3, q4, q5, q6⟩ := run_storeRow P n0 (0 + len * info.size) el (lo, hi) ns 0 c w a1 (by rw [a2, n4]; omega) (by rw [a2]; exact a4) (oneCell_of n2 n3)
                                  have hcells : CellsAt φ w' n0 (len * info.size + cs.length) N st0 (bcs ++ cs) := by
                                    refine ⟨c', el, lo, hi, q3, q4.trans a2, by rw [hcl]; omega, a4, a5, fun j hj => ?_⟩
                                    rw [q6 j]
                                    by_cases hlt : j < len * info.size
                                    · rw [if_neg (by omega), List.getElem?_append_left (by rw [hrow.length]; exact hlt)]
                                      exact a6 j hlt
                                    · rw [if_pos (by rw [n4]; omega), List.getElem?_append_right (by rw [hrow.length]; omega), hrow.length]
                                      have hlt' : j - len * info.size < cs.length := by omega
                                      obtain ⟨u, u1, u2⟩ := RVs.get (j - len * info.size) n2 (List.getElem?_eq_getElem hlt')
                                      refine ⟨_, u, List.getElem?_eq_getElem hlt', ?_, n3 _ (List.getElem_mem _), u2⟩
                                      rw [← u1]; congr 1; omega
                                  obtain ⟨r1, r2⟩ := h.bump (w' := w') (bd := bd) hb hc (.inl ⟨rfl, rfl⟩) (by rw [q2.size]; exact h.im (.inl ⟨b, _, _, _, hc⟩)) q2.os q2.tape q2.output (Nat.le_of_eq q2.size.symm) (fun n _ hne => q2.other n hne) hcells hbd
                                  refine ⟨_, _, w', run_append_in h0 h1 hst hif n1 hfit (fun a ha => ?_) (by simp), ?_, r1, r2, Nat.le_refl _⟩
                                  · simp only [Option.some.injEq] at ha
                                    subst ha
                                    rw [add_none]; exact q1
                                  · simp only [RV]
                                    exact ⟨n0, _, N, 0, cap, Phi.cell_withCell _ _ _ _, rfl, .inl rfl, by rw [hcl]; omega, Nat.le_refl _, hfit, by simp, hN⟩
                                · have hatd : CellsAt φ w.drew n0 (len * info.size) N st0 bcs := hat.mono (Sub.refl φ) rfl
                                  obtain ⟨old, o1, o2, o3, o4⟩ := firstCells_part (off := 0) (len := len) (cap := cap) (sz := info.size) (o := o) hatd ho (by omega) (by omega)
                                  have hdt : (bcs.drop 0).take (len * info.size) = bcs := by rw [List.drop_zero, List.take_of_length_le (by rw [hrow.length]; exact Nat.le_refl _)]
                                  rw [hdt] at o1 o3
                                  obtain ⟨cap', hcap', hrun⟩ := run_append_new (ty := ty) h0 h1 hst hif hz m1 hfit hroom (o4 P)
                                  have hrs := row_size o2 m4 hzs hcap'
                                  have hmul2 : (len + n) * info.size ≤ cap' * info.size := Nat.mul_le_mul_right _ hcap'
                                  have hgr := grew_drew w (.cells (old.toArray ++ ns'.toArray ++ Builtin.zeroCells z.cells (cap' - (len + n))) elem)
                                  have hcells : CellsAt φ (w.drew.alloc (.cells (old.toArray ++ ns'.toArray ++ Builtin.zeroCells z.cells (cap' - (len + n))) elem)) w.heap.size (len * info.size + cs.length) (cap' * info.size) st0 (bcs ++ cs) := by
                                    refine ⟨_, elem, 0, 0, hgr.new, hrs, by rw [hcl]; omega, fun j _ => by omega, fun _ => ⟨rfl, rfl⟩, fun j hj => ?_⟩
                                    have hlt : j < (bcs ++ cs).length := by rw [List.length_append, hrow.length]; exact hj
                                    obtain ⟨u, u1, u2⟩ := RVs.get j (o1.append m2) (List.getElem?_eq_getElem hlt)
                                    exact ⟨_, u, List.getElem?_eq_getElem hlt, prefix_get j u u1, (List.mem_append.1 (List.getElem_mem hlt)).elim (o3 _) (m3 _), u2⟩
                                  obtain ⟨r1, r2⟩ := h.bump (bd := bd) hb hc (.inr (Nat.le_refl _)) (by rw [hgr.size]; omega) hgr.os hgr.tape hgr.output (by rw [hgr.size]; omega) (fun n hn _ => hgr.old hn) hcells hbd
                                  refine ⟨_, _, _, hrun, ?_, r1, r2, Nat.le_refl _⟩
                                  simp only [RV]
                                  exact ⟨_, _, _, 0, cap', Phi.cell_withCell _ _ _ _, rfl, .inl rfl, by rw [hcl]; omega, Nat.le_refl _, hcap', by simp, by omega⟩
end Go.AM
