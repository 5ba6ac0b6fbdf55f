/- Rows of patterns or of values in memory: each has a kind, a number, a text and parts; and dice, that are rolled beside them. No conditions. -/
import Derived.Test.YtiinghgfojicdaaGreatGRow
set_option linter.unusedVariables false
set_option linter.unusedSimpArgs false
namespace Go.FRow
open Go.RowKit Go.RowG
set_option linter.unusedVariables false

/-- A row of patterns, or of values: kind, number, text, parts; and the others. -/
inductive F where
  | nil : F
  | cons (k n : Int) (t : ByteArray) (a r : F) : F
def F.len : F → Nat
  | .nil => 0
  | .cons _ _ _ _ r => r.len + 1
def F.nodes : F → Nat
  | .nil => 0
  | .cons _ _ _ a r => a.nodes + r.nodes + 1
theorem F.len_nodes : ∀ f : F, f.len ≤ f.nodes
  | .nil => Nat.le_refl _
  | .cons _ _ _ a r => by have := F.len_nodes r; simp only [F.len, F.nodes]; omega
def F.app : F → F → F
  | .nil, g => g
  | .cons k n t a r, g => .cons k n t a (r.app g)
def F.snoc (f : F) (k n : Int) (t : ByteArray) (a : F) : F := f.app (.cons k n t a .nil)
theorem F.app_nil : ∀ f : F, f.app .nil = f
  | .nil => rfl
  | .cons _ _ _ _ r => by simp only [F.app, F.app_nil r]
theorem F.app_assoc : ∀ f g h : F, (f.app g).app h = f.app (g.app h)
  | .nil, _, _ => rfl
  | .cons _ _ _ _ r, g, h => by simp only [F.app, F.app_assoc r g h]
theorem F.app_len : ∀ f g : F, (f.app g).len = f.len + g.len
  | .nil, g => by simp [F.app, F.len]
  | .cons _ _ _ _ r, g => by simp only [F.app, F.len, F.app_len r g]; omega
theorem F.app_nodes : ∀ f g : F, (f.app g).nodes = f.nodes + g.nodes
  | .nil, g => by simp [F.app, F.nodes]
  | .cons _ _ _ _ r, g => by simp only [F.app, F.nodes, F.app_nodes r g]; omega
theorem F.snoc_len (f : F) (k n : Int) (t : ByteArray) (a : F) : (f.snoc k n t a).len = f.len + 1 := by simp [F.snoc, F.app_len, F.len]
theorem F.snoc_nodes (f : F) (k n : Int) (t : ByteArray) (a : F) : (f.snoc k n t a).nodes = f.nodes + (a.nodes + 1) := by simp [F.snoc, F.app_nodes, F.nodes]

theorem add_block (a : Addr) (n : Nat) : (a.add n).block = a.block := by unfold Addr.add; split <;> rfl
theorem add_plus (a : Addr) (i j : Nat) : (a.add i).add j = a.add (i + j) := by
  unfold Addr.add
  by_cases hi : i = 0 <;> by_cases hj : j = 0 <;> simp [hi, hj, Nat.add_assoc]

/-- A row of values from an address on, all its blocks within S. -/
def FAt (w : World) (S : Nat → Prop) : F → Addr → Prop
  | .nil, _ => True
  | .cons k n t a r, ad => w.cell? ad = some (.int .i64 k) ∧ w.cell? ⟨ad.block, ad.off + 1, none⟩ = some (.int .i64 n) ∧ w.cell? ⟨ad.block, ad.off + 2, none⟩ = some (.string t) ∧
      (∃ A c, w.cell? ⟨ad.block, ad.off + 3, none⟩ = some (.slice A a.len c) ∧ a.len ≤ c ∧ c ≤ maxLen ∧ (0 < a.len → ∃ ad', A = some ad' ∧ S ad'.block ∧ FAt w S a ad')) ∧ FAt w S r (ad.add 4)
def RowAt (w : World) (S : Nat → Prop) (A : Option Addr) (f : F) : Prop := 0 < f.len → ∃ ad, A = some ad ∧ S ad.block ∧ FAt w S f ad
abbrev lt (w : World) : Nat → Prop := fun b => b < w.heap.size

theorem FAt.keep {w w' : World} {S S' : Nat → Prop} (hS : ∀ b, S b → S' b) (hk : ∀ p : Addr, S p.block → w'.cell? p = w.cell? p) : ∀ {f : F} {ad : Addr}, S ad.block → FAt w S f ad → FAt w' S' f ad
  | .nil, _, _, _ => trivial
  | .cons k n t a r, ad, hb, ⟨h0, h1, h2, ⟨A, c, h3, hc, hm, ha⟩, hr⟩ =>
    ⟨(hk ad hb).trans h0, (hk ⟨ad.block, ad.off + 1, none⟩ hb).trans h1, (hk ⟨ad.block, ad.off + 2, none⟩ hb).trans h2, ⟨A, c, (hk ⟨ad.block, ad.off + 3, none⟩ hb).trans h3, hc, hm, fun hl => by
      obtain ⟨ad', e, hb', hf⟩ := ha hl
      exact ⟨ad', e, hS _ hb', FAt.keep hS hk hb' hf⟩⟩, FAt.keep hS hk (by rw [add_block]; exact hb) hr⟩
theorem RowAt.keep {w w' : World} {S S' : Nat → Prop} {A : Option Addr} {f : F} (h : RowAt w S A f) (hS : ∀ b, S b → S' b) (hk : ∀ p : Addr, S p.block → w'.cell? p = w.cell? p) : RowAt w' S' A f := fun hl => by
  obtain ⟨ad, e, hb, hf⟩ := h hl
  exact ⟨ad, e, hS _ hb, hf.keep hS hk hb⟩
theorem RowAt.below {w w' : World} {A : Option Addr} {f : F} (h : RowAt w (lt w) A f) (hb : Below w.heap.size w w') : RowAt w' (lt w') A f :=
  h.keep (fun _ h => Nat.lt_of_lt_of_le h hb.size) fun _ hp => hb.cell hp
theorem RowAt.mono {w : World} {S S' : Nat → Prop} {A : Option Addr} {f : F} (h : RowAt w S A f) (hS : ∀ b, S b → S' b) : RowAt w S' A f := h.keep hS fun _ _ => rfl
theorem RowAt.nil (w : World) (S : Nat → Prop) (A : Option Addr) : RowAt w S A .nil := fun h => by simp [F.len] at h

/-- Q of each in the row. -/
def Each (Q : Int → Int → ByteArray → F → Prop) : F → Prop
  | .nil => True
  | .cons k n t a r => Q k n t a ∧ Each Q r
theorem each_of {Q : Int → Int → ByteArray → F → Prop} (h : ∀ k n t a, Each Q a → Q k n t a) : ∀ f, Each Q f
  | .nil => trivial
  | .cons k n t a r => ⟨h k n t a (each_of h a), each_of h r⟩

abbrev agg4 (k n : Int) (t : ByteArray) (A : Option Addr) (m c : Nat) : Value := .agg #[.int .i64 k, .int .i64 n, .string t, .slice A m c]

/-- What is left of the parts, from the j-th on. -/
def Rest (w : World) (S : Nat → Prop) (A : Option Addr) (m j : Nat) (r : F) : Prop := r.len + j = m ∧ (0 < r.len → ∃ ad, A = some ad ∧ S ad.block ∧ FAt w S r (ad.add (j * 4)))
theorem RowAt.rest {w : World} {S : Nat → Prop} {A : Option Addr} {f : F} (h : RowAt w S A f) : Rest w S A f.len 0 f := ⟨rfl, fun hl => by
  obtain ⟨ad, e, hb, hf⟩ := h hl
  exact ⟨ad, e, hb, by simpa [Addr.add] using hf⟩⟩
theorem Rest.step {w : World} {S : Nat → Prop} {A : Option Addr} {m j : Nat} {k n : Int} {t : ByteArray} {a r : F} (h : Rest w S A m j (.cons k n t a r)) :
    ∃ ad R c, A = some ad ∧ S ad.block ∧ w.cell? (ad.add (j * 4)) = some (.int .i64 k) ∧ w.cell? ⟨(ad.add (j * 4)).block, (ad.add (j * 4)).off + 1, none⟩ = some (.int .i64 n) ∧
      w.cell? ⟨(ad.add (j * 4)).block, (ad.add (j * 4)).off + 2, none⟩ = some (.string t) ∧ w.cell? ⟨(ad.add (j * 4)).block, (ad.add (j * 4)).off + 3, none⟩ = some (.slice R a.len c) ∧ a.len ≤ c ∧ c ≤ maxLen ∧ RowAt w S R a ∧
      Rest w S A m (j + 1) r := by
  obtain ⟨hl, h2⟩ := h
  obtain ⟨ad, e, hb, h0, h1, h3, ⟨R, c, h4, hc, hm, ha⟩, hr⟩ := h2 (by simp only [F.len]; omega)
  refine ⟨ad, R, c, e, hb, h0, h1, h3, h4, hc, hm, ha, by simp only [F.len] at hl; omega, fun _ => ⟨ad, e, hb, ?_⟩⟩
  rw [add_plus] at hr
  rw [show (j + 1) * 4 = j * 4 + 4 by omega]
  exact hr
theorem Rest.len {w : World} {S : Nat → Prop} {A : Option Addr} {m j : Nat} {r : F} (h : Rest w S A m j r) : r.len + j = m := h.1

/-- The cells of a row. -/
def FCells (w : World) (S : Nat → Prop) : F → List Value → Prop
  | .nil, xs => xs = []
  | .cons k n t a r, xs => ∃ R c ys, xs = .int .i64 k :: .int .i64 n :: .string t :: .slice R a.len c :: ys ∧ a.len ≤ c ∧ c ≤ maxLen ∧ RowAt w S R a ∧ FCells w S r ys
theorem FCells.keep {w w' : World} {S S' : Nat → Prop} (hS : ∀ b, S b → S' b) (hk : ∀ p : Addr, S p.block → w'.cell? p = w.cell? p) : ∀ {f : F} {xs : List Value}, FCells w S f xs → FCells w' S' f xs
  | .nil, _, h => h
  | .cons k n t a r, _, ⟨R, c, ys, e, h1, h2, h3, h⟩ => ⟨R, c, ys, e, h1, h2, h3.keep hS hk, FCells.keep hS hk h⟩
theorem FCells.snoc {w : World} {S : Nat → Prop} {k n : Int} {t : ByteArray} {a : F} {R : Option Addr} {c : Nat} (h1 : a.len ≤ c) (h2 : c ≤ maxLen) (h3 : RowAt w S R a) : ∀ {f : F} {xs : List Value}, FCells w S f xs → FCells w S (f.snoc k n t a) (xs ++ [.int .i64 k, .int .i64 n, .string t, .slice R a.len c])
  | .nil, _, h => by
    simp only [FCells] at h
    subst h
    exact ⟨R, c, [], rfl, h1, h2, h3, rfl⟩
  | .cons k' n' t' a' r, _, ⟨R', c', ys, e, h1', h2', h3', h⟩ => by
    subst e
    exact ⟨R', c', _, rfl, h1', h2', h3', FCells.snoc h1 h2 h3 h⟩
theorem FCells.fat {w : World} {S : Nat → Prop} {g : Nat} : ∀ {f : F} {xs : List Value} {o : Nat}, FCells w S f xs → (∀ j u, xs[j]? = some u → w.cell? ⟨g, o + j, none⟩ = some u) → FAt w S f ⟨g, o, none⟩
  | .nil, _, _, _, _ => trivial
  | .cons k n t a r, _, o, ⟨R, c, ys, e, h1, h2, h3, h⟩, hc => by
    subst e
    refine ⟨hc 0 _ rfl, hc 1 _ rfl, hc 2 _ rfl, ⟨R, c, hc 3 _ rfl, h1, h2, h3⟩, ?_⟩
    have := FCells.fat (o := o + 4) h fun j u hu => by
      have := hc (j + 4) u (by simpa using hu)
      rw [Nat.add_assoc, Nat.add_comm 4 j]
      exact this
    simpa [Addr.add] using this

/-- A row of values of the call's own: all of it made from block base on. -/
def OwnF (e : TypeId) (w : World) (base : Nat) (v : Value) (f : F) : Prop := ∃ xs, w.ownsRow base e 4 v f.len xs ∧ FCells w (fun b => base ≤ b ∧ b < w.heap.size ∧ some b ≠ v.ownBlock) f xs
theorem OwnF.nil (e : TypeId) (w : World) (base : Nat) : OwnF e w base (.slice none 0 0) .nil := ⟨[], World.ownsRow_nil _ _ _ _, rfl⟩
theorem OwnF.kept {e : TypeId} {w w' : World} {base : Nat} {v : Value} {f : F} (h : OwnF e w base v f) (hb : Below w.heap.size w w') : OwnF e w' base v f := by
  obtain ⟨xs, hown, hf⟩ := h
  refine ⟨xs, hown.kept ⟨hb.os, hb.tape, hb.output, hb.size, fun k hk _ => hb.block k hk⟩ (Classical.em _), hf.keep (fun b h => ⟨h.1, Nat.lt_of_lt_of_le h.2.1 hb.size, h.2.2⟩) fun p hp => hb.cell hp.2.1⟩
theorem OwnF.setCell {e : TypeId} {w : World} {base : Nat} {v : Value} {f : F} (h : OwnF e w base v f) {a : Addr} (ha : a.block < base) (u : Value) : OwnF e (w.setCell a u) base v f := by
  obtain ⟨xs, hown, hf⟩ := h
  refine ⟨xs, ownsRow_setCell_below hown ha u, hf.keep (fun b h => ⟨h.1, by simpa [World.setCell] using h.2.1, h.2.2⟩) fun p hp => World.cell?_of_block (Below.heap_setCell _ _ _ _ (by have := hp.1; omega))⟩
theorem OwnF.snoc {e : TypeId} {w w' : World} {base : Nat} {v v' : Value} {f : F} {k n : Int} {t : ByteArray} {a : F} {R : Option Addr} {c : Nat} {o : Obj} {xs : List Value}
    (hf : FCells w (fun b => base ≤ b ∧ b < w.heap.size ∧ some b ≠ v.ownBlock) f xs) (h1 : a.len ≤ c) (h2 : c ≤ maxLen) (h3 : RowAt w (fun b => base ≤ b ∧ b < w.heap.size ∧ some b ≠ v.ownBlock) R a)
    (hown' : w'.ownsRow base e 4 v' (f.len + 1) (xs ++ [.int .i64 k, .int .i64 n, .string t, .slice R a.len c])) (hg : (w.alloc o).grownBy w' v.ownBlock) (hv : v'.ownBlock = v.ownBlock ∨ v'.ownBlock = some (w.heap.size + 1)) :
    OwnF e w' base v' (f.snoc k n t a) := by
  have hsz : w.heap.size + 1 ≤ w'.heap.size := by have := hg.size; simpa using this
  have hS : ∀ b, (base ≤ b ∧ b < w.heap.size ∧ some b ≠ v.ownBlock) → (base ≤ b ∧ b < w'.heap.size ∧ some b ≠ v'.ownBlock) := fun b ⟨h0, hb, hne⟩ => ⟨h0, by omega, by
    rcases hv with h | h
    · rw [h]; exact hne
    · rw [h]; intro e; injection e with e; omega⟩
  have hk : ∀ p : Addr, (base ≤ p.block ∧ p.block < w.heap.size ∧ some p.block ≠ v.ownBlock) → w'.cell? p = w.cell? p := fun p ⟨_, hb, hne⟩ =>
    World.cell?_of_block ((hg.block p.block (by simp; omega) hne).trans (Below.heap_alloc _ _ _ hb))
  exact ⟨_, by rw [F.snoc_len]; exact hown', (hf.snoc h1 h2 h3).keep hS hk⟩
theorem OwnF.row {e : TypeId} {w : World} {base : Nat} {v : Value} {f : F} (h : OwnF e w base v f) : ∃ A c, v = .slice A f.len c ∧ f.len ≤ c ∧ c ≤ maxLen ∧ RowAt w (fun b => base ≤ b ∧ b < w.heap.size) A f := by
  obtain ⟨xs, hown, hf⟩ := h
  have hlo := fun g hg => (hown.lt g hg).1
  obtain ⟨A, c, rfl, h1, h2, h3⟩ := CellsAt.of_own hown
  refine ⟨A, c, rfl, h1, h2, fun hl => ?_⟩
  obtain ⟨g, o, rfl, hg, hc⟩ := h3 (by rw [hown.1]; omega)
  exact ⟨_, rfl, ⟨hlo g rfl, hg⟩, (hf.keep (fun _ h => ⟨h.1, h.2.1⟩) fun _ _ => rfl).fat hc⟩

/-- A block of the call's own, four cells of type e. -/
def Own4 (w : World) (z : Nat) (e : TypeId) (v0 v1 v2 v3 : Value) : Prop := w.heap[z]? = some (.cells #[v0, v1, v2, v3] e (0, 0))
theorem Own4.cells {w : World} {z : Nat} {e : TypeId} {v0 v1 v2 v3 : Value} (h : Own4 w z e v0 v1 v2 v3) :
    (w.cell? ⟨z, 0, none⟩ = some v0 ∧ w.cell? ⟨z, 1, none⟩ = some v1 ∧ w.cell? ⟨z, 2, none⟩ = some v2 ∧ w.cell? ⟨z, 3, none⟩ = some v3) ∧
    (w.frozen? ⟨z, 0, none⟩ = false ∧ w.frozen? ⟨z, 1, none⟩ = false ∧ w.frozen? ⟨z, 2, none⟩ = false ∧ w.frozen? ⟨z, 3, none⟩ = false) := by
  unfold Own4 at h
  simp [World.cell?, World.frozen?, h]
theorem Own4.lt {w : World} {z : Nat} {e : TypeId} {v0 v1 v2 v3 : Value} (h : Own4 w z e v0 v1 v2 v3) : z < w.heap.size := (Array.getElem?_eq_some_iff.1 h).1
theorem Own4.keep {w w' : World} {z : Nat} {e : TypeId} {v0 v1 v2 v3 : Value} (h : Own4 w z e v0 v1 v2 v3) (hb : Below w.heap.size w w') : Own4 w' z e v0 v1 v2 v3 := by
  have := h.lt
  unfold Own4 at h ⊢
  rw [hb.block z this]
  exact h
theorem Own4.grown {w w' : World} {z : Nat} {e : TypeId} {v0 v1 v2 v3 : Value} {row : Option Nat} (h : Own4 w z e v0 v1 v2 v3) (hg : w.grownBy w' row) (hz : some z ≠ row) : Own4 w' z e v0 v1 v2 v3 := by
  have := h.lt
  unfold Own4 at h ⊢
  rw [hg.block z this hz]
  exact h
theorem Own4.alloc {w : World} {z : Nat} {e : TypeId} {v0 v1 v2 v3 : Value} (h : Own4 w z e v0 v1 v2 v3) (o : Obj) : Own4 (w.alloc o) z e v0 v1 v2 v3 := h.keep ((Below.refl _ _).alloc (Nat.le_refl _) o)
theorem Own4.set3 {w : World} {z : Nat} {e : TypeId} {v0 v1 v2 v3 : Value} (h : Own4 w z e v0 v1 v2 v3) (v : Value) : Own4 (w.setCell ⟨z, 3, none⟩ v) z e v0 v1 v2 v := by
  unfold Own4 at *
  simp [World.setCell, Array.getElem?_modify, h]
theorem Own4.setOther {w : World} {z : Nat} {e : TypeId} {v0 v1 v2 v3 : Value} (h : Own4 w z e v0 v1 v2 v3) {p : Addr} (hp : z ≠ p.block) (v : Value) : Own4 (w.setCell p v) z e v0 v1 v2 v3 := by
  unfold Own4 at *
  rw [Below.heap_setCell _ _ _ _ hp]
  exact h
def fill4 (w : World) (z : Nat) (v0 v1 v2 v3 : Value) : World := (((w.setCell ⟨z, 0, none⟩ v0).setCell ⟨z, 1, none⟩ v1).setCell ⟨z, 2, none⟩ v2).setCell ⟨z, 3, none⟩ v3
theorem fill4_own {w : World} {z : Nat} {e : TypeId} {u0 u1 u2 u3 : Value} (h : Own4 w z e u0 u1 u2 u3) (v0 v1 v2 v3 : Value) : Own4 (fill4 w z v0 v1 v2 v3) z e v0 v1 v2 v3 := by
  unfold Own4 fill4 at *
  simp [World.setCell, Array.getElem?_modify, h]
theorem fill4_size (w : World) (z : Nat) (v0 v1 v2 v3 : Value) : (fill4 w z v0 v1 v2 v3).heap.size = w.heap.size := by simp [fill4, World.setCell]
theorem fill4_below {w0 w : World} {B z : Nat} (h : Below B w0 w) (hz : B ≤ z) (v0 v1 v2 v3 : Value) : Below B w0 (fill4 w z v0 v1 v2 v3) :=
  (((h.setCell (p := ⟨z, 0, none⟩) hz v0).setCell (p := ⟨z, 1, none⟩) hz v1).setCell (p := ⟨z, 2, none⟩) hz v2).setCell (p := ⟨z, 3, none⟩) hz v3


/-- All that was there stays, but block g. -/
structure Rolled (g : Nat) (w w' : World) : Prop where
  os : w'.os = w.os
  tape : w'.tape = w.tape
  output : w'.output = w.output
  size : w.heap.size ≤ w'.heap.size
  block : ∀ k, k < w.heap.size → k ≠ g → w'.heap[k]? = w.heap[k]?
theorem Rolled.cell {g : Nat} {w w' : World} (h : Rolled g w w') {p : Addr} (hp : p.block < w.heap.size) (hg : p.block ≠ g) : w'.cell? p = w.cell? p := World.cell?_of_block (h.block _ hp hg)
theorem Rolled.refl (g : Nat) (w : World) : Rolled g w w := ⟨rfl, rfl, rfl, Nat.le_refl _, fun _ _ _ => rfl⟩
theorem Rolled.trans {g : Nat} {a b c : World} (h : Rolled g a b) (h' : Rolled g b c) : Rolled g a c :=
  ⟨h'.os.trans h.os, h'.tape.trans h.tape, h'.output.trans h.output, Nat.le_trans h.size h'.size, fun k hk hg => (h'.block k (Nat.lt_of_lt_of_le hk h.size) hg).trans (h.block k hk hg)⟩
theorem Rolled.of_below {g : Nat} {w w' : World} (h : Below w.heap.size w w') : Rolled g w w' := ⟨h.os, h.tape, h.output, h.size, fun k hk _ => h.block k hk⟩
theorem Rolled.alloc {g : Nat} {a w : World} (h : Rolled g a w) (o : Obj) : Rolled g a (w.alloc o) := h.trans (Rolled.of_below ((Below.refl _ _).alloc (Nat.le_refl _) o))
theorem Rolled.drew {g : Nat} {a w : World} (h : Rolled g a w) : Rolled g a w.drew := ⟨h.os, h.tape, h.output, h.size, h.block⟩
theorem Rolled.setCell {g : Nat} {a w : World} (h : Rolled g a w) {p : Addr} (hp : a.heap.size ≤ p.block) (v : Value) : Rolled g a (w.setCell p v) :=
  ⟨h.os, h.tape, h.output, by simpa [World.setCell] using h.size, fun k hk hg => (Below.heap_setCell w p v k (by omega)).trans (h.block k hk hg)⟩
theorem Rolled.grown {g : Nat} {a w w' : World} {row : Option Nat} (h : Rolled g a w) (hg : w.grownBy w' row) (hr : ∀ b, row = some b → a.heap.size ≤ b) : Rolled g a w' :=
  ⟨hg.os.trans h.os, hg.tape.trans h.tape, hg.output.trans h.output, Nat.le_trans h.size hg.size, fun k hk hk2 => (hg.block k (Nat.lt_of_lt_of_le hk h.size) (fun e => by have := hr k e.symm; omega)).trans (h.block k hk hk2)⟩
theorem Own4.rolled {w w' : World} {g z : Nat} {e : TypeId} {v0 v1 v2 v3 : Value} (h : Own4 w z e v0 v1 v2 v3) (hr : Rolled g w w') (hz : z ≠ g) : Own4 w' z e v0 v1 v2 v3 := by
  unfold Own4 at h ⊢
  rw [hr.block z (Array.getElem?_eq_some_iff.1 h).1 hz]
  exact h
theorem OwnF.rolled {e : TypeId} {w w' : World} {base g : Nat} {v : Value} {f : F} (h : OwnF e w base v f) (hr : Rolled g w w') (hg : g < base) : OwnF e w' base v f := by
  obtain ⟨xs, hown, hf⟩ := h
  exact ⟨xs, hown.kept (row := some g) ⟨hr.os, hr.tape, hr.output, hr.size, fun k hk hne => hr.block k hk fun e => hne (by rw [e])⟩ (Or.inr fun e => by have := (hown.lt g e).1; omega),
    hf.keep (fun b h => ⟨h.1, Nat.lt_of_lt_of_le h.2.1 hr.size, h.2.2⟩) fun p hp => hr.cell hp.2.1 (by have := hp.1; omega)⟩
theorem RowAt.rolled {w w' : World} {S S' : Nat → Prop} {g : Nat} {A : Option Addr} {f : F} (h : RowAt w S A f) (hr : Rolled g w w') (hS : ∀ b, S b → S' b) (hb : ∀ b, S b → b < w.heap.size ∧ b ≠ g) : RowAt w' S' A f :=
  h.keep hS fun p hp => hr.cell (hb _ hp).1 (hb _ hp).2
/-- Made since w. -/
abbrev since (n : Nat) (w' : World) : Nat → Prop := fun b => n ≤ b ∧ b < w'.heap.size
end Go.FRow
