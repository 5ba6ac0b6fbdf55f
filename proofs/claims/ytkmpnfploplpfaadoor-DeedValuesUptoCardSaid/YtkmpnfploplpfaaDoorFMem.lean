/- A part of the proofs of the laws of the deeds: FMem. -/
import Derived.Test.YtkmpnfploplpfaaDoorDdPureC
import Derived.Test.YtkmpnfploplpfaaDoorGRow
set_option linter.unusedVariables false
set_option linter.unusedSimpArgs false
namespace Go.Deed
open Go.RowKit Go.RowG
set_option linter.unusedVariables false

theorem add_block (a : Addr) (n : Nat) : (a.add n).block = a.block := by unfold Addr.add; split <;> rfl
theorem add_plus (a : Addr) (i j : Nat) : (a.add i).add j = a.add (i + j) := by
  unfold Addr.add
  by_cases hi : i = 0 <;> by_cases hj : j = 0 <;> simp [hi, hj, Nat.add_assoc]

/-- A row of values from an address on, all its blocks within S. -/
def FAt (w : World) (S : Nat → Prop) : F → Addr → Prop
  | .nil, _ => True
  | .cons k n t a r, ad => w.cell? ad = some (.int .i64 k) ∧ w.cell? ⟨ad.block, ad.off + 1, none⟩ = some (.int .i64 n) ∧ w.cell? ⟨ad.block, ad.off + 2, none⟩ = some (.string t) ∧
      (∃ A c, w.cell? ⟨ad.block, ad.off + 3, none⟩ = some (.slice A a.len c) ∧ a.len ≤ c ∧ c ≤ maxLen ∧ (0 < a.len → ∃ ad', A = some ad' ∧ S ad'.block ∧ FAt w S a ad')) ∧ FAt w S r (ad.add 4)
def RowAt (w : World) (S : Nat → Prop) (A : Option Addr) (f : F) : Prop := 0 < f.len → ∃ ad, A = some ad ∧ S ad.block ∧ FAt w S f ad
abbrev lt (w : World) : Nat → Prop := fun b => b < w.heap.size

theorem FAt.keep {w w' : World} {S S' : Nat → Prop} (hS : ∀ b, S b → S' b) (hk : ∀ p : Addr, S p.block → w'.cell? p = w.cell? p) : ∀ {f : F} {ad : Addr}, S ad.block → FAt w S f ad → FAt w' S' f ad
  | .nil, _, _, _ => trivial
  | .cons k n t a r, ad, hb, ⟨h0, h1, h2, ⟨A, c, h3, hc, hm, ha⟩, hr⟩ =>
    ⟨(hk ad hb).trans h0, (hk ⟨ad.block, ad.off + 1, none⟩ hb).trans h1, (hk ⟨ad.block, ad.off + 2, none⟩ hb).trans h2, ⟨A, c, (hk ⟨ad.block, ad.off + 3, none⟩ hb).trans h3, hc, hm, fun hl => by
      obtain ⟨ad', e, hb', hf⟩ := ha hl
      exact ⟨ad', e, hS _ hb', FAt.keep hS hk hb' hf⟩⟩, FAt.keep hS hk (by rw [add_block]; exact hb) hr⟩
theorem RowAt.keep {w w' : World} {S S' : Nat → Prop} {A : Option Addr} {f : F} (h : RowAt w S A f) (hS : ∀ b, S b → S' b) (hk : ∀ p : Addr, S p.block → w'.cell? p = w.cell? p) : RowAt w' S' A f := fun hl => by
  obtain ⟨ad, e, hb, hf⟩ := h hl
  exact ⟨ad, e, hS _ hb, hf.keep hS hk hb⟩
theorem RowAt.below {w w' : World} {A : Option Addr} {f : F} (h : RowAt w (lt w) A f) (hb : Below w.heap.size w w') : RowAt w' (lt w') A f :=
  h.keep (fun _ h => Nat.lt_of_lt_of_le h hb.size) fun _ hp => hb.cell hp
theorem RowAt.mono {w : World} {S S' : Nat → Prop} {A : Option Addr} {f : F} (h : RowAt w S A f) (hS : ∀ b, S b → S' b) : RowAt w S' A f := h.keep hS fun _ _ => rfl
theorem RowAt.nil (w : World) (S : Nat → Prop) (A : Option Addr) : RowAt w S A .nil := fun h => by simp [F.len] at h

/-- Q of each in the row. -/
def Each (Q : Int → Int → ByteArray → F → Prop) : F → Prop
  | .nil => True
  | .cons k n t a r => Q k n t a ∧ Each Q r
theorem each_of {Q : Int → Int → ByteArray → F → Prop} (h : ∀ k n t a, Each Q a → Q k n t a) : ∀ f, Each Q f
  | .nil => trivial
  | .cons k n t a r => ⟨h k n t a (each_of h a), each_of h r⟩

abbrev agg4 (k n : Int) (t : ByteArray) (A : Option Addr) (m c : Nat) : Value := .agg #[.int .i64 k, .int .i64 n, .string t, .slice A m c]

/-- What is left of the parts, from the j-th on. -/
def Rest (w : World) (S : Nat → Prop) (A : Option Addr) (m j : Nat) (r : F) : Prop := r.len + j = m ∧ (0 < r.len → ∃ ad, A = some ad ∧ S ad.block ∧ FAt w S r (ad.add (j * 4)))
theorem RowAt.rest {w : World} {S : Nat → Prop} {A : Option Addr} {f : F} (h : RowAt w S A f) : Rest w S A f.len 0 f := ⟨rfl, fun hl => by
  obtain ⟨ad, e, hb, hf⟩ := h hl
  exact ⟨ad, e, hb, by simpa [Addr.add] using hf⟩⟩
theorem Rest.step {w : World} {S : Nat → Prop} {A : Option Addr} {m j : Nat} {k n : Int} {t : ByteArray} {a r : F} (h : Rest w S A m j (.cons k n t a r)) :
    ∃ ad R c, A = some ad ∧ S ad.block ∧ w.cell? (ad.add (j * 4)) = some (.int .i64 k) ∧ w.cell? ⟨(ad.add (j * 4)).block, (ad.add (j * 4)).off + 1, none⟩ = some (.int .i64 n) ∧
      w.cell? ⟨(ad.add (j * 4)).block, (ad.add (j * 4)).off + 2, none⟩ = some (.string t) ∧ w.cell? ⟨(ad.add (j * 4)).block, (ad.add (j * 4)).off + 3, none⟩ = some (.slice R a.len c) ∧ a.len ≤ c ∧ c ≤ maxLen ∧ RowAt w S R a ∧
      Rest w S A m (j + 1) r := by
  obtain ⟨hl, h2⟩ := h
  obtain ⟨ad, e, hb, h0, h1, h3, ⟨R, c, h4, hc, hm, ha⟩, hr⟩ := h2 (by simp only [F.len]; omega)
  refine ⟨ad, R, c, e, hb, h0, h1, h3, h4, hc, hm, ha, by simp only [F.len] at hl; omega, fun _ => ⟨ad, e, hb, ?_⟩⟩
  rw [add_plus] at hr
  rw [show (j + 1) * 4 = j * 4 + 4 by omega]
  exact hr
theorem Rest.len {w : World} {S : Nat → Prop} {A : Option Addr} {m j : Nat} {r : F} (h : Rest w S A m j r) : r.len + j = m := h.1

/-- The cells of a row. -/
def FCells (w : World) (S : Nat → Prop) : F → List Value → Prop
  | .nil, xs => xs = []
  | .cons k n t a r, xs => ∃ R c ys, xs = .int .i64 k :: .int .i64 n :: .string t :: .slice R a.len c :: ys ∧ a.len ≤ c ∧ c ≤ maxLen ∧ RowAt w S R a ∧ FCells w S r ys
theorem FCells.keep {w w' : World} {S S' : Nat → Prop} (hS : ∀ b, S b → S' b) (hk : ∀ p : Addr, S p.block → w'.cell? p = w.cell? p) : ∀ {f : F} {xs : List Value}, FCells w S f xs → FCells w' S' f xs
  | .nil, _, h => h
  | .cons k n t a r, _, ⟨R, c, ys, e, h1, h2, h3, h⟩ => ⟨R, c, ys, e, h1, h2, h3.keep hS hk, FCells.keep hS hk h⟩
theorem FCells.snoc {w : World} {S : Nat → Prop} {k n : Int} {t : ByteArray} {a : F} {R : Option Addr} {c : Nat} (h1 : a.len ≤ c) (h2 : c ≤ maxLen) (h3 : RowAt w S R a) : ∀ {f : F} {xs : List Value}, FCells w S f xs → FCells w S (f.snoc k n t a) (xs ++ [.int .i64 k, .int .i64 n, .string t, .slice R a.len c])
  | .nil, _, h => by
    simp only [FCells] at h
    subst h
    exact ⟨R, c, [], rfl, h1, h2, h3, rfl⟩
  | .cons k' n' t' a' r, _, ⟨R', c', ys, e, h1', h2', h3', h⟩ => by
    subst e
    exact ⟨R', c', _, rfl, h1', h2', h3', FCells.snoc h1 h2 h3 h⟩
theorem FCells.fat {w : World} {S : Nat → Prop} {g : Nat} : ∀ {f : F} {xs : List Value} {o : Nat}, FCells w S f xs → (∀ j u, xs[j]? = some u → w.cell? ⟨g, o + j, none⟩ = some u) → FAt w S f ⟨g, o, none⟩
  | .nil, _, _, _, _ => trivial
  | .cons k n t a r, _, o, ⟨R, c, ys, e, h1, h2, h3, h⟩, hc => by
    subst e
    refine ⟨hc 0 _ rfl, hc 1 _ rfl, hc 2 _ rfl, ⟨R, c, hc 3 _ rfl, h1, h2, h3⟩, ?_⟩
    have := FCells.fat (o := o + 4) h fun j u hu => by
      have := hc (j + 4) u (by simpa using hu)
      rw [Nat.add_assoc, Nat.add_comm 4 j]
      exact this
    simpa [Addr.add] using this

/-- A row of values of the call's own: all of it made from block base on. -/
def OwnF (e : TypeId) (w : World) (base : Nat) (v : Value) (f : F) : Prop := ∃ xs, w.ownsRow base e 4 v f.len xs ∧ FCells w (fun b => base ≤ b ∧ b < w.heap.size ∧ some b ≠ v.ownBlock) f xs
theorem OwnF.nil (e : TypeId) (w : World) (base : Nat) : OwnF e w base (.slice none 0 0) .nil := ⟨[], World.ownsRow_nil _ _ _ _, rfl⟩
theorem OwnF.kept {e : TypeId} {w w' : World} {base : Nat} {v : Value} {f : F} (h : OwnF e w base v f) (hb : Below w.heap.size w w') : OwnF e w' base v f := by
  obtain ⟨xs, hown, hf⟩ := h
  refine ⟨xs, hown.kept ⟨hb.os, hb.tape, hb.output, hb.size, fun k hk _ => hb.block k hk⟩ (Classical.em _), hf.keep (fun b h => ⟨h.1, Nat.lt_of_lt_of_le h.2.1 hb.size, h.2.2⟩) fun p hp => hb.cell hp.2.1⟩
theorem OwnF.setCell {e : TypeId} {w : World} {base : Nat} {v : Value} {f : F} (h : OwnF e w base v f) {a : Addr} (ha : a.block < base) (u : Value) : OwnF e (w.setCell a u) base v f := by
  obtain ⟨xs, hown, hf⟩ := h
  refine ⟨xs, ownsRow_setCell_below hown ha u, hf.keep (fun b h => ⟨h.1, by simpa [World.setCell] using h.2.1, h.2.2⟩) fun p hp => World.cell?_of_block (Below.heap_setCell _ _ _ _ (by have := hp.1; omega))⟩
theorem OwnF.snoc {e : TypeId} {w w' : World} {base : Nat} {v v' : Value} {f : F} {k n : Int} {t : ByteArray} {a : F} {R : Option Addr} {c : Nat} {o : Obj} {xs : List Value}
    (hf : FCells w (fun b => base ≤ b ∧ b < w.heap.size ∧ some b ≠ v.ownBlock) f xs) (h1 : a.len ≤ c) (h2 : c ≤ maxLen) (h3 : RowAt w (fun b => base ≤ b ∧ b < w.heap.size ∧ some b ≠ v.ownBlock) R a)
    (hown' : w'.ownsRow base e 4 v' (f.len + 1) (xs ++ [.int .i64 k, .int .i64 n, .string t, .slice R a.len c])) (hg : (w.alloc o).grownBy w' v.ownBlock) (hv : v'.ownBlock = v.ownBlock ∨ v'.ownBlock = some (w.heap.size + 1)) :
    OwnF e w' base v' (f.snoc k n t a) := by
  have hsz : w.heap.size + 1 ≤ w'.heap.size := by have := hg.size; simpa using this
  have hS : ∀ b, (base ≤ b ∧ b < w.heap.size ∧ some b ≠ v.ownBlock) → (base ≤ b ∧ b < w'.heap.size ∧ some b ≠ v'.ownBlock) := fun b ⟨h0, hb, hne⟩ => ⟨h0, by omega, by
    rcases hv with h | h
    · rw [h]; exact hne
    · rw [h]; intro e; injection e with e; omega⟩
  have hk : ∀ p : Addr, (base ≤ p.block ∧ p.block < w.heap.size ∧ some p.block ≠ v.ownBlock) → w'.cell? p = w.cell? p := fun p ⟨_, hb, hne⟩ =>
    World.cell?_of_block ((hg.block p.block (by simp; omega) hne).trans (Below.heap_alloc _ _ _ hb))
  exact ⟨_, by rw [F.snoc_len]; exact hown', (hf.snoc h1 h2 h3).keep hS hk⟩
theorem OwnF.row {e : TypeId} {w : World} {base : Nat} {v : Value} {f : F} (h : OwnF e w base v f) : ∃ A c, v = .slice A f.len c ∧ f.len ≤ c ∧ c ≤ maxLen ∧ RowAt w (fun b => base ≤ b ∧ b < w.heap.size) A f := by
  obtain ⟨xs, hown, hf⟩ := h
  have hlo := fun g hg => (hown.lt g hg).1
  obtain ⟨A, c, rfl, h1, h2, h3⟩ := CellsAt.of_own hown
  refine ⟨A, c, rfl, h1, h2, fun hl => ?_⟩
  obtain ⟨g, o, rfl, hg, hc⟩ := h3 (by rw [hown.1]; omega)
  exact ⟨_, rfl, ⟨hlo g rfl, hg⟩, (hf.keep (fun _ h => ⟨h.1, h.2.1⟩) fun _ _ => rfl).fat hc⟩

/-- A block of the call's own, four cells of type e. -/
def Own4 (w : World) (z : Nat) (e : TypeId) (v0 v1 v2 v3 : Value) : Prop := w.heap[z]? = some (.cells #[v0, v1, v2, v3] e (0, 0))
theorem Own4.cells {w : World} {z : Nat} {e : TypeId} {v0 v1 v2 v3 : Value} (h : Own4 w z e v0 v1 v2 v3) :
    (w.cell? ⟨z, 0, none⟩ = some v0 ∧ w.cell? ⟨z, 1, none⟩ = some v1 ∧ w.cell? ⟨z, 2, none⟩ = some v2 ∧ w.cell? ⟨z, 3, none⟩ = some v3) ∧
    (w.frozen? ⟨z, 0, none⟩ = false ∧ w.frozen? ⟨z, 1, none⟩ = false ∧ w.frozen? ⟨z, 2, none⟩ = false ∧ w.frozen? ⟨z, 3, none⟩ = false) := by
  unfold Own4 at h
  simp [World.cell?, World.frozen?, h]
theorem Own4.lt {w : World} {z : Nat} {e : TypeId} {v0 v1 v2 v3 : Value} (h : Own4 w z e v0 v1 v2 v3) : z < w.heap.size := (Array.getElem?_eq_some_iff.1 h).1
theorem Own4.keep {w w' : World} {z : Nat} {e : TypeId} {v0 v1 v2 v3 : Value} (h : Own4 w z e v0 v1 v2 v3) (hb : Below w.heap.size w w') : Own4 w' z e v0 v1 v2 v3 := by
  have := h.lt
  unfold Own4 at h ⊢
  rw [hb.block z this]
  exact h
theorem Own4.grown {w w' : World} {z : Nat} {e : TypeId} {v0 v1 v2 v3 : Value} {row : Option Nat} (h : Own4 w z e v0 v1 v2 v3) (hg : w.grownBy w' row) (hz : some z ≠ row) : Own4 w' z e v0 v1 v2 v3 := by
  have := h.lt
  unfold Own4 at h ⊢
  rw [hg.block z this hz]
  exact h
theorem Own4.alloc {w : World} {z : Nat} {e : TypeId} {v0 v1 v2 v3 : Value} (h : Own4 w z e v0 v1 v2 v3) (o : Obj) : Own4 (w.alloc o) z e v0 v1 v2 v3 := h.keep ((Below.refl _ _).alloc (Nat.le_refl _) o)
theorem Own4.set3 {w : World} {z : Nat} {e : TypeId} {v0 v1 v2 v3 : Value} (h : Own4 w z e v0 v1 v2 v3) (v : Value) : Own4 (w.setCell ⟨z, 3, none⟩ v) z e v0 v1 v2 v := by
  unfold Own4 at *
  simp [World.setCell, Array.getElem?_modify, h]
theorem Own4.setOther {w : World} {z : Nat} {e : TypeId} {v0 v1 v2 v3 : Value} (h : Own4 w z e v0 v1 v2 v3) {p : Addr} (hp : z ≠ p.block) (v : Value) : Own4 (w.setCell p v) z e v0 v1 v2 v3 := by
  unfold Own4 at *
  rw [Below.heap_setCell _ _ _ _ hp]
  exact h
def fill4 (w : World) (z : Nat) (v0 v1 v2 v3 : Value) : World := (((w.setCell ⟨z, 0, none⟩ v0).setCell ⟨z, 1, none⟩ v1).setCell ⟨z, 2, none⟩ v2).setCell ⟨z, 3, none⟩ v3
theorem fill4_own {w : World} {z : Nat} {e : TypeId} {u0 u1 u2 u3 : Value} (h : Own4 w z e u0 u1 u2 u3) (v0 v1 v2 v3 : Value) : Own4 (fill4 w z v0 v1 v2 v3) z e v0 v1 v2 v3 := by
  unfold Own4 fill4 at *
  simp [World.setCell, Array.getElem?_modify, h]
theorem fill4_size (w : World) (z : Nat) (v0 v1 v2 v3 : Value) : (fill4 w z v0 v1 v2 v3).heap.size = w.heap.size := by simp [fill4, World.setCell]
theorem fill4_below {w0 w : World} {B z : Nat} (h : Below B w0 w) (hz : B ≤ z) (v0 v1 v2 v3 : Value) : Below B w0 (fill4 w z v0 v1 v2 v3) :=
  (((h.setCell (p := ⟨z, 0, none⟩) hz v0).setCell (p := ⟨z, 1, none⟩) hz v1).setCell (p := ⟨z, 2, none⟩) hz v2).setCell (p := ⟨z, 3, none⟩) hz v3

/-- How much there is in it. -/
def wt : F → Nat
  | .nil => 0
  | .cons _ _ t a r => t.size + 30 + wt a + wt r
theorem len_wt : ∀ f : F, f.len * 30 ≤ wt f
  | .nil => Nat.le_refl _
  | .cons _ _ _ _ r => by have := len_wt r; simp only [F.len, wt]; omega
theorem nDigits_le : ∀ (k u : Nat), u < 10 ^ (k + 1) → Lib.nDigits u ≤ k + 1
  | 0, u, h => by rw [Lib.nDigits_small (by simpa using h)]; exact Nat.le_refl _
  | k + 1, u, h => by
    by_cases h1 : u < 10
    · rw [Lib.nDigits_small h1]; omega
    · rw [Lib.nDigits_big h1]
      have := nDigits_le k (u / 10) (by rw [Nat.pow_succ] at h; omega)
      omega
theorem itoa_len {n : Int} (h : R64 n) : (Lib.itoa n).length ≤ 20 := by
  unfold R64 at h
  have h10 : ∀ u, u < 9223372036854775809 → Lib.nDigits u ≤ 19 := fun u hu => nDigits_le 18 u (by omega)
  unfold Lib.itoa
  split
  · rw [List.length_cons, Lib.decDigits_length]
    have := h10 n.natAbs (by omega)
    omega
  · rw [Lib.decDigits_length]
    have := h10 n.toNat (by omega)
    omega
def lens1 (l : List L) : Nat := (l.map fun x => x.length + 1).sum
theorem join_len (l : List L) : (Lib.join l [44]).length ≤ lens1 l := by
  cases l with
  | nil => simp [Lib.join_nil, lens1]
  | cons x l =>
    rw [Lib.join_cons, List.length_append, Lib.joinTail_length]
    have : ∀ l : List L, Lib.lens l + l.length = lens1 l := fun l => by
      induction l with
      | nil => rfl
      | cons y l ih => simp only [Lib.lens, lens1, List.map_cons, List.sum_cons, List.length_cons] at ih ⊢; omega
    have h := this l
    simp only [lens1, List.map_cons, List.sum_cons, List.length_cons, List.length_nil] at h ⊢
    omega
mutual
theorem texts_len : ∀ (f : F) (d : Nat) (l : List L), textsF f d = some l → Rng f → lens1 l ≤ wt f
  | .nil, d, l, h, _ => by
    simp only [textsF, Option.some.injEq] at h
    subst h
    simp [lens1, wt]
  | .cons k n t a r, d, l, h, hr => by
    rw [textsF_cons] at h
    split at h
    · cases h
    · next s hs =>
      split at h
      · cases h
      · next l2 h2 =>
        simp only [Option.some.injEq] at h
        subst h
        have := texts_len r d l2 h2 hr.2.2
        have := text_len k n t a d s hs hr.1 hr.2.1
        simp only [lens1, List.map_cons, List.sum_cons, wt] at *
        omega
theorem text_len (k n : Int) (t : ByteArray) (a : F) (d : Nat) (s : L) (h : text1 d k n t a = some s) (hn : R64 n) (ha : Rng a) : s.length + 1 ≤ t.size + 30 + wt a := by
  unfold text1 one at h
  split at h
  · cases h
  split at h
  · simp only [Option.some.injEq] at h; subst h; simp; omega
  split at h
  · simp only [Option.some.injEq] at h; subst h; have := itoa_len hn; omega
  split at h
  · split at h
    · simp only [Option.some.injEq] at h; subst h; simp; omega
    · split at h
      · simp only [Option.some.injEq] at h; subst h; simp; omega
      · cases h
  split at h
  · simp only [Option.some.injEq] at h; subst h; have := itoa_len hn; simp; omega
  split at h
  · split at h
    · simp only [Option.some.injEq] at h; subst h; simp; omega
    · cases h
  split at h
  · split at h
    · split at h
      · cases h
      · next l hl =>
        split at h
        · simp only [Option.some.injEq] at h; subst h; simp; omega
        · simp only [Option.some.injEq] at h; subst h
          have h1 := texts_len a (d - 1) l hl ha
          have h2 := join_len l
          simp only [List.length_append, List.length_cons, List.length_nil]
          have : t.data.toList.length = t.size := by simp
          omega
    · cases h
  · cases h
end
end Go.Deed
