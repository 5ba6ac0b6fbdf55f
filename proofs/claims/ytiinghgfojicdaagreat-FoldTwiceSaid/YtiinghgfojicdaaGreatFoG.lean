/- A part of the proof of FoldTwice: rows in the making. No conditions. -/
import Derived.Test.YtiinghgfojicdaaGreatFoC
import Derived.Laws.IdiomCopy
import Derived.Lib.SliceRun
import Derived.Deep.Cut
import Derived.Deep.RegionHeld3
import Derived.Deep.RegionLaw
import Derived.Deep.MidRow
import Derived.Test.YtiinghgfojicdaaGreatFoF
set_option linter.unusedVariables false
set_option linter.unusedSimpArgs false
namespace Go.Proofs.YtiinghgfojicdaaGreat
open Go.RowKit Go.RowG Go.FRow Go.GMem
set_option linter.unusedVariables false
set_option maxRecDepth 100000
attribute [local go_sem ↓] Go.wp_at_zero Go.wp_at_succ
/-- What is left of a row of tests, from the j-th on. -/
def TRest (w : World) (S : Nat → Prop) (A : Option Addr) (m j : Nat) (l : List T) : Prop :=
  l.length + j = m ∧ (0 < l.length → ∃ b o zs, A = some ⟨b, o, none⟩ ∧ S b ∧ GCells w S (encTs l) zs ∧ ∀ i u, zs[i]? = some u → w.cell? ⟨b, o + j * 5 + i, none⟩ = some u)
theorem TRest.step {w : World} {S : Nat → Prop} {A : Option Addr} {m j : Nat} {x : T} {l : List T} (h : TRest w S A m j (x :: l)) :
    ∃ ad R c, A = some ad ∧ S ad.block ∧ w.cell? (ad.add (j * 5)) = some (.slice R x.path.length c) ∧ w.cell? ⟨(ad.add (j * 5)).block, (ad.add (j * 5)).off + 1, none⟩ = some (.int .i64 x.k) ∧ w.cell? ⟨(ad.add (j * 5)).block, (ad.add (j * 5)).off + 2, none⟩ = some (.int .i64 x.n) ∧
      w.cell? ⟨(ad.add (j * 5)).block, (ad.add (j * 5)).off + 3, none⟩ = some (.string x.t) ∧ w.cell? ⟨(ad.add (j * 5)).block, (ad.add (j * 5)).off + 4, none⟩ = some (.slice none 0 0) ∧ x.path.length ≤ c ∧ c ≤ maxLen ∧ GRow w S R x.path.length (encI x.path) ∧ TRest w S A m (j + 1) l := by
  obtain ⟨hl, h2⟩ := h
  obtain ⟨b, o, zs, e, hb, hz, hc⟩ := h2 (by simp)
  obtain ⟨R, c, _, e0, h3, h4, h5, _, e1, _, _, e2, _, _, e3, _, _, e4, _, hz'⟩ := hz
  subst e4 e3 e2 e1 e0
  refine ⟨⟨b, o, none⟩, R, c, e, hb, ?_, ?_, ?_, ?_, ?_, h3, h4, h5, by simp at hl; omega, fun _ => ⟨b, o, _, e, hb, hz', fun i u hu => ?_⟩⟩
  · rw [add_at]; exact hc 0 _ rfl
  · rw [add_at]; exact hc 1 _ rfl
  · rw [add_at]; exact hc 2 _ rfl
  · rw [add_at]; exact hc 3 _ rfl
  · rw [add_at]; exact hc 4 _ rfl
  · rw [show o + (j + 1) * 5 + i = o + j * 5 + (i + 5) by omega]
    exact hc (i + 5) u (by simpa using hu)
def NumEnds (n : Int) (w : World) (e : Ending) (w' : World) : Prop := e = .returned (.int .i64 n) ∧ Below w.heap.size w w'
end Go.Proofs.YtiinghgfojicdaaGreat
namespace Go.Proofs.YtiinghgfojicdaaGreat
open Go.RowKit Go.RowG Go.FRow Go.GMem
set_option linter.unusedVariables false
set_option maxRecDepth 100000
attribute [local go_sem ↓] Go.wp_at_zero Go.wp_at_succ
/-- All cells of block g are there, c elements. -/
def Blk (w : World) (g c : Nat) : Prop := ∀ j, j < c * 5 → (w.cell? ⟨g, j, none⟩).isSome = true ∧ w.frozen? ⟨g, j, none⟩ = false
theorem Blk.set {w : World} {g c : Nat} (h : Blk w g c) : ∀ (vs : List Value) (o : Nat), Blk (w.setCells g o vs) g c := fun vs o j hj => by
  refine ⟨?_, by rw [World.frozen?_setCells]; exact (h j hj).2⟩
  induction vs generalizing o w with
  | nil => exact (h j hj).1
  | cons v r ih =>
    refine ih (w := w.setCell ⟨g, o, none⟩ v) (fun k hk => ⟨?_, by rw [World.frozen?_setCell]; exact (h k hk).2⟩) (o + 1)
    by_cases e : k = o
    · subst e
      obtain ⟨u, hu⟩ := Option.isSome_iff_exists.1 (h k hk).1
      rw [World.cell?_setCell_same _ _ _ hu]
      rfl
    · rw [World.cell?_setCell_other _ _ _ _ (fun e' => e (by have := congrArg Addr.off e'; simpa using this.symm))]
      exact (h k hk).1
end Go.Proofs.YtiinghgfojicdaaGreat
namespace Go.Proofs.YtiinghgfojicdaaGreat
open Go.RowKit Go.RowG Go.FRow Go.GMem
set_option linter.unusedVariables false
set_option maxRecDepth 100000
abbrev R := Nat × List T
def encRs : List R → G
  | [] => .nil
  | x :: l => .lit (.int .i64 (x.1 : Int)) (.row x.2.length (encTs x.2) (encRs l))
theorem encRs_app : ∀ l r : List R, encRs (l ++ r) = (encRs l).app (encRs r)
  | [], _ => rfl
  | x :: l, r => by simp only [List.cons_append, encRs, G.app, encRs_app l r]
/-- Two rows of the call's own, side by side. -/
structure Two (S : Nat → Prop) (e : TypeId) (size : Nat) (w : World) (base : Nat) (v u : Value) (nv nu : Nat) (gv gu : G) (xs ys : List Value) : Prop where
  ownv : w.ownsRow base e size v nv xs
  ownu : w.ownsRow base e size u nu ys
  cellv : GCells w (fun b => (S b ∨ base ≤ b) ∧ b < w.heap.size ∧ some b ≠ v.ownBlock ∧ some b ≠ u.ownBlock) gv xs
  cellu : GCells w (fun b => (S b ∨ base ≤ b) ∧ b < w.heap.size ∧ some b ≠ v.ownBlock ∧ some b ≠ u.ownBlock) gu ys
  apart : ∀ b, v.ownBlock = some b → u.ownBlock = some b → False
theorem Two.nil (S : Nat → Prop) (e : TypeId) (size : Nat) (w : World) (base : Nat) : Two S e size w base (.slice none 0 0) (.slice none 0 0) 0 0 .nil .nil [] [] :=
  ⟨World.ownsRow_nil _ _ _ _, World.ownsRow_nil _ _ _ _, rfl, rfl, fun b h => by cases h⟩
theorem Two.symm {S : Nat → Prop} {e : TypeId} {size : Nat} {w : World} {base nv nu : Nat} {v u : Value} {gv gu : G} {xs ys : List Value} (h : Two S e size w base v u nv nu gv gu xs ys) : Two S e size w base u v nu nv gu gv ys xs :=
  ⟨h.ownu, h.ownv, h.cellu.mono fun b ⟨h0, h1, h2, h3⟩ => ⟨h0, h1, h3, h2⟩, h.cellv.mono fun b ⟨h0, h1, h2, h3⟩ => ⟨h0, h1, h3, h2⟩, fun b h1 h2 => h.apart b h2 h1⟩
theorem Two.kept {S : Nat → Prop} {e : TypeId} {size : Nat} {w w' : World} {base nv nu : Nat} {v u : Value} {gv gu : G} {xs ys : List Value} (h : Two S e size w base v u nv nu gv gu xs ys) (hb : Below w.heap.size w w') : Two S e size w' base v u nv nu gv gu xs ys :=
  ⟨h.ownv.kept ⟨hb.os, hb.tape, hb.output, hb.size, fun k hk _ => hb.block k hk⟩ (Classical.em _), h.ownu.kept ⟨hb.os, hb.tape, hb.output, hb.size, fun k hk _ => hb.block k hk⟩ (Classical.em _),
    h.cellv.keep (fun b h => ⟨h.1, Nat.lt_of_lt_of_le h.2.1 hb.size, h.2.2⟩) fun p hp => hb.cell hp.2.1, h.cellu.keep (fun b h => ⟨h.1, Nat.lt_of_lt_of_le h.2.1 hb.size, h.2.2⟩) fun p hp => hb.cell hp.2.1, h.apart⟩
theorem Two.alloc {S : Nat → Prop} {e : TypeId} {size : Nat} {w : World} {base nv nu : Nat} {v u : Value} {gv gu : G} {xs ys : List Value} (h : Two S e size w base v u nv nu gv gu xs ys) (o : Obj) : Two S e size (w.alloc o) base v u nv nu gv gu xs ys := h.kept ((Below.refl _ _).alloc (Nat.le_refl _) o)
theorem Two.drew {S : Nat → Prop} {e : TypeId} {size : Nat} {w : World} {base nv nu : Nat} {v u : Value} {gv gu : G} {xs ys : List Value} (h : Two S e size w base v u nv nu gv gu xs ys) : Two S e size w.drew base v u nv nu gv gu xs ys := h.kept (Below.refl _ _).drew
theorem Two.left {S : Nat → Prop} {e : TypeId} {size : Nat} {w w' : World} {base nv nu m : Nat} {v u v' : Value} {gv gu h : G} {xs ys zs : List Value} (ht : Two S e size w base v u nv nu gv gu xs ys) (hh : GCells w (fun b => (S b ∨ base ≤ b) ∧ b < w.heap.size ∧ some b ≠ v.ownBlock ∧ some b ≠ u.ownBlock) h zs)
    (hown' : w'.ownsRow base e size v' m (xs ++ zs)) (hg : w.grownBy w' v.ownBlock) (hv : v'.ownBlock = v.ownBlock ∨ v'.ownBlock = some w.heap.size) : Two S e size w' base v' u m nu (gv.app h) gu (xs ++ zs) ys := by
  have hsz := hg.size
  have hul : ∀ b, u.ownBlock = some b → b < w.heap.size := fun b hb => (ht.ownu.lt b hb).2
  have hS : ∀ b, ((S b ∨ base ≤ b) ∧ b < w.heap.size ∧ some b ≠ v.ownBlock ∧ some b ≠ u.ownBlock) → ((S b ∨ base ≤ b) ∧ b < w'.heap.size ∧ some b ≠ v'.ownBlock ∧ some b ≠ u.ownBlock) := fun b ⟨h0, hb, hne, hnu⟩ => ⟨h0, by omega, by
    rcases hv with h | h
    · rw [h]; exact hne
    · rw [h]; intro e; injection e with e; omega, hnu⟩
  have hk : ∀ p : Addr, ((S p.block ∨ base ≤ p.block) ∧ p.block < w.heap.size ∧ some p.block ≠ v.ownBlock ∧ some p.block ≠ u.ownBlock) → w'.cell? p = w.cell? p := fun p ⟨_, hb, hne, _⟩ => World.cell?_of_block (hg.block p.block hb hne)
  refine ⟨hown', ht.ownu.kept hg ?_, (ht.cellv.app hh).keep hS hk, ht.cellu.keep hS hk, fun b h1 h2 => ?_⟩
  · cases hu : u.ownBlock with
    | none => exact Or.inl rfl
    | some b => exact Or.inr fun e => ht.apart b e.symm hu
  · rcases hv with h | h
    · exact ht.apart b (h ▸ h1) h2
    · rw [h] at h1
      injection h1 with h1
      have := hul b h2
      omega
end Go.Proofs.YtiinghgfojicdaaGreat
namespace Go.Proofs.YtiinghgfojicdaaGreat
open Go.RowKit Go.RowG Go.FRow Go.GMem
set_option linter.unusedVariables false
set_option maxRecDepth 100000
attribute [local go_sem ↓] Go.wp_at_zero Go.wp_at_succ
/-- What is left of rows of tests, from the j-th on. -/
def RRest (w : World) (S : Nat → Prop) (A : Option Addr) (m j : Nat) (l : List R) : Prop :=
  l.length + j = m ∧ (0 < l.length → ∃ b o zs, A = some ⟨b, o, none⟩ ∧ S b ∧ GCells w S (encRs l) zs ∧ ∀ i u, zs[i]? = some u → w.cell? ⟨b, o + j * 2 + i, none⟩ = some u)
theorem RRest.step {w : World} {S : Nat → Prop} {A : Option Addr} {m j : Nat} {x : R} {l : List R} (h : RRest w S A m j (x :: l)) :
    ∃ ad B c, A = some ad ∧ S ad.block ∧ w.cell? (ad.add (j * 2)) = some (.int .i64 (x.1 : Int)) ∧ w.cell? ⟨(ad.add (j * 2)).block, (ad.add (j * 2)).off + 1, none⟩ = some (.slice B x.2.length c) ∧ x.2.length ≤ c ∧ c ≤ maxLen ∧ GRow w S B x.2.length (encTs x.2) ∧ RRest w S A m (j + 1) l := by
  obtain ⟨hl, h2⟩ := h
  obtain ⟨b, o, zs, e, hb, hz, hc⟩ := h2 (by simp)
  obtain ⟨_, e0, _, B, c, _, e1, h3, h4, h5, hz'⟩ := hz
  subst e1 e0
  refine ⟨⟨b, o, none⟩, B, c, e, hb, ?_, ?_, h3, h4, h5, by simp at hl; omega, fun _ => ⟨b, o, _, e, hb, hz', fun i u hu => ?_⟩⟩
  · rw [add_at]; exact hc 0 _ rfl
  · rw [add_at]; exact hc 1 _ rfl
  · rw [show o + (j + 1) * 2 + i = o + j * 2 + (i + 2) by omega]
    exact hc (i + 2) u (by simpa using hu)
end Go.Proofs.YtiinghgfojicdaaGreat
namespace Go.Proofs.YtiinghgfojicdaaGreat
open Go.RowKit Go.RowG Go.FRow Go.GMem
set_option linter.unusedVariables false
set_option maxRecDepth 100000
/-- What an element of two rows may lead to. -/
abbrev Free (S : Nat → Prop) (base : Nat) (w : World) (v u : Value) : Nat → Prop := fun b => (S b ∨ base ≤ b) ∧ b < w.heap.size ∧ some b ≠ v.ownBlock ∧ some b ≠ u.ownBlock
theorem Two.put {S : Nat → Prop} {w w' : World} {base : Nat} {v v' u : Value} {ys ns : List R} {xs zs : List Value} {x : R} {B : Option Addr} {rc k : Nat} (ht : Two S 126 2 w base v u ys.length ns.length (encRs ys) (encRs ns) xs zs)
    (hrow : GRow w (Free S base w v u) B x.2.length (encTs x.2)) (hk : k = x.2.length) (h1 : k ≤ rc) (h2 : rc ≤ maxLen)
    (hown : w'.ownsRow base 126 2 v' (ys.length + 1) (xs ++ [.int .i64 (x.1 : Int), .slice B k rc])) (hg : w.grownBy w' v.ownBlock) (hv : v'.ownBlock = v.ownBlock ∨ v'.ownBlock = some w.heap.size) :
    Two S 126 2 w' base v' u (ys ++ [x]).length ns.length (encRs (ys ++ [x])) (encRs ns) (xs ++ [.int .i64 (x.1 : Int), .slice B k rc]) zs := by
  subst hk
  rw [List.length_append, encRs_app]
  exact ht.left ⟨_, rfl, rfl, B, rc, _, rfl, h1, h2, hrow, rfl⟩ hown hg hv
theorem own2 {w : World} {z : Nat} {e : TypeId} {a b : Value} (h : w.heap[z]? = some (.cells #[a, b] e (0, 0))) : w.cell? ⟨z, 0, none⟩ = some a ∧ w.cell? ⟨z, 1, none⟩ = some b := by
  simp [World.cell?, h]
/-- Two rows of the call's own, and a box (two cells) beside them. -/
structure Duo (S : Nat → Prop) (W1 : World) (z : Nat) (p q : Value) (W : World) (v u : Value) (ys ns : List R) (xs zs : List Value) : Prop where
  two : Two S 126 2 W W1.heap.size v u ys.length ns.length (encRs ys) (encRs ns) xs zs
  below : Below W1.heap.size W1 W
  box : W.heap[z]? = some (.cells #[p, q] 126 (0, 0))
  nv : some z ≠ v.ownBlock
  nu : some z ≠ u.ownBlock
theorem Duo.kept {S : Nat → Prop} {W1 W W' : World} {z : Nat} {p q v u : Value} {ys ns : List R} {xs zs : List Value} (h : Duo S W1 z p q W v u ys ns xs zs) (hb : Below W.heap.size W W') : Duo S W1 z p q W' v u ys ns xs zs :=
  ⟨h.two.kept hb, h.below.trans (hb.mono h.below.size), (hb.block z (Array.getElem?_eq_some_iff.1 h.box).1).trans h.box, h.nv, h.nu⟩
theorem Duo.alloc {S : Nat → Prop} {W1 W : World} {z : Nat} {p q v u : Value} {ys ns : List R} {xs zs : List Value} (h : Duo S W1 z p q W v u ys ns xs zs) (o : Obj) : Duo S W1 z p q (W.alloc o) v u ys ns xs zs := h.kept ((Below.refl _ _).alloc (Nat.le_refl _) o)
theorem Duo.drew {S : Nat → Prop} {W1 W : World} {z : Nat} {p q v u : Value} {ys ns : List R} {xs zs : List Value} (h : Duo S W1 z p q W v u ys ns xs zs) : Duo S W1 z p q W.drew v u ys ns xs zs := h.kept (Below.refl _ _).drew
theorem Duo.cells {S : Nat → Prop} {W1 W : World} {z : Nat} {p q v u : Value} {ys ns : List R} {xs zs : List Value} (h : Duo S W1 z p q W v u ys ns xs zs) : W.cell? ⟨z, 0, none⟩ = some p ∧ W.cell? ⟨z, 1, none⟩ = some q := own2 h.box
theorem Duo.symm {S : Nat → Prop} {W1 W : World} {z : Nat} {p q v u : Value} {ys ns : List R} {xs zs : List Value} (h : Duo S W1 z p q W v u ys ns xs zs) : Duo S W1 z p q W u v ns ys zs xs := ⟨h.two.symm, h.below, h.box, h.nu, h.nv⟩
theorem Duo.put {S : Nat → Prop} {W1 W w' : World} {z : Nat} {p q v v' u : Value} {ys ns : List R} {xs zs : List Value} (h : Duo S W1 z p q W v u ys ns xs zs) {x : R} {B : Option Addr} {rc k : Nat}
    (hrow : GRow W (Free S W1.heap.size W v u) B x.2.length (encTs x.2)) (hk : k = x.2.length) (h1 : k ≤ rc) (h2 : rc ≤ maxLen)
    (hown : w'.ownsRow W1.heap.size 126 2 v' (ys.length + 1) (xs ++ [.int .i64 (x.1 : Int), .slice B k rc])) (hg : W.grownBy w' v.ownBlock) (hv : v'.ownBlock = v.ownBlock ∨ v'.ownBlock = some W.heap.size) : Duo S W1 z p q w' v' u (ys ++ [x]) ns (xs ++ [.int .i64 (x.1 : Int), .slice B k rc]) zs := by
  have hz : z < W.heap.size := (Array.getElem?_eq_some_iff.1 h.box).1
  refine ⟨h.two.put hrow hk h1 h2 hown hg hv, h.below.grown hg h.below.size (fun b hb => (h.two.ownv.lt b hb).1), (hg.block z hz h.nv).trans h.box, ?_, h.nu⟩
  rcases hv with e | e
  · rw [e]; exact h.nv
  · rw [e]; intro e'; injection e' with e'; omega
/-- The world w, but block z is filled anew. -/
structure Filled (z : Nat) (e : TypeId) (vs : Array Value) (w w' : World) : Prop where
  own : w'.heap[z]? = some (.cells vs e (0, 0))
  rest : ∀ k, k < w.heap.size → k ≠ z → w'.heap[k]? = w.heap[k]?
  size : w.heap.size ≤ w'.heap.size
  below : Below z w w'
theorem chain_size (w : World) (z : Nat) (v0 v1 v2 v3 v4 v5 v6 v7 v8 : Value) : (((((((((w.setCell ⟨z, 0, none⟩ v0).setCell ⟨z, 1, none⟩ v1).setCell ⟨z, 2, none⟩ v2).setCell ⟨z, 3, none⟩ v3).setCell ⟨z, 4, none⟩ v4).setCell ⟨z, 5, none⟩ v5).setCell ⟨z, 6, none⟩ v6).setCell ⟨z, 7, none⟩ v7).setCell ⟨z, 8, none⟩ v8).heap.size = w.heap.size := by simp [World.setCell]
theorem Filled.base {w : World} {z : Nat} {e : TypeId} {u0 u1 u2 u3 u4 u5 u6 u7 u8 v0 v1 v2 v3 v4 v5 v6 v7 v8 : Value} (h : w.heap[z]? = some (.cells #[u0, u1, u2, u3, u4, u5, u6, u7, u8] e (0, 0))) : Filled z e #[v0, v1, v2, v3, v4, v5, v6, v7, v8] w (((((((((w.setCell ⟨z, 0, none⟩ v0).setCell ⟨z, 1, none⟩ v1).setCell ⟨z, 2, none⟩ v2).setCell ⟨z, 3, none⟩ v3).setCell ⟨z, 4, none⟩ v4).setCell ⟨z, 5, none⟩ v5).setCell ⟨z, 6, none⟩ v6).setCell ⟨z, 7, none⟩ v7).setCell ⟨z, 8, none⟩ v8) := by
  have hs : ∀ (W : World) (i : Nat) (v : Value) (hb : Below z w W), Below z w (W.setCell ⟨z, i, none⟩ v) := fun W i v hb => hb.setCell (p := ⟨z, i, none⟩) (Nat.le_refl _) v
  refine ⟨?_, fun k _ hk => ?_, Nat.le_of_eq (chain_size w z v0 v1 v2 v3 v4 v5 v6 v7 v8).symm, hs _ _ _ (hs _ _ _ (hs _ _ _ (hs _ _ _ (hs _ _ _ (hs _ _ _ (hs _ _ _ (hs _ _ _ (hs _ _ _ (Below.refl _ _)))))))))⟩
  · simp [World.setCell, Array.getElem?_modify, h]
  · have h : ∀ (W : World) (i : Nat) (v : Value), (W.setCell ⟨z, i, none⟩ v).heap[k]? = W.heap[k]? := fun W i v => Below.heap_setCell W ⟨z, i, none⟩ v k hk
    rw [h, h, h, h, h, h, h, h, h]
theorem Filled.alloc {z : Nat} {e : TypeId} {vs : Array Value} {w w' : World} (h : Filled z e vs w w') (hz : z < w.heap.size) (o : Obj) : Filled z e vs w (w'.alloc o) :=
  ⟨(heap_alloc_old w' o (Nat.lt_of_lt_of_le hz h.size)).trans h.own, fun k hk hne => (heap_alloc_old w' o (Nat.lt_of_lt_of_le hk h.size)).trans (h.rest k hk hne), Nat.le_trans h.size (by simp), h.below.alloc (Nat.le_of_lt (Nat.lt_of_lt_of_le hz h.size)) o⟩
theorem alloc_cell {w : World} {z : Nat} (hz : z < w.heap.size) : (∀ (o : Obj) (i : Nat), (w.alloc o).cell? ⟨z, i, none⟩ = w.cell? ⟨z, i, none⟩) ∧ (∀ (o : Obj) (i : Nat), (w.alloc o).frozen? ⟨z, i, none⟩ = w.frozen? ⟨z, i, none⟩) := by
  refine ⟨fun o i => World.cell?_alloc_lt w o _ hz, fun o i => ?_⟩
  have h := heap_alloc_old w o hz
  simp only [World.frozen?, h]
theorem alloc_cell2 {w : World} {z : Nat} (hz : z < w.heap.size) : (∀ (o o' : Obj) (i : Nat), ((w.alloc o).alloc o').cell? ⟨z, i, none⟩ = w.cell? ⟨z, i, none⟩) ∧ (∀ (o o' : Obj) (i : Nat), ((w.alloc o).alloc o').frozen? ⟨z, i, none⟩ = w.frozen? ⟨z, i, none⟩) := by
  have h := alloc_cell hz
  refine ⟨fun o o' i => ?_, fun o o' i => ?_⟩
  · rw [(alloc_cell (w := w.alloc o) (by simp; omega)).1, h.1]
  · rw [(alloc_cell (w := w.alloc o) (by simp; omega)).2, h.2]
end Go.Proofs.YtiinghgfojicdaaGreat
namespace Go.Proofs.YtiinghgfojicdaaGreat
open Go.RowKit Go.RowG Go.FRow Go.GMem
set_option linter.unusedVariables false
set_option maxRecDepth 100000
theorem strs_nil0 {L : List ByteArray} (h : L.length = 0) : encS L = .nil := by rw [List.eq_nil_of_length_eq_zero h]; rfl
theorem typs_nil {m : Nat} (h : m = 0) : encY m = .nil := by rw [h]; rfl
theorem own_eight {w : World} {z : Nat} {e : TypeId} {v0 v1 v2 v3 v4 v5 v6 v7 : Value} (h : w.heap[z]? = some (.cells #[v0, v1, v2, v3, v4, v5, v6, v7] e (0, 0))) :
    (w.cell? ⟨z, 0, none⟩ = some v0 ∧ w.cell? ⟨z, 1, none⟩ = some v1 ∧ w.cell? ⟨z, 2, none⟩ = some v2 ∧ w.cell? ⟨z, 3, none⟩ = some v3 ∧ w.cell? ⟨z, 4, none⟩ = some v4 ∧ w.cell? ⟨z, 5, none⟩ = some v5 ∧ w.cell? ⟨z, 6, none⟩ = some v6 ∧ w.cell? ⟨z, 7, none⟩ = some v7) ∧
    (w.frozen? ⟨z, 0, none⟩ = false ∧ w.frozen? ⟨z, 1, none⟩ = false ∧ w.frozen? ⟨z, 2, none⟩ = false ∧ w.frozen? ⟨z, 3, none⟩ = false ∧ w.frozen? ⟨z, 4, none⟩ = false ∧ w.frozen? ⟨z, 5, none⟩ = false ∧ w.frozen? ⟨z, 6, none⟩ = false ∧ w.frozen? ⟨z, 7, none⟩ = false) := by
  simp [World.cell?, World.frozen?, h]
theorem strTy : RowTy Tryz.prog 45 9 1 16 := RowTy.of Tryz.underlying45 (by kernel_rfl) (by decide)
theorem typTy : RowTy Tryz.prog 46 72 3 48 := RowTy.of Tryz.underlying46 (by kernel_rfl) (by decide)
theorem exprTy : RowTy Tryz.prog 47 50 8 136 := RowTy.of Tryz.underlying47 (by kernel_rfl) (by decide)
theorem armTy : RowTy Tryz.prog 48 70 12 192 := RowTy.of Tryz.underlying48 (by kernel_rfl) (by decide)
/-- A row in the making from block base on; what it leads to lies within S, or from base on. -/
structure Half (S : Nat → Prop) (e : TypeId) (size : Nat) (w : World) (base : Nat) (v : Value) (n : Nat) (g : G) (xs : List Value) : Prop where
  own : w.ownsRow base e size v n xs
  cell : GCells w (fun b => (S b ∨ base ≤ b) ∧ b < w.heap.size ∧ some b ≠ v.ownBlock) g xs
theorem Half.nil (S : Nat → Prop) (e : TypeId) (size : Nat) (w : World) (base : Nat) : Half S e size w base (.slice none 0 0) 0 .nil [] := ⟨World.ownsRow_nil _ _ _ _, rfl⟩
theorem Half.rolled {S : Nat → Prop} {e : TypeId} {size : Nat} {w w' : World} {base n d : Nat} {v : Value} {g : G} {xs : List Value} (h : Half S e size w base v n g xs) (hr : Rolled d w w') (hd : d < base) (hS : ¬ S d) : Half S e size w' base v n g xs :=
  ⟨h.own.kept (row := some d) ⟨hr.os, hr.tape, hr.output, hr.size, fun k hk hne => hr.block k hk fun e => hne (by rw [e])⟩ (Or.inr fun e => by have := (h.own.lt d e).1; omega),
    h.cell.keep (fun b h => ⟨h.1, Nat.lt_of_lt_of_le h.2.1 hr.size, h.2.2⟩) fun p hp => hr.cell hp.2.1 (by
      rcases hp.1 with h | h
      · exact fun e => hS (e ▸ h)
      · omega)⟩
theorem Half.kept {S : Nat → Prop} {e : TypeId} {size : Nat} {w w' : World} {base n : Nat} {v : Value} {g : G} {xs : List Value} (h : Half S e size w base v n g xs) (hb : Below w.heap.size w w') : Half S e size w' base v n g xs :=
  ⟨h.own.kept ⟨hb.os, hb.tape, hb.output, hb.size, fun k hk _ => hb.block k hk⟩ (Classical.em _), h.cell.keep (fun b h => ⟨h.1, Nat.lt_of_lt_of_le h.2.1 hb.size, h.2.2⟩) fun p hp => hb.cell hp.2.1⟩
/-- What was appended is more of it. -/
theorem Half.snoc {S : Nat → Prop} {e : TypeId} {size : Nat} {w w' : World} {base m n : Nat} {v v' : Value} {g h : G} {o : Obj} {xs ys : List Value} (hw : Half S e size w base v n g xs)
    (hh : GCells w (fun b => (S b ∨ base ≤ b) ∧ b < w.heap.size ∧ some b ≠ v.ownBlock) h ys)
    (hown' : w'.ownsRow base e size v' m (xs ++ ys)) (hg : (w.alloc o).grownBy w' v.ownBlock) (hv : v'.ownBlock = v.ownBlock ∨ v'.ownBlock = some (w.heap.size + 1)) : Half S e size w' base v' m (g.app h) (xs ++ ys) := by
  have hsz : w.heap.size + 1 ≤ w'.heap.size := by have := hg.size; simpa using this
  refine ⟨hown', (hw.cell.app hh).keep (fun b ⟨h0, hb, hne⟩ => ⟨h0, by omega, ?_⟩) fun p ⟨_, hb, hne⟩ => World.cell?_of_block ((hg.block p.block (by simp; omega) hne).trans (Below.heap_alloc _ _ _ hb))⟩
  rcases hv with h | h
  · rw [h]; exact hne
  · rw [h]; intro e; injection e with e; omega
theorem Half.row {S : Nat → Prop} {e : TypeId} {size : Nat} {w : World} {base n : Nat} {v : Value} {g : G} {xs : List Value} (h : Half S e size w base v n g xs) (hs : 0 < size) : ∃ A c, v = .slice A n c ∧ n ≤ c ∧ c ≤ maxLen ∧ GRow w (fun b => (S b ∨ base ≤ b) ∧ b < w.heap.size) A n g := by
  have hlo := fun b hb => h.own.lt b hb
  obtain ⟨A, c, rfl, h1, h2, h3⟩ := CellsAt.of_own h.own
  refine ⟨A, c, rfl, h1, h2, fun hl => ?_⟩
  have hx : 0 < xs.length := by rw [h.own.1]; exact Nat.mul_pos hl hs
  obtain ⟨b, o, rfl, hg, hc⟩ := h3 hx
  exact ⟨b, o, xs, rfl, ⟨Or.inr (hlo b rfl).1, hg⟩, h.cell.mono fun _ h => ⟨h.1, h.2.1⟩, hc⟩
/-- A block of eight cells. -/
def Own8 (w : World) (z : Nat) (e : TypeId) (v0 v1 v2 v3 v4 v5 v6 v7 : Value) : Prop := w.heap[z]? = some (.cells #[v0, v1, v2, v3, v4, v5, v6, v7] e (0, 0))
theorem Own8.lt {w : World} {z : Nat} {e : TypeId} {v0 v1 v2 v3 v4 v5 v6 v7 : Value} (h : Own8 w z e v0 v1 v2 v3 v4 v5 v6 v7) : z < w.heap.size := (Array.getElem?_eq_some_iff.1 h).1
theorem Own8.keep {w w' : World} {z : Nat} {e : TypeId} {v0 v1 v2 v3 v4 v5 v6 v7 : Value} (h : Own8 w z e v0 v1 v2 v3 v4 v5 v6 v7) (hb : Below w.heap.size w w') : Own8 w' z e v0 v1 v2 v3 v4 v5 v6 v7 := (hb.block z h.lt).trans h
theorem Own8.alloc {w : World} {z : Nat} {e : TypeId} {v0 v1 v2 v3 v4 v5 v6 v7 : Value} (h : Own8 w z e v0 v1 v2 v3 v4 v5 v6 v7) (o : Obj) : Own8 (w.alloc o) z e v0 v1 v2 v3 v4 v5 v6 v7 := h.keep ((Below.refl _ _).alloc (Nat.le_refl _) o)
theorem Own8.grown {w w' : World} {z : Nat} {e : TypeId} {v0 v1 v2 v3 v4 v5 v6 v7 : Value} {row : Option Nat} (h : Own8 w z e v0 v1 v2 v3 v4 v5 v6 v7) (hg : w.grownBy w' row) (hz : some z ≠ row) : Own8 w' z e v0 v1 v2 v3 v4 v5 v6 v7 := (hg.block z h.lt hz).trans h
theorem Own8.rolled {w w' : World} {g z : Nat} {e : TypeId} {v0 v1 v2 v3 v4 v5 v6 v7 : Value} (h : Own8 w z e v0 v1 v2 v3 v4 v5 v6 v7) (hr : Rolled g w w') (hz : z ≠ g) : Own8 w' z e v0 v1 v2 v3 v4 v5 v6 v7 := (hr.block z h.lt hz).trans h
theorem Own8.other {w : World} {z : Nat} {e : TypeId} {v0 v1 v2 v3 v4 v5 v6 v7 : Value} (h : Own8 w z e v0 v1 v2 v3 v4 v5 v6 v7) {p : Addr} (hp : z ≠ p.block) (v : Value) : Own8 (w.setCell p v) z e v0 v1 v2 v3 v4 v5 v6 v7 := (Below.heap_setCell _ _ _ _ hp).trans h
theorem Own8.set3 {w : World} {z : Nat} {e : TypeId} {v0 v1 v2 v3 v4 v5 v6 v7 : Value} (h : Own8 w z e v0 v1 v2 v3 v4 v5 v6 v7) (v : Value) : Own8 (w.setCell ⟨z, 3, none⟩ v) z e v0 v1 v2 v v4 v5 v6 v7 := by
  unfold Own8 at *; simp [World.setCell, Array.getElem?_modify, h]
theorem Own8.set4 {w : World} {z : Nat} {e : TypeId} {v0 v1 v2 v3 v4 v5 v6 v7 : Value} (h : Own8 w z e v0 v1 v2 v3 v4 v5 v6 v7) (v : Value) : Own8 (w.setCell ⟨z, 4, none⟩ v) z e v0 v1 v2 v3 v v5 v6 v7 := by
  unfold Own8 at *; simp [World.setCell, Array.getElem?_modify, h]
theorem Own8.set5 {w : World} {z : Nat} {e : TypeId} {v0 v1 v2 v3 v4 v5 v6 v7 : Value} (h : Own8 w z e v0 v1 v2 v3 v4 v5 v6 v7) (v : Value) : Own8 (w.setCell ⟨z, 5, none⟩ v) z e v0 v1 v2 v3 v4 v v6 v7 := by
  unfold Own8 at *; simp [World.setCell, Array.getElem?_modify, h]
theorem Own8.set6 {w : World} {z : Nat} {e : TypeId} {v0 v1 v2 v3 v4 v5 v6 v7 : Value} (h : Own8 w z e v0 v1 v2 v3 v4 v5 v6 v7) (v : Value) : Own8 (w.setCell ⟨z, 6, none⟩ v) z e v0 v1 v2 v3 v4 v5 v v7 := by
  unfold Own8 at *; simp [World.setCell, Array.getElem?_modify, h]
theorem fill8_far (w : World) (z : Nat) (v0 v1 v2 v3 v4 v5 v6 v7 : Value) {k : Nat} (hk : k ≠ z) : ((((((((w.setCell ⟨z, 0, none⟩ v0).setCell ⟨z, 1, none⟩ v1).setCell ⟨z, 2, none⟩ v2).setCell ⟨z, 3, none⟩ v3).setCell ⟨z, 4, none⟩ v4).setCell ⟨z, 5, none⟩ v5).setCell ⟨z, 6, none⟩ v6).setCell ⟨z, 7, none⟩ v7).heap[k]? = w.heap[k]? := by
  have h : ∀ (W : World) (i : Nat) (v : Value), (W.setCell ⟨z, i, none⟩ v).heap[k]? = W.heap[k]? := fun W i v => Below.heap_setCell W ⟨z, i, none⟩ v k hk
  rw [h, h, h, h, h, h, h, h]
theorem Rolled.setz (w : World) (z i : Nat) (v : Value) : Rolled z w (w.setCell ⟨z, i, none⟩ v) := ⟨rfl, rfl, rfl, by simp [World.setCell], fun k hk hne => Below.heap_setCell _ _ _ _ hne⟩
theorem ex_half {S : Nat → Prop} {w5 : World} {E5 : Ex} {q5 : At} {base b0 : Nat} {v : Value} (hq : EIs w5 (fun b => S b ∨ (b0 ≤ b ∧ b < w5.heap.size)) E5 q5) (hS : ∀ b, S b → b < base) (hb : base ≤ b0) (hs : b0 ≤ w5.heap.size) (hv : ∀ g, v.ownBlock = some g → base ≤ g ∧ g < b0) :
    GCells w5 (fun b => (S b ∨ base ≤ b) ∧ b < w5.heap.size ∧ some b ≠ v.ownBlock) (encE E5) (eight E5 q5) :=
  ex_cells (hq.mono fun b h => by
    rcases h with h | ⟨h, h'⟩
    · exact ⟨Or.inl h, by have := hS b h; omega, fun e => by have := (hv b e.symm).1; have := hS b h; omega⟩
    · exact ⟨Or.inr (by omega), h', fun e => by have := (hv b e.symm).2; omega⟩)
end Go.Proofs.YtiinghgfojicdaaGreat
