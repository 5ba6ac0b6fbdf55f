/- A part of the proof of FoldTwice: an expression in the making. No conditions. -/
import Derived.Test.YtiinghgfojicdaaGreatFoA
import Derived.Test.YtiinghgfojicdaaGreatFoS
set_option linter.unusedVariables false
set_option linter.unusedSimpArgs false
namespace Go.Proofs.YtiinghgfojicdaaGreat
open Go.RowKit Go.RowG Go.FRow Go.GMem
set_option linter.unusedVariables false
def kinds : List Int := [8, 8, 8, 7, 6, 6, 9, 9, 10, 11, 12, 12, 13, 14, 15, 17, 18, 19, 20, 20, 21, 22, 23, 24, 25]
def ExprAt (g : Nat) (A : Option Addr) (n c : Nat) (w0 : World) (dq : Int) (R N : Nat) : Prop := ∀ (b : Bool) (k : Nat) (W : World), Rolled g w0 W → Dice W g A n c k b → k + R ≤ 100000 → Calls Tryz.prog 38 #[.pointer (some ⟨g, 0, none⟩), .int .i64 dq] W (ExGen g A n c k b R N W)
theorem Own8.set1 {w : World} {z : Nat} {e : TypeId} {v0 v1 v2 v3 v4 v5 v6 v7 : Value} (h : Own8 w z e v0 v1 v2 v3 v4 v5 v6 v7) (v : Value) : Own8 (w.setCell ⟨z, 1, none⟩ v) z e v0 v v2 v3 v4 v5 v6 v7 := by
  unfold Own8 at *; simp [World.setCell, Array.getElem?_modify, h]
theorem Own8.set2 {w : World} {z : Nat} {e : TypeId} {v0 v1 v2 v3 v4 v5 v6 v7 : Value} (h : Own8 w z e v0 v1 v2 v3 v4 v5 v6 v7) (v : Value) : Own8 (w.setCell ⟨z, 2, none⟩ v) z e v0 v1 v v3 v4 v5 v6 v7 := by
  unfold Own8 at *; simp [World.setCell, Array.getElem?_modify, h]
/-- The result's block, the block in the making at z, the dice. -/
structure Mk (g : Nat) (A : Option Addr) (n c : Nat) (w0 w : World) (z : Nat) (K : Int) (k : Nat) (b : Bool) (W : World) (v1 v2 v3 v4 v5 v6 : Value) : Prop where
  pre : Rolled g w0 w
  lo : g < w.heap.size
  hi : w.heap.size < z
  roll : Rolled g w W
  dice : Dice W g A n c k b
  res : Own8 W w.heap.size 50 (.int .i64 0) (.int .i64 0) (.string ⟨#[]⟩) (.slice none 0 0) (.slice none 0 0) (.slice none 0 0) (.slice none 0 0) (.int .i64 0)
  blk : Own8 W z 50 (.int .i64 K) v1 v2 v3 v4 v5 v6 (.int .i64 0)
theorem Mk.all0 {g n c k z : Nat} {A : Option Addr} {w0 w W : World} {K : Int} {b : Bool} {v1 v2 v3 v4 v5 v6 : Value} (h : Mk g A n c w0 w z K k b W v1 v2 v3 v4 v5 v6) : Rolled g w0 W := h.pre.trans h.roll
theorem Mk.zlt {g n c k z : Nat} {A : Option Addr} {w0 w W : World} {K : Int} {b : Bool} {v1 v2 v3 v4 v5 v6 : Value} (h : Mk g A n c w0 w z K k b W v1 v2 v3 v4 v5 v6) : z < W.heap.size := h.blk.lt
theorem Mk.rolled {g n c k z : Nat} {A : Option Addr} {w0 w W : World} {K : Int} {b : Bool} {v1 v2 v3 v4 v5 v6 : Value} {W' : World} {k' : Nat} {b' : Bool} (h : Mk g A n c w0 w z K k b W v1 v2 v3 v4 v5 v6) (hr : Rolled g W W') (hd : Dice W' g A n c k' b') : Mk g A n c w0 w z K k' b' W' v1 v2 v3 v4 v5 v6 :=
  ⟨h.pre, h.lo, h.hi, h.roll.trans hr, hd, h.res.rolled hr (by have := h.lo; omega), h.blk.rolled hr (by have := h.lo; have := h.hi; omega)⟩
theorem Mk.alloc {g n c k z : Nat} {A : Option Addr} {w0 w W : World} {K : Int} {b : Bool} {v1 v2 v3 v4 v5 v6 : Value} (h : Mk g A n c w0 w z K k b W v1 v2 v3 v4 v5 v6) (o : Obj) : Mk g A n c w0 w z K k b (W.alloc o) v1 v2 v3 v4 v5 v6 :=
  ⟨h.pre, h.lo, h.hi, h.roll.alloc o, h.dice.alloc o, h.res.alloc o, h.blk.alloc o⟩
theorem Mk.drew {g n c k z : Nat} {A : Option Addr} {w0 w W : World} {K : Int} {b : Bool} {v1 v2 v3 v4 v5 v6 : Value} (h : Mk g A n c w0 w z K k b W v1 v2 v3 v4 v5 v6) : Mk g A n c w0 w z K k b W.drew v1 v2 v3 v4 v5 v6 :=
  ⟨h.pre, h.lo, h.hi, h.roll.drew, h.dice, h.res, h.blk⟩
theorem Mk.set1 {g n c k z : Nat} {A : Option Addr} {w0 w W : World} {K : Int} {b : Bool} {v1 v2 v3 v4 v5 v6 : Value} (h : Mk g A n c w0 w z K k b W v1 v2 v3 v4 v5 v6) (v : Value) : Mk g A n c w0 w z K k b (W.setCell ⟨z, 1, none⟩ v) v v2 v3 v4 v5 v6 :=
  ⟨h.pre, h.lo, h.hi, h.roll.setCell (p := ⟨z, 1, none⟩) (by show w.heap.size ≤ z; have := h.hi; omega) v, h.dice.setCell (by have := h.lo; have := h.hi; show g ≠ z; omega) v, h.res.other (by have := h.hi; show w.heap.size ≠ z; omega) v, h.blk.set1 v⟩
theorem Mk.set2 {g n c k z : Nat} {A : Option Addr} {w0 w W : World} {K : Int} {b : Bool} {v1 v2 v3 v4 v5 v6 : Value} (h : Mk g A n c w0 w z K k b W v1 v2 v3 v4 v5 v6) (v : Value) : Mk g A n c w0 w z K k b (W.setCell ⟨z, 2, none⟩ v) v1 v v3 v4 v5 v6 :=
  ⟨h.pre, h.lo, h.hi, h.roll.setCell (p := ⟨z, 2, none⟩) (by show w.heap.size ≤ z; have := h.hi; omega) v, h.dice.setCell (by have := h.lo; have := h.hi; show g ≠ z; omega) v, h.res.other (by have := h.hi; show w.heap.size ≠ z; omega) v, h.blk.set2 v⟩
theorem Mk.set3 {g n c k z : Nat} {A : Option Addr} {w0 w W : World} {K : Int} {b : Bool} {v1 v2 v3 v4 v5 v6 : Value} (h : Mk g A n c w0 w z K k b W v1 v2 v3 v4 v5 v6) (v : Value) : Mk g A n c w0 w z K k b (W.setCell ⟨z, 3, none⟩ v) v1 v2 v v4 v5 v6 :=
  ⟨h.pre, h.lo, h.hi, h.roll.setCell (p := ⟨z, 3, none⟩) (by show w.heap.size ≤ z; have := h.hi; omega) v, h.dice.setCell (by have := h.lo; have := h.hi; show g ≠ z; omega) v, h.res.other (by have := h.hi; show w.heap.size ≠ z; omega) v, h.blk.set3 v⟩
theorem Mk.set4 {g n c k z : Nat} {A : Option Addr} {w0 w W : World} {K : Int} {b : Bool} {v1 v2 v3 v4 v5 v6 : Value} (h : Mk g A n c w0 w z K k b W v1 v2 v3 v4 v5 v6) (v : Value) : Mk g A n c w0 w z K k b (W.setCell ⟨z, 4, none⟩ v) v1 v2 v3 v v5 v6 :=
  ⟨h.pre, h.lo, h.hi, h.roll.setCell (p := ⟨z, 4, none⟩) (by show w.heap.size ≤ z; have := h.hi; omega) v, h.dice.setCell (by have := h.lo; have := h.hi; show g ≠ z; omega) v, h.res.other (by have := h.hi; show w.heap.size ≠ z; omega) v, h.blk.set4 v⟩
theorem Mk.set5 {g n c k z : Nat} {A : Option Addr} {w0 w W : World} {K : Int} {b : Bool} {v1 v2 v3 v4 v5 v6 : Value} (h : Mk g A n c w0 w z K k b W v1 v2 v3 v4 v5 v6) (v : Value) : Mk g A n c w0 w z K k b (W.setCell ⟨z, 5, none⟩ v) v1 v2 v3 v4 v v6 :=
  ⟨h.pre, h.lo, h.hi, h.roll.setCell (p := ⟨z, 5, none⟩) (by show w.heap.size ≤ z; have := h.hi; omega) v, h.dice.setCell (by have := h.lo; have := h.hi; show g ≠ z; omega) v, h.res.other (by have := h.hi; show w.heap.size ≠ z; omega) v, h.blk.set5 v⟩
theorem Mk.set6 {g n c k z : Nat} {A : Option Addr} {w0 w W : World} {K : Int} {b : Bool} {v1 v2 v3 v4 v5 v6 : Value} (h : Mk g A n c w0 w z K k b W v1 v2 v3 v4 v5 v6) (v : Value) : Mk g A n c w0 w z K k b (W.setCell ⟨z, 6, none⟩ v) v1 v2 v3 v4 v5 v :=
  ⟨h.pre, h.lo, h.hi, h.roll.setCell (p := ⟨z, 6, none⟩) (by show w.heap.size ≤ z; have := h.hi; omega) v, h.dice.setCell (by have := h.lo; have := h.hi; show g ≠ z; omega) v, h.res.other (by have := h.hi; show w.heap.size ≠ z; omega) v, h.blk.set6 v⟩
/-- A row made since, beside the block in the making. -/
def RowM (w : World) (z : Nat) (W : World) (A : Option Addr) (m : Nat) (gr : G) : Prop := GRow W (fun b => w.heap.size < b ∧ b < W.heap.size ∧ b ≠ z) A m gr
theorem RowM.rolled {w W W' : World} {z g m : Nat} {A : Option Addr} {gr : G} (h : RowM w z W A m gr) (hr : Rolled g W W') (hg : g < w.heap.size) : RowM w z W' A m gr :=
  GRow.keep h (fun b hb => ⟨hb.1, Nat.lt_of_lt_of_le hb.2.1 hr.size, hb.2.2⟩) fun p hp => hr.cell hp.2.1 (by have := hp.1; omega)
theorem RowM.alloc {w W : World} {z m : Nat} {A : Option Addr} {gr : G} (h : RowM w z W A m gr) (o : Obj) : RowM w z (W.alloc o) A m gr :=
  GRow.keep h (fun b hb => ⟨hb.1, by have := hb.2.1; simp; omega, hb.2.2⟩) fun p hp => World.cell?_of_block (Below.heap_alloc _ _ _ hp.2.1)
theorem RowM.set {w W : World} {z m : Nat} {A : Option Addr} {gr : G} (h : RowM w z W A m gr) (i : Nat) (v : Value) : RowM w z (W.setCell ⟨z, i, none⟩ v) A m gr :=
  GRow.keep h (fun b hb => ⟨hb.1, by have := hb.2.1; simpa [World.setCell] using this, hb.2.2⟩) fun p hp => World.cell?_of_block (Below.heap_setCell _ _ _ _ hp.2.2)
theorem RowM.drew {w W : World} {z m : Nat} {A : Option Addr} {gr : G} (h : RowM w z W A m gr) : RowM w z W.drew A m gr := GRow.keep h (fun _ h => h) fun _ _ => rfl
theorem RowM.of {w W W' : World} {z m : Nat} {A : Option Addr} {gr : G} (h : GRow W' (since W.heap.size W') A m gr) (hz : z < W.heap.size) (hw : w.heap.size < z) : RowM w z W' A m gr :=
  GRow.mono h fun b hb => ⟨by have := hb.1; omega, hb.2, by have := hb.1; omega⟩
theorem RowM.open {w W : World} {z m : Nat} {A : Option Addr} {gr : G} (h : RowM w z W A m gr) : GRow W (fun b => w.heap.size < b ∧ b < W.heap.size) A m gr := GRow.mono h fun b hb => ⟨hb.1, hb.2.1⟩
theorem Mk.all {g n c k z : Nat} {A : Option Addr} {w0 w W : World} {K : Int} {b : Bool} {v1 v2 v3 v4 v5 v6 : Value} {dq : Int} {R N : Nat} (h : Mk g A n c w0 w z K k b W v1 v2 v3 v4 v5 v6) (hE : ExprAt g A n c w0 dq R N) (m : Nat) (hm : m ≤ 3) (hk : k + m * R ≤ 100000) : Calls Tryz.prog 71 #[.pointer (some ⟨g, 0, none⟩), .int .i64 m, .int .i64 dq] W (AllGen g A n c k b R N m W) :=
  all_says g A n c b w0 dq R N (fun k W h1 h2 h3 => hE b k W h1 h2 h3) m hm k W h.all0 h.dice hk
theorem Mk.arms {g n c k z : Nat} {A : Option Addr} {w0 w W : World} {K : Int} {b : Bool} {v1 v2 v3 v4 v5 v6 : Value} {dq : Int} {R N : Nat} (h : Mk g A n c w0 w z K k b W v1 v2 v3 v4 v5 v6) (hC : Rolls1 g A n c w0) (hE : ExprAt g A n c w0 dq R N) (hk : k + (1 + 3 * (R + 14)) ≤ 100000) : Calls Tryz.prog 74 #[.pointer (some ⟨g, 0, none⟩), .int .i64 dq] W (ArmsGen g A n c k b R N W) :=
  arms_says g A n c b w0 hC.toRolls dq R N (fun k W h1 h2 h3 => hE b k W h1 h2 h3) k W h.all0 h.dice hk
theorem Mk.n {g n c k z : Nat} {A : Option Addr} {w0 w W : World} {K : Int} {b : Bool} {v1 v2 v3 v4 v5 v6 : Value} (h : Mk g A n c w0 w z K k b W v1 v2 v3 v4 v5 v6) (hC : Rolls1 g A n c w0) (M : Nat) (hk : k ≤ 100000) (hM : 0 < M) (hM' : M < 1000) : Calls Tryz.prog 35 #[.pointer (some ⟨g, 0, none⟩), .int .i64 (M : Int)] W (RollEnds g A n c k b M W) :=
  hC.roll W b k M h.all0 h.dice hk hM hM'
theorem Mk.of {g n c k z : Nat} {A : Option Addr} {w0 w W : World} {K : Int} {b : Bool} {v1 v2 v3 v4 v5 v6 : Value} (h : Mk g A n c w0 w z K k b W v1 v2 v3 v4 v5 v6) (hC : Rolls1 g A n c w0) (ts : List ByteArray) (m : Nat) (hk : k ≤ 100000) (hm : ts.length = m) (hM : 0 < m) (hM' : m < 1000) :
    Calls Tryz.prog 37 #[.pointer (some ⟨g, 0, none⟩), .slice (some ⟨W.heap.size, 0, none⟩) m m] (W.alloc (.cells (ts.map Value.string).toArray 9)) (OfEnds g A n c k b ts (W.alloc (.cells (ts.map Value.string).toArray 9))) :=
  hC.of _ b k m W.heap.size ts (h.all0.alloc _) (h.dice.alloc _) hk hm hM hM' (by simp) (by have := h.lo; have := h.roll.size; omega) (heap_alloc_new W _)
theorem Mk.close {g n c k z : Nat} {A : Option Addr} {w0 w W : World} {K : Int} {b : Bool} {v1 v2 v3 v4 v5 v6 : Value} {k0 R N : Nat} (h : Mk g A n c w0 w z K k b W v1 v2 v3 v4 v5 v6) (hk : k ≤ k0 + R) {E : Ex} {q : At} (hE : EIs W (fun b => w.heap.size < b ∧ b < W.heap.size) E q) (hN : E.size ≤ N) (hs : E.small) (u0 u1 u2 u3 u4 u5 u6 u7 : Value) :
    ExGen g A n c k0 b R N w (.returned (agg8 E q)) ((((((((W.setCell ⟨w.heap.size, 0, none⟩ u0).setCell ⟨w.heap.size, 1, none⟩ u1).setCell ⟨w.heap.size, 2, none⟩ u2).setCell ⟨w.heap.size, 3, none⟩ u3).setCell ⟨w.heap.size, 4, none⟩ u4).setCell ⟨w.heap.size, 5, none⟩ u5).setCell ⟨w.heap.size, 6, none⟩ u6).setCell ⟨w.heap.size, 7, none⟩ u7) :=
  gen_close h.roll h.lo rfl h.dice hk hE hN hs u0 u1 u2 u3 u4 u5 u6 u7
theorem Mk.close_args {g n c k z : Nat} {A : Option Addr} {w0 w W : World} {K : Int} {b : Bool} {v1 v2 v3 v4 v5 v6 : Value} {k0 R N m c' : Nat} {A' : Option Addr} {x : X} (h : Mk g A n c w0 w z K k b W v1 v2 v3 v4 v5 v6) (hk : k ≤ k0 + R) (hrow : RowM w z W A' m (encX false x)) (hl : x.len = m) (h1 : m ≤ c') (h2 : c' ≤ maxLen) (hN : 1 + sizeX false x ≤ N) (hs : smallX x) (K' nn : Int) (tt : ByteArray) (ht : tt.size ≤ 100) (u0 u1 u2 u3 u4 u5 u6 u7 : Value) :
    ExGen g A n c k0 b R N w (.returned (.agg #[.int .i64 K', .int .i64 nn, .string tt, .slice none 0 0, .slice none 0 0, .slice A' m c', .slice none 0 0, .int .i64 0])) ((((((((W.setCell ⟨w.heap.size, 0, none⟩ u0).setCell ⟨w.heap.size, 1, none⟩ u1).setCell ⟨w.heap.size, 2, none⟩ u2).setCell ⟨w.heap.size, 3, none⟩ u3).setCell ⟨w.heap.size, 4, none⟩ u4).setCell ⟨w.heap.size, 5, none⟩ u5).setCell ⟨w.heap.size, 6, none⟩ u6).setCell ⟨w.heap.size, 7, none⟩ u7) := by
  subst hl
  exact h.close (E := ⟨⟨K', nn, tt, [], 0⟩, x, .nil⟩) (q := ⟨none, 0, none, 0, A', c', none, 0⟩) hk ⟨GRow.nil _ _ _ _, GRow.nil _ _ _ _, hrow.open, GRow.nil _ _ _ _, ⟨Nat.le_refl _, Nat.zero_le _⟩, ⟨Nat.le_refl _, Nat.zero_le _⟩, ⟨h1, h2⟩, ⟨Nat.le_refl _, Nat.zero_le _⟩⟩ (by simpa [Ex.size, sizeX] using hN) ⟨⟨by simp, by simp, ht⟩, hs, trivial⟩ u0 u1 u2 u3 u4 u5 u6 u7
theorem Mk.close_both {g n c k z : Nat} {A : Option Addr} {w0 w W : World} {K : Int} {b : Bool} {v1 v2 v3 v4 v5 v6 : Value} {k0 R N m c' m2 c2 : Nat} {A' A2 : Option Addr} {x y : X} (h : Mk g A n c w0 w z K k b W v1 v2 v3 v4 v5 v6) (hk : k ≤ k0 + R) (hrow : RowM w z W A' m (encX false x)) (hl : x.len = m) (h1 : m ≤ c') (h2 : c' ≤ maxLen) (hrow2 : RowM w z W A2 m2 (encX true y)) (hl2 : y.len = m2) (h21 : m2 ≤ c2) (h22 : c2 ≤ maxLen) (hN : 1 + sizeX false x + sizeX true y ≤ N) (hs : smallX x) (hs2 : smallX y) (K' nn : Int) (u0 u1 u2 u3 u4 u5 u6 u7 : Value) :
    ExGen g A n c k0 b R N w (.returned (.agg #[.int .i64 K', .int .i64 nn, .string ⟨#[]⟩, .slice none 0 0, .slice none 0 0, .slice A' m c', .slice A2 m2 c2, .int .i64 0])) ((((((((W.setCell ⟨w.heap.size, 0, none⟩ u0).setCell ⟨w.heap.size, 1, none⟩ u1).setCell ⟨w.heap.size, 2, none⟩ u2).setCell ⟨w.heap.size, 3, none⟩ u3).setCell ⟨w.heap.size, 4, none⟩ u4).setCell ⟨w.heap.size, 5, none⟩ u5).setCell ⟨w.heap.size, 6, none⟩ u6).setCell ⟨w.heap.size, 7, none⟩ u7) := by
  subst hl hl2
  exact h.close (E := ⟨⟨K', nn, ⟨#[]⟩, [], 0⟩, x, y⟩) (q := ⟨none, 0, none, 0, A', c', A2, c2⟩) hk ⟨GRow.nil _ _ _ _, GRow.nil _ _ _ _, hrow.open, hrow2.open, ⟨Nat.le_refl _, Nat.zero_le _⟩, ⟨Nat.le_refl _, Nat.zero_le _⟩, ⟨h1, h2⟩, ⟨h21, h22⟩⟩ hN ⟨⟨by simp, by simp, (show (⟨#[]⟩ : ByteArray).size ≤ 100 by decide)⟩, hs, hs2⟩ u0 u1 u2 u3 u4 u5 u6 u7
end Go.Proofs.YtiinghgfojicdaaGreat
