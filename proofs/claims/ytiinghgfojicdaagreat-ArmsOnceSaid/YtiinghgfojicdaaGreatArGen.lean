/- A part of the proofs of the laws of the arms: Gen. No conditions. -/
import Derived.Test.YtiinghgfojicdaaGreatArCount
import Derived.Test.YtiinghgfojicdaaGreatArOf
import Derived.Test.YtiinghgfojicdaaGreatGMem
import Derived.Maps.OwnOps
import Derived.Deep.RegionLaw
set_option linter.unusedVariables false
set_option linter.unusedSimpArgs false
namespace Go.Proofs.YtiinghgfojicdaaGreat
open Go.RowKit Go.RowG Go.FRow Go.GMem
set_option linter.unusedVariables false
attribute [local go_sem ↓] Go.wp_at_zero Go.wp_at_succ

theorem Dice.alloc {w : World} {g : Nat} {A : Option Addr} {n c k : Nat} {b : Bool} (h : Dice w g A n c k b) (o : Obj) : Dice (w.alloc o) g A n c k b := by
  unfold Dice at h ⊢
  rw [heap_alloc_old w o (Array.getElem?_eq_some_iff.1 h).1]
  exact h
theorem Dice.lt {w : World} {g : Nat} {A : Option Addr} {n c k : Nat} {b : Bool} (h : Dice w g A n c k b) : g < w.heap.size := (Array.getElem?_eq_some_iff.1 h).1
theorem Dice.keep {w w' : World} {g : Nat} {A : Option Addr} {n c k : Nat} {b : Bool} (h : Dice w g A n c k b) (hb : Below w.heap.size w w') : Dice w' g A n c k b := by
  have := h.lt
  unfold Dice at h ⊢
  rw [hb.block g this]
  exact h
theorem Dice.grown {w w' : World} {g : Nat} {A : Option Addr} {n c k : Nat} {b : Bool} {row : Option Nat} (h : Dice w g A n c k b) (hg : w.grownBy w' row) (hr : some g ≠ row) : Dice w' g A n c k b := by
  have := h.lt
  unfold Dice at h ⊢
  rw [hg.block g this hr]
  exact h
theorem Dice.setCell {w : World} {g : Nat} {A : Option Addr} {n c k : Nat} {b : Bool} (h : Dice w g A n c k b) {p : Addr} (hp : g ≠ p.block) (v : Value) : Dice (w.setCell p v) g A n c k b := by
  unfold Dice at *
  rw [Below.heap_setCell _ _ _ _ hp]
  exact h
theorem Dice.drew {w : World} {g : Nat} {A : Option Addr} {n c k : Nat} {b : Bool} (h : Dice w g A n c k b) : Dice w.drew g A n c k b := h
theorem fill4_far (w : World) (z : Nat) (v0 v1 v2 v3 : Value) {k : Nat} (hk : k ≠ z) : (fill4 w z v0 v1 v2 v3).heap[k]? = w.heap[k]? := by
  unfold fill4
  rw [Below.heap_setCell _ _ _ _ hk, Below.heap_setCell _ _ _ _ hk, Below.heap_setCell _ _ _ _ hk, Below.heap_setCell _ _ _ _ hk]
theorem fill4_rolled {w0 w : World} {g z : Nat} (h : Rolled g w0 w) (hz : w0.heap.size ≤ z) (v0 v1 v2 v3 : Value) : Rolled g w0 (fill4 w z v0 v1 v2 v3) :=
  ⟨h.os, h.tape, h.output, by rw [fill4_size]; exact h.size, fun k hk hg => (fill4_far w z v0 v1 v2 v3 (by omega)).trans (h.block k hk hg)⟩
theorem fill4_dice {w : World} {g z : Nat} {A : Option Addr} {n c k : Nat} {b : Bool} (h : Dice w g A n c k b) (hz : g ≠ z) (v0 v1 v2 v3 : Value) : Dice (fill4 w z v0 v1 v2 v3) g A n c k b := by
  unfold Dice at *
  rw [fill4_far w z v0 v1 v2 v3 hz]
  exact h

/-- The dice serve in every world that has come of w0. -/
structure Rolls (g : Nat) (A : Option Addr) (n c : Nat) (w0 : World) : Prop where
  roll : ∀ (W : World) (b : Bool) (k M : Nat), Rolled g w0 W → Dice W g A n c k b → k ≤ 100000 → 0 < M → M < 1000 → Calls Tryz.prog 35 #[.pointer (some ⟨g, 0, none⟩), .int .i64 (M : Int)] W (RollEnds g A n c k b M W)
  of : ∀ (W : World) (b : Bool) (k m z : Nat) (ts : List ByteArray), Rolled g w0 W → Dice W g A n c k b → k ≤ 100000 → ts.length = m → 0 < m → m < 1000 → z < W.heap.size → z ≠ g → W.heap[z]? = some (.cells (ts.map Value.string).toArray 9 (0, 0)) →
    Calls Tryz.prog 37 #[.pointer (some ⟨g, 0, none⟩), .slice (some ⟨z, 0, none⟩) m m] W (OfEnds g A n c k b ts W)
  low : g < w0.heap.size
theorem rolls_of {g : Nat} {A : Option Addr} {n c : Nat} {w : World} {L : List Int} (hL : L.length = n) (hI : IntsAt w w.heap.size A L) (hA : ∀ ad, A = some ad → 0 < n → ad.block ≠ g) (hn : n ≤ 300) (hg : g < w.heap.size) : Rolls g A n c w where
  roll := fun W b k M hr hd hk hM hM' => roll_says g A n c k b M W L hL hd (hI.keep1 fun hl ad e => by
    obtain ⟨ad', e', h1, _⟩ := hI hl
    rw [e] at e'
    obtain rfl := Option.some.inj e'
    exact ⟨by have := hr.size; omega, hr.block _ h1 (hA ad e (by omega))⟩) hA hn hk hM hM'
  of := fun W b k m z ts hr hd hk hm hM hM' hz hzg hb => of_says g A n c k b ts m m ⟨z, 0, none⟩ W L hL hd (hI.keep1 fun hl ad e => by
    obtain ⟨ad', e', h1, _⟩ := hI hl
    rw [e] at e'
    obtain rfl := Option.some.inj e'
    exact ⟨by have := hr.size; omega, hr.block _ h1 (hA ad e (by omega))⟩) hA hn hk hm hM hM' hz hzg (fun j s hs => World.news_of_block hb j (.string s) (by simp [hs]))
  low := hg

/-- m[k] = v in a map that is written out. -/
theorem wpList_insert_const {H : Type} {P : Program} (w : World) {ops : Array Oper} {rest : List Oper} {dst : Option Tmp} {ty : TypeId} {pos : String} {after : Array Edge} {a : Act} {Q : Exit → Act → World → Prop} {t : TypeId} {m : Tmp} {key val : Value}
    (k e : TypeId) (K : Maps.Keyed P k) (ht : P.underlying t = some (.map k e)) (R : Value → Option (DataW H × List MemPlace)) (b n : Nat) (D : DataW H)
    (hown : w.ownsMap P k R b n D) (hn : n < maxLen) (kl : Lit) (hkey : keyOf P k key = some kl) (d : DataW H) (ps : List MemPlace) (hval : R val = some (d, ps)) (hm : a.eval (.tmp m) = .map (some b))
    (hK : ∀ w', w'.ownsMap P k R b (n + 1) (D.put kl d) → w.grownBy w' (some b) → wpList P ops Q rest (a.put dst undef) w') :
    wpList P ops Q ({ dst := dst, op := Op.insert t (.tmp m) (.const key) (.const val), type := ty, pos := pos, after := after, guard := none } :: rest) a w := by
  refine wpList_plain rfl fun K' hK' => ?_
  obtain ⟨w', hrun, r1, r2⟩ := hown.update K ht hn hkey hval
  have e1 : a.eval (.const key) = key := rfl
  have e2 : a.eval (.const val) = val := rfl
  unfold Oper.wp
  simp [execOp, hm, e1, e2, hrun, Result.andThen]
  exact hK' _ _ (hK w' r1 r2)
/-- Is it such a store? -/
theorem at_insert {P : Program} {w : World} {ops : Array Oper} {rest : List Oper} {dst : Option Tmp} {ty : TypeId} {pos : String} {after : Array Edge} {a : Act} {Q : Exit → Act → World → Prop} {t : TypeId} {m : Tmp} {key val : Value}
    (h : wpList P ops Q ({ dst := dst, op := Op.insert t (.tmp m) (.const key) (.const val), type := ty, pos := pos, after := after, guard := none } :: rest) a w) :
    wpList P ops Q ({ dst := dst, op := Op.insert t (.tmp m) (.const key) (.const val), type := ty, pos := pos, after := after, guard := none } :: rest) a w := h
abbrev tblN : List UInt8 := [78]
abbrev tblA : List UInt8 := [65]
abbrev tblB : List UInt8 := [66]
abbrev tblQ : List UInt8 := [81]
/-- The makers' arities as a map. -/
abbrev arity : DataW Unit := ((((DataW.map []).put (.string tblN) (.lit (.int .i64 0))).put (.string tblA) (.lit (.int .i64 1))).put (.string tblB) (.lit (.int .i64 2))).put (.string tblQ) (.lit (.int .i64 1))
theorem arity_few {s : ByteArray} (hs : s ∈ [(⟨#[78]⟩ : ByteArray), ⟨#[65]⟩, ⟨#[66]⟩, ⟨#[81]⟩]) {c : Int} (h : arity.atKey (.string s.data.toList) (.lit (.int .i64 0)) = .lit (.int .i64 c)) : ∃ m : Nat, m ≤ 2 ∧ c = m := by
  simp only [List.mem_cons, List.not_mem_nil, or_false] at hs
  rcases hs with rfl | rfl | rfl | rfl
  · have : arity.atKey (.string [78]) (.lit (.int .i64 0)) = .lit (.int .i64 0) := by rfl
    rw [show (⟨#[78]⟩ : ByteArray).data.toList = [78] from rfl, this] at h
    injection h with h
    injection h with _ h
    exact ⟨0, by omega, h.symm⟩
  · have : arity.atKey (.string [65]) (.lit (.int .i64 0)) = .lit (.int .i64 1) := by rfl
    rw [show (⟨#[65]⟩ : ByteArray).data.toList = [65] from rfl, this] at h
    injection h with h
    injection h with _ h
    exact ⟨1, by omega, h.symm⟩
  · have : arity.atKey (.string [66]) (.lit (.int .i64 0)) = .lit (.int .i64 2) := by rfl
    rw [show (⟨#[66]⟩ : ByteArray).data.toList = [66] from rfl, this] at h
    injection h with h
    injection h with _ h
    exact ⟨2, by omega, h.symm⟩
  · have : arity.atKey (.string [81]) (.lit (.int .i64 0)) = .lit (.int .i64 1) := by rfl
    rw [show (⟨#[81]⟩ : ByteArray).data.toList = [81] from rfl, this] at h
    injection h with h
    injection h with _ h
    exact ⟨1, by omega, h.symm⟩

/-- All kinds are some of the first six. -/
def Kin : F → Prop
  | .nil => True
  | .cons k _ _ a r => (1 ≤ k ∧ k ≤ 6) ∧ Kin a ∧ Kin r
theorem Kin.snoc {k n : Int} {t : ByteArray} {a : F} (hk : 1 ≤ k ∧ k ≤ 6) (ha : Kin a) : ∀ {f : F}, Kin f → Kin (f.snoc k n t a)
  | .nil, _ => ⟨hk, ha, trivial⟩
  | .cons _ _ _ _ r, ⟨h1, h2, h3⟩ => ⟨h1, h2, Kin.snoc hk ha (f := r) h3⟩
/-- What a pattern's, or a value's, maker hands back: some row, rolls at most R, nodes at most N. -/
def GenEnds (g : Nat) (A : Option Addr) (n c k : Nat) (b : Bool) (R N : Nat) (w : World) (e : Ending) (w' : World) : Prop :=
  ∃ (kk nn : Int) (tt : ByteArray) (f : F) (A' : Option Addr) (c' k' : Nat), e = .returned (agg4 kk nn tt A' f.len c') ∧ GRow w' (since w.heap.size w') A' f.len (encF f) ∧ f.len ≤ c' ∧ c' ≤ maxLen ∧ f.nodes ≤ N ∧ (Kin f ∧ 1 ≤ kk ∧ kk ≤ 6) ∧ k' ≤ k + R ∧ Dice w' g A n c k' b ∧ Rolled g w w'
theorem gen_leaf {w w2 : World} {g : Nat} {A : Option Addr} {n c k k' R N : Nat} {b : Bool} (hw : Rolled g w w2) (hg : g < w.heap.size) (hd : Dice w2 g A n c k' b) (hk : k' ≤ k + R) (kk nn : Int) (tt : ByteArray) (hkk : 1 ≤ kk ∧ kk ≤ 6 := by decide) :
    GenEnds g A n c k b R N w (.returned (agg4 kk nn tt none 0 0)) (fill4 w2 w.heap.size (.int .i64 kk) (.int .i64 nn) (.string tt) (.slice none 0 0)) :=
  ⟨kk, nn, tt, .nil, none, 0, k', rfl, GRow.nil _ _ _ _, Nat.le_refl _, by simp, by simp [F.nodes], ⟨trivial, hkk⟩, hk, fill4_dice hd (by omega) _ _ _ _, fill4_rolled hw (Nat.le_refl _) _ _ _ _⟩
end Go.Proofs.YtiinghgfojicdaaGreat
