/- A part of the proofs of the laws of the deeds: ParseX. -/
import Derived.Test.YtkmpnfploplpfaaDoorDdValue
set_option linter.unusedVariables false
set_option linter.unusedSimpArgs false
namespace Go.Proofs.YtkmpnfploplpfaaDoor
open Go.RowKit Go.Deed Go.RowG
set_option linter.unusedVariables false

abbrev agg5' (k a b : Int) (t : ByteArray) (A : Option Addr) (m c : Nat) : Value := .agg #[.int .i64 k, .int .i64 a, .int .i64 b, .string t, .slice A m c]
/-- A block of five cells: a deed. -/
def Own5 (w : World) (z : Nat) (v0 v1 v2 v3 v4 : Value) : Prop := w.heap[z]? = some (.cells #[v0, v1, v2, v3, v4] 24 (0, 0))
section
variable {w : World} {z : Nat} {v0 v1 v2 v3 v4 : Value}
theorem Own5.cells (h : Own5 w z v0 v1 v2 v3 v4) :
    (w.cell? ⟨z, 0, none⟩ = some v0 ∧ w.cell? ⟨z, 1, none⟩ = some v1 ∧ w.cell? ⟨z, 2, none⟩ = some v2 ∧ w.cell? ⟨z, 3, none⟩ = some v3 ∧ w.cell? ⟨z, 4, none⟩ = some v4) ∧
    (w.frozen? ⟨z, 0, none⟩ = false ∧ w.frozen? ⟨z, 1, none⟩ = false ∧ w.frozen? ⟨z, 2, none⟩ = false ∧ w.frozen? ⟨z, 3, none⟩ = false ∧ w.frozen? ⟨z, 4, none⟩ = false) := by
  unfold Own5 at h
  simp [World.cell?, World.frozen?, h]
theorem Own5.lt (h : Own5 w z v0 v1 v2 v3 v4) : z < w.heap.size := (Array.getElem?_eq_some_iff.1 h).1
theorem Own5.keep {w' : World} (h : Own5 w z v0 v1 v2 v3 v4) (hb : Below w.heap.size w w') : Own5 w' z v0 v1 v2 v3 v4 := by
  have := h.lt
  unfold Own5 at h ⊢
  rw [hb.block z this]
  exact h
theorem Own5.grown {w' : World} {row : Option Nat} (h : Own5 w z v0 v1 v2 v3 v4) (hg : w.grownBy w' row) (hz : some z ≠ row) : Own5 w' z v0 v1 v2 v3 v4 := by
  have := h.lt
  unfold Own5 at h ⊢
  rw [hg.block z this hz]
  exact h
theorem Own5.alloc (h : Own5 w z v0 v1 v2 v3 v4) (o : Obj) : Own5 (w.alloc o) z v0 v1 v2 v3 v4 := h.keep ((Below.refl _ _).alloc (Nat.le_refl _) o)
theorem Own5.set1 (h : Own5 w z v0 v1 v2 v3 v4) (v : Value) : Own5 (w.setCell ⟨z, 1, none⟩ v) z v0 v v2 v3 v4 := by
  unfold Own5 at *
  simp [World.setCell, Array.getElem?_modify, h]
theorem Own5.set2 (h : Own5 w z v0 v1 v2 v3 v4) (v : Value) : Own5 (w.setCell ⟨z, 2, none⟩ v) z v0 v1 v v3 v4 := by
  unfold Own5 at *
  simp [World.setCell, Array.getElem?_modify, h]
theorem Own5.set3 (h : Own5 w z v0 v1 v2 v3 v4) (v : Value) : Own5 (w.setCell ⟨z, 3, none⟩ v) z v0 v1 v2 v v4 := by
  unfold Own5 at *
  simp [World.setCell, Array.getElem?_modify, h]
theorem Own5.set4 (h : Own5 w z v0 v1 v2 v3 v4) (v : Value) : Own5 (w.setCell ⟨z, 4, none⟩ v) z v0 v1 v2 v3 v := by
  unfold Own5 at *
  simp [World.setCell, Array.getElem?_modify, h]
theorem Own5.setOther (h : Own5 w z v0 v1 v2 v3 v4) {p : Addr} (hp : z ≠ p.block) (v : Value) : Own5 (w.setCell p v) z v0 v1 v2 v3 v4 := by
  unfold Own5 at *
  rw [Below.heap_setCell _ _ _ _ hp]
  exact h
end
def fill5 (w : World) (z : Nat) (v0 v1 v2 v3 v4 : Value) : World := ((((w.setCell ⟨z, 0, none⟩ v0).setCell ⟨z, 1, none⟩ v1).setCell ⟨z, 2, none⟩ v2).setCell ⟨z, 3, none⟩ v3).setCell ⟨z, 4, none⟩ v4
theorem fill5_own {w : World} {z : Nat} {u0 u1 u2 u3 u4 : Value} (h : Own5 w z u0 u1 u2 u3 u4) (v0 v1 v2 v3 v4 : Value) : Own5 (fill5 w z v0 v1 v2 v3 v4) z v0 v1 v2 v3 v4 := by
  unfold Own5 fill5 at *
  simp [World.setCell, Array.getElem?_modify, h]
theorem fill5_size (w : World) (z : Nat) (v0 v1 v2 v3 v4 : Value) : (fill5 w z v0 v1 v2 v3 v4).heap.size = w.heap.size := by simp [fill5, World.setCell]
theorem fill5_below {w0 w : World} {B z : Nat} (h : Below B w0 w) (hz : B ≤ z) (v0 v1 v2 v3 v4 : Value) : Below B w0 (fill5 w z v0 v1 v2 v3 v4) :=
  ((((h.setCell (p := ⟨z, 0, none⟩) hz v0).setCell (p := ⟨z, 1, none⟩) hz v1).setCell (p := ⟨z, 2, none⟩) hz v2).setCell (p := ⟨z, 3, none⟩) hz v3).setCell (p := ⟨z, 4, none⟩) hz v4
theorem fill5_other {w : World} {z : Nat} (v0 v1 v2 v3 v4 : Value) {b : Nat} (h : b ≠ z) : (fill5 w z v0 v1 v2 v3 v4).heap[b]? = w.heap[b]? := by
  unfold fill5
  rw [Below.heap_setCell _ _ _ _ h, Below.heap_setCell _ _ _ _ h, Below.heap_setCell _ _ _ _ h, Below.heap_setCell _ _ _ _ h, Below.heap_setCell _ _ _ _ h]

/-- The numbers still wanted: g of them, from the j-th on. -/
def pn (k : Int) (j : Nat) : Nat → Int → Int → List L → Option D
  | 0, a, b, f => parseText k a b f
  | _ + 1, _, _, [] => none
  | g + 1, a, b, x :: f => match numL x with
    | none => none
    | some n => if j = 0 then pn k (j + 1) g n b f else pn k (j + 1) g a n f
theorem nums_cases (k : Int) : nums k = 0 ∨ nums k = 1 ∨ nums k = 2 := by
  unfold nums
  repeat' split
  all_goals simp
theorem pn_nums (k : Int) (f : List L) : parseNums k f = pn k 0 (nums k) 0 0 f := by
  unfold parseNums
  rcases nums_cases k with h | h | h <;> rw [h]
  · rfl
  · cases f with
    | nil => rfl
    | cons x f =>
      show _ = pn k 0 1 0 0 (x :: f)
      simp only [pn]
      cases numL x with
      | none => rfl
      | some n => rfl
  · cases f with
    | nil => rfl
    | cons x f =>
      show _ = pn k 0 2 0 0 (x :: f)
      simp only [pn]
      cases numL x with
      | none => rfl
      | some n =>
        cases f with
        | nil => rfl
        | cons y f =>
          simp only [pn]
          cases numL y with
          | none => rfl
          | some n => rfl
/-- What Parse hands back. -/
def ParseEnds (r : Option D) (w : World) (e : Ending) (w' : World) : Prop := Below w.heap.size w w' ∧ match r with
  | some d => ∃ A c, e = .returned (.tuple #[agg5' d.k d.a d.b (toB d.t) A d.args.len c, .int .i64 0]) ∧ RowAt w' (fresh w w') A d.args ∧ d.args.len ≤ c ∧ c ≤ maxLen
  | none => e = .returned (.tuple #[agg5' 0 0 0 ⟨#[]⟩ none 0 0, .int .i64 10])
theorem numL_range {x : L} {n : Int} (h : numL x = some n) : R64 n := by
  unfold numL at h
  cases ha : Lib.atoiAll x with
  | ok m =>
    simp [ha] at h
    obtain ⟨_, rfl⟩ := h
    exact atoi_range ha
  | _ => simp [ha] at h
theorem fieldsGo_each : ∀ (s : L) (q : Bool) (now : L), ∀ x ∈ fieldsGo s q now, x.length ≤ s.length + now.length
  | [], _, now => fun x hx => by
    simp only [fieldsGo, List.mem_singleton] at hx
    subst hx
    simp
  | c :: r, q, now => fun x hx => by
    unfold fieldsGo at hx
    split at hx
    · rcases List.mem_cons.1 hx with rfl | hx
      · simp
      · have := fieldsGo_each r _ _ x hx
        simp at this ⊢
        omega
    · have := fieldsGo_each r _ _ x hx
      simp at this ⊢
      omega
theorem cellsAt_set {w : World} {B : Nat} {A : Option Addr} {xs : List Value} (h : CellsAt w B A xs) {z i : Nat} (hz : B ≤ z) (v : Value) : CellsAt (w.setCell ⟨z, i, none⟩ v) B A xs :=
  h.keep (Nat.le_refl _) fun p hp => World.cell?_of_block (Below.heap_setCell _ _ _ _ (by show p.block ≠ z; omega))
theorem cellsAt_drew {w : World} {B : Nat} {A : Option Addr} {xs : List Value} (h : CellsAt w B A xs) : CellsAt w.drew B A xs :=
  h.keep (Nat.le_refl _) fun p hp => rfl
theorem Own5.drew {w : World} {z : Nat} {v0 v1 v2 v3 v4 : Value} (h : Own5 w z v0 v1 v2 v3 v4) : Own5 w.drew z v0 v1 v2 v3 v4 := h
theorem texts_drop {w : World} {B : Nat} {A : Option Addr} {x : L} {f : List L} {c : Nat} (h : CellsAt w B A (strV (x :: f))) (hc : f.length + 1 ≤ c) :
    ∃ A', (∀ wx : World, (Instr.slice 44 (.slice A (f.length + 1) c) (some (.int .i64 1)) none none).run Tryd.prog wx = .ok (.slice A' f.length (c - 1)) wx) ∧ CellsAt w B A' (strV f) := by
  refine ⟨_, fun wx => ?_, h.drop (k := 1) (cap := c) (by simpa [strV] using hc)⟩
  have hu : Tryd.prog.elem 44 = 9 := by kernel_rfl
  have hs : (sizeOf 9).run Tryd.prog wx = .ok 1 wx := by
    obtain ⟨i, z, h1, h2, h3, h4, h5⟩ := strTy.info
    simp [sizeOf, typeInfo, h1, h3]
  rw [run_slice_l wx 44 A (f.length + 1) c (by rw [hu]; exact Tryd.underlying44) .i64 1 (by decide) (by omega), hu, hs]
  simp [Result.andThen, sliced]
end Go.Proofs.YtkmpnfploplpfaaDoor
