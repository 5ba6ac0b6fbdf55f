/- A part of the proofs of the laws of the deeds: Read. -/
import Derived.Test.YtkmpnfploplpfaaDoorFMem
import Derived.ChangeArms
import Derived.Deep.Slices
import Derived.Lib.SmallJoins
import Derived.Test.YtkmpnfploplpfaaDoorRows
set_option linter.unusedVariables false
set_option linter.unusedSimpArgs false
namespace Go.Proofs.YtkmpnfploplpfaaDoor
open Go.RowKit Go.Deed Go.RowG Go.ChangeShapes Go.WideShapes
set_option maxRecDepth 100000
variable {H : Type} {enc : TypeId × Value → H}

/-- A row of values that is an argument, of bulk b. -/
def ArgF (w : World) (cs : List Value) (b : Nat) : Prop := ∃ (A : Option Addr) (a : F) (c : Nat), cs = [.slice A a.len c] ∧ a.len ≤ c ∧ c ≤ maxLen ∧ RowAt w (lt w) A a ∧ Rng a ∧ wt a + 6 ≤ 6 * b
/-- A value that is an argument. -/
def ArgV (w : World) (cs : List Value) (b : Nat) : Prop := ∃ (k n : Int) (t : ByteArray) (A : Option Addr) (a : F) (c : Nat), cs = [.int .i64 k, .int .i64 n, .string t, .slice A a.len c] ∧ a.len ≤ c ∧ c ≤ maxLen ∧ RowAt w (lt w) A a ∧ R64 n ∧ Rng a ∧ t.size + 30 + wt a ≤ 6 * b
theorem bulk_append (l r : List (DataW H)) : Rows.uptoBulkAll (l ++ r) = Rows.uptoBulkAll l + Rows.uptoBulkAll r := by
  induction l with
  | nil => simp [Rows.uptoBulkAll]
  | cons x l ih => simp only [List.cons_append, Rows.uptoBulkAll, ih]; omega
theorem r64_wf {n : Int} (h : (Lit.int .i64 n).wf = true) : R64 n := by
  simp only [Lit.wf, Bool.and_eq_true, decide_eq_true_eq] at h
  exact h
theorem row_of {w : World} {ad : Addr} {elems : List (DataW H × List MemPlace)} (h : ∀ i x, elems[i]? = some x → ∃ cs, w.cells? 0 (ad.add (i * 4)) 4 = some cs ∧ ArgV w cs (Rows.uptoBulk x.1)) :
    ∀ m j, j + m = elems.length → ∃ f : F, f.len = m ∧ FAt w (lt w) f (ad.add (j * 4)) ∧ Rng f ∧ wt f ≤ 6 * Rows.uptoBulkAll ((elems.drop j).map (·.1))
  | 0, j, hj => ⟨.nil, rfl, trivial, trivial, Nat.zero_le _⟩
  | m + 1, j, hj => by
    obtain ⟨f, hl, hf, hr, hw⟩ := row_of h m (j + 1) (by omega)
    have hlt : j < elems.length := by omega
    obtain ⟨cs, hc, k, n, t, A, a, c, rfl, h1, h2, h3, h4, h5, h6⟩ := h j _ (List.getElem?_eq_getElem hlt)
    obtain ⟨_, _, hcell⟩ := World.cells?_some hc
    refine ⟨.cons k n t a f, by simp only [F.len, hl], ⟨?_, ?_, ?_, ⟨A, c, ?_, h1, h2, h3⟩, ?_⟩, ⟨h4, h5, hr⟩, ?_⟩
    · exact (by simpa [Addr.add] using hcell 0 (by omega))
    · exact (by simpa [Addr.add] using hcell 1 (by omega))
    · exact (by simpa [Addr.add] using hcell 2 (by omega))
    · exact (by simpa [Addr.add] using hcell 3 (by omega))
    · rw [add_plus, show j * 4 + 4 = (j + 1) * 4 by omega]
      exact hf
    · rw [List.drop_eq_getElem_cons hlt]
      simp only [wt, List.map_cons, Rows.uptoBulkAll]
      omega
theorem cells34 : Tryd.prog.cellsOf 34 = 4 := by kernel_rfl
theorem cells22 : Tryd.prog.cellsOf 22 = 1 := by kernel_rfl
theorem cells3 : Tryd.prog.cellsOf 3 = 1 := by kernel_rfl
theorem cells9' : Tryd.prog.cellsOf 9 = 1 := by kernel_rfl
theorem reads_fuel (w : World) (sp : Nat → Bool) (held : Bool) : ∀ fuel,
    (∀ cs (x : DataW H × List MemPlace), DataW.trod enc Tryd.prog w 0 sp held fuel 22 cs = some x → ArgF w cs (Rows.uptoBulk x.1)) ∧
    (∀ cs (x : DataW H × List MemPlace), DataW.trod enc Tryd.prog w 0 sp held fuel 34 cs = some x → ArgV w cs (Rows.uptoBulk x.1))
  | 0 => ⟨fun _ _ h => by simp [DataW.trod] at h, fun _ _ h => by simp [DataW.trod] at h⟩
  | n + 1 => by
    obtain ⟨ih1, ih2⟩ := reads_fuel w sp held n
    refine ⟨fun cs x h => ?_, fun cs x h => ?_⟩
    · rcases DataW.trod_slice Tryd.underlying22 h with ⟨rfl, rfl⟩ | ⟨ad, len, cap, elems, rest, n', hn, rfl, rfl, _, h1, h2, hlen, hel, _, _⟩
      · exact ⟨none, .nil, 0, rfl, Nat.le_refl _, Nat.zero_le _, RowAt.nil _ _ _, trivial, by simp [Rows.uptoBulk, wt]⟩
      · obtain rfl : n = n' := by omega
        rw [cells34] at hel
        have hrow := row_of (w := w) (ad := ad) (elems := elems) (fun i y hy => by
          have hi : i < len := by rw [← hlen]; exact (List.getElem?_eq_some_iff.1 hy).1
          have := hel i hi
          rw [hy] at this
          obtain ⟨cs, hc, ht⟩ := Option.bind_eq_some_iff.1 this
          exact ⟨cs, hc, ih2 cs y ht⟩)
        obtain ⟨f, hf, hfat, hr, hw⟩ := hrow elems.length 0 (by omega)
        have hb : 0 < f.len → ad.block < w.heap.size := fun hl => by
          have := hel 0 (by omega)
          cases hc : w.cells? 0 (ad.add (0 * 4)) 4 with
          | none =>
            rw [hc, List.getElem?_eq_getElem (by omega)] at this
            simp at this
          | some cs =>
            obtain ⟨_, hl4, hcc⟩ := World.cells?_some hc
            have h0 := hcc 0 (by omega)
            rw [List.getElem?_eq_getElem (by omega)] at h0
            have := World.block_lt_of_cell? w _ h0
            simpa [Addr.add] using this
        rw [← hlen, ← hf]
        refine ⟨some ad, f, cap, rfl, by omega, h2, fun hl => ⟨ad, rfl, hb hl, by simpa [Addr.add] using hfat⟩, hr, ?_⟩
        simp only [Rows.uptoBulk, List.drop_zero] at hw ⊢
        omega
    · obtain ⟨xs, n', hn, rfl, hl, hlen, hf⟩ := DataW.trod_struct Tryd.underlying34 h
      obtain rfl : n = n' := by omega
      rw [cells34] at hl
      match cs, hl with
      | [c0, c1, c2, c3], _ =>
        match xs, hlen with
        | [y0, y1, y2, y3], _ =>
          have g0 : DataW.trod enc Tryd.prog w 0 sp held n 3 [c0] = some y0 := by simpa [cells3] using hf 0 _ rfl
          have g1 : DataW.trod enc Tryd.prog w 0 sp held n 3 [c1] = some y1 := by simpa [cells3] using hf 1 _ rfl
          have g2 : DataW.trod enc Tryd.prog w 0 sp held n 9 [c2] = some y2 := by simpa [cells9'] using hf 2 _ rfl
          have g3 : DataW.trod enc Tryd.prog w 0 sp held n 22 [c3] = some y3 := by simpa [cells22] using hf 3 _ rfl
          obtain ⟨k, e0, rfl, _⟩ := DataW.trod_int Tryd.underlying3 g0
          obtain ⟨m, e1, rfl, hm⟩ := DataW.trod_int Tryd.underlying3 g1
          obtain ⟨t, e2, rfl, _⟩ := DataW.trod_string Tryd.underlying9 g2
          obtain ⟨A, a, c, e3, h1, h2, h3, h4, h5⟩ := ih1 _ _ g3
          simp only [List.cons.injEq, and_true] at e0 e1 e2 e3
          subst e0 e1 e2 e3
          refine ⟨k, m, t, A, a, c, rfl, h1, h2, h3, r64_wf hm, h4, ?_⟩
          simp only [List.map_cons, List.map_nil, Rows.uptoBulk, Rows.uptoBulkAll]
          have : t.data.toList.length = t.size := by simp
          omega
/-- A value that comes by value. -/
theorem value_arg {w : World} {sp : Nat → Bool} {held : Bool} {r : World} {b0 : Nat} {v : Value} {d : DataW H} {p : List MemPlace} (hv : Value.okWide Tryd.prog r .any b0 34 v) (h : DataW.Trod enc Tryd.prog w 0 sp held 34 v d p) :
    ∃ (k n : Int) (t : ByteArray) (A : Option Addr) (a : F) (c : Nat), v = agg4 k n t A a.len c ∧ a.len ≤ c ∧ c ≤ maxLen ∧ RowAt w (lt w) A a ∧ R64 n ∧ Rng a ∧ t.size + 30 + wt a ≤ 6 * Rows.uptoBulk d := by
  obtain ⟨cs, rfl, hsz⟩ := okWide_struct Tryd.underlying34 hv
  obtain ⟨fuel, hf⟩ := h
  obtain ⟨k, n, t, A, a, c, e, h1⟩ := (reads_fuel w sp held fuel).2 _ _ hf
  refine ⟨k, n, t, A, a, c, ?_, h1⟩
  obtain ⟨l⟩ := cs
  simp only [Value.cells] at e
  subst e
  rfl
/-- A deed that comes by value. -/
theorem deed_arg {w : World} {sp : Nat → Bool} {held : Bool} {r : World} {b0 : Nat} {v : Value} {d : DataW H} {p : List MemPlace} (hv : Value.okWide Tryd.prog r .any b0 24 v) (h : DataW.Trod enc Tryd.prog w 0 sp held 24 v d p) :
    ∃ (k a b : Int) (t : ByteArray) (A : Option Addr) (f : F) (c : Nat), v = .agg #[.int .i64 k, .int .i64 a, .int .i64 b, .string t, .slice A f.len c] ∧ f.len ≤ c ∧ c ≤ maxLen ∧ RowAt w (lt w) A f ∧ R64 a ∧ R64 b ∧ Rng f ∧ wt f ≤ 6 * Rows.uptoBulk d := by
  obtain ⟨cs, rfl, hsz⟩ := okWide_struct Tryd.underlying24 hv
  obtain ⟨fuel, hf⟩ := h
  obtain ⟨xs, n', hn, hx, hl, hlen, hff⟩ := DataW.trod_struct Tryd.underlying24 hf
  have h24 : Tryd.prog.cellsOf 24 = 5 := by kernel_rfl
  obtain ⟨l⟩ := cs
  simp only [Value.cells] at hl hff
  rw [h24] at hl
  match l, hl with
  | [c0, c1, c2, c3, c4], _ =>
    match xs, hlen with
    | [y0, y1, y2, y3, y4], _ =>
      have g0 : DataW.trod enc Tryd.prog w 0 sp held n' 3 [c0] = some y0 := by simpa [cells3] using hff 0 _ rfl
      have g1 : DataW.trod enc Tryd.prog w 0 sp held n' 3 [c1] = some y1 := by simpa [cells3] using hff 1 _ rfl
      have g2 : DataW.trod enc Tryd.prog w 0 sp held n' 3 [c2] = some y2 := by simpa [cells3] using hff 2 _ rfl
      have g3 : DataW.trod enc Tryd.prog w 0 sp held n' 9 [c3] = some y3 := by simpa [cells9'] using hff 3 _ rfl
      have g4 : DataW.trod enc Tryd.prog w 0 sp held n' 22 [c4] = some y4 := by simpa [cells22] using hff 4 _ rfl
      obtain ⟨k, e0, rfl, _⟩ := DataW.trod_int Tryd.underlying3 g0
      obtain ⟨a, e1, rfl, ha⟩ := DataW.trod_int Tryd.underlying3 g1
      obtain ⟨b, e2, rfl, hb⟩ := DataW.trod_int Tryd.underlying3 g2
      obtain ⟨t, e3, rfl, _⟩ := DataW.trod_string Tryd.underlying9 g3
      obtain ⟨A, f, c, e4, h1, h2, h3, h4, h5⟩ := (reads_fuel w sp held n').1 _ _ g4
      simp only [List.cons.injEq, and_true] at e0 e1 e2 e3 e4
      subst e0 e1 e2 e3 e4
      refine ⟨k, a, b, t, A, f, c, rfl, h1, h2, h3, r64_wf ha, r64_wf hb, h4, ?_⟩
      simp only [Prod.mk.injEq] at hx
      rw [hx.1]
      simp only [List.map_cons, List.map_nil, Rows.uptoBulk, Rows.uptoBulkAll]
      omega
end Go.Proofs.YtkmpnfploplpfaaDoor
