/- A part of the proofs of the laws of the deeds: Good. -/
import Derived.Test.YtkmpnfploplpfaaDoorDdParseX
set_option linter.unusedVariables false
set_option linter.unusedSimpArgs false
namespace Go.Proofs.YtkmpnfploplpfaaDoor
open Go.RowKit Go.Deed Go.RowG
set_option linter.unusedVariables false

/-- What is read is no larger than its text. -/
def Gd (s : L) (v : V) (r : L) : Prop := R64 v.n ∧ Rng v.a ∧ v.t.size + 30 + wt v.a + 31 * r.length ≤ 31 * s.length
theorem rng_snoc {k n : Int} {t : ByteArray} {a : F} (hn : R64 n) (ha : Rng a) : ∀ {f : F}, Rng f → Rng (f.snoc k n t a)
  | .nil, _ => ⟨hn, ha, trivial⟩
  | .cons _ _ _ _ r, h => ⟨h.1, h.2.1, rng_snoc hn ha h.2.2⟩
theorem wt_snoc (k n : Int) (t : ByteArray) (a : F) : ∀ f : F, wt (f.snoc k n t a) = wt f + (t.size + 30 + wt a)
  | .nil => by simp [F.snoc, wt]
  | .cons _ _ _ _ r => by simp only [F.snoc, wt, wt_snoc k n t a r]; omega
theorem loop_gd {val : L → Option (V × L)} (hv : ∀ s v r, val s = some (v, r) → Gd s v r) : ∀ (g : Nat) (acc : F) (s : L) (acc' : F) (r : L), partsLoop val g acc s = some (acc', r) → Rng acc → Rng acc' ∧ wt acc' + 31 * r.length ≤ wt acc + 31 * s.length
  | 0, _, _, _, _, h, _ => by simp [partsLoop] at h
  | g + 1, acc, s, acc', r, h, ha => by
    unfold partsLoop at h
    split at h
    · next r1 =>
      split at h
      · cases h
      · next v more hvm =>
        split at h
        · cases h
        · obtain ⟨h1, h2, h3⟩ := hv _ _ _ hvm
          obtain ⟨h4, h5⟩ := loop_gd hv g _ _ _ _ h (rng_snoc h1 h2 ha)
          rw [wt_snoc] at h5
          simp only [List.length_cons]
          exact ⟨h4, by omega⟩
    · simp only [Option.some.injEq, Prod.mk.injEq] at h
      obtain ⟨rfl, rfl⟩ := h
      exact ⟨ha, by omega⟩
theorem r64_0 : R64 0 := by unfold R64; omega
theorem r64_1 : R64 1 := by unfold R64; omega
theorem numL_nil : numL [] = none := by decide
theorem value_gd : ∀ (d : Nat) (s : L) (v : V) (r : L), valueL d s = some (v, r) → Gd s v r
  | 0, _, _, _, h => by simp [valueL] at h
  | d + 1, s, v, r, h => by
    unfold valueL at h
    split at h
    · cases h
    · simp only [Option.some.injEq, Prod.mk.injEq] at h
      obtain ⟨rfl, rfl⟩ := h
      refine ⟨r64_0, trivial, ?_⟩
      simp only [toB_size, wt, List.length_cons, List.length_nil]
      omega
    · next r' =>
      unfold quotePart at h
      split at h
      · cases h
      · split at h
        · simp only [Option.some.injEq, Prod.mk.injEq] at h
          obtain ⟨rfl, rfl⟩ := h
          refine ⟨r64_0, trivial, ?_⟩
          simp only [toB_size, wt, List.length_cons, List.length_take, List.length_drop]
          omega
        · cases h
    · next h0 h1 h2 =>
      obtain ⟨w, hw⟩ : ∃ w, w = s.take (headLen s) := ⟨_, rfl⟩
      obtain ⟨q, hq⟩ : ∃ q, q = s.drop (headLen s) := ⟨_, rfl⟩
      have hl : w.length + q.length = s.length := by rw [hw, hq, ← List.length_append, List.take_append_drop]
      rw [← hw, ← hq] at h
      have hone : ∀ k : Int, numL w = some k → 1 ≤ w.length := fun k hk => by
        cases w with
        | nil => rw [numL_nil] at hk; cases hk
        | cons c w => simp
      unfold wordPart at h
      split at h
      · next e =>
        simp only [Option.some.injEq, Prod.mk.injEq] at h
        obtain ⟨rfl, rfl⟩ := h
        refine ⟨r64_1, trivial, ?_⟩
        rw [e] at hl
        simp only [toB_size, wt, List.length_cons, List.length_nil] at hl ⊢
        omega
      split at h
      · next e =>
        simp only [Option.some.injEq, Prod.mk.injEq] at h
        obtain ⟨rfl, rfl⟩ := h
        refine ⟨r64_0, trivial, ?_⟩
        rw [e] at hl
        simp only [toB_size, wt, List.length_cons, List.length_nil] at hl ⊢
        omega
      split at h
      · next hn =>
        have h1w : 1 ≤ w.length := by
          cases w with
          | nil => simp [nameL] at hn
          | cons c w => simp
        unfold partsL at h
        split at h
        · cases h
        · next r1 _ =>
          split at h
          · next acc r' hlp =>
            simp only [Option.some.injEq, Prod.mk.injEq] at h
            obtain ⟨rfl, rfl⟩ := h
            obtain ⟨h4, h5⟩ := loop_gd (value_gd d) _ _ _ _ _ hlp trivial
            refine ⟨r64_0, h4, ?_⟩
            simp only [toB_size, wt, List.length_cons] at h5 hl ⊢
            omega
          · cases h
        · simp only [Option.some.injEq, Prod.mk.injEq] at h
          obtain ⟨rfl, rfl⟩ := h
          refine ⟨r64_0, trivial, ?_⟩
          simp only [toB_size, wt]
          omega
      · unfold numberL at h
        split at h
        · next w' _ =>
          split at h
          · next k hk =>
            simp only [Option.some.injEq, Prod.mk.injEq] at h
            obtain ⟨rfl, rfl⟩ := h
            refine ⟨numL_range hk, trivial, ?_⟩
            simp only [toB_size, wt, List.length_cons, List.length_nil] at hl ⊢
            omega
          · cases h
        · split at h
          · next k hk =>
            simp only [Option.some.injEq, Prod.mk.injEq] at h
            obtain ⟨rfl, rfl⟩ := h
            have := hone k hk
            refine ⟨numL_range hk, trivial, ?_⟩
            simp only [toB_size, wt, List.length_nil]
            omega
          · cases h
theorem values_gd : ∀ (f : List L) (acc args : F), valuesL f acc = some args → (∀ x ∈ f, x.length ≤ 300) → Rng acc → Rng args ∧ wt args ≤ wt acc + 9300 * f.length
  | [], acc, args, h, _, ha => by
    simp only [valuesL, Option.some.injEq] at h
    subst h
    exact ⟨ha, by simp⟩
  | x :: f, acc, args, h, hx, ha => by
    unfold valuesL at h
    split at h
    · next v hv =>
      have hg : Gd x v [] := by
        unfold value1 at hv
        split at hv
        · next v' hv' =>
          simp only [Option.some.injEq] at hv
          subst hv
          exact value_gd _ _ _ _ hv'
        · cases hv
      obtain ⟨h1, h2, h3⟩ := hg
      obtain ⟨h4, h5⟩ := values_gd f _ _ h (fun y hy => hx y (by simp [hy])) (rng_snoc h1 h2 ha)
      rw [wt_snoc] at h5
      have := hx x (by simp)
      simp only [List.length_cons, List.length_nil] at h3 ⊢
      exact ⟨h4, by omega⟩
    · cases h
/-- What a deed that was read is worth. -/
def DGood (d : D) : Prop := R64 d.a ∧ R64 d.b ∧ d.t.length ≤ 300 ∧ Rng d.args ∧ wt d.args ≤ 9300 * 300
theorem args_gd {k a b : Int} {t : L} {f : List L} {d : D} (h : parseArgs k a b t f = some d) (ha : R64 a) (hb : R64 b) (ht : t.length ≤ 300) (hf : ∀ x ∈ f, x.length ≤ 300) (hl : f.length ≤ 300) : DGood d := by
  unfold parseArgs at h
  split at h
  · next args hargs =>
    split at h
    · simp only [Option.some.injEq] at h
      subst h
      obtain ⟨h1, h2⟩ := values_gd f _ _ hargs hf trivial
      refine ⟨ha, hb, ht, h1, ?_⟩
      simp only [wt] at h2
      show wt args ≤ _
      omega
    · cases h
  · cases h
theorem text_gd {k a b : Int} {f : List L} {d : D} (h : parseText k a b f = some d) (ha : R64 a) (hb : R64 b) (hf : ∀ x ∈ f, x.length ≤ 300) (hl : f.length ≤ 300) : DGood d := by
  unfold parseText at h
  split at h
  · split at h
    · next x f =>
      split at h
      · exact args_gd h ha hb (hf x (by simp)) (fun y hy => hf y (by simp [hy])) (by simp at hl; omega)
      · cases h
    · cases h
  · exact args_gd h ha hb (by simp) hf hl
theorem pn_gd {k : Int} {d : D} : ∀ (j g : Nat) (a b : Int) (f : List L), pn k j g a b f = some d → R64 a → R64 b → (∀ x ∈ f, x.length ≤ 300) → f.length ≤ 300 → DGood d
  | j, 0, a, b, f, h, ha, hb, hf, hl => text_gd h ha hb hf hl
  | j, g + 1, a, b, [], h, _, _, _, _ => by simp [pn] at h
  | j, g + 1, a, b, x :: f, h, ha, hb, hf, hl => by
    simp only [pn] at h
    split at h
    · cases h
    · next n hn =>
      have hf' : ∀ y ∈ f, y.length ≤ 300 := fun y hy => hf y (by simp [hy])
      split at h
      · exact pn_gd _ g _ _ f h (numL_range hn) hb hf' (by simp at hl; omega)
      · exact pn_gd _ g _ _ f h ha (numL_range hn) hf' (by simp at hl; omega)
theorem parse_gd {s : L} {d : D} (hs : s.length ≤ 300) (h : parseL s = some d) : DGood d := by
  unfold parseL at h
  split at h
  · cases h
  · next f0 f hf =>
    have he := fieldsGo_each s false []
    have hl := fieldsGo_len s false []
    rw [hf] at he hl
    split at h
    · cases h
    · rw [pn_nums] at h
      exact pn_gd _ _ _ _ f h r64_0 r64_0 (fun x hx => by have := he x (by simp [hx]); simp at this; omega) (by simp at hl; omega)
end Go.Proofs.YtkmpnfploplpfaaDoor
