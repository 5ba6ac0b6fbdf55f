/- A part of the proofs of the laws of the deeds: PrintAll. -/
import Derived.Test.YtkmpnfploplpfaaDoorDdPrintC
set_option linter.unusedVariables false
set_option linter.unusedSimpArgs false
namespace Go.Proofs.YtkmpnfploplpfaaDoor
open Go.RowKit Go.Deed Go.RowG
set_option linter.unusedVariables false

theorem printL_bad {d : D} (h : goodL d.k d.a d.b d.t d.args.len = false) : printL d = none := by
  unfold printL
  rw [if_neg (by rw [h]; decide)]
theorem printL_good {d : D} (h : goodL d.k d.a d.b d.t d.args.len = true) : printL d = (textsF d.args 40).map fun l => wordOf d.k ++ Lib.joinTail [32] (numTexts d.k d.a d.b ++ (if d.t.isEmpty then [] else [d.t]) ++ l) := by
  unfold printL
  rw [if_pos h]
  cases textsF d.args 40 with
  | none => rfl
  | some l => simp only [Option.map_some, Lib.join_cons]
theorem bytes_empty {t : ByteArray} (h : t.toList = []) : t.data.toList.isEmpty = true := by
  rw [← ByteArray.toList_eq, h]
  rfl
theorem bytes_some {t : ByteArray} (h : t.toList ≠ []) : t.data.toList.isEmpty = false ∧ t.toList.isEmpty = false := by
  rw [← ByteArray.toList_eq]
  cases hx : t.toList with
  | nil => exact absurd hx h
  | cons c r => exact ⟨rfl, rfl⟩
theorem Print_says (k a b : Int) (t : ByteArray) (args : F) (A : Option Addr) (c : Nat) (w : World) (ht : t.size ≤ 100000000) (hA : R64 a) (hB : R64 b) (hE : Env w)
    (hrow : RowAt w (lt w) A args) (hc : args.len ≤ c) (hcm : c ≤ maxLen) (hrg : Rng args) (hwt : wt args ≤ 100000000) : Calls Tryd.prog 7 #[agg5 k a b t A args.len c] w (PrintEnds (printL ⟨k, a, b, t.data.toList, args⟩) w) := by
  by_cases h1 : k < 1
  · rw [printL_bad (by simp only [goodL, decide_eq_false (show ¬ 1 ≤ k by omega), Bool.false_and])]
    exact fail_low k a b t h1 A _ c w
  by_cases h2 : 14 ≤ k
  · rw [printL_bad (by simp only [goodL, decide_eq_false (show ¬ k < 14 by omega), Bool.false_and, Bool.and_false])]
    exact fail_high k a b t h2 A _ c w
  obtain ⟨kn, rfl⟩ : ∃ kn : Nat, k = kn := ⟨k.toNat, by omega⟩
  have hk1 : decide (1 ≤ (kn : Int)) = true := decide_eq_true (by omega)
  have hk2 : decide ((kn : Int) < 14) = true := decide_eq_true (by omega)
  have hn : nums (kn : Int) = 0 ∨ nums (kn : Int) = 1 ∨ nums (kn : Int) = 2 := by
    unfold nums
    repeat' split
    all_goals simp
  by_cases hte : t.toList = []
  · have he := bytes_empty hte
    cases hT : textful (kn : Int) with
    | true =>
      rw [printL_bad (by simp [goodL, hT, he])]
      exact fail_te kn a b t (by omega) (by omega) hte hT A _ c w
    | false =>
      cases hm : manyL (kn : Int) args.len with
      | false =>
        rw [printL_bad (by simp [goodL, hm])]
        exact fail_me kn a b t (by omega) (by omega) hte hT A _ c w hm
      | true =>
        rcases hn with hN | hN | hN
        · by_cases hb : b = 0
          · by_cases ha : a = 0
            · subst hb
              subst ha
              have h9 : kn = 9 := by
                unfold nums at hN
                split at hN
                · omega
                · split at hN <;> omega
              subst h9
              have hT : textful 9 = false := hT
              have hm : manyL 9 args.len = true := hm
              show Calls Tryd.prog 7 #[agg5 9 0 0 t A args.len c] w (PrintEnds (printL ⟨9, 0, 0, t.data.toList, args⟩) w)
              rw [printL_good (by simp [goodL, hm, hT, he, nums])]
              have := print_9 t args A c w hte hm hE hrow hc hcm hrg hwt
              simpa [numTexts, nums, he] using this
            · subst hb
              rw [printL_bad (by simp [goodL, hN, ha])]
              exact fail_a kn a t (by omega) (by omega) hte ha hT hN A _ c w hm
          · rw [printL_bad (by simp [goodL, hN, hb])]
            exact fail_b0 kn a b t (by omega) (by omega) hte hb hT hN A _ c w hm
        · by_cases hb : b = 0
          · subst hb
            rw [printL_good (by simp [goodL, hm, hT, he, hN, hk2]; omega)]
            have := print_n1 kn (by omega) (by omega) hT hN a t args A c w hte hm hA hE hrow hc hcm hrg hwt
            simpa [numTexts, hN, he] using this
          · rw [printL_bad (by simp [goodL, hN, hb])]
            exact fail_b1 kn a b t (by omega) (by omega) hte hb hT hN A _ c w hm
        · rw [printL_good (by simp [goodL, hm, hT, he, hN, hk2]; omega)]
          have := print_n2 kn (by omega) (by omega) hT hN a b t args A c w hte hm hA hB hE hrow hc hcm hrg hwt
          simpa [numTexts, hN, he] using this
  · obtain ⟨he, he2⟩ := bytes_some hte
    cases hT : textful (kn : Int) with
    | false =>
      rw [printL_bad (by simp [goodL, hT, he])]
      exact fail_tn kn a b t (by omega) (by omega) he2 hT A _ c w
    | true =>
      cases hw : wordL t.data.toList with
      | false =>
        rw [printL_bad (by simp [goodL, hw, he])]
        exact fail_w kn a b t (by omega) (by omega) he2 ht hT hw A _ c w
      | true =>
        cases hm : manyL (kn : Int) args.len with
        | false =>
          rw [printL_bad (by simp [goodL, hm])]
          exact fail_mn kn a b t (by omega) (by omega) he2 ht hT hw A _ c w hm
        | true =>
          have hk : kn = 1 ∨ kn = 12 := by
            unfold textful at hT
            simp at hT
            omega
          rcases hk with rfl | rfl
          · by_cases hb : b = 0
            · subst hb
              have hT : textful 1 = true := hT
              have hm : manyL 1 args.len = true := hm
              show Calls Tryd.prog 7 #[agg5 1 a 0 t A args.len c] w (PrintEnds (printL ⟨1, a, 0, t.data.toList, args⟩) w)
              rw [printL_good (by simp [goodL, hm, hT, he, hw, nums])]
              have := print_1 a t args A c w he2 ht hw hm hA hE hrow hc hcm hrg hwt
              simpa [numTexts, nums, he] using this
            · rw [printL_bad (by simp [goodL, nums, hb])]
              exact fail_bn 1 a b t (by omega) (by omega) he2 ht hb hT rfl hw A _ c w hm
          · have hT : textful 12 = true := hT
            have hm : manyL 12 args.len = true := hm
            show Calls Tryd.prog 7 #[agg5 12 a b t A args.len c] w (PrintEnds (printL ⟨12, a, b, t.data.toList, args⟩) w)
            rw [printL_good (by simp [goodL, hm, hT, he, hw, nums])]
            have := print_12 a b t args A c w he2 ht hw hm hA hB hE hrow hc hcm hrg hwt
            simpa [numTexts, nums, he] using this
end Go.Proofs.YtkmpnfploplpfaaDoor
