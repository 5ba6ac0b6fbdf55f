/- A part of the proof of FoldTwice: fold.Expr. No conditions. -/
import Derived.Test.YtiinghgfojicdaaGreatFoM
import Derived.Test.YtiinghgfojicdaaGreatFoN
import Derived.Test.YtiinghgfojicdaaGreatFoO
import Derived.Test.YtiinghgfojicdaaGreatFoP
import Derived.Test.YtiinghgfojicdaaGreatFoQ
set_option linter.unusedVariables false
set_option linter.unusedSimpArgs false
namespace Go.Proofs.YtiinghgfojicdaaGreat
open Go.RowKit Go.RowG Go.FRow Go.GMem
set_option linter.unusedVariables false
theorem lit_truth {n : Int} (h : litH 3 n = true) : n = 0 ∨ n = 1 := by
  simp [litH] at h
  exact h
theorem fold_head (e : Ex) (hA : EachX (FoldSaid closedE) e.args) (hB : EachX (FoldSaid closedE) e.arms) : FoldSaid closedE e := by
  by_cases h7 : e.h.k = 7
  · by_cases hl : 3 ≤ (foldX closedE e.args).len
    · by_cases h0 : (atX (foldX closedE e.args) 0).h.k = 3
      · cases hi : litH (atX (foldX closedE e.args) 0).h.k (atX (foldX closedE e.args) 0).h.n with
        | false => exact fold_d e hA hB h7 hl h0 hi
        | true =>
          rw [h0] at hi
          rcases lit_truth hi with hn | hn
          · cases hf : closedE (atX (foldX closedE e.args) 1) with
            | false => exact fold_e0 e hA hB h7 hl h0 hn hf
            | true => exact fold_f0 e hA hB h7 hl h0 hn hf
          · cases hf : closedE (atX (foldX closedE e.args) 2) with
            | false => exact fold_e1 e hA hB h7 hl h0 hn hf
            | true => exact fold_f1 e hA hB h7 hl h0 hn hf
      · exact fold_c e hA hB h7 hl h0
    · exact fold_b e hA hB h7 hl
  · by_cases h8 : e.h.k = 8
    · by_cases h1 : (foldX closedE e.args).len = 1
      · by_cases ht : e.h.t.toList = [110, 111, 116]
        · by_cases h0 : (atX (foldX closedE e.args) 0).h.k = 3
          · cases hi : litH (atX (foldX closedE e.args) 0).h.k (atX (foldX closedE e.args) 0).h.n with
            | false => exact fold_i e hA hB h8 h1 ht h0 hi
            | true => exact fold_j e hA hB h8 h1 ht h0 hi
          · exact fold_h e hA hB h8 h1 ht h0
        · exact fold_g e hA hB h8 h1 ht
      · by_cases h2 : (foldX closedE e.args).len = 2
        · cases hi : litH (atX (foldX closedE e.args) 0).h.k (atX (foldX closedE e.args) 0).h.n with
          | false => exact fold_k e hA hB h8 h2 hi
          | true =>
            by_cases he : (atX (foldX closedE e.args) 0).h.k = (atX (foldX closedE e.args) 1).h.k
            · cases hj : litH (atX (foldX closedE e.args) 1).h.k (atX (foldX closedE e.args) 1).h.n with
              | false => exact fold_m e hA hB h8 h2 hi he hj
              | true => exact fold_n e hA hB h8 h2 hi he hj
            · exact fold_l e hA hB h8 h2 hi he
        · exact fold_o e hA hB h8 h1 h2
    · exact fold_a e hA hB h7 h8
theorem fold_says (e : Ex) : FoldSaid closedE e := each_ex fold_head e
end Go.Proofs.YtiinghgfojicdaaGreat
