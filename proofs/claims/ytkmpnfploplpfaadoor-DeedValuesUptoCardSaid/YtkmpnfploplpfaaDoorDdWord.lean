/- A part of the proofs of the laws of the deeds: Word. -/
import Derived.Test.YtkmpnfploplpfaaDoorDdNum
import Derived.Laws.RangeAny
set_option linter.unusedVariables false
set_option linter.unusedSimpArgs false
namespace Go.Proofs.YtkmpnfploplpfaaDoor
open Go.RowKit Go.Deed

def alnumN (n : Nat) : Bool := (decide (48 ≤ n) && decide (n ≤ 57)) || (decide (65 ≤ n) && decide (n ≤ 90)) || (decide (97 ≤ n) && decide (n ≤ 122))
set_option maxHeartbeats 1000000 in
theorem notAlnum (w : World) : PredAt Tryd.prog 26 #[] encR (fun r => !alnumN r) w := fun W r _ => by
  unfold FnGives
  go_enter Tryd.func26, Tryd.ntmps26
  go_wp2
  all_goals
    go_ret
    refine ⟨?_, 0, rfl⟩
    refine congrArg (fun b => Ending.returned (.bool b)) ?_
    rw [Bool.eq_iff_iff]
    unfold alnumN
    simp at *
    omega
theorem idx_alnum (s : ByteArray) : ∀ (f pos : Nat), s.size ≤ pos + f → (Lib.idxFuncFrom (fun r => !alnumN r) true s f pos < 0 ↔ (s.data.toList.drop pos).all alnumB = true)
  | 0, pos, h => by
    rw [List.drop_of_length_le (by simp; omega)]
    simp [Lib.idxFuncFrom]
  | f + 1, pos, h => by
    unfold Lib.idxFuncFrom
    by_cases hp : pos < s.size
    · rw [if_pos hp]
      have hb := byte_at s pos hp
      have hd : s.data.toList.drop pos = s[pos] :: s.data.toList.drop (pos + 1) := by
        obtain ⟨h1, h2⟩ := List.getElem?_eq_some_iff.1 hb
        rw [← h2]
        exact List.drop_eq_getElem_cons h1
      rw [hd, List.all_cons]
      by_cases ha : s[pos].toNat < 128
      · rw [decode_ascii s pos hp ha]
        have e : alnumN s[pos].toNat = alnumB s[pos] := rfl
        simp only [e]
        cases hal : alnumB s[pos] with
        | true =>
          rw [if_neg (by simp), idx_alnum s f (pos + 1) (by omega)]
          simp
        | false =>
          rw [if_pos (by simp)]
          simp
      · have hh := decode_high s pos hp (by omega)
        have hn : alnumN (Utf8.decode s pos).1 = false := by unfold alnumN; simp; omega
        rw [if_pos (by simp [hn])]
        have hal : alnumB s[pos] = false := by unfold alnumB; simp; omega
        rw [hal]
        simp
    · rw [if_neg hp, List.drop_of_length_le (by simp; omega)]
      simp

theorem word_says (s : ByteArray) (w : World) (hs : s.size ≤ maxLen) :
    Calls Tryd.prog 14 #[.string s] w (fun e w' => e = .returned (.bool (wordL s.data.toList)) ∧ Below w.heap.size w w') := by
  unfold maxLen at hs
  by_cases h0 : s = ⟨#[]⟩
  · subst h0
    go_enter Tryd.func14, Tryd.ntmps14
    go_wp2
    go_ret
    exact ⟨rfl, Below.refl _ _⟩
  · have hsz : 0 < s.size := Nat.pos_of_ne_zero fun e => h0 (by
      have : s.data.toList = [] := List.length_eq_zero_iff.1 (by simpa using e)
      exact ByteArray.ext (Array.toList_inj.1 (by simpa using this)))
    have hte : s.toList.isEmpty = false := by rw [ByteArray.toList_eq]; simp; exact fun e => by simp [ByteArray.size, e] at hsz
    have htn : s.toList ≠ [] := fun e => by rw [e] at hte; cases hte
    have hw : wordL s.data.toList = (decide (s.size ≤ 16) && s.data.toList.all alnumB) := by
      unfold wordL
      rw [← ByteArray.toList_eq, hte, ByteArray.toList_eq, len_bytes]
      rfl
    have hi := idx_alnum s s.size 0 (by omega)
    rw [List.drop_zero] at hi
    have HW := Lib.hid hw
    have HI := Lib.hid hi
    clear hw hi h0
    have hcall := Tryd.strings_IndexFunc 26 #[] (enters_of Tryd.func26 (by kernel_rfl) rfl) _ s w (notAlnum w)
    go_enter Tryd.func14, Tryd.ntmps14
    go_wp2_with (go_at_call 25; (with_reducible refine hcall.mono ?_); rintro e w2 ⟨rfl, hb2⟩)
    · go_ret
      refine ⟨congrArg (fun b => Ending.returned (.bool b)) ?_, hb2⟩
      rw [HW.out, show decide (s.size ≤ 16) = true from decide_eq_true (by omega), Bool.true_and, Bool.eq_iff_iff]
      exact decide_eq_true_iff.trans HI.out
    · go_ret
      refine ⟨congrArg (fun b => Ending.returned (.bool b)) ?_, Below.refl _ _⟩
      rw [HW.out, show decide (s.size ≤ 16) = false from decide_eq_false (by omega)]
      rfl
end Go.Proofs.YtkmpnfploplpfaaDoor
