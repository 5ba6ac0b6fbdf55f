/- A part of the proofs of the laws of the deeds: Str. -/
import Derived.Test.YtkmpnfploplpfaaDoorProg
import Derived.Below
import Derived.Tactics
import Derived.Tactics2
import Derived.WalkKit
import Derived.LoopTactic
import Derived.Deep.QuietTactic
import Derived.BigQuiet
import Derived.Outline
import Derived.Lib.Hide
import Derived.IntWalk
import Derived.Test.YtkmpnfploplpfaaDoorDdPureC
set_option linter.unusedVariables false
set_option linter.unusedSimpArgs false
namespace Go.Proofs.YtkmpnfploplpfaaDoor
open Go.RowKit Go.Deed

def BoolIs (b : Bool) (w : World) (e : Ending) (w' : World) : Prop := e = .returned (.bool b) ∧ w' = w
theorem byte_at (s : ByteArray) (k : Nat) (h : k < s.size) : s.data.toList[k]? = some s[k] := by
  rw [List.getElem?_eq_getElem (by simpa using h)]
  rfl
theorem len_bytes (s : ByteArray) : s.data.toList.length = s.size := by simp
theorem all_step {p : UInt8 → Bool} {l : L} {k : Nat} {c : UInt8} (h : l[k]? = some c) (ha : (l.take k).all p = true) (hc : p c = true) : (l.take (k + 1)).all p = true := by
  rw [List.take_add_one, h, List.all_append, ha]
  simp [hc]
theorem all_stop {p : UInt8 → Bool} {l : L} {k : Nat} {c : UInt8} (h : l[k]? = some c) (hc : p c = false) : l.all p = false := by
  rw [List.all_eq_false]
  exact ⟨c, List.mem_of_getElem? h, by simp [hc]⟩

def plainB (c : UInt8) : Bool := decide (32 ≤ c.toNat) && decide (c.toNat ≠ 39)
theorem plainL_eq (s : L) : plainL s = (s.all plainB && decide (s.length ≤ 64)) := rfl
set_option maxHeartbeats 400000 in
theorem plain_says (s : ByteArray) (w : World) (hs : s.size ≤ maxLen) :
    Calls Tryd.prog 29 #[.string s] w (BoolIs (plainL s.data.toList) w) := by
  unfold maxLen at hs
  go_enter Tryd.func29, Tryd.ntmps29
  go_wp2
  go_loopw [6] (fun i wr => ∃ k : Nat, k ≤ s.size ∧ i = .int .i64 k ∧ wr = w ∧ (s.data.toList.take k).all plainB = true) (fun i _ => s.size - (intOf i).toNat)
  case atStart => exact ⟨0, Nat.zero_le _, rfl, rfl, rfl⟩
  case round =>
    obtain ⟨k, hk, rfl, rfl, ht⟩ := hrel
    have HT := Lib.hid ht
    clear ht
    by_cases hlt : k < s.size
    · have hb := byte_at s k hlt
      have HB := Lib.hid hb
      clear hb
      go_wp2
      · next h1 h2 =>
        go_ret
        refine ⟨?_, rfl⟩
        rw [plainL_eq, all_stop HB.out (by unfold plainB; simp at h2 ⊢; omega)]
        rfl
      · next h1 h2 =>
        refine ⟨⟨k + 1, by omega, by go_num, trivial, all_step HB.out HT.out (by unfold plainB; simp at h2 ⊢; omega)⟩, ?_⟩
        simp [intOf]; omega
      · next h1 =>
        go_ret
        refine ⟨?_, rfl⟩
        rw [plainL_eq, all_stop HB.out (by unfold plainB; simp; omega)]
        rfl
    · obtain rfl : k = s.size := by omega
      have ha := HT.out
      rw [List.take_of_length_le (by simp)] at ha
      go_wp2
      go_ret
      refine ⟨?_, rfl⟩
      rw [plainL_eq, ha]
      rw [len_bytes, Bool.true_and]
      exact congrArg (fun b => Ending.returned (.bool b)) (decide_eq_decide.2 (by omega))

theorem or32 (c : UInt8) : (97 ≤ (c ||| 32).toNat ∧ (c ||| 32).toNat ≤ 122 ∨ 48 ≤ c.toNat ∧ c.toNat ≤ 57) ↔ alnumB c = true := by
  have h : ∀ n : Fin 256, (97 ≤ ((UInt8.ofNat n.val) ||| 32).toNat ∧ ((UInt8.ofNat n.val) ||| 32).toNat ≤ 122 ∨ 48 ≤ (UInt8.ofNat n.val).toNat ∧ (UInt8.ofNat n.val).toNat ≤ 57) ↔ alnumB (UInt8.ofNat n.val) = true := by decide +kernel
  have := h ⟨c.toNat, c.toNat_lt⟩
  simpa using this
theorem bits_or (c : UInt8) : bits BinOp.or IntKind.u8 (c.toNat : Int) 32 = ((c ||| 32).toNat : Int) := by
  have h : ∀ n : Fin 256, bits BinOp.or IntKind.u8 ((UInt8.ofNat n.val).toNat : Int) 32 = (((UInt8.ofNat n.val) ||| 32).toNat : Int) := by decide +kernel
  have := h ⟨c.toNat, c.toNat_lt⟩
  simpa using this
set_option maxHeartbeats 1000000 in
theorem name_says (s : ByteArray) (w : World) (hs : s.size ≤ maxLen) :
    Calls Tryd.prog 30 #[.string s] w (BoolIs (nameL s.data.toList) w) := by
  unfold maxLen at hs
  by_cases h0 : s = ⟨#[]⟩
  · subst h0
    go_enter Tryd.func30, Tryd.ntmps30
    go_wp2
    go_ret
    exact ⟨rfl, rfl⟩
  · have hsz : 0 < s.size := Nat.pos_of_ne_zero fun e => h0 (by
      have : s.data.toList = [] := List.length_eq_zero_iff.1 (by simpa using e)
      exact ByteArray.ext (Array.toList_inj.1 (by simpa using this)))
    have hte : s.toList.isEmpty = false := by rw [ByteArray.toList_eq]; simp; exact fun e => by simp [ByteArray.size, e] at hsz
    have htn : s.toList ≠ [] := fun e => by rw [e] at hte; cases hte
    obtain ⟨c, l, hcl⟩ : ∃ c l, s.data.toList = c :: l := by
      cases h : s.data.toList with
      | nil => exact absurd (by rw [ByteArray.toList_eq, h]) htn
      | cons c l => exact ⟨c, l, rfl⟩
    have hc : s[0] = c := by
      have := byte_at s 0 hsz
      rw [hcl] at this
      simpa using this.symm
    have hnm : nameL s.data.toList = (decide (s.size ≤ 16) && upB c && s.data.toList.all alnumB) := by
      rw [← len_bytes, hcl]
      rfl
    have HNM := Lib.hid hnm
    clear hnm hcl h0
    go_enter Tryd.func30, Tryd.ntmps30
    go_wp2
    · next h1 h2 h3 =>
      go_ret
      refine ⟨?_, rfl⟩
      rw [HNM.out]
      unfold upB
      rw [show (decide (s.size ≤ 16) && (decide (65 ≤ c.toNat) && decide (c.toNat ≤ 90))) = false by simp; omega]
      rfl
    · next h1 h2 h3 =>
      go_loopw [24] (fun i wr => ∃ k : Nat, k ≤ s.size ∧ i = .int .i64 k ∧ wr = w ∧ (s.data.toList.take k).all alnumB = true) (fun i _ => s.size - (intOf i).toNat)
      case atStart => exact ⟨0, Nat.zero_le _, rfl, rfl, rfl⟩
      case round =>
        obtain ⟨k, hk, rfl, rfl, ht⟩ := hrel
        have HT := Lib.hid ht
        clear ht
        by_cases hlt : k < s.size
        · have hb := byte_at s k hlt
          have HB := Lib.hid hb
          clear hb
          have hor := or32 s[k]
          go_wp2
          all_goals first
            | (refine ⟨⟨k + 1, by omega, by go_num, trivial, all_step HB.out HT.out (hor.1 (by simp only [bits_or] at *; omega))⟩, ?_⟩
               simp [intOf]; omega)
            | (go_ret
               refine ⟨?_, rfl⟩
               rw [HNM.out, all_stop HB.out (Bool.eq_false_iff.2 fun h => by have := hor.2 h; simp only [bits_or] at *; omega), Bool.and_false]
               rfl)
        · obtain rfl : k = s.size := by omega
          have ha := HT.out
          rw [List.take_of_length_le (by simp)] at ha
          go_wp2
          go_ret
          refine ⟨?_, rfl⟩
          rw [HNM.out, ha]
          unfold upB
          rw [show (decide (s.size ≤ 16) && (decide (65 ≤ c.toNat) && decide (c.toNat ≤ 90))) = true by simp; omega]
          rfl
    all_goals
      go_ret
      refine ⟨?_, rfl⟩
      rw [HNM.out]
      unfold upB
      rw [show (decide (s.size ≤ 16) && (decide (65 ≤ c.toNat) && decide (c.toNat ≤ 90))) = false by simp; omega]
      rfl

theorem numbers_says (k : Int) (w : World) : Calls Tryd.prog 16 #[.int .i64 k] w (fun e w' => e = .returned (.int .i64 (nums k)) ∧ w' = w) := by
  by_cases h9 : k = 9
  · subst h9; go_enter Tryd.func16, Tryd.ntmps16; go_wp2; go_ret; exact ⟨rfl, rfl⟩
  by_cases h8 : k = 8
  · subst h8; go_enter Tryd.func16, Tryd.ntmps16; go_wp2; go_ret; exact ⟨rfl, rfl⟩
  by_cases h12 : k = 12
  · subst h12; go_enter Tryd.func16, Tryd.ntmps16; go_wp2; go_ret; exact ⟨rfl, rfl⟩
  by_cases h13 : k = 13
  · subst h13; go_enter Tryd.func16, Tryd.ntmps16; go_wp2; go_ret; exact ⟨rfl, rfl⟩
  have hn : nums k = 1 := by unfold nums; rw [if_neg h9, if_neg (by omega)]
  have e9 : (k == 9) = false := by simpa using h9
  have e8 : (k == 8) = false := by simpa using h8
  have e12 : (k == 12) = false := by simpa using h12
  have e13 : (k == 13) = false := by simpa using h13
  rw [hn]
  clear h9 h8 h12 h13 hn
  go_enter Tryd.func16, Tryd.ntmps16
  go_wp2
  go_ret
  exact ⟨rfl, rfl⟩
theorem texts_says (k : Int) (w : World) : Calls Tryd.prog 13 #[.int .i64 k] w (BoolIs (textful k) w) := by
  have h : textful k = (k == 1 || k == 12) := by unfold textful; rw [Bool.eq_iff_iff]; simp
  rw [h]
  go_enter Tryd.func13, Tryd.ntmps13
  go_wp2
  · next h => subst h; go_ret; exact ⟨rfl, rfl⟩
  · go_ret; exact ⟨rfl, rfl⟩
theorem many_says (k : Int) (n : Nat) (w : World) : Calls Tryd.prog 15 #[.int .i64 k, .int .i64 n] w (BoolIs (manyL k n) w) := by
  go_enter Tryd.func15, Tryd.ntmps15
  go_wp2
  · next h =>
    go_ret
    refine ⟨?_, rfl⟩
    obtain rfl : k = 1 := by simpa using h
    exact congrArg (fun b => Ending.returned (.bool b)) (show decide ((n : Int) ≤ 6) = manyL 1 n from decide_eq_decide.2 (by omega))
  · next h1 h =>
    go_ret
    refine ⟨?_, rfl⟩
    obtain rfl : k = 2 := by simpa using h
    exact congrArg (fun b => Ending.returned (.bool b)) (show ((n : Int) == 1) = decide (n = 1) by rw [Bool.eq_iff_iff]; simp; omega)
  · next h1 h2 =>
    go_ret
    refine ⟨?_, rfl⟩
    have h1 : ¬ k = 1 := by simpa using h1
    have h2 : ¬ k = 2 := by simpa using h2
    refine congrArg (fun b => Ending.returned (.bool b)) ?_
    unfold manyL
    rw [if_neg h1, if_neg h2]
    show ((n : Int) == 0) = decide (n = 0)
    rw [Bool.eq_iff_iff]; simp
end Go.Proofs.YtkmpnfploplpfaaDoor
