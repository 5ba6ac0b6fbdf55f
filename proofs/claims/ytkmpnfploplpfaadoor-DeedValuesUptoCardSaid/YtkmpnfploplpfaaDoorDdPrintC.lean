/- A part of the proofs of the laws of the deeds: PrintB. -/
import Derived.Test.YtkmpnfploplpfaaDoorDdPrintB
set_option linter.unusedVariables false
set_option linter.unusedSimpArgs false
namespace Go.Proofs.YtkmpnfploplpfaaDoor
open Go.RowKit Go.Deed Go.RowG
attribute [local go_sem ↓] Go.wp_at_zero Go.wp_at_succ
set_option linter.unusedVariables false

set_option maxRecDepth 100000 in
set_option maxHeartbeats 4000000 in
theorem fail_low (k a b : Int) (t : ByteArray) (h : k < 1) (A : Option Addr) (m c : Nat) (w : World) : Calls Tryd.prog 7 #[agg5 k a b t A m c] w (PrintEnds none w) := by
  have e1 : decide (k < 1) = true := decide_eq_true h
  go_enter Tryd.func7, Tryd.ntmps7
  go_wp2
  have r0 : ∀ x : Later (w.alloc (.cells #[.int .i64 k, .int .i64 a, .int .i64 b, .string t, .slice A m c] 24)), x.val.cell? ⟨w.heap.size, 0, none⟩ = some (.int .i64 k) := fun x => by rw [x.ok.cell (by simp)]; simp
  have r1 : ∀ x : Later (w.alloc (.cells #[.int .i64 k, .int .i64 a, .int .i64 b, .string t, .slice A m c] 24)), x.val.cell? ⟨w.heap.size, 1, none⟩ = some (.int .i64 a) := fun x => by rw [x.ok.cell (by simp)]; simp
  have r2 : ∀ x : Later (w.alloc (.cells #[.int .i64 k, .int .i64 a, .int .i64 b, .string t, .slice A m c] 24)), x.val.cell? ⟨w.heap.size, 2, none⟩ = some (.int .i64 b) := fun x => by rw [x.ok.cell (by simp)]; simp
  have r3 : ∀ x : Later (w.alloc (.cells #[.int .i64 k, .int .i64 a, .int .i64 b, .string t, .slice A m c] 24)), x.val.cell? ⟨w.heap.size, 3, none⟩ = some (.string t) := fun x => by rw [x.ok.cell (by simp)]; simp
  have r4 : ∀ x : Later (w.alloc (.cells #[.int .i64 k, .int .i64 a, .int .i64 b, .string t, .slice A m c] 24)), x.val.cell? ⟨w.heap.size, 4, none⟩ = some (.slice A m c) := fun x => by rw [x.ok.cell (by simp)]; simp
  refine region_later (by kernel_rfl) (by kernel_rfl) ?_
  repeat (go_big_quiet_step (fail))
  refine wpQuiet_nil ?_
  intro w1 hw'
  obtain ⟨x, hx⟩ := hw'
  have hb1 := x.ok
  rw [← hx] at hb1
  clear hx
  go_wp2
  go_ret2
  exact ⟨((Below.refl _ _).alloc (Nat.le_refl _) _).trans (hb1.mono (by simp)), rfl⟩
set_option maxRecDepth 100000 in
set_option maxHeartbeats 4000000 in
theorem fail_high (k a b : Int) (t : ByteArray) (h : 14 ≤ k) (A : Option Addr) (m c : Nat) (w : World) : Calls Tryd.prog 7 #[agg5 k a b t A m c] w (PrintEnds none w) := by
  have e1 : decide (k < 1) = false := decide_eq_false (by omega)
  have e2 : decide (14 ≤ k) = true := decide_eq_true h
  go_enter Tryd.func7, Tryd.ntmps7
  go_wp2
  have r0 : ∀ x : Later (w.alloc (.cells #[.int .i64 k, .int .i64 a, .int .i64 b, .string t, .slice A m c] 24)), x.val.cell? ⟨w.heap.size, 0, none⟩ = some (.int .i64 k) := fun x => by rw [x.ok.cell (by simp)]; simp
  have r1 : ∀ x : Later (w.alloc (.cells #[.int .i64 k, .int .i64 a, .int .i64 b, .string t, .slice A m c] 24)), x.val.cell? ⟨w.heap.size, 1, none⟩ = some (.int .i64 a) := fun x => by rw [x.ok.cell (by simp)]; simp
  have r2 : ∀ x : Later (w.alloc (.cells #[.int .i64 k, .int .i64 a, .int .i64 b, .string t, .slice A m c] 24)), x.val.cell? ⟨w.heap.size, 2, none⟩ = some (.int .i64 b) := fun x => by rw [x.ok.cell (by simp)]; simp
  have r3 : ∀ x : Later (w.alloc (.cells #[.int .i64 k, .int .i64 a, .int .i64 b, .string t, .slice A m c] 24)), x.val.cell? ⟨w.heap.size, 3, none⟩ = some (.string t) := fun x => by rw [x.ok.cell (by simp)]; simp
  have r4 : ∀ x : Later (w.alloc (.cells #[.int .i64 k, .int .i64 a, .int .i64 b, .string t, .slice A m c] 24)), x.val.cell? ⟨w.heap.size, 4, none⟩ = some (.slice A m c) := fun x => by rw [x.ok.cell (by simp)]; simp
  refine region_later (by kernel_rfl) (by kernel_rfl) ?_
  repeat (go_big_quiet_step (fail))
  refine wpQuiet_nil ?_
  intro w1 hw'
  obtain ⟨x, hx⟩ := hw'
  have hb1 := x.ok
  rw [← hx] at hb1
  clear hx
  go_wp2
  go_ret2
  exact ⟨((Below.refl _ _).alloc (Nat.le_refl _) _).trans (hb1.mono (by simp)), rfl⟩
set_option maxRecDepth 100000 in
set_option maxHeartbeats 4000000 in
theorem fail_te (k a b : Int) (t : ByteArray) (h1 : 1 ≤ k) (h2 : k < 14) (hte : t.toList = []) (hT : textful k = true) (A : Option Addr) (m c : Nat) (w : World) : Calls Tryd.prog 7 #[agg5 k a b t A m c] w (PrintEnds none w) := by
  have hct := fun w => texts_says k w
  unfold BoolIs at hct
  rw [hT] at hct
  have e1 : decide (k < 1) = false := decide_eq_false (by omega)
  have e2 : decide (14 ≤ k) = false := decide_eq_false (by omega)
  have hte2 : t.toList.isEmpty = true := by rw [hte]; rfl
  go_enter Tryd.func7, Tryd.ntmps7
  go_wp2
  have r0 : ∀ x : Later (w.alloc (.cells #[.int .i64 k, .int .i64 a, .int .i64 b, .string t, .slice A m c] 24)), x.val.cell? ⟨w.heap.size, 0, none⟩ = some (.int .i64 k) := fun x => by rw [x.ok.cell (by simp)]; simp
  have r1 : ∀ x : Later (w.alloc (.cells #[.int .i64 k, .int .i64 a, .int .i64 b, .string t, .slice A m c] 24)), x.val.cell? ⟨w.heap.size, 1, none⟩ = some (.int .i64 a) := fun x => by rw [x.ok.cell (by simp)]; simp
  have r2 : ∀ x : Later (w.alloc (.cells #[.int .i64 k, .int .i64 a, .int .i64 b, .string t, .slice A m c] 24)), x.val.cell? ⟨w.heap.size, 2, none⟩ = some (.int .i64 b) := fun x => by rw [x.ok.cell (by simp)]; simp
  have r3 : ∀ x : Later (w.alloc (.cells #[.int .i64 k, .int .i64 a, .int .i64 b, .string t, .slice A m c] 24)), x.val.cell? ⟨w.heap.size, 3, none⟩ = some (.string t) := fun x => by rw [x.ok.cell (by simp)]; simp
  have r4 : ∀ x : Later (w.alloc (.cells #[.int .i64 k, .int .i64 a, .int .i64 b, .string t, .slice A m c] 24)), x.val.cell? ⟨w.heap.size, 4, none⟩ = some (.slice A m c) := fun x => by rw [x.ok.cell (by simp)]; simp
  refine region_later (by kernel_rfl) (by kernel_rfl) ?_
  repeat (go_big_quiet_step (first
    | (go_at_call 13; exact Calls.later_same (hct _))))
  refine wpQuiet_nil ?_
  intro w1 hw'
  obtain ⟨x, hx⟩ := hw'
  have hb1 := x.ok
  rw [← hx] at hb1
  clear hx
  go_wp2
  go_ret2
  exact ⟨((Below.refl _ _).alloc (Nat.le_refl _) _).trans (hb1.mono (by simp)), rfl⟩
set_option maxRecDepth 100000 in
set_option maxHeartbeats 4000000 in
theorem fail_tn (k a b : Int) (t : ByteArray) (h1 : 1 ≤ k) (h2 : k < 14) (hte : t.toList.isEmpty = false) (hT : textful k = false) (A : Option Addr) (m c : Nat) (w : World) : Calls Tryd.prog 7 #[agg5 k a b t A m c] w (PrintEnds none w) := by
  have hct := fun w => texts_says k w
  unfold BoolIs at hct
  rw [hT] at hct
  have e1 : decide (k < 1) = false := decide_eq_false (by omega)
  have e2 : decide (14 ≤ k) = false := decide_eq_false (by omega)
  have htn : t.toList ≠ [] := fun e => by rw [e] at hte; cases hte
  go_enter Tryd.func7, Tryd.ntmps7
  go_wp2
  have r0 : ∀ x : Later (w.alloc (.cells #[.int .i64 k, .int .i64 a, .int .i64 b, .string t, .slice A m c] 24)), x.val.cell? ⟨w.heap.size, 0, none⟩ = some (.int .i64 k) := fun x => by rw [x.ok.cell (by simp)]; simp
  have r1 : ∀ x : Later (w.alloc (.cells #[.int .i64 k, .int .i64 a, .int .i64 b, .string t, .slice A m c] 24)), x.val.cell? ⟨w.heap.size, 1, none⟩ = some (.int .i64 a) := fun x => by rw [x.ok.cell (by simp)]; simp
  have r2 : ∀ x : Later (w.alloc (.cells #[.int .i64 k, .int .i64 a, .int .i64 b, .string t, .slice A m c] 24)), x.val.cell? ⟨w.heap.size, 2, none⟩ = some (.int .i64 b) := fun x => by rw [x.ok.cell (by simp)]; simp
  have r3 : ∀ x : Later (w.alloc (.cells #[.int .i64 k, .int .i64 a, .int .i64 b, .string t, .slice A m c] 24)), x.val.cell? ⟨w.heap.size, 3, none⟩ = some (.string t) := fun x => by rw [x.ok.cell (by simp)]; simp
  have r4 : ∀ x : Later (w.alloc (.cells #[.int .i64 k, .int .i64 a, .int .i64 b, .string t, .slice A m c] 24)), x.val.cell? ⟨w.heap.size, 4, none⟩ = some (.slice A m c) := fun x => by rw [x.ok.cell (by simp)]; simp
  refine region_later (by kernel_rfl) (by kernel_rfl) ?_
  repeat (go_big_quiet_step (first
    | (go_at_call 13; exact Calls.later_same (hct _))))
  refine wpQuiet_nil ?_
  intro w1 hw'
  obtain ⟨x, hx⟩ := hw'
  have hb1 := x.ok
  rw [← hx] at hb1
  clear hx
  go_wp2
  go_ret2
  exact ⟨((Below.refl _ _).alloc (Nat.le_refl _) _).trans (hb1.mono (by simp)), rfl⟩
set_option maxRecDepth 100000 in
set_option maxHeartbeats 4000000 in
theorem fail_w (k a b : Int) (t : ByteArray) (h1 : 1 ≤ k) (h2 : k < 14) (hte : t.toList.isEmpty = false) (ht : t.size ≤ 100000000) (hT : textful k = true) (hw : wordL t.data.toList = false) (A : Option Addr) (m c : Nat) (w : World) : Calls Tryd.prog 7 #[agg5 k a b t A m c] w (PrintEnds none w) := by
  have hct := fun w => texts_says k w
  unfold BoolIs at hct
  rw [hT] at hct
  have hcw := fun w => word_says t w (by unfold maxLen; omega)
  rw [hw] at hcw
  have e1 : decide (k < 1) = false := decide_eq_false (by omega)
  have e2 : decide (14 ≤ k) = false := decide_eq_false (by omega)
  have htn : t.toList ≠ [] := fun e => by rw [e] at hte; cases hte
  go_enter Tryd.func7, Tryd.ntmps7
  go_wp2
  have r0 : ∀ x : Later (w.alloc (.cells #[.int .i64 k, .int .i64 a, .int .i64 b, .string t, .slice A m c] 24)), x.val.cell? ⟨w.heap.size, 0, none⟩ = some (.int .i64 k) := fun x => by rw [x.ok.cell (by simp)]; simp
  have r1 : ∀ x : Later (w.alloc (.cells #[.int .i64 k, .int .i64 a, .int .i64 b, .string t, .slice A m c] 24)), x.val.cell? ⟨w.heap.size, 1, none⟩ = some (.int .i64 a) := fun x => by rw [x.ok.cell (by simp)]; simp
  have r2 : ∀ x : Later (w.alloc (.cells #[.int .i64 k, .int .i64 a, .int .i64 b, .string t, .slice A m c] 24)), x.val.cell? ⟨w.heap.size, 2, none⟩ = some (.int .i64 b) := fun x => by rw [x.ok.cell (by simp)]; simp
  have r3 : ∀ x : Later (w.alloc (.cells #[.int .i64 k, .int .i64 a, .int .i64 b, .string t, .slice A m c] 24)), x.val.cell? ⟨w.heap.size, 3, none⟩ = some (.string t) := fun x => by rw [x.ok.cell (by simp)]; simp
  have r4 : ∀ x : Later (w.alloc (.cells #[.int .i64 k, .int .i64 a, .int .i64 b, .string t, .slice A m c] 24)), x.val.cell? ⟨w.heap.size, 4, none⟩ = some (.slice A m c) := fun x => by rw [x.ok.cell (by simp)]; simp
  refine region_later (by kernel_rfl) (by kernel_rfl) ?_
  repeat (go_big_quiet_step (first
    | (go_at_call 13; exact Calls.later_same (hct _))
    | (go_at_call 14; exact Calls.later_below (hcw _))))
  refine wpQuiet_nil ?_
  intro w1 hw'
  obtain ⟨x, hx⟩ := hw'
  have hb1 := x.ok
  rw [← hx] at hb1
  clear hx
  go_wp2
  go_ret2
  exact ⟨((Below.refl _ _).alloc (Nat.le_refl _) _).trans (hb1.mono (by simp)), rfl⟩
set_option maxRecDepth 100000 in
set_option maxHeartbeats 4000000 in
theorem fail_me (k a b : Int) (t : ByteArray) (h1 : 1 ≤ k) (h2 : k < 14) (hte : t.toList = []) (hT : textful k = false) (A : Option Addr) (m c : Nat) (w : World) (hm : manyL k m = false) : Calls Tryd.prog 7 #[agg5 k a b t A m c] w (PrintEnds none w) := by
  have hct := fun w => texts_says k w
  unfold BoolIs at hct
  rw [hT] at hct
  have hcm := fun w => many_says k m w
  unfold BoolIs at hcm
  rw [hm] at hcm
  have e1 : decide (k < 1) = false := decide_eq_false (by omega)
  have e2 : decide (14 ≤ k) = false := decide_eq_false (by omega)
  have hte2 : t.toList.isEmpty = true := by rw [hte]; rfl
  go_enter Tryd.func7, Tryd.ntmps7
  go_wp2
  have r0 : ∀ x : Later (w.alloc (.cells #[.int .i64 k, .int .i64 a, .int .i64 b, .string t, .slice A m c] 24)), x.val.cell? ⟨w.heap.size, 0, none⟩ = some (.int .i64 k) := fun x => by rw [x.ok.cell (by simp)]; simp
  have r1 : ∀ x : Later (w.alloc (.cells #[.int .i64 k, .int .i64 a, .int .i64 b, .string t, .slice A m c] 24)), x.val.cell? ⟨w.heap.size, 1, none⟩ = some (.int .i64 a) := fun x => by rw [x.ok.cell (by simp)]; simp
  have r2 : ∀ x : Later (w.alloc (.cells #[.int .i64 k, .int .i64 a, .int .i64 b, .string t, .slice A m c] 24)), x.val.cell? ⟨w.heap.size, 2, none⟩ = some (.int .i64 b) := fun x => by rw [x.ok.cell (by simp)]; simp
  have r3 : ∀ x : Later (w.alloc (.cells #[.int .i64 k, .int .i64 a, .int .i64 b, .string t, .slice A m c] 24)), x.val.cell? ⟨w.heap.size, 3, none⟩ = some (.string t) := fun x => by rw [x.ok.cell (by simp)]; simp
  have r4 : ∀ x : Later (w.alloc (.cells #[.int .i64 k, .int .i64 a, .int .i64 b, .string t, .slice A m c] 24)), x.val.cell? ⟨w.heap.size, 4, none⟩ = some (.slice A m c) := fun x => by rw [x.ok.cell (by simp)]; simp
  refine region_later (by kernel_rfl) (by kernel_rfl) ?_
  repeat (go_big_quiet_step (first
    | (go_at_call 13; exact Calls.later_same (hct _))
    | (go_at_call 15; exact Calls.later_same (hcm _))))
  refine wpQuiet_nil ?_
  intro w1 hw'
  obtain ⟨x, hx⟩ := hw'
  have hb1 := x.ok
  rw [← hx] at hb1
  clear hx
  go_wp2
  go_ret2
  exact ⟨((Below.refl _ _).alloc (Nat.le_refl _) _).trans (hb1.mono (by simp)), rfl⟩
set_option maxRecDepth 100000 in
set_option maxHeartbeats 4000000 in
theorem fail_mn (k a b : Int) (t : ByteArray) (h1 : 1 ≤ k) (h2 : k < 14) (hte : t.toList.isEmpty = false) (ht : t.size ≤ 100000000) (hT : textful k = true) (hw : wordL t.data.toList = true) (A : Option Addr) (m c : Nat) (w : World) (hm : manyL k m = false) : Calls Tryd.prog 7 #[agg5 k a b t A m c] w (PrintEnds none w) := by
  have hct := fun w => texts_says k w
  unfold BoolIs at hct
  rw [hT] at hct
  have hcw := fun w => word_says t w (by unfold maxLen; omega)
  rw [hw] at hcw
  have hcm := fun w => many_says k m w
  unfold BoolIs at hcm
  rw [hm] at hcm
  have e1 : decide (k < 1) = false := decide_eq_false (by omega)
  have e2 : decide (14 ≤ k) = false := decide_eq_false (by omega)
  have htn : t.toList ≠ [] := fun e => by rw [e] at hte; cases hte
  go_enter Tryd.func7, Tryd.ntmps7
  go_wp2
  have r0 : ∀ x : Later (w.alloc (.cells #[.int .i64 k, .int .i64 a, .int .i64 b, .string t, .slice A m c] 24)), x.val.cell? ⟨w.heap.size, 0, none⟩ = some (.int .i64 k) := fun x => by rw [x.ok.cell (by simp)]; simp
  have r1 : ∀ x : Later (w.alloc (.cells #[.int .i64 k, .int .i64 a, .int .i64 b, .string t, .slice A m c] 24)), x.val.cell? ⟨w.heap.size, 1, none⟩ = some (.int .i64 a) := fun x => by rw [x.ok.cell (by simp)]; simp
  have r2 : ∀ x : Later (w.alloc (.cells #[.int .i64 k, .int .i64 a, .int .i64 b, .string t, .slice A m c] 24)), x.val.cell? ⟨w.heap.size, 2, none⟩ = some (.int .i64 b) := fun x => by rw [x.ok.cell (by simp)]; simp
  have r3 : ∀ x : Later (w.alloc (.cells #[.int .i64 k, .int .i64 a, .int .i64 b, .string t, .slice A m c] 24)), x.val.cell? ⟨w.heap.size, 3, none⟩ = some (.string t) := fun x => by rw [x.ok.cell (by simp)]; simp
  have r4 : ∀ x : Later (w.alloc (.cells #[.int .i64 k, .int .i64 a, .int .i64 b, .string t, .slice A m c] 24)), x.val.cell? ⟨w.heap.size, 4, none⟩ = some (.slice A m c) := fun x => by rw [x.ok.cell (by simp)]; simp
  refine region_later (by kernel_rfl) (by kernel_rfl) ?_
  repeat (go_big_quiet_step (first
    | (go_at_call 13; exact Calls.later_same (hct _))
    | (go_at_call 14; exact Calls.later_below (hcw _))
    | (go_at_call 15; exact Calls.later_same (hcm _))))
  refine wpQuiet_nil ?_
  intro w1 hw'
  obtain ⟨x, hx⟩ := hw'
  have hb1 := x.ok
  rw [← hx] at hb1
  clear hx
  go_wp2
  go_ret2
  exact ⟨((Below.refl _ _).alloc (Nat.le_refl _) _).trans (hb1.mono (by simp)), rfl⟩
set_option maxRecDepth 100000 in
set_option maxHeartbeats 4000000 in
theorem fail_b0 (k a b : Int) (t : ByteArray) (h1 : 1 ≤ k) (h2 : k < 14) (hte : t.toList = []) (hb : b ≠ 0) (hT : textful k = false) (hN : nums k = 0) (A : Option Addr) (m c : Nat) (w : World) (hm : manyL k m = true) : Calls Tryd.prog 7 #[agg5 k a b t A m c] w (PrintEnds none w) := by
  have hct := fun w => texts_says k w
  unfold BoolIs at hct
  rw [hT] at hct
  have hcm := fun w => many_says k m w
  unfold BoolIs at hcm
  rw [hm] at hcm
  have hcn := fun w => numbers_says k w
  rw [hN] at hcn
  have hcn : ∀ w, Calls Tryd.prog 16 #[.int .i64 k] w fun e w' => e = .returned (.int .i64 0) ∧ w' = w := hcn
  have e1 : decide (k < 1) = false := decide_eq_false (by omega)
  have e2 : decide (14 ≤ k) = false := decide_eq_false (by omega)
  have hte2 : t.toList.isEmpty = true := by rw [hte]; rfl
  have eb : (b != 0) = true := by simpa using hb
  go_enter Tryd.func7, Tryd.ntmps7
  go_wp2
  have r0 : ∀ x : Later (w.alloc (.cells #[.int .i64 k, .int .i64 a, .int .i64 b, .string t, .slice A m c] 24)), x.val.cell? ⟨w.heap.size, 0, none⟩ = some (.int .i64 k) := fun x => by rw [x.ok.cell (by simp)]; simp
  have r1 : ∀ x : Later (w.alloc (.cells #[.int .i64 k, .int .i64 a, .int .i64 b, .string t, .slice A m c] 24)), x.val.cell? ⟨w.heap.size, 1, none⟩ = some (.int .i64 a) := fun x => by rw [x.ok.cell (by simp)]; simp
  have r2 : ∀ x : Later (w.alloc (.cells #[.int .i64 k, .int .i64 a, .int .i64 b, .string t, .slice A m c] 24)), x.val.cell? ⟨w.heap.size, 2, none⟩ = some (.int .i64 b) := fun x => by rw [x.ok.cell (by simp)]; simp
  have r3 : ∀ x : Later (w.alloc (.cells #[.int .i64 k, .int .i64 a, .int .i64 b, .string t, .slice A m c] 24)), x.val.cell? ⟨w.heap.size, 3, none⟩ = some (.string t) := fun x => by rw [x.ok.cell (by simp)]; simp
  have r4 : ∀ x : Later (w.alloc (.cells #[.int .i64 k, .int .i64 a, .int .i64 b, .string t, .slice A m c] 24)), x.val.cell? ⟨w.heap.size, 4, none⟩ = some (.slice A m c) := fun x => by rw [x.ok.cell (by simp)]; simp
  refine region_later (by kernel_rfl) (by kernel_rfl) ?_
  repeat (go_big_quiet_step (first
    | (go_at_call 13; exact Calls.later_same (hct _))
    | (go_at_call 15; exact Calls.later_same (hcm _))
    | (go_at_call 16; exact Calls.later_same (hcn _))))
  refine wpQuiet_nil ?_
  intro w1 hw'
  obtain ⟨x, hx⟩ := hw'
  have hb1 := x.ok
  rw [← hx] at hb1
  clear hx
  go_wp2
  go_ret2
  exact ⟨((Below.refl _ _).alloc (Nat.le_refl _) _).trans (hb1.mono (by simp)), rfl⟩
set_option maxRecDepth 100000 in
set_option maxHeartbeats 4000000 in
theorem fail_b1 (k a b : Int) (t : ByteArray) (h1 : 1 ≤ k) (h2 : k < 14) (hte : t.toList = []) (hb : b ≠ 0) (hT : textful k = false) (hN : nums k = 1) (A : Option Addr) (m c : Nat) (w : World) (hm : manyL k m = true) : Calls Tryd.prog 7 #[agg5 k a b t A m c] w (PrintEnds none w) := by
  have hct := fun w => texts_says k w
  unfold BoolIs at hct
  rw [hT] at hct
  have hcm := fun w => many_says k m w
  unfold BoolIs at hcm
  rw [hm] at hcm
  have hcn := fun w => numbers_says k w
  rw [hN] at hcn
  have hcn : ∀ w, Calls Tryd.prog 16 #[.int .i64 k] w fun e w' => e = .returned (.int .i64 1) ∧ w' = w := hcn
  have e1 : decide (k < 1) = false := decide_eq_false (by omega)
  have e2 : decide (14 ≤ k) = false := decide_eq_false (by omega)
  have hte2 : t.toList.isEmpty = true := by rw [hte]; rfl
  have eb : (b != 0) = true := by simpa using hb
  go_enter Tryd.func7, Tryd.ntmps7
  go_wp2
  have r0 : ∀ x : Later (w.alloc (.cells #[.int .i64 k, .int .i64 a, .int .i64 b, .string t, .slice A m c] 24)), x.val.cell? ⟨w.heap.size, 0, none⟩ = some (.int .i64 k) := fun x => by rw [x.ok.cell (by simp)]; simp
  have r1 : ∀ x : Later (w.alloc (.cells #[.int .i64 k, .int .i64 a, .int .i64 b, .string t, .slice A m c] 24)), x.val.cell? ⟨w.heap.size, 1, none⟩ = some (.int .i64 a) := fun x => by rw [x.ok.cell (by simp)]; simp
  have r2 : ∀ x : Later (w.alloc (.cells #[.int .i64 k, .int .i64 a, .int .i64 b, .string t, .slice A m c] 24)), x.val.cell? ⟨w.heap.size, 2, none⟩ = some (.int .i64 b) := fun x => by rw [x.ok.cell (by simp)]; simp
  have r3 : ∀ x : Later (w.alloc (.cells #[.int .i64 k, .int .i64 a, .int .i64 b, .string t, .slice A m c] 24)), x.val.cell? ⟨w.heap.size, 3, none⟩ = some (.string t) := fun x => by rw [x.ok.cell (by simp)]; simp
  have r4 : ∀ x : Later (w.alloc (.cells #[.int .i64 k, .int .i64 a, .int .i64 b, .string t, .slice A m c] 24)), x.val.cell? ⟨w.heap.size, 4, none⟩ = some (.slice A m c) := fun x => by rw [x.ok.cell (by simp)]; simp
  refine region_later (by kernel_rfl) (by kernel_rfl) ?_
  repeat (go_big_quiet_step (first
    | (go_at_call 13; exact Calls.later_same (hct _))
    | (go_at_call 15; exact Calls.later_same (hcm _))
    | (go_at_call 16; exact Calls.later_same (hcn _))))
  refine wpQuiet_nil ?_
  intro w1 hw'
  obtain ⟨x, hx⟩ := hw'
  have hb1 := x.ok
  rw [← hx] at hb1
  clear hx
  go_wp2
  go_ret2
  exact ⟨((Below.refl _ _).alloc (Nat.le_refl _) _).trans (hb1.mono (by simp)), rfl⟩
set_option maxRecDepth 100000 in
set_option maxHeartbeats 4000000 in
theorem fail_bn (k a b : Int) (t : ByteArray) (h1 : 1 ≤ k) (h2 : k < 14) (hte : t.toList.isEmpty = false) (ht : t.size ≤ 100000000) (hb : b ≠ 0) (hT : textful k = true) (hN : nums k = 1) (hw : wordL t.data.toList = true) (A : Option Addr) (m c : Nat) (w : World) (hm : manyL k m = true) : Calls Tryd.prog 7 #[agg5 k a b t A m c] w (PrintEnds none w) := by
  have hct := fun w => texts_says k w
  unfold BoolIs at hct
  rw [hT] at hct
  have hcw := fun w => word_says t w (by unfold maxLen; omega)
  rw [hw] at hcw
  have hcm := fun w => many_says k m w
  unfold BoolIs at hcm
  rw [hm] at hcm
  have hcn := fun w => numbers_says k w
  rw [hN] at hcn
  have hcn : ∀ w, Calls Tryd.prog 16 #[.int .i64 k] w fun e w' => e = .returned (.int .i64 1) ∧ w' = w := hcn
  have e1 : decide (k < 1) = false := decide_eq_false (by omega)
  have e2 : decide (14 ≤ k) = false := decide_eq_false (by omega)
  have htn : t.toList ≠ [] := fun e => by rw [e] at hte; cases hte
  have eb : (b != 0) = true := by simpa using hb
  go_enter Tryd.func7, Tryd.ntmps7
  go_wp2
  have r0 : ∀ x : Later (w.alloc (.cells #[.int .i64 k, .int .i64 a, .int .i64 b, .string t, .slice A m c] 24)), x.val.cell? ⟨w.heap.size, 0, none⟩ = some (.int .i64 k) := fun x => by rw [x.ok.cell (by simp)]; simp
  have r1 : ∀ x : Later (w.alloc (.cells #[.int .i64 k, .int .i64 a, .int .i64 b, .string t, .slice A m c] 24)), x.val.cell? ⟨w.heap.size, 1, none⟩ = some (.int .i64 a) := fun x => by rw [x.ok.cell (by simp)]; simp
  have r2 : ∀ x : Later (w.alloc (.cells #[.int .i64 k, .int .i64 a, .int .i64 b, .string t, .slice A m c] 24)), x.val.cell? ⟨w.heap.size, 2, none⟩ = some (.int .i64 b) := fun x => by rw [x.ok.cell (by simp)]; simp
  have r3 : ∀ x : Later (w.alloc (.cells #[.int .i64 k, .int .i64 a, .int .i64 b, .string t, .slice A m c] 24)), x.val.cell? ⟨w.heap.size, 3, none⟩ = some (.string t) := fun x => by rw [x.ok.cell (by simp)]; simp
  have r4 : ∀ x : Later (w.alloc (.cells #[.int .i64 k, .int .i64 a, .int .i64 b, .string t, .slice A m c] 24)), x.val.cell? ⟨w.heap.size, 4, none⟩ = some (.slice A m c) := fun x => by rw [x.ok.cell (by simp)]; simp
  refine region_later (by kernel_rfl) (by kernel_rfl) ?_
  repeat (go_big_quiet_step (first
    | (go_at_call 13; exact Calls.later_same (hct _))
    | (go_at_call 14; exact Calls.later_below (hcw _))
    | (go_at_call 15; exact Calls.later_same (hcm _))
    | (go_at_call 16; exact Calls.later_same (hcn _))))
  refine wpQuiet_nil ?_
  intro w1 hw'
  obtain ⟨x, hx⟩ := hw'
  have hb1 := x.ok
  rw [← hx] at hb1
  clear hx
  go_wp2
  go_ret2
  exact ⟨((Below.refl _ _).alloc (Nat.le_refl _) _).trans (hb1.mono (by simp)), rfl⟩
set_option maxRecDepth 100000 in
set_option maxHeartbeats 4000000 in
theorem fail_a (k a : Int) (t : ByteArray) (h1 : 1 ≤ k) (h2 : k < 14) (hte : t.toList = []) (ha : a ≠ 0) (hT : textful k = false) (hN : nums k = 0) (A : Option Addr) (m c : Nat) (w : World) (hm : manyL k m = true) : Calls Tryd.prog 7 #[agg5 k a 0 t A m c] w (PrintEnds none w) := by
  have hct := fun w => texts_says k w
  unfold BoolIs at hct
  rw [hT] at hct
  have hcm := fun w => many_says k m w
  unfold BoolIs at hcm
  rw [hm] at hcm
  have hcn := fun w => numbers_says k w
  rw [hN] at hcn
  have hcn : ∀ w, Calls Tryd.prog 16 #[.int .i64 k] w fun e w' => e = .returned (.int .i64 0) ∧ w' = w := hcn
  have e1 : decide (k < 1) = false := decide_eq_false (by omega)
  have e2 : decide (14 ≤ k) = false := decide_eq_false (by omega)
  have hte2 : t.toList.isEmpty = true := by rw [hte]; rfl
  have ea : (a != 0) = true := by simpa using ha
  go_enter Tryd.func7, Tryd.ntmps7
  go_wp2
  have r0 : ∀ x : Later (w.alloc (.cells #[.int .i64 k, .int .i64 a, .int .i64 0, .string t, .slice A m c] 24)), x.val.cell? ⟨w.heap.size, 0, none⟩ = some (.int .i64 k) := fun x => by rw [x.ok.cell (by simp)]; simp
  have r1 : ∀ x : Later (w.alloc (.cells #[.int .i64 k, .int .i64 a, .int .i64 0, .string t, .slice A m c] 24)), x.val.cell? ⟨w.heap.size, 1, none⟩ = some (.int .i64 a) := fun x => by rw [x.ok.cell (by simp)]; simp
  have r2 : ∀ x : Later (w.alloc (.cells #[.int .i64 k, .int .i64 a, .int .i64 0, .string t, .slice A m c] 24)), x.val.cell? ⟨w.heap.size, 2, none⟩ = some (.int .i64 0) := fun x => by rw [x.ok.cell (by simp)]; simp
  have r3 : ∀ x : Later (w.alloc (.cells #[.int .i64 k, .int .i64 a, .int .i64 0, .string t, .slice A m c] 24)), x.val.cell? ⟨w.heap.size, 3, none⟩ = some (.string t) := fun x => by rw [x.ok.cell (by simp)]; simp
  have r4 : ∀ x : Later (w.alloc (.cells #[.int .i64 k, .int .i64 a, .int .i64 0, .string t, .slice A m c] 24)), x.val.cell? ⟨w.heap.size, 4, none⟩ = some (.slice A m c) := fun x => by rw [x.ok.cell (by simp)]; simp
  refine region_later (by kernel_rfl) (by kernel_rfl) ?_
  repeat (go_big_quiet_step (first
    | (go_at_call 13; exact Calls.later_same (hct _))
    | (go_at_call 15; exact Calls.later_same (hcm _))
    | (go_at_call 16; exact Calls.later_same (hcn _))))
  refine wpQuiet_nil ?_
  intro w1 hw'
  obtain ⟨x, hx⟩ := hw'
  have hb1 := x.ok
  rw [← hx] at hb1
  clear hx
  go_wp2
  go_ret2
  exact ⟨((Below.refl _ _).alloc (Nat.le_refl _) _).trans (hb1.mono (by simp)), rfl⟩
end Go.Proofs.YtkmpnfploplpfaaDoor
