/- A part of the proof of DeedOnly: Law. -/
import Derived.Test.YtkmpnfploplpfaaDoorDdLined
import Derived.Test.YtkmpnfploplpfaaDoorDdGood
set_option linter.unusedVariables false
set_option linter.unusedSimpArgs false
namespace Go.Proofs.YtkmpnfploplpfaaDoor
open Go.RowKit Go.Deed Go.RowG
attribute [local go_sem ↓] Go.wp_at_zero Go.wp_at_succ
set_option linter.unusedVariables false
set_option maxHeartbeats 1000000 in
theorem only_says (s : ByteArray) (w : World) (hE : Env w) : Calls Tryd.prog 4 #[.string s] w (fun e w' => e = .returned (.bool true) ∧ Below w.heap.size w w') := by
  have hlin := lined_says w hE
  have HE := Lib.hid hE
  clear hE
  by_cases hs : s.size ≤ 300
  · have hgt : decide ((300 : Int) < s.size) = false := decide_eq_false (by omega)
    have hpar : ∀ w2, Below w.heap.size w w2 → Calls Tryd.prog 8 #[.string s] w2 (ParseEnds (parseL s.data.toList) w2) := fun w2 hb => Parse_says s w2 hs (HE.out.keep hb)
    have HP := Lib.hid hpar
    clear hpar
    cases hd : parseL s.data.toList with
    | none =>
      go_enter Tryd.func4, Tryd.ntmps4
      go_wp2_with (first
        | (go_at_call 6; (with_reducible refine hlin.mono ?_); rintro e w2 ⟨rfl, hb2⟩
           have hp := HP.out w2 hb2
           rw [hd] at hp)
        | (go_at_call 8; (with_reducible refine hp.mono ?_); rintro e w3 ⟨hb3, rfl⟩))
      go_ret
      exact ⟨rfl, (hb2.trans (hb3.mono hb2.size)).alloc (by have := hb2.size; have := hb3.size; omega) _⟩
    | some d =>
      obtain ⟨h1, h2, h3, h4, h5⟩ := parse_gd (by simpa using hs) hd
      have hpr := parse_print hd
      obtain ⟨k, a, b, t, args⟩ := d
      simp only at h1 h2 h3 h4 h5
      obtain ⟨m, hm⟩ : ∃ m, m = args.len := ⟨_, rfl⟩
      have hprint : ∀ (w4 : World) (A : Option Addr) (c : Nat), Below w.heap.size w w4 → RowAt w4 (lt w4) A args → m ≤ c → c ≤ maxLen → Calls Tryd.prog 7 #[agg5 k a b (toB t) A m c] w4 fun e w' => e = .returned (.tuple #[.string s, .int .i64 0]) ∧ Below w4.heap.size w4 w' := fun w4 A c hb hrow hc1 hc2 => by
        have := Print_says k a b (toB t) args A c w4 (by rw [toB_size]; omega) h1 h2 (HE.out.keep hb) hrow (by rw [← hm]; exact hc1) hc2 h4 (by omega)
        rw [toB_list, hpr, ← hm] at this
        refine this.mono fun e w' ⟨hb, he⟩ => ⟨?_, hb⟩
        rw [he, toB_of]
      have HPR := Lib.hid hprint
      have HM := Lib.hid hm
      clear hprint hm hpr h1 h2 h3 h4 h5
      go_enter Tryd.func4, Tryd.ntmps4
      go_wp2_with (first
        | (go_at_call 6; (with_reducible refine hlin.mono ?_); rintro e w2 ⟨rfl, hb2⟩
           have hp := HP.out w2 hb2
           rw [hd] at hp
           unfold ParseEnds at hp
           simp only [← HM.out] at hp)
        | (go_at_call 8; (with_reducible refine hp.mono ?_); rintro e w3 ⟨hb3, A, c, rfl, hrow, hc, hcm⟩
           have hbs := hb2.size
           have hb3s := hb3.size
           have hk := HPR.out (w3.alloc (.cells #[.int .i64 k, .int .i64 a, .int .i64 b, .string (toB t), .slice A m c] 24)) A c ((hb2.trans (hb3.mono hbs)).alloc (by omega) _) (hrow.keep (fun b hb => by have := hb.2; simp; omega) fun p hp => World.cell?_of_block (Below.heap_alloc _ _ _ hp.2)) hc hcm)
        | (go_at_call 7; (with_reducible refine hk.mono ?_); rintro e w4 ⟨rfl, hb4⟩))
      go_ret
      exact ⟨rfl, ((hb2.trans (hb3.mono hbs)).alloc (by omega) _).trans (hb4.mono (by simp; omega))⟩
  · have hgt : decide ((300 : Int) < s.size) = true := decide_eq_true (by omega)
    go_enter Tryd.func4, Tryd.ntmps4
    go_wp2_with (first
      | (go_at_call 6; (with_reducible refine hlin.mono ?_); rintro e w2 ⟨rfl, hb2⟩))
    go_ret
    exact ⟨rfl, hb2⟩
end Go.Proofs.YtkmpnfploplpfaaDoor
