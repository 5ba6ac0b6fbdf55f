/- A part of the proofs of the laws of the deeds: Back. -/
import Derived.Test.YtkmpnfploplpfaaDoorDdLined
import Derived.Test.YtkmpnfploplpfaaDoorDdLong
set_option linter.unusedVariables false
set_option linter.unusedSimpArgs false
namespace Go.Proofs.YtkmpnfploplpfaaDoor
open Go.RowKit Go.Deed Go.RowG
attribute [local go_sem ↓] Go.wp_at_zero Go.wp_at_succ
set_option linter.unusedVariables false
set_option maxRecDepth 100000
set_option maxHeartbeats 2000000

theorem back_says (k a b : Int) (t : ByteArray) (args : F) (A : Option Addr) (c : Nat) (w : World) (hE : Env w) (hrow : RowAt w (lt w) A args) (hc : args.len ≤ c) (hcm : c ≤ maxLen) (ha : R64 a) (hb : R64 b) (hr : Rng args) (hwt : wt args ≤ 10000000) :
    Calls Tryd.prog 3 #[agg5 k a b t A args.len c] w (fun e w' => e = .returned (.bool true) ∧ Below w.heap.size w w') := by
  have hlin : ∀ o : Obj, Calls Tryd.prog 6 #[] (w.alloc o) (fun e w' => e = .returned (.bool true) ∧ Below (w.alloc o).heap.size (w.alloc o) w') := fun o => lined_says (w.alloc o) (hE.keep ((Below.refl _ _).alloc (Nat.le_refl _) o))
  have HE := Lib.hid hE
  clear hE
  obtain ⟨m, hm⟩ : ∃ m, m = args.len := ⟨_, rfl⟩
  have hml : m ≤ 10000000 := by have := len_wt args; omega
  by_cases ht : t.size ≤ 100
  · have hg1 : decide ((100 : Int) < t.size) = false := decide_eq_false (by omega)
    by_cases hm20 : m ≤ 20
    · have hg2 : decide ((20 : Int) < (m : Int)) = false := decide_eq_false (by omega)
      have hpr : ∀ w2, Below w.heap.size w w2 → Calls Tryd.prog 7 #[agg5 k a b t A m c] w2 (PrintEnds (printL ⟨k, a, b, t.data.toList, args⟩) w2) := fun w2 hb2 => by
        rw [hm]
        exact Print_says k a b t args A c w2 (by omega) ha hb (HE.out.keep hb2) (hrow.below hb2) hc hcm hr (by omega)
      have HPR := Lib.hid hpr
      clear hpr
      cases hd : printL ⟨k, a, b, t.data.toList, args⟩ with
      | none =>
        rw [← hm]
        clear hrow hc hm hr hwt
        go_enter Tryd.func3, Tryd.ntmps3
        go_wp2_with (first
          | (go_at_call 6; (with_reducible refine (hlin _).mono ?_); rintro e w2 ⟨rfl, hb2⟩
             have hz := Own5.keep (heap_alloc_new w (.cells #[.int .i64 k, .int .i64 a, .int .i64 b, .string t, .slice A m c] 24)) hb2
             obtain ⟨⟨z0, z1, z2, z3, z4⟩, q0, q1, q2, q3, q4⟩ := hz.cells
             have hb2' : Below w.heap.size w w2 := ((Below.refl _ _).alloc (Nat.le_refl _) _).trans (hb2.mono (by simp))
             have hp := HPR.out w2 hb2'
             rw [hd] at hp)
          | (go_at_call 7; (with_reducible refine hp.mono ?_); rintro e w3 ⟨hb3, rfl⟩))
        go_ret
        exact ⟨rfl, hb2'.trans (hb3.mono hb2'.size)⟩
      | some s =>
        have hps := print_parse hd ha hb hr
        have hpb := print_bare ⟨k, a, b, t.data.toList, args⟩
        rw [hd] at hpb
        have hsl := print_len hd ha hb hr
        have htl : t.data.toList.length = t.size := by simp
        simp only at hps hpb hsl
        obtain ⟨bs, hbs⟩ : ∃ bs, bs = bareF args := ⟨_, rfl⟩
        have hbl : m = bs.len := by rw [hbs, bareF_len, hm]
        have hbr : Rng bs := by rw [hbs]; exact rng_bare args hr
        have hbw : wt bs ≤ 10000000 := by rw [hbs]; exact Nat.le_trans (wt_bare args) hwt
        rw [← hbs] at hps hpb
        have hpar : ∀ w2, Below w.heap.size w w2 → Calls Tryd.prog 8 #[.string (toB s)] w2 (ParseEnds (some ⟨k, a, b, t.data.toList, bs⟩) w2) := fun w2 hb2 => by
          have := Parse_says (toB s) w2 (by rw [toB_size]; omega) (HE.out.keep hb2)
          rw [toB_list, hps] at this
          exact this
        have hpr2 : ∀ (w4 : World) (A2 : Option Addr) (c2 : Nat), Below w.heap.size w w4 → RowAt w4 (lt w4) A2 bs → m ≤ c2 → c2 ≤ maxLen → Calls Tryd.prog 7 #[agg5 k a b t A2 m c2] w4 (PrintEnds (some s) w4) := fun w4 A2 c2 hb4 hrow4 h1 h2 => by
          have := Print_says k a b t bs A2 c2 w4 (by omega) ha hb (HE.out.keep hb4) hrow4 (by omega) h2 hbr (by omega)
          rw [hpb, ← hbl] at this
          exact this
        have HP2 := Lib.hid hpr2
        have HPA := Lib.hid hpar
        have HBL := Lib.hid hbl
        rw [← hm]
        clear hrow hc hm hr hwt hpr2 hpar hps hpb hsl hbl hbr hbw hbs htl
        go_enter Tryd.func3, Tryd.ntmps3
        go_wp2_with (first
          | (go_at_call 6; (with_reducible refine (hlin _).mono ?_); rintro e w2 ⟨rfl, hb2⟩
             have hz := Own5.keep (heap_alloc_new w (.cells #[.int .i64 k, .int .i64 a, .int .i64 b, .string t, .slice A m c] 24)) hb2
             obtain ⟨⟨z0, z1, z2, z3, z4⟩, q0, q1, q2, q3, q4⟩ := hz.cells
             have hb2' : Below w.heap.size w w2 := ((Below.refl _ _).alloc (Nat.le_refl _) _).trans (hb2.mono (by simp))
             have hp := HPR.out w2 hb2'
             rw [hd] at hp
             unfold PrintEnds at hp
             clear hd)
          | (go_at_call 7; (with_reducible refine hp.mono ?_); rintro e w3 ⟨hb3, rfl⟩
             clear hp
             have hz3 := hz.keep hb3
             have hb3' : Below w.heap.size w w3 := hb2'.trans (hb3.mono hb2'.size)
             have hpa := HPA.out w3 hb3'
             unfold ParseEnds at hpa
             simp only [← HBL.out, toB_of] at hpa
             clear z0 z1 z2 z3 z4 q0 q1 q2 q3 q4)
          | (go_at_call 8; (with_reducible refine hpa.mono ?_); rintro e w4 ⟨hb4, A4, c4, rfl, hrow4, hc4, hcm4⟩
             clear hpa
             have hz4 := (hz3.keep hb4).alloc (.cells #[.int .i64 k, .int .i64 a, .int .i64 b, .string t, .slice A4 m c4] 24)
             have hb4' : Below w.heap.size w (w4.alloc (.cells #[.int .i64 k, .int .i64 a, .int .i64 b, .string t, .slice A4 m c4] 24)) := (hb3'.trans (hb4.mono hb3'.size)).alloc (by have := hb4.size; have := hb3'.size; omega) _
             have hx4 : Own5 (w4.alloc (.cells #[.int .i64 k, .int .i64 a, .int .i64 b, .string t, .slice A4 m c4] 24)) w4.heap.size _ _ _ _ _ := heap_alloc_new w4 (.cells #[.int .i64 k, .int .i64 a, .int .i64 b, .string t, .slice A4 m c4] 24)
             have hk := HP2.out (w4.alloc (.cells #[.int .i64 k, .int .i64 a, .int .i64 b, .string t, .slice A4 m c4] 24)) A4 c4 hb4' (hrow4.keep (fun b hb => by have := hb.2; simp; omega) fun p hp => World.cell?_of_block (Below.heap_alloc _ _ _ hp.2)) hc4 hcm4
             unfold PrintEnds at hk)
          | (go_at_call 7; (with_reducible refine hk.mono ?_); rintro e w5 ⟨hb5, rfl⟩
             obtain ⟨⟨z0, z1, z2, z3, z4⟩, q0, q1, q2, q3, q4⟩ := (hz4.keep hb5).cells
             obtain ⟨⟨x0, x1, x2, x3, x4⟩, y0, y1, y2, y3, y4⟩ := (hx4.keep hb5).cells))
        go_ret
        exact ⟨rfl, hb4'.trans (hb5.mono hb4'.size)⟩
    · have hg2 : decide ((20 : Int) < (m : Int)) = true := decide_eq_true (by omega)
      rw [← hm]
      clear hrow hc hm hr hwt
      go_enter Tryd.func3, Tryd.ntmps3
      go_wp2_with (first
        | (go_at_call 6; (with_reducible refine (hlin _).mono ?_); rintro e w2 ⟨rfl, hb2⟩
           have hz := Own5.keep (heap_alloc_new w (.cells #[.int .i64 k, .int .i64 a, .int .i64 b, .string t, .slice A m c] 24)) hb2
           obtain ⟨⟨z0, z1, z2, z3, z4⟩, q0, q1, q2, q3, q4⟩ := hz.cells))
      go_ret
      exact ⟨rfl, ((Below.refl _ _).alloc (Nat.le_refl _) _).trans (hb2.mono (by simp))⟩
  · have hg1 : decide ((100 : Int) < t.size) = true := decide_eq_true (by omega)
    rw [← hm]
    clear hrow hc hm hr hwt
    go_enter Tryd.func3, Tryd.ntmps3
    go_wp2_with (first
      | (go_at_call 6; (with_reducible refine (hlin _).mono ?_); rintro e w2 ⟨rfl, hb2⟩
         have hz := Own5.keep (heap_alloc_new w (.cells #[.int .i64 k, .int .i64 a, .int .i64 b, .string t, .slice A m c] 24)) hb2
         obtain ⟨⟨z0, z1, z2, z3, z4⟩, q0, q1, q2, q3, q4⟩ := hz.cells))
    go_ret
    exact ⟨rfl, ((Below.refl _ _).alloc (Nat.le_refl _) _).trans (hb2.mono (by simp))⟩
end Go.Proofs.YtkmpnfploplpfaaDoor
