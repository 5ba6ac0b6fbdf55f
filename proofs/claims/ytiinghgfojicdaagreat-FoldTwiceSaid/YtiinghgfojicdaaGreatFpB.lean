/- A part of the proof of FoldTwice: dice.expr and dice.body. No conditions. -/
import Derived.Test.YtiinghgfojicdaaGreatFoU
import Derived.Test.YtiinghgfojicdaaGreatFoV
import Derived.Test.YtiinghgfojicdaaGreatFoW
import Derived.Test.YtiinghgfojicdaaGreatFoX
import Derived.Test.YtiinghgfojicdaaGreatFoZ
import Derived.Test.YtiinghgfojicdaaGreatFpA
set_option linter.unusedVariables false
set_option linter.unusedSimpArgs false
namespace Go.Proofs.YtiinghgfojicdaaGreat
open Go.RowKit Go.RowG Go.FRow Go.GMem
set_option linter.unusedVariables false
attribute [local go_sem ↓] Go.wp_at_zero Go.wp_at_succ
theorem ExGen.more {g n c k R N R' N' : Nat} {A : Option Addr} {b : Bool} {w w' : World} {e : Ending} (h : ExGen g A n c k b R N w e w') (hR : R ≤ R') (hN : N ≤ N') : ExGen g A n c k b R' N' w e w' := by
  obtain ⟨E, q, k', h1, h2, h3, h4, h5, h6, h7⟩ := h
  exact ⟨E, q, k', h1, h2, by omega, h4, by omega, h6, h7⟩
set_option maxRecDepth 100000 in
set_option maxHeartbeats 4000000 in
theorem expr_low (g : Nat) (A : Option Addr) (n c : Nat) (w0 : World) (hC : Rolls1 g A n c w0) (dp : Int) (hlo : dp < 1) (b : Bool) (k : Nat) (w : World) (hW : Rolled g w0 w) (hd : Dice w g A n c k b) (hk : k + 2 ≤ 100000) :
    Calls Tryz.prog 38 #[.pointer (some ⟨g, 0, none⟩), .int .i64 dp] w (ExGen g A n c k b 2 1 w) := by
  have hgl := hd.lt
  have hdec : decide (dp < 1) = true := decide_eq_true hlo
  have hleaf : ∀ o : Obj, Calls Tryz.prog 70 #[.pointer (some ⟨g, 0, none⟩)] (w.alloc o) (ExGen g A n c k b 2 1 (w.alloc o)) := fun o => leaf_says g A n c b w0 hC.toRolls k (w.alloc o) (hW.alloc o) (hd.alloc o) hk
  clear hd hC
  go_enter Tryz.func38, Tryz.ntmps38
  go_wp2_with (first
    | (go_at_call 70
       (with_reducible refine (hleaf _).mono ?_)
       rintro e w2 ⟨E2, q2, k2, rfl, hq2, hn2, hs2, hk2, hd2, hr2⟩
       have ho : Own8 w2 w.heap.size 50 (.int .i64 0) (.int .i64 0) (.string ⟨#[]⟩) (.slice none 0 0) (.slice none 0 0) (.slice none 0 0) (.slice none 0 0) (.int .i64 0) := Own8.rolled (w := w.alloc (.cells #[.int .i64 0, .int .i64 0, .string ⟨#[]⟩, .slice none 0 0, .slice none 0 0, .slice none 0 0, .slice none 0 0, .int .i64 0] 50)) (heap_alloc_new w _) hr2 (by omega)
       have hw2 : Rolled g w w2 := (Rolled.of_below ((Below.refl _ _).alloc (Nat.le_refl _) _)).trans hr2
       obtain ⟨⟨r0, r1, r2, r3, r4, r5, r6, r7⟩, s0, s1, s2, s3, s4, s5, s6, s7⟩ := own_eight ho)
    | fail "none")
  refine bodyPost_ret (v := agg8 E2 q2) (by simp [results, Tryz.results38, go_sem, agg8, *]) rfl ?_
  exact gen_close hw2 hgl rfl hd2 hk2 (hq2.mono fun b hb => ⟨by have := hb.1; simp at this; omega, hb.2⟩) hn2 hs2 _ _ _ _ _ _ _ _
theorem expr_step (g : Nat) (A : Option Addr) (n c : Nat) (w0 : World) (hC : Rolls1 g A n c w0) (dp dq : Int) (hge : 1 ≤ dp) (hdq : IntKind.i64.wrap (dp - 1) = dq) (R N : Nat) (hE : ExprAt g A n c w0 dq R N) : ExprAt g A n c w0 dp (4 * R + 46) (4 * N + 46) := by
  intro b k w hW hd hk
  obtain ⟨p, k2, hp, hk2, hroll⟩ := hC.roll1 _ b k 25 ((hW.alloc (.cells #[.int .i64 0, .int .i64 0, .string ⟨#[]⟩, .slice none 0 0, .slice none 0 0, .slice none 0 0, .slice none 0 0, .int .i64 0] 50)).alloc (.cells #[.int .i64 8, .int .i64 8, .int .i64 8, .int .i64 7, .int .i64 6, .int .i64 6, .int .i64 9, .int .i64 9, .int .i64 10, .int .i64 11, .int .i64 12, .int .i64 12, .int .i64 13, .int .i64 14, .int .i64 15, .int .i64 17, .int .i64 18, .int .i64 19, .int .i64 20, .int .i64 20, .int .i64 21, .int .i64 22, .int .i64 23, .int .i64 24, .int .i64 25] 3)) ((hd.alloc _).alloc _) (by omega) (by omega) (by omega)
  have hlen : kinds.length = 25 := rfl
  obtain ⟨K, hK⟩ : ∃ K, kinds[p]? = some K := ⟨_, List.getElem?_eq_getElem (by omega)⟩
  have hmem : K ∈ kinds := List.mem_of_getElem? hK
  by_cases h8 : K = 8
  · subst h8; exact ex_op g A n c w0 hC dp dq hge hdq R N hE b k p k2 w hW hd hk hp hk2 hK hroll
  by_cases h7 : K = 7
  · subst h7; exact ex_if g A n c w0 hC dp dq hge hdq R N hE b k p k2 w hW hd hk hp hk2 hK hroll
  by_cases h6 : K = 6
  · subst h6; exact ex_let g A n c w0 hC dp dq hge hdq R N hE b k p k2 w hW hd hk hp hk2 hK hroll
  by_cases h9 : K = 9
  · subst h9; exact ex_call g A n c w0 hC dp dq hge hdq R N hE b k p k2 w hW hd hk hp hk2 hK hroll
  by_cases h10 : K = 10
  · subst h10; exact ex_fun g A n c w0 hC dp dq hge hdq R N hE b k p k2 w hW hd hk hp hk2 hK hroll
  by_cases h11 : K = 11
  · subst h11; exact ex_apply g A n c w0 hC dp dq hge hdq R N hE b k p k2 w hW hd hk hp hk2 hK hroll
  by_cases h12 : K = 12
  · subst h12; exact ex_make g A n c w0 hC dp dq hge hdq R N hE b k p k2 w hW hd hk hp hk2 hK hroll
  by_cases h13 : K = 13
  · subst h13; exact ex_match g A n c w0 hC dp dq hge hdq R N hE b k p k2 w hW hd hk hp hk2 hK hroll
  by_cases h14 : K = 14
  · subst h14; exact ex_spawn g A n c w0 hC dp dq hge hdq R N hE b k p k2 w hW hd hk hp hk2 hK hroll
  by_cases h17 : K = 17
  · subst h17; exact ex_become g A n c w0 hC dp dq hge hdq R N hE b k p k2 w hW hd hk hp hk2 hK hroll
  by_cases h18 : K = 18
  · subst h18; exact ex_recv g A n c w0 hC dp dq hge hdq R N hE b k p k2 w hW hd hk hp hk2 hK hroll
  by_cases h15 : K = 15
  · subst h15; exact ex_send g A n c w0 hC dp dq hge hdq R N hE b k p k2 w hW hd hk hp hk2 hK hroll
  by_cases h23 : K = 23
  · subst h23; exact ex_put g A n c w0 hC dp dq hge hdq R N hE b k p k2 w hW hd hk hp hk2 hK hroll
  exact ex_d g A n c w0 hC dp dq hge hdq R N hE b k p k2 w hW hd hk hp hk2 K hK (by simpa using h8) (by simpa using h7) (by simpa using h6) (by simpa using h9) (by simpa using h10) (by simpa using h11) (by simpa using h12) (by simpa using h13) (by simpa using h14) (by simpa using h17) (by simpa using h18) (by simpa using h15) (by simpa using h23) hroll
def rollsE : Nat → Nat
  | 0 => 2
  | d + 1 => 4 * rollsE d + 46
def sizesE : Nat → Nat
  | 0 => 1
  | d + 1 => 4 * sizesE d + 46
/-- An expression of numbers, as deep as d. -/
theorem expr_says (g : Nat) (A : Option Addr) (n c : Nat) (w0 : World) (hC : Rolls1 g A n c w0) : ∀ d : Nat, d ≤ 100 → ExprAt g A n c w0 (d : Int) (rollsE d) (sizesE d)
  | 0, _ => fun b k w hW hd hk => expr_low g A n c w0 hC 0 (by omega) b k w hW hd hk
  | d + 1, hd1 => expr_step g A n c w0 hC ((d + 1 : Nat) : Int) (d : Int) (by omega) (wrap_pred d (by omega)) (rollsE d) (sizesE d) (expr_says g A n c w0 hC d (by omega))
end Go.Proofs.YtiinghgfojicdaaGreat
namespace Go.Proofs.YtiinghgfojicdaaGreat
open Go.RowKit Go.RowG Go.FRow Go.GMem
set_option linter.unusedVariables false
attribute [local go_sem ↓] Go.wp_at_zero Go.wp_at_succ
theorem rollsE_few : ∀ d : Nat, d ≤ 4 → rollsE d ≤ 5000
  | 0, _ => by decide
  | 1, _ => by decide
  | 2, _ => by decide
  | 3, _ => by decide
  | 4, _ => by decide
  | d + 5, h => by omega
theorem sizesE_few : ∀ d : Nat, d ≤ 4 → sizesE d ≤ 5000
  | 0, _ => by decide
  | 1, _ => by decide
  | 2, _ => by decide
  | 3, _ => by decide
  | 4, _ => by decide
  | d + 5, h => by omega
set_option maxRecDepth 100000 in
set_option maxHeartbeats 8000000 in
theorem body_says (g : Nat) (A : Option Addr) (n c : Nat) (b : Bool) (w0 : World) (hC : Rolls1 g A n c w0) (w : World) (hW : Rolled g w0 w) (hd : Dice w g A n c 0 b) :
    Calls Tryz.prog 18 #[.pointer (some ⟨g, 0, none⟩), .int .i64 4] w (ExGen g A n c 0 b 30000 400 w) := by
  have hgl := hd.lt
  have HC := Lib.hid hC
  clear hC
  obtain ⟨W1, hW1⟩ : ∃ W1, W1 = w.alloc (.cells #[.int .i64 0, .int .i64 0, .string ⟨#[]⟩, .slice none 0 0, .slice none 0 0, .slice none 0 0, .slice none 0 0, .int .i64 0] 50) := ⟨_, rfl⟩
  have hR1 : Rolled g w W1 := by rw [hW1]; exact (Rolled.refl _ _).alloc _
  have hD1 : Dice W1 g A n c 0 b := by rw [hW1]; exact hd.alloc _
  have ho1 : Own8 W1 w.heap.size 50 (.int .i64 0) (.int .i64 0) (.string ⟨#[]⟩) (.slice none 0 0) (.slice none 0 0) (.slice none 0 0) (.slice none 0 0) (.int .i64 0) := by rw [hW1]; exact heap_alloc_new w _
  have HW1 := Lib.hid hW1
  clear hW1 hd
  go_enter Tryz.func18, Tryz.ntmps18
  go_wp2
  rw [← HW1.out]
  go_loopw [1] (fun v wr => ∃ d k' : Nat, d ≤ 4 ∧ v = .int .i64 d ∧ k' + 5000 * d ≤ 20000 ∧ Own8 wr w.heap.size 50 (.int .i64 0) (.int .i64 0) (.string ⟨#[]⟩) (.slice none 0 0) (.slice none 0 0) (.slice none 0 0) (.slice none 0 0) (.int .i64 0) ∧ Dice wr g A n c k' b ∧ Rolled g w wr) (fun v _ => (intOf v).toNat)
  case atStart => exact ⟨4, 0, by omega, rfl, by omega, ho1, hD1, hR1⟩
  case round =>
    obtain ⟨d, k', hd4, rfl, hk', hor, hdr, hRr⟩ := hrel
    have hr5 := rollsE_few d hd4
    have hs5 := sizesE_few d hd4
    have hcall : Calls Tryz.prog 38 #[.pointer (some ⟨g, 0, none⟩), .int .i64 (d : Int)] wr (ExGen g A n c k' b (rollsE d) (sizesE d) wr) := expr_says g A n c w0 HC.out d (by omega) b k' wr (hW.trans hRr) hdr (by omega)
    have hrs := hRr.size
    go_wp2_with (first
      | (go_at_call 38
         (with_reducible refine hcall.mono ?_)
         rintro e w5 ⟨E5, q5, k5, rfl, hq5, hn5, hsm5, hk5, hd5, hr5'⟩
         obtain ⟨W6, hW6⟩ : ∃ W6, W6 = w5.alloc (.cells (eight E5 q5).toArray 50) := ⟨_, rfl⟩
         have hz6 : Own8 W6 w5.heap.size 50 (.int .i64 E5.h.k) (.int .i64 E5.h.n) (.string E5.h.t) (.slice q5.a1 E5.h.ns.length q5.c1) (.slice q5.a2 E5.h.m q5.c2) (.slice q5.a3 E5.args.len q5.c3) (.slice q5.a4 E5.arms.len q5.c4) (.int .i64 0) := by rw [hW6]; exact heap_alloc_new w5 _
         have hb6 : Below w5.heap.size w5 W6 := by rw [hW6]; exact (Below.refl _ _).alloc (Nat.le_refl _) _
         have hR6 : Rolled g w W6 := (hRr.trans hr5').trans (Rolled.of_below hb6)
         have ho6 : Own8 W6 w.heap.size 50 _ _ _ _ _ _ _ _ := (hor.rolled hr5' (by omega)).keep hb6
         have hd6 : Dice W6 g A n c k5 b := hd5.keep hb6
         have hq6 : EIs W6 (since wr.heap.size w5) E5 q5 := hq5.keep (fun _ h => h) fun p hp => hb6.cell hp.2
         have hsz := size_says E5 q5 W6 (hq6.mono fun b hb => Nat.lt_of_lt_of_le hb.2 hb6.size) (by omega)
         have hW6s := hb6.size
         have hw5s := hr5'.size
         obtain ⟨z0, z1, z2, z3, z4, z5, z6, z7⟩ := eight_at hz6
         have HW6 := Lib.hid hW6
         rw [hW6] at hsz z0 z1 z2 z3 z4 z5 z6 z7
         simp only [agg8, eight] at hsz z0 z1 z2 z3 z4 z5 z6 z7
         clear hcall hr5' hd5)
      | (go_at_call 21
         (with_reducible refine hsz.mono ?_)
         rintro e w7 ⟨rfl, hb7⟩
         have hb67 : Below W6.heap.size W6 w7 := by
           rw [HW6.out]
           exact hb7
         have ho7 := ho6.keep hb67
         have hz7 := hz6.keep hb67
         clear z0 z1 z2 z3 z4 z5 z6 z7
         obtain ⟨z0, z1, z2, z3, z4, z5, z6, z7⟩ := eight_at hz7
         obtain ⟨⟨r0, r1, r2, r3, r4, r5, r6, r7⟩, s0, s1, s2, s3, s4, s5, s6, s7⟩ := own_eight ho7
         obtain ⟨sz, hszv⟩ : ∃ sz, sz = E5.size := ⟨_, rfl⟩
         rw [← hszv])
      | fail "none")
    · have hle : (E5.size : Int) ≤ 400 := by assumption
      have hwl := hor.lt
      refine bodyPost_ret (v := agg8 E5 q5) (by simp [results, Tryz.results18, go_sem, agg8, *]) rfl ?_
      exact gen_close (hR6.trans (Rolled.of_below hb67)) hgl rfl (hd6.keep hb67) (by omega) (hq6.keep (fun b hb => ⟨by have := hb.1; omega, by have := hb.2; have := hb67.size; omega⟩) fun p hp => hb67.cell (Nat.lt_of_lt_of_le hp.2 hW6s)) (by omega) hsm5 _ _ _ _ _ _ _ _
    · have hgt : 400 < (E5.size : Int) := by assumption
      have hd0 : d ≠ 0 := by
        rintro rfl
        have : sizesE 0 = 1 := rfl
        omega
      refine ⟨⟨d - 1, k5, by omega, by congr 1; omega, by omega, ho7, hd6.keep hb67, hR6.trans (Rolled.of_below hb67)⟩, ?_⟩
      simp [intOf]
      omega
end Go.Proofs.YtiinghgfojicdaaGreat
