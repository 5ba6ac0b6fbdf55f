/- A part of the proof of FoldTwice: dice.expr: ways. No conditions. -/
import Derived.Deep.RegionHeld3
import Derived.Test.YtiinghgfojicdaaGreatFoT
set_option linter.unusedVariables false
set_option linter.unusedSimpArgs false
namespace Go.Proofs.YtiinghgfojicdaaGreat
open Go.RowKit Go.RowG Go.FRow Go.GMem
set_option linter.unusedVariables false
attribute [local go_sem ↓] Go.wp_at_zero Go.wp_at_succ
set_option maxRecDepth 100000 in
set_option maxHeartbeats 8000000 in
theorem ex_d (g : Nat) (A : Option Addr) (n c : Nat) (w0 : World) (hC : Rolls1 g A n c w0) (dp dq : Int) (hge : 1 ≤ dp) (hdq : IntKind.i64.wrap (dp - 1) = dq) (R N : Nat) (hE : ExprAt g A n c w0 dq R N) (b : Bool) (k p k2 : Nat) (w : World) (hW : Rolled g w0 w) (hd : Dice w g A n c k b) (hk : k + (4 * R + 46) ≤ 100000) (hp : p < 25) (hk2 : k2 ≤ k + 1) (K : Int) (hK : kinds[p]? = some K) (e8 : (K == 8) = false) (e7 : (K == 7) = false) (e6 : (K == 6) = false) (e9 : (K == 9) = false) (e10 : (K == 10) = false) (e11 : (K == 11) = false) (e12 : (K == 12) = false) (e13 : (K == 13) = false) (e14 : (K == 14) = false) (e17 : (K == 17) = false) (e18 : (K == 18) = false) (e15 : (K == 15) = false) (e23 : (K == 23) = false)
    (hroll : Calls Tryz.prog 35 #[.pointer (some ⟨g, 0, none⟩), .int .i64 25] ((w.alloc (.cells #[.int .i64 0, .int .i64 0, .string ⟨#[]⟩, .slice none 0 0, .slice none 0 0, .slice none 0 0, .slice none 0 0, .int .i64 0] 50)).alloc (.cells #[.int .i64 8, .int .i64 8, .int .i64 8, .int .i64 7, .int .i64 6, .int .i64 6, .int .i64 9, .int .i64 9, .int .i64 10, .int .i64 11, .int .i64 12, .int .i64 12, .int .i64 13, .int .i64 14, .int .i64 15, .int .i64 17, .int .i64 18, .int .i64 19, .int .i64 20, .int .i64 20, .int .i64 21, .int .i64 22, .int .i64 23, .int .i64 24, .int .i64 25] 3)) (RollIs g A n c k2 b p ((w.alloc (.cells #[.int .i64 0, .int .i64 0, .string ⟨#[]⟩, .slice none 0 0, .slice none 0 0, .slice none 0 0, .slice none 0 0, .int .i64 0] 50)).alloc (.cells #[.int .i64 8, .int .i64 8, .int .i64 8, .int .i64 7, .int .i64 6, .int .i64 6, .int .i64 9, .int .i64 9, .int .i64 10, .int .i64 11, .int .i64 12, .int .i64 12, .int .i64 13, .int .i64 14, .int .i64 15, .int .i64 17, .int .i64 18, .int .i64 19, .int .i64 20, .int .i64 20, .int .i64 21, .int .i64 22, .int .i64 23, .int .i64 24, .int .i64 25] 3)))) :
    Calls Tryz.prog 38 #[.pointer (some ⟨g, 0, none⟩), .int .i64 dp] w (ExGen g A n c k b (4 * R + 46) (4 * N + 46) w) := by
  have hgl : g < w.heap.size := hd.lt
  have hdec : decide (dp < 1) = false := decide_eq_false (by omega)
  obtain ⟨W1, hW1⟩ : ∃ W1, W1 = ((w.alloc (.cells #[.int .i64 0, .int .i64 0, .string ⟨#[]⟩, .slice none 0 0, .slice none 0 0, .slice none 0 0, .slice none 0 0, .int .i64 0] 50)).alloc (.cells #[.int .i64 8, .int .i64 8, .int .i64 8, .int .i64 7, .int .i64 6, .int .i64 6, .int .i64 9, .int .i64 9, .int .i64 10, .int .i64 11, .int .i64 12, .int .i64 12, .int .i64 13, .int .i64 14, .int .i64 15, .int .i64 17, .int .i64 18, .int .i64 19, .int .i64 20, .int .i64 20, .int .i64 21, .int .i64 22, .int .i64 23, .int .i64 24, .int .i64 25] 3)) := ⟨_, rfl⟩
  have hR1 : Rolled g w W1 := by rw [hW1]; exact ((Rolled.refl _ _).alloc _).alloc _
  have ho1 : Own8 W1 w.heap.size 50 (.int .i64 0) (.int .i64 0) (.string ⟨#[]⟩) (.slice none 0 0) (.slice none 0 0) (.slice none 0 0) (.slice none 0 0) (.int .i64 0) := by
    rw [hW1]
    exact Own8.alloc (heap_alloc_new w _) _
  have hl1 : W1.heap[w.heap.size + 1]? = some (.cells (kinds.map (Value.int .i64)).toArray 3 (0, 0)) := by
    rw [hW1]
    have := heap_alloc_new (w.alloc (.cells #[.int .i64 0, .int .i64 0, .string ⟨#[]⟩, .slice none 0 0, .slice none 0 0, .slice none 0 0, .slice none 0 0, .int .i64 0] 50)) (.cells #[.int .i64 8, .int .i64 8, .int .i64 8, .int .i64 7, .int .i64 6, .int .i64 6, .int .i64 9, .int .i64 9, .int .i64 10, .int .i64 11, .int .i64 12, .int .i64 12, .int .i64 13, .int .i64 14, .int .i64 15, .int .i64 17, .int .i64 18, .int .i64 19, .int .i64 20, .int .i64 20, .int .i64 21, .int .i64 22, .int .i64 23, .int .i64 24, .int .i64 25] 3)
    have e : (w.alloc (.cells #[.int .i64 0, .int .i64 0, .string ⟨#[]⟩, .slice none 0 0, .slice none 0 0, .slice none 0 0, .slice none 0 0, .int .i64 0] 50)).heap.size = w.heap.size + 1 := by simp
    rw [e] at this
    exact this
  have hs1 : W1.heap.size = w.heap.size + 2 := by rw [hW1]; simp
  have HW1 := Lib.hid hW1
  have HD := Lib.hid hd
  have HE := Lib.hid hE
  have HC := Lib.hid hC
  have hKv : (kinds.map (Value.int .i64)).toArray.toList[p]? = some (.int .i64 K) := by
    show (kinds.map (Value.int .i64))[p]? = _
    rw [List.getElem?_map, hK]
    rfl
  have hp0 : (0 : Int) ≤ (p : Int) := Int.natCast_nonneg _
  have hp25 : (p : Int) < 25 := by omega
  clear hW1 hd hE hC
  go_enter Tryz.func38, Tryz.ntmps38
  go_wp2_with (first
    | (go_at_call 35
       (with_reducible refine hroll.mono ?_)
       rintro e w2 ⟨rfl, hd2, hr2, hz2⟩
       rw [← HW1.out] at hr2 hz2
       have hcp : w2.cell? ⟨w.heap.size + 1, p, none⟩ = some (.int .i64 K) := by
         have h := World.news_of_block ((hr2.block (w.heap.size + 1) (by omega) (by omega)).trans hl1) p (.int .i64 K) hKv
         rw [add_at, Nat.zero_add] at h
         exact h
       have hca : w2.cell? ((⟨w.heap.size + 1, 0, none⟩ : Addr).add p) = some (.int .i64 K) := by rw [add_at, Nat.zero_add]; exact hcp
       have hR2 : Rolled g w w2 := hR1.trans hr2
       have ho2 := ho1.rolled hr2 (by omega)
       have M3 : Mk g A n c w0 w w2.heap.size K k2 b (w2.alloc (.cells #[.int .i64 K, .int .i64 0, .string ⟨#[]⟩, .slice none 0 0, .slice none 0 0, .slice none 0 0, .slice none 0 0, .int .i64 0] 50)) (.int .i64 0) (.string ⟨#[]⟩) (.slice none 0 0) (.slice none 0 0) (.slice none 0 0) (.slice none 0 0) :=
         ⟨hW, hgl, by omega, hR2.alloc _, hd2.alloc _, ho2.alloc _, heap_alloc_new w2 _⟩
       have hz3 := M3.hi
       have hzl3 := M3.zlt
       have hg3 := M3.lo
       obtain ⟨⟨r0, r1, r2, r3, r4, r5, r6, r7⟩, s0, s1, s2, s3, s4, s5, s6, s7⟩ := own_eight M3.res
       obtain ⟨⟨q0, q1, q2, q3, q4, q5, q6, q7⟩, f0, f1, f2, f3, f4, f5, f6, f7⟩ := own_eight M3.blk
       have all1 : Calls Tryz.prog 71 #[.pointer (some ⟨g, 0, none⟩), .int .i64 1, .int .i64 dq] (w2.alloc (.cells #[.int .i64 K, .int .i64 0, .string ⟨#[]⟩, .slice none 0 0, .slice none 0 0, .slice none 0 0, .slice none 0 0, .int .i64 0] 50)) (AllGen g A n c k2 b R N 1 (w2.alloc (.cells #[.int .i64 K, .int .i64 0, .string ⟨#[]⟩, .slice none 0 0, .slice none 0 0, .slice none 0 0, .slice none 0 0, .int .i64 0] 50))) := M3.all HE.out 1 (by omega) (by omega)
       clear hroll hl1 hr2 hd2 hz2)
    | (go_at_call 71
       (with_reducible refine all1.mono ?_)
       rintro e w4 ⟨x4, A4, c4, k4, rfl, hl4, hg4, h41, h42, hn4, hs4, hk4, hd4, hr4⟩
       have M4 := M3.rolled hr4 hd4
       have row4 : RowM w w2.heap.size w4 A4 1 (encX false x4) := RowM.of hg4 M3.zlt M3.hi
       clear r0 r1 r2 r3 r4 r5 r6 r7 s0 s1 s2 s3 s4 s5 s6 s7 q0 q1 q2 q3 q4 q5 q6 q7 f0 f1 f2 f3 f4 f5 f6 f7
       obtain ⟨⟨r0, r1, r2, r3, r4, r5, r6, r7⟩, s0, s1, s2, s3, s4, s5, s6, s7⟩ := own_eight M4.res
       obtain ⟨⟨q0, q1, q2, q3, q4, q5, q6, q7⟩, f0, f1, f2, f3, f4, f5, f6, f7⟩ := own_eight M4.blk
       clear hg4 hr4 hd4)
    | fail "none")
  refine bodyPost_ret (v := .agg #[.int .i64 K, .int .i64 0, .string ⟨#[]⟩, .slice none 0 0, .slice none 0 0, .slice A4 1 c4, .slice none 0 0, .int .i64 0]) (by simp [results, Tryz.results38, go_sem, *]) rfl ?_
  exact (M4.set5 _).close_args (by omega) (row4.set 5 _) hl4 h41 h42 (by omega) hs4 K 0 ⟨#[]⟩ (by decide) _ _ _ _ _ _ _ _
end Go.Proofs.YtiinghgfojicdaaGreat
namespace Go.Proofs.YtiinghgfojicdaaGreat
open Go.RowKit Go.RowG Go.FRow Go.GMem
set_option linter.unusedVariables false
attribute [local go_sem ↓] Go.wp_at_zero Go.wp_at_succ
set_option maxRecDepth 100000 in
set_option maxHeartbeats 8000000 in
theorem ex_if (g : Nat) (A : Option Addr) (n c : Nat) (w0 : World) (hC : Rolls1 g A n c w0) (dp dq : Int) (hge : 1 ≤ dp) (hdq : IntKind.i64.wrap (dp - 1) = dq) (R N : Nat) (hE : ExprAt g A n c w0 dq R N) (b : Bool) (k p k2 : Nat) (w : World) (hW : Rolled g w0 w) (hd : Dice w g A n c k b) (hk : k + (4 * R + 46) ≤ 100000) (hp : p < 25) (hk2 : k2 ≤ k + 1) (hK : kinds[p]? = some 7) 
    (hroll : Calls Tryz.prog 35 #[.pointer (some ⟨g, 0, none⟩), .int .i64 25] ((w.alloc (.cells #[.int .i64 0, .int .i64 0, .string ⟨#[]⟩, .slice none 0 0, .slice none 0 0, .slice none 0 0, .slice none 0 0, .int .i64 0] 50)).alloc (.cells #[.int .i64 8, .int .i64 8, .int .i64 8, .int .i64 7, .int .i64 6, .int .i64 6, .int .i64 9, .int .i64 9, .int .i64 10, .int .i64 11, .int .i64 12, .int .i64 12, .int .i64 13, .int .i64 14, .int .i64 15, .int .i64 17, .int .i64 18, .int .i64 19, .int .i64 20, .int .i64 20, .int .i64 21, .int .i64 22, .int .i64 23, .int .i64 24, .int .i64 25] 3)) (RollIs g A n c k2 b p ((w.alloc (.cells #[.int .i64 0, .int .i64 0, .string ⟨#[]⟩, .slice none 0 0, .slice none 0 0, .slice none 0 0, .slice none 0 0, .int .i64 0] 50)).alloc (.cells #[.int .i64 8, .int .i64 8, .int .i64 8, .int .i64 7, .int .i64 6, .int .i64 6, .int .i64 9, .int .i64 9, .int .i64 10, .int .i64 11, .int .i64 12, .int .i64 12, .int .i64 13, .int .i64 14, .int .i64 15, .int .i64 17, .int .i64 18, .int .i64 19, .int .i64 20, .int .i64 20, .int .i64 21, .int .i64 22, .int .i64 23, .int .i64 24, .int .i64 25] 3)))) :
    Calls Tryz.prog 38 #[.pointer (some ⟨g, 0, none⟩), .int .i64 dp] w (ExGen g A n c k b (4 * R + 46) (4 * N + 46) w) := by
  have hgl : g < w.heap.size := hd.lt
  have hdec : decide (dp < 1) = false := decide_eq_false (by omega)
  obtain ⟨W1, hW1⟩ : ∃ W1, W1 = ((w.alloc (.cells #[.int .i64 0, .int .i64 0, .string ⟨#[]⟩, .slice none 0 0, .slice none 0 0, .slice none 0 0, .slice none 0 0, .int .i64 0] 50)).alloc (.cells #[.int .i64 8, .int .i64 8, .int .i64 8, .int .i64 7, .int .i64 6, .int .i64 6, .int .i64 9, .int .i64 9, .int .i64 10, .int .i64 11, .int .i64 12, .int .i64 12, .int .i64 13, .int .i64 14, .int .i64 15, .int .i64 17, .int .i64 18, .int .i64 19, .int .i64 20, .int .i64 20, .int .i64 21, .int .i64 22, .int .i64 23, .int .i64 24, .int .i64 25] 3)) := ⟨_, rfl⟩
  have hR1 : Rolled g w W1 := by rw [hW1]; exact ((Rolled.refl _ _).alloc _).alloc _
  have ho1 : Own8 W1 w.heap.size 50 (.int .i64 0) (.int .i64 0) (.string ⟨#[]⟩) (.slice none 0 0) (.slice none 0 0) (.slice none 0 0) (.slice none 0 0) (.int .i64 0) := by
    rw [hW1]
    exact Own8.alloc (heap_alloc_new w _) _
  have hl1 : W1.heap[w.heap.size + 1]? = some (.cells (kinds.map (Value.int .i64)).toArray 3 (0, 0)) := by
    rw [hW1]
    have := heap_alloc_new (w.alloc (.cells #[.int .i64 0, .int .i64 0, .string ⟨#[]⟩, .slice none 0 0, .slice none 0 0, .slice none 0 0, .slice none 0 0, .int .i64 0] 50)) (.cells #[.int .i64 8, .int .i64 8, .int .i64 8, .int .i64 7, .int .i64 6, .int .i64 6, .int .i64 9, .int .i64 9, .int .i64 10, .int .i64 11, .int .i64 12, .int .i64 12, .int .i64 13, .int .i64 14, .int .i64 15, .int .i64 17, .int .i64 18, .int .i64 19, .int .i64 20, .int .i64 20, .int .i64 21, .int .i64 22, .int .i64 23, .int .i64 24, .int .i64 25] 3)
    have e : (w.alloc (.cells #[.int .i64 0, .int .i64 0, .string ⟨#[]⟩, .slice none 0 0, .slice none 0 0, .slice none 0 0, .slice none 0 0, .int .i64 0] 50)).heap.size = w.heap.size + 1 := by simp
    rw [e] at this
    exact this
  have hs1 : W1.heap.size = w.heap.size + 2 := by rw [hW1]; simp
  have HW1 := Lib.hid hW1
  have HD := Lib.hid hd
  have HE := Lib.hid hE
  have HC := Lib.hid hC
  have hKv : (kinds.map (Value.int .i64)).toArray.toList[p]? = some (.int .i64 7) := by
    show (kinds.map (Value.int .i64))[p]? = _
    rw [List.getElem?_map, hK]
    rfl
  have hp0 : (0 : Int) ≤ (p : Int) := Int.natCast_nonneg _
  have hp25 : (p : Int) < 25 := by omega
  clear hW1 hd hE hC
  go_enter Tryz.func38, Tryz.ntmps38
  go_wp2_with (first
    | (go_at_call 35
       (with_reducible refine hroll.mono ?_)
       rintro e w2 ⟨rfl, hd2, hr2, hz2⟩
       rw [← HW1.out] at hr2 hz2
       have hcp : w2.cell? ⟨w.heap.size + 1, p, none⟩ = some (.int .i64 7) := by
         have h := World.news_of_block ((hr2.block (w.heap.size + 1) (by omega) (by omega)).trans hl1) p (.int .i64 7) hKv
         rw [add_at, Nat.zero_add] at h
         exact h
       have hca : w2.cell? ((⟨w.heap.size + 1, 0, none⟩ : Addr).add p) = some (.int .i64 7) := by rw [add_at, Nat.zero_add]; exact hcp
       have hR2 : Rolled g w w2 := hR1.trans hr2
       have ho2 := ho1.rolled hr2 (by omega)
       have M3 : Mk g A n c w0 w w2.heap.size 7 k2 b (w2.alloc (.cells #[.int .i64 7, .int .i64 0, .string ⟨#[]⟩, .slice none 0 0, .slice none 0 0, .slice none 0 0, .slice none 0 0, .int .i64 0] 50)) (.int .i64 0) (.string ⟨#[]⟩) (.slice none 0 0) (.slice none 0 0) (.slice none 0 0) (.slice none 0 0) :=
         ⟨hW, hgl, by omega, hR2.alloc _, hd2.alloc _, ho2.alloc _, heap_alloc_new w2 _⟩
       have hz3 := M3.hi
       have hzl3 := M3.zlt
       have hg3 := M3.lo
       obtain ⟨⟨r0, r1, r2, r3, r4, r5, r6, r7⟩, s0, s1, s2, s3, s4, s5, s6, s7⟩ := own_eight M3.res
       obtain ⟨⟨q0, q1, q2, q3, q4, q5, q6, q7⟩, f0, f1, f2, f3, f4, f5, f6, f7⟩ := own_eight M3.blk
       have all1 : Calls Tryz.prog 71 #[.pointer (some ⟨g, 0, none⟩), .int .i64 3, .int .i64 dq] (w2.alloc (.cells #[.int .i64 7, .int .i64 0, .string ⟨#[]⟩, .slice none 0 0, .slice none 0 0, .slice none 0 0, .slice none 0 0, .int .i64 0] 50)) (AllGen g A n c k2 b R N 3 (w2.alloc (.cells #[.int .i64 7, .int .i64 0, .string ⟨#[]⟩, .slice none 0 0, .slice none 0 0, .slice none 0 0, .slice none 0 0, .int .i64 0] 50))) := M3.all HE.out 3 (by omega) (by omega)
       clear hroll hl1 hr2 hd2 hz2)
    | (go_at_call 71
       (with_reducible refine all1.mono ?_)
       rintro e w4 ⟨x4, A4, c4, k4, rfl, hl4, hg4, h41, h42, hn4, hs4, hk4, hd4, hr4⟩
       have M4 := M3.rolled hr4 hd4
       have row4 : RowM w w2.heap.size w4 A4 3 (encX false x4) := RowM.of hg4 M3.zlt M3.hi
       clear r0 r1 r2 r3 r4 r5 r6 r7 s0 s1 s2 s3 s4 s5 s6 s7 q0 q1 q2 q3 q4 q5 q6 q7 f0 f1 f2 f3 f4 f5 f6 f7
       obtain ⟨⟨r0, r1, r2, r3, r4, r5, r6, r7⟩, s0, s1, s2, s3, s4, s5, s6, s7⟩ := own_eight M4.res
       obtain ⟨⟨q0, q1, q2, q3, q4, q5, q6, q7⟩, f0, f1, f2, f3, f4, f5, f6, f7⟩ := own_eight M4.blk
       clear hg4 hr4 hd4)
    | fail "none")
  refine bodyPost_ret (v := .agg #[.int .i64 7, .int .i64 0, .string ⟨#[]⟩, .slice none 0 0, .slice none 0 0, .slice A4 3 c4, .slice none 0 0, .int .i64 0]) (by simp [results, Tryz.results38, go_sem, *]) rfl ?_
  exact (M4.set5 _).close_args (by omega) (row4.set 5 _) hl4 h41 h42 (by omega) hs4 7 0 ⟨#[]⟩ (by decide) _ _ _ _ _ _ _ _
end Go.Proofs.YtiinghgfojicdaaGreat
namespace Go.Proofs.YtiinghgfojicdaaGreat
open Go.RowKit Go.RowG Go.FRow Go.GMem
set_option linter.unusedVariables false
attribute [local go_sem ↓] Go.wp_at_zero Go.wp_at_succ
set_option maxRecDepth 100000 in
set_option maxHeartbeats 8000000 in
theorem ex_let (g : Nat) (A : Option Addr) (n c : Nat) (w0 : World) (hC : Rolls1 g A n c w0) (dp dq : Int) (hge : 1 ≤ dp) (hdq : IntKind.i64.wrap (dp - 1) = dq) (R N : Nat) (hE : ExprAt g A n c w0 dq R N) (b : Bool) (k p k2 : Nat) (w : World) (hW : Rolled g w0 w) (hd : Dice w g A n c k b) (hk : k + (4 * R + 46) ≤ 100000) (hp : p < 25) (hk2 : k2 ≤ k + 1) (hK : kinds[p]? = some 6) 
    (hroll : Calls Tryz.prog 35 #[.pointer (some ⟨g, 0, none⟩), .int .i64 25] ((w.alloc (.cells #[.int .i64 0, .int .i64 0, .string ⟨#[]⟩, .slice none 0 0, .slice none 0 0, .slice none 0 0, .slice none 0 0, .int .i64 0] 50)).alloc (.cells #[.int .i64 8, .int .i64 8, .int .i64 8, .int .i64 7, .int .i64 6, .int .i64 6, .int .i64 9, .int .i64 9, .int .i64 10, .int .i64 11, .int .i64 12, .int .i64 12, .int .i64 13, .int .i64 14, .int .i64 15, .int .i64 17, .int .i64 18, .int .i64 19, .int .i64 20, .int .i64 20, .int .i64 21, .int .i64 22, .int .i64 23, .int .i64 24, .int .i64 25] 3)) (RollIs g A n c k2 b p ((w.alloc (.cells #[.int .i64 0, .int .i64 0, .string ⟨#[]⟩, .slice none 0 0, .slice none 0 0, .slice none 0 0, .slice none 0 0, .int .i64 0] 50)).alloc (.cells #[.int .i64 8, .int .i64 8, .int .i64 8, .int .i64 7, .int .i64 6, .int .i64 6, .int .i64 9, .int .i64 9, .int .i64 10, .int .i64 11, .int .i64 12, .int .i64 12, .int .i64 13, .int .i64 14, .int .i64 15, .int .i64 17, .int .i64 18, .int .i64 19, .int .i64 20, .int .i64 20, .int .i64 21, .int .i64 22, .int .i64 23, .int .i64 24, .int .i64 25] 3)))) :
    Calls Tryz.prog 38 #[.pointer (some ⟨g, 0, none⟩), .int .i64 dp] w (ExGen g A n c k b (4 * R + 46) (4 * N + 46) w) := by
  have hgl : g < w.heap.size := hd.lt
  have hdec : decide (dp < 1) = false := decide_eq_false (by omega)
  obtain ⟨W1, hW1⟩ : ∃ W1, W1 = ((w.alloc (.cells #[.int .i64 0, .int .i64 0, .string ⟨#[]⟩, .slice none 0 0, .slice none 0 0, .slice none 0 0, .slice none 0 0, .int .i64 0] 50)).alloc (.cells #[.int .i64 8, .int .i64 8, .int .i64 8, .int .i64 7, .int .i64 6, .int .i64 6, .int .i64 9, .int .i64 9, .int .i64 10, .int .i64 11, .int .i64 12, .int .i64 12, .int .i64 13, .int .i64 14, .int .i64 15, .int .i64 17, .int .i64 18, .int .i64 19, .int .i64 20, .int .i64 20, .int .i64 21, .int .i64 22, .int .i64 23, .int .i64 24, .int .i64 25] 3)) := ⟨_, rfl⟩
  have hR1 : Rolled g w W1 := by rw [hW1]; exact ((Rolled.refl _ _).alloc _).alloc _
  have ho1 : Own8 W1 w.heap.size 50 (.int .i64 0) (.int .i64 0) (.string ⟨#[]⟩) (.slice none 0 0) (.slice none 0 0) (.slice none 0 0) (.slice none 0 0) (.int .i64 0) := by
    rw [hW1]
    exact Own8.alloc (heap_alloc_new w _) _
  have hl1 : W1.heap[w.heap.size + 1]? = some (.cells (kinds.map (Value.int .i64)).toArray 3 (0, 0)) := by
    rw [hW1]
    have := heap_alloc_new (w.alloc (.cells #[.int .i64 0, .int .i64 0, .string ⟨#[]⟩, .slice none 0 0, .slice none 0 0, .slice none 0 0, .slice none 0 0, .int .i64 0] 50)) (.cells #[.int .i64 8, .int .i64 8, .int .i64 8, .int .i64 7, .int .i64 6, .int .i64 6, .int .i64 9, .int .i64 9, .int .i64 10, .int .i64 11, .int .i64 12, .int .i64 12, .int .i64 13, .int .i64 14, .int .i64 15, .int .i64 17, .int .i64 18, .int .i64 19, .int .i64 20, .int .i64 20, .int .i64 21, .int .i64 22, .int .i64 23, .int .i64 24, .int .i64 25] 3)
    have e : (w.alloc (.cells #[.int .i64 0, .int .i64 0, .string ⟨#[]⟩, .slice none 0 0, .slice none 0 0, .slice none 0 0, .slice none 0 0, .int .i64 0] 50)).heap.size = w.heap.size + 1 := by simp
    rw [e] at this
    exact this
  have hs1 : W1.heap.size = w.heap.size + 2 := by rw [hW1]; simp
  have HW1 := Lib.hid hW1
  have HD := Lib.hid hd
  have HE := Lib.hid hE
  have HC := Lib.hid hC
  have hKv : (kinds.map (Value.int .i64)).toArray.toList[p]? = some (.int .i64 6) := by
    show (kinds.map (Value.int .i64))[p]? = _
    rw [List.getElem?_map, hK]
    rfl
  have hp0 : (0 : Int) ≤ (p : Int) := Int.natCast_nonneg _
  have hp25 : (p : Int) < 25 := by omega
  clear hW1 hd hE hC
  go_enter Tryz.func38, Tryz.ntmps38
  go_wp2_with (first
    | (go_at_call 35
       (with_reducible refine hroll.mono ?_)
       rintro e w2 ⟨rfl, hd2, hr2, hz2⟩
       rw [← HW1.out] at hr2 hz2
       have hcp : w2.cell? ⟨w.heap.size + 1, p, none⟩ = some (.int .i64 6) := by
         have h := World.news_of_block ((hr2.block (w.heap.size + 1) (by omega) (by omega)).trans hl1) p (.int .i64 6) hKv
         rw [add_at, Nat.zero_add] at h
         exact h
       have hca : w2.cell? ((⟨w.heap.size + 1, 0, none⟩ : Addr).add p) = some (.int .i64 6) := by rw [add_at, Nat.zero_add]; exact hcp
       have hR2 : Rolled g w w2 := hR1.trans hr2
       have ho2 := ho1.rolled hr2 (by omega)
       have M3 : Mk g A n c w0 w w2.heap.size 6 k2 b (w2.alloc (.cells #[.int .i64 6, .int .i64 0, .string ⟨#[]⟩, .slice none 0 0, .slice none 0 0, .slice none 0 0, .slice none 0 0, .int .i64 0] 50)) (.int .i64 0) (.string ⟨#[]⟩) (.slice none 0 0) (.slice none 0 0) (.slice none 0 0) (.slice none 0 0) :=
         ⟨hW, hgl, by omega, hR2.alloc _, hd2.alloc _, ho2.alloc _, heap_alloc_new w2 _⟩
       have hz3 := M3.hi
       have hzl3 := M3.zlt
       have hg3 := M3.lo
       obtain ⟨⟨r0, r1, r2, r3, r4, r5, r6, r7⟩, s0, s1, s2, s3, s4, s5, s6, s7⟩ := own_eight M3.res
       obtain ⟨⟨q0, q1, q2, q3, q4, q5, q6, q7⟩, f0, f1, f2, f3, f4, f5, f6, f7⟩ := own_eight M3.blk
       have of3 : ∀ u0 u1 u2 : ByteArray, Calls Tryz.prog 37 #[.pointer (some ⟨g, 0, none⟩), .slice (some ⟨w2.heap.size + 1, 0, none⟩) 3 3] ((w2.alloc (.cells #[.int .i64 6, .int .i64 0, .string ⟨#[]⟩, .slice none 0 0, .slice none 0 0, .slice none 0 0, .slice none 0 0, .int .i64 0] 50)).alloc (.cells #[.string u0, .string u1, .string u2] 9)) (OfEnds g A n c k2 b [u0, u1, u2] ((w2.alloc (.cells #[.int .i64 6, .int .i64 0, .string ⟨#[]⟩, .slice none 0 0, .slice none 0 0, .slice none 0 0, .slice none 0 0, .int .i64 0] 50)).alloc (.cells #[.string u0, .string u1, .string u2] 9))) := fun u0 u1 u2 => by
         have h := M3.of HC.out [u0, u1, u2] 3 (by omega) rfl (by omega) (by omega)
         rw [show (w2.alloc (.cells #[.int .i64 6, .int .i64 0, .string ⟨#[]⟩, .slice none 0 0, .slice none 0 0, .slice none 0 0, .slice none 0 0, .int .i64 0] 50)).heap.size = w2.heap.size + 1 by simp] at h
         exact h
       clear hroll hl1 hr2 hd2 hz2)
    | (go_at_call 37
       (with_reducible refine (of3 _ _ _).mono ?_)
       rintro e w4 ⟨tx, k4, htx, hk4, rfl, hd4, hr4, hz4⟩
       have M4 := (M3.alloc _).rolled hr4 hd4
       have HTX := few_of htx (by decide)
       clear r0 r1 r2 r3 r4 r5 r6 r7 s0 s1 s2 s3 s4 s5 s6 s7 q0 q1 q2 q3 q4 q5 q6 q7 f0 f1 f2 f3 f4 f5 f6 f7
       obtain ⟨⟨r0, r1, r2, r3, r4, r5, r6, r7⟩, s0, s1, s2, s3, s4, s5, s6, s7⟩ := own_eight M4.res
       obtain ⟨⟨q0, q1, q2, q3, q4, q5, q6, q7⟩, f0, f1, f2, f3, f4, f5, f6, f7⟩ := own_eight M4.blk
       have all2 : Calls Tryz.prog 71 #[.pointer (some ⟨g, 0, none⟩), .int .i64 2, .int .i64 dq] w4 (AllGen g A n c k4 b R N 2 w4) := M4.all HE.out 2 (by omega) (by omega)
       clear htx hd4 hr4 hz4)
    | (go_at_call 71
       (with_reducible refine all2.mono ?_)
       rintro e w5 ⟨x5, A5, c5, k5, rfl, hl5, hg5, h51, h52, hn5, hs5, hk5, hd5, hr5⟩
       have M5 := M4.rolled hr5 hd5
       have row5 : RowM w w2.heap.size w5 A5 2 (encX false x5) := RowM.of hg5 M4.zlt M4.hi
       clear r0 r1 r2 r3 r4 r5 r6 r7 s0 s1 s2 s3 s4 s5 s6 s7 q0 q1 q2 q3 q4 q5 q6 q7 f0 f1 f2 f3 f4 f5 f6 f7
       obtain ⟨⟨r0, r1, r2, r3, r4, r5, r6, r7⟩, s0, s1, s2, s3, s4, s5, s6, s7⟩ := own_eight M5.res
       obtain ⟨⟨q0, q1, q2, q3, q4, q5, q6, q7⟩, f0, f1, f2, f3, f4, f5, f6, f7⟩ := own_eight M5.blk
       clear hg5 hr5 hd5)
    | fail "none")
  refine bodyPost_ret (v := .agg #[.int .i64 6, .int .i64 0, .string tx, .slice none 0 0, .slice none 0 0, .slice A5 2 c5, .slice none 0 0, .int .i64 0]) (by simp [results, Tryz.results38, go_sem, *]) rfl ?_
  exact ((M5.set2 _).set5 _).close_args (by omega) ((row5.set 2 _).set 5 _) hl5 h51 h52 (by omega) hs5 6 0 tx HTX _ _ _ _ _ _ _ _
end Go.Proofs.YtiinghgfojicdaaGreat
namespace Go.Proofs.YtiinghgfojicdaaGreat
open Go.RowKit Go.RowG Go.FRow Go.GMem
set_option linter.unusedVariables false
attribute [local go_sem ↓] Go.wp_at_zero Go.wp_at_succ
set_option maxRecDepth 100000 in
set_option maxHeartbeats 8000000 in
theorem ex_op (g : Nat) (A : Option Addr) (n c : Nat) (w0 : World) (hC : Rolls1 g A n c w0) (dp dq : Int) (hge : 1 ≤ dp) (hdq : IntKind.i64.wrap (dp - 1) = dq) (R N : Nat) (hE : ExprAt g A n c w0 dq R N) (b : Bool) (k p k2 : Nat) (w : World) (hW : Rolled g w0 w) (hd : Dice w g A n c k b) (hk : k + (4 * R + 46) ≤ 100000) (hp : p < 25) (hk2 : k2 ≤ k + 1) (hK : kinds[p]? = some 8) 
    (hroll : Calls Tryz.prog 35 #[.pointer (some ⟨g, 0, none⟩), .int .i64 25] ((w.alloc (.cells #[.int .i64 0, .int .i64 0, .string ⟨#[]⟩, .slice none 0 0, .slice none 0 0, .slice none 0 0, .slice none 0 0, .int .i64 0] 50)).alloc (.cells #[.int .i64 8, .int .i64 8, .int .i64 8, .int .i64 7, .int .i64 6, .int .i64 6, .int .i64 9, .int .i64 9, .int .i64 10, .int .i64 11, .int .i64 12, .int .i64 12, .int .i64 13, .int .i64 14, .int .i64 15, .int .i64 17, .int .i64 18, .int .i64 19, .int .i64 20, .int .i64 20, .int .i64 21, .int .i64 22, .int .i64 23, .int .i64 24, .int .i64 25] 3)) (RollIs g A n c k2 b p ((w.alloc (.cells #[.int .i64 0, .int .i64 0, .string ⟨#[]⟩, .slice none 0 0, .slice none 0 0, .slice none 0 0, .slice none 0 0, .int .i64 0] 50)).alloc (.cells #[.int .i64 8, .int .i64 8, .int .i64 8, .int .i64 7, .int .i64 6, .int .i64 6, .int .i64 9, .int .i64 9, .int .i64 10, .int .i64 11, .int .i64 12, .int .i64 12, .int .i64 13, .int .i64 14, .int .i64 15, .int .i64 17, .int .i64 18, .int .i64 19, .int .i64 20, .int .i64 20, .int .i64 21, .int .i64 22, .int .i64 23, .int .i64 24, .int .i64 25] 3)))) :
    Calls Tryz.prog 38 #[.pointer (some ⟨g, 0, none⟩), .int .i64 dp] w (ExGen g A n c k b (4 * R + 46) (4 * N + 46) w) := by
  have hgl : g < w.heap.size := hd.lt
  have hdec : decide (dp < 1) = false := decide_eq_false (by omega)
  obtain ⟨W1, hW1⟩ : ∃ W1, W1 = ((w.alloc (.cells #[.int .i64 0, .int .i64 0, .string ⟨#[]⟩, .slice none 0 0, .slice none 0 0, .slice none 0 0, .slice none 0 0, .int .i64 0] 50)).alloc (.cells #[.int .i64 8, .int .i64 8, .int .i64 8, .int .i64 7, .int .i64 6, .int .i64 6, .int .i64 9, .int .i64 9, .int .i64 10, .int .i64 11, .int .i64 12, .int .i64 12, .int .i64 13, .int .i64 14, .int .i64 15, .int .i64 17, .int .i64 18, .int .i64 19, .int .i64 20, .int .i64 20, .int .i64 21, .int .i64 22, .int .i64 23, .int .i64 24, .int .i64 25] 3)) := ⟨_, rfl⟩
  have hR1 : Rolled g w W1 := by rw [hW1]; exact ((Rolled.refl _ _).alloc _).alloc _
  have ho1 : Own8 W1 w.heap.size 50 (.int .i64 0) (.int .i64 0) (.string ⟨#[]⟩) (.slice none 0 0) (.slice none 0 0) (.slice none 0 0) (.slice none 0 0) (.int .i64 0) := by
    rw [hW1]
    exact Own8.alloc (heap_alloc_new w _) _
  have hl1 : W1.heap[w.heap.size + 1]? = some (.cells (kinds.map (Value.int .i64)).toArray 3 (0, 0)) := by
    rw [hW1]
    have := heap_alloc_new (w.alloc (.cells #[.int .i64 0, .int .i64 0, .string ⟨#[]⟩, .slice none 0 0, .slice none 0 0, .slice none 0 0, .slice none 0 0, .int .i64 0] 50)) (.cells #[.int .i64 8, .int .i64 8, .int .i64 8, .int .i64 7, .int .i64 6, .int .i64 6, .int .i64 9, .int .i64 9, .int .i64 10, .int .i64 11, .int .i64 12, .int .i64 12, .int .i64 13, .int .i64 14, .int .i64 15, .int .i64 17, .int .i64 18, .int .i64 19, .int .i64 20, .int .i64 20, .int .i64 21, .int .i64 22, .int .i64 23, .int .i64 24, .int .i64 25] 3)
    have e : (w.alloc (.cells #[.int .i64 0, .int .i64 0, .string ⟨#[]⟩, .slice none 0 0, .slice none 0 0, .slice none 0 0, .slice none 0 0, .int .i64 0] 50)).heap.size = w.heap.size + 1 := by simp
    rw [e] at this
    exact this
  have hs1 : W1.heap.size = w.heap.size + 2 := by rw [hW1]; simp
  have HW1 := Lib.hid hW1
  have HD := Lib.hid hd
  have HE := Lib.hid hE
  have HC := Lib.hid hC
  have hKv : (kinds.map (Value.int .i64)).toArray.toList[p]? = some (.int .i64 8) := by
    show (kinds.map (Value.int .i64))[p]? = _
    rw [List.getElem?_map, hK]
    rfl
  have hp0 : (0 : Int) ≤ (p : Int) := Int.natCast_nonneg _
  have hp25 : (p : Int) < 25 := by omega
  clear hW1 hd hE hC
  go_enter Tryz.func38, Tryz.ntmps38
  go_wp2_with (first
    | (go_at_call 35
       (with_reducible refine hroll.mono ?_)
       rintro e w2 ⟨rfl, hd2, hr2, hz2⟩
       rw [← HW1.out] at hr2 hz2
       have hcp : w2.cell? ⟨w.heap.size + 1, p, none⟩ = some (.int .i64 8) := by
         have h := World.news_of_block ((hr2.block (w.heap.size + 1) (by omega) (by omega)).trans hl1) p (.int .i64 8) hKv
         rw [add_at, Nat.zero_add] at h
         exact h
       have hca : w2.cell? ((⟨w.heap.size + 1, 0, none⟩ : Addr).add p) = some (.int .i64 8) := by rw [add_at, Nat.zero_add]; exact hcp
       have hR2 : Rolled g w w2 := hR1.trans hr2
       have ho2 := ho1.rolled hr2 (by omega)
       have M3 : Mk g A n c w0 w w2.heap.size 8 k2 b (w2.alloc (.cells #[.int .i64 8, .int .i64 0, .string ⟨#[]⟩, .slice none 0 0, .slice none 0 0, .slice none 0 0, .slice none 0 0, .int .i64 0] 50)) (.int .i64 0) (.string ⟨#[]⟩) (.slice none 0 0) (.slice none 0 0) (.slice none 0 0) (.slice none 0 0) :=
         ⟨hW, hgl, by omega, hR2.alloc _, hd2.alloc _, ho2.alloc _, heap_alloc_new w2 _⟩
       have hz3 := M3.hi
       have hzl3 := M3.zlt
       have hg3 := M3.lo
       obtain ⟨⟨r0, r1, r2, r3, r4, r5, r6, r7⟩, s0, s1, s2, s3, s4, s5, s6, s7⟩ := own_eight M3.res
       obtain ⟨⟨q0, q1, q2, q3, q4, q5, q6, q7⟩, f0, f1, f2, f3, f4, f5, f6, f7⟩ := own_eight M3.blk
       have of11 : ∀ u0 u1 u2 u3 u4 u5 u6 u7 u8 u9 u10 : ByteArray, Calls Tryz.prog 37 #[.pointer (some ⟨g, 0, none⟩), .slice (some ⟨w2.heap.size + 1, 0, none⟩) 11 11] ((w2.alloc (.cells #[.int .i64 8, .int .i64 0, .string ⟨#[]⟩, .slice none 0 0, .slice none 0 0, .slice none 0 0, .slice none 0 0, .int .i64 0] 50)).alloc (.cells #[.string u0, .string u1, .string u2, .string u3, .string u4, .string u5, .string u6, .string u7, .string u8, .string u9, .string u10] 9)) (OfEnds g A n c k2 b [u0, u1, u2, u3, u4, u5, u6, u7, u8, u9, u10] ((w2.alloc (.cells #[.int .i64 8, .int .i64 0, .string ⟨#[]⟩, .slice none 0 0, .slice none 0 0, .slice none 0 0, .slice none 0 0, .int .i64 0] 50)).alloc (.cells #[.string u0, .string u1, .string u2, .string u3, .string u4, .string u5, .string u6, .string u7, .string u8, .string u9, .string u10] 9))) := fun u0 u1 u2 u3 u4 u5 u6 u7 u8 u9 u10 => by
         have h := M3.of HC.out [u0, u1, u2, u3, u4, u5, u6, u7, u8, u9, u10] 11 (by omega) rfl (by omega) (by omega)
         rw [show (w2.alloc (.cells #[.int .i64 8, .int .i64 0, .string ⟨#[]⟩, .slice none 0 0, .slice none 0 0, .slice none 0 0, .slice none 0 0, .int .i64 0] 50)).heap.size = w2.heap.size + 1 by simp] at h
         exact h
       clear hroll hl1 hr2 hd2 hz2)
    | (go_at_call 37
       (with_reducible refine (of11 _ _ _ _ _ _ _ _ _ _ _).mono ?_)
       rintro e w4 ⟨tx, k4, htx, hk4, rfl, hd4, hr4, hz4⟩
       have M4 := (M3.alloc _).rolled hr4 hd4
       have HTX := few_of htx (by decide)
       clear r0 r1 r2 r3 r4 r5 r6 r7 s0 s1 s2 s3 s4 s5 s6 s7 q0 q1 q2 q3 q4 q5 q6 q7 f0 f1 f2 f3 f4 f5 f6 f7
       obtain ⟨⟨r0, r1, r2, r3, r4, r5, r6, r7⟩, s0, s1, s2, s3, s4, s5, s6, s7⟩ := own_eight M4.res
       obtain ⟨⟨q0, q1, q2, q3, q4, q5, q6, q7⟩, f0, f1, f2, f3, f4, f5, f6, f7⟩ := own_eight M4.blk
       have M5 := M4.set2 (.string tx)
       have all2 : Calls Tryz.prog 71 #[.pointer (some ⟨g, 0, none⟩), .int .i64 2, .int .i64 dq] (w4.setCell ⟨w2.heap.size, 2, none⟩ (.string tx)) (AllGen g A n c k4 b R N 2 (w4.setCell ⟨w2.heap.size, 2, none⟩ (.string tx))) := M5.all HE.out 2 (by omega) (by omega)
       have all1 : Calls Tryz.prog 71 #[.pointer (some ⟨g, 0, none⟩), .int .i64 1, .int .i64 dq] (w4.setCell ⟨w2.heap.size, 2, none⟩ (.string tx)) (AllGen g A n c k4 b R N 1 (w4.setCell ⟨w2.heap.size, 2, none⟩ (.string tx))) := M5.all HE.out 1 (by omega) (by omega)
       clear htx hd4 hr4 hz4)
    | (go_at_call 71
       (with_reducible refine all2.mono ?_)
       rintro e w6 ⟨x6, A6, c6, k6, rfl, hl6, hg6, h61, h62, hn6, hs6, hk6, hd6, hr6⟩
       have M6 := M5.rolled hr6 hd6
       have row6 : RowM w w2.heap.size w6 A6 2 (encX false x6) := RowM.of hg6 M5.zlt M5.hi
       clear r0 r1 r2 r3 r4 r5 r6 r7 s0 s1 s2 s3 s4 s5 s6 s7 q0 q1 q2 q3 q4 q5 q6 q7 f0 f1 f2 f3 f4 f5 f6 f7
       obtain ⟨⟨r0, r1, r2, r3, r4, r5, r6, r7⟩, s0, s1, s2, s3, s4, s5, s6, s7⟩ := own_eight M6.res
       obtain ⟨⟨q0, q1, q2, q3, q4, q5, q6, q7⟩, f0, f1, f2, f3, f4, f5, f6, f7⟩ := own_eight M6.blk
       clear hg6 hr6 hd6)
    | (go_at_call 71
       (with_reducible refine all1.mono ?_)
       rintro e w6 ⟨x6, A6, c6, k6, rfl, hl6, hg6, h61, h62, hn6, hs6, hk6, hd6, hr6⟩
       have M6 := M5.rolled hr6 hd6
       have row6 : RowM w w2.heap.size w6 A6 1 (encX false x6) := RowM.of hg6 M5.zlt M5.hi
       clear r0 r1 r2 r3 r4 r5 r6 r7 s0 s1 s2 s3 s4 s5 s6 s7 q0 q1 q2 q3 q4 q5 q6 q7 f0 f1 f2 f3 f4 f5 f6 f7
       obtain ⟨⟨r0, r1, r2, r3, r4, r5, r6, r7⟩, s0, s1, s2, s3, s4, s5, s6, s7⟩ := own_eight M6.res
       obtain ⟨⟨q0, q1, q2, q3, q4, q5, q6, q7⟩, f0, f1, f2, f3, f4, f5, f6, f7⟩ := own_eight M6.blk
       clear hg6 hr6 hd6)
    | fail "none")
  · refine bodyPost_ret (v := .agg #[.int .i64 8, .int .i64 0, .string tx, .slice none 0 0, .slice none 0 0, .slice A6 1 c6, .slice none 0 0, .int .i64 0]) (by simp [results, Tryz.results38, go_sem, *]) rfl ?_
    exact (M6.set5 _).close_args (by omega) (row6.set 5 _) hl6 h61 h62 (by omega) hs6 8 0 tx HTX _ _ _ _ _ _ _ _
  · refine bodyPost_ret (v := .agg #[.int .i64 8, .int .i64 0, .string tx, .slice none 0 0, .slice none 0 0, .slice A6 2 c6, .slice none 0 0, .int .i64 0]) (by simp [results, Tryz.results38, go_sem, *]) rfl ?_
    exact (M6.set5 _).close_args (by omega) (row6.set 5 _) hl6 h61 h62 (by omega) hs6 8 0 tx HTX _ _ _ _ _ _ _ _
end Go.Proofs.YtiinghgfojicdaaGreat
