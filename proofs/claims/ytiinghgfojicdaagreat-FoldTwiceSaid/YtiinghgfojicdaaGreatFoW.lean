/- A part of the proof of FoldTwice: dice.expr: ways. No conditions. -/
import Derived.Deep.RegionHeld3
import Derived.Test.YtiinghgfojicdaaGreatFoT
set_option linter.unusedVariables false
set_option linter.unusedSimpArgs false
namespace Go.Proofs.YtiinghgfojicdaaGreat
open Go.RowKit Go.RowG Go.FRow Go.GMem
set_option linter.unusedVariables false
attribute [local go_sem ↓] Go.wp_at_zero Go.wp_at_succ
set_option maxRecDepth 100000 in
set_option maxHeartbeats 8000000 in
theorem ex_put (g : Nat) (A : Option Addr) (n c : Nat) (w0 : World) (hC : Rolls1 g A n c w0) (dp dq : Int) (hge : 1 ≤ dp) (hdq : IntKind.i64.wrap (dp - 1) = dq) (R N : Nat) (hE : ExprAt g A n c w0 dq R N) (b : Bool) (k p k2 : Nat) (w : World) (hW : Rolled g w0 w) (hd : Dice w g A n c k b) (hk : k + (4 * R + 46) ≤ 100000) (hp : p < 25) (hk2 : k2 ≤ k + 1) (hK : kinds[p]? = some 23) 
    (hroll : Calls Tryz.prog 35 #[.pointer (some ⟨g, 0, none⟩), .int .i64 25] ((w.alloc (.cells #[.int .i64 0, .int .i64 0, .string ⟨#[]⟩, .slice none 0 0, .slice none 0 0, .slice none 0 0, .slice none 0 0, .int .i64 0] 50)).alloc (.cells #[.int .i64 8, .int .i64 8, .int .i64 8, .int .i64 7, .int .i64 6, .int .i64 6, .int .i64 9, .int .i64 9, .int .i64 10, .int .i64 11, .int .i64 12, .int .i64 12, .int .i64 13, .int .i64 14, .int .i64 15, .int .i64 17, .int .i64 18, .int .i64 19, .int .i64 20, .int .i64 20, .int .i64 21, .int .i64 22, .int .i64 23, .int .i64 24, .int .i64 25] 3)) (RollIs g A n c k2 b p ((w.alloc (.cells #[.int .i64 0, .int .i64 0, .string ⟨#[]⟩, .slice none 0 0, .slice none 0 0, .slice none 0 0, .slice none 0 0, .int .i64 0] 50)).alloc (.cells #[.int .i64 8, .int .i64 8, .int .i64 8, .int .i64 7, .int .i64 6, .int .i64 6, .int .i64 9, .int .i64 9, .int .i64 10, .int .i64 11, .int .i64 12, .int .i64 12, .int .i64 13, .int .i64 14, .int .i64 15, .int .i64 17, .int .i64 18, .int .i64 19, .int .i64 20, .int .i64 20, .int .i64 21, .int .i64 22, .int .i64 23, .int .i64 24, .int .i64 25] 3)))) :
    Calls Tryz.prog 38 #[.pointer (some ⟨g, 0, none⟩), .int .i64 dp] w (ExGen g A n c k b (4 * R + 46) (4 * N + 46) w) := by
  have hgl : g < w.heap.size := hd.lt
  have hdec : decide (dp < 1) = false := decide_eq_false (by omega)
  obtain ⟨W1, hW1⟩ : ∃ W1, W1 = ((w.alloc (.cells #[.int .i64 0, .int .i64 0, .string ⟨#[]⟩, .slice none 0 0, .slice none 0 0, .slice none 0 0, .slice none 0 0, .int .i64 0] 50)).alloc (.cells #[.int .i64 8, .int .i64 8, .int .i64 8, .int .i64 7, .int .i64 6, .int .i64 6, .int .i64 9, .int .i64 9, .int .i64 10, .int .i64 11, .int .i64 12, .int .i64 12, .int .i64 13, .int .i64 14, .int .i64 15, .int .i64 17, .int .i64 18, .int .i64 19, .int .i64 20, .int .i64 20, .int .i64 21, .int .i64 22, .int .i64 23, .int .i64 24, .int .i64 25] 3)) := ⟨_, rfl⟩
  have hR1 : Rolled g w W1 := by rw [hW1]; exact ((Rolled.refl _ _).alloc _).alloc _
  have ho1 : Own8 W1 w.heap.size 50 (.int .i64 0) (.int .i64 0) (.string ⟨#[]⟩) (.slice none 0 0) (.slice none 0 0) (.slice none 0 0) (.slice none 0 0) (.int .i64 0) := by
    rw [hW1]
    exact Own8.alloc (heap_alloc_new w _) _
  have hl1 : W1.heap[w.heap.size + 1]? = some (.cells (kinds.map (Value.int .i64)).toArray 3 (0, 0)) := by
    rw [hW1]
    have := heap_alloc_new (w.alloc (.cells #[.int .i64 0, .int .i64 0, .string ⟨#[]⟩, .slice none 0 0, .slice none 0 0, .slice none 0 0, .slice none 0 0, .int .i64 0] 50)) (.cells #[.int .i64 8, .int .i64 8, .int .i64 8, .int .i64 7, .int .i64 6, .int .i64 6, .int .i64 9, .int .i64 9, .int .i64 10, .int .i64 11, .int .i64 12, .int .i64 12, .int .i64 13, .int .i64 14, .int .i64 15, .int .i64 17, .int .i64 18, .int .i64 19, .int .i64 20, .int .i64 20, .int .i64 21, .int .i64 22, .int .i64 23, .int .i64 24, .int .i64 25] 3)
    have e : (w.alloc (.cells #[.int .i64 0, .int .i64 0, .string ⟨#[]⟩, .slice none 0 0, .slice none 0 0, .slice none 0 0, .slice none 0 0, .int .i64 0] 50)).heap.size = w.heap.size + 1 := by simp
    rw [e] at this
    exact this
  have hs1 : W1.heap.size = w.heap.size + 2 := by rw [hW1]; simp
  have HW1 := Lib.hid hW1
  have HD := Lib.hid hd
  have HE := Lib.hid hE
  have HC := Lib.hid hC
  have hKv : (kinds.map (Value.int .i64)).toArray.toList[p]? = some (.int .i64 23) := by
    show (kinds.map (Value.int .i64))[p]? = _
    rw [List.getElem?_map, hK]
    rfl
  have hp0 : (0 : Int) ≤ (p : Int) := Int.natCast_nonneg _
  have hp25 : (p : Int) < 25 := by omega
  clear hW1 hd hE hC
  go_enter Tryz.func38, Tryz.ntmps38
  go_wp2_with (first
    | (go_at_call 35
       (with_reducible refine hroll.mono ?_)
       rintro e w2 ⟨rfl, hd2, hr2, hz2⟩
       rw [← HW1.out] at hr2 hz2
       have hcp : w2.cell? ⟨w.heap.size + 1, p, none⟩ = some (.int .i64 23) := by
         have h := World.news_of_block ((hr2.block (w.heap.size + 1) (by omega) (by omega)).trans hl1) p (.int .i64 23) hKv
         rw [add_at, Nat.zero_add] at h
         exact h
       have hca : w2.cell? ((⟨w.heap.size + 1, 0, none⟩ : Addr).add p) = some (.int .i64 23) := by rw [add_at, Nat.zero_add]; exact hcp
       have hR2 : Rolled g w w2 := hR1.trans hr2
       have ho2 := ho1.rolled hr2 (by omega)
       have M3 : Mk g A n c w0 w w2.heap.size 23 k2 b (w2.alloc (.cells #[.int .i64 23, .int .i64 0, .string ⟨#[]⟩, .slice none 0 0, .slice none 0 0, .slice none 0 0, .slice none 0 0, .int .i64 0] 50)) (.int .i64 0) (.string ⟨#[]⟩) (.slice none 0 0) (.slice none 0 0) (.slice none 0 0) (.slice none 0 0) :=
         ⟨hW, hgl, by omega, hR2.alloc _, hd2.alloc _, ho2.alloc _, heap_alloc_new w2 _⟩
       have hz3 := M3.hi
       have hzl3 := M3.zlt
       have hg3 := M3.lo
       obtain ⟨⟨r0, r1, r2, r3, r4, r5, r6, r7⟩, s0, s1, s2, s3, s4, s5, s6, s7⟩ := own_eight M3.res
       obtain ⟨⟨q0, q1, q2, q3, q4, q5, q6, q7⟩, f0, f1, f2, f3, f4, f5, f6, f7⟩ := own_eight M3.blk
       have all1 : Calls Tryz.prog 71 #[.pointer (some ⟨g, 0, none⟩), .int .i64 2, .int .i64 dq] (w2.alloc (.cells #[.int .i64 23, .int .i64 0, .string ⟨#[]⟩, .slice none 0 0, .slice none 0 0, .slice none 0 0, .slice none 0 0, .int .i64 0] 50)) (AllGen g A n c k2 b R N 2 (w2.alloc (.cells #[.int .i64 23, .int .i64 0, .string ⟨#[]⟩, .slice none 0 0, .slice none 0 0, .slice none 0 0, .slice none 0 0, .int .i64 0] 50))) := M3.all HE.out 2 (by omega) (by omega)
       clear hroll hl1 hr2 hd2 hz2)
    | (go_at_call 71
       (with_reducible refine all1.mono ?_)
       rintro e w4 ⟨x4, A4, c4, k4, rfl, hl4, hg4, h41, h42, hn4, hs4, hk4, hd4, hr4⟩
       have M4 := M3.rolled hr4 hd4
       have row4 : RowM w w2.heap.size w4 A4 2 (encX false x4) := RowM.of hg4 M3.zlt M3.hi
       clear r0 r1 r2 r3 r4 r5 r6 r7 s0 s1 s2 s3 s4 s5 s6 s7 q0 q1 q2 q3 q4 q5 q6 q7 f0 f1 f2 f3 f4 f5 f6 f7
       obtain ⟨⟨r0, r1, r2, r3, r4, r5, r6, r7⟩, s0, s1, s2, s3, s4, s5, s6, s7⟩ := own_eight M4.res
       obtain ⟨⟨q0, q1, q2, q3, q4, q5, q6, q7⟩, f0, f1, f2, f3, f4, f5, f6, f7⟩ := own_eight M4.blk
       clear hg4 hr4 hd4)
    | fail "none")
  refine bodyPost_ret (v := .agg #[.int .i64 23, .int .i64 0, .string ⟨#[]⟩, .slice none 0 0, .slice none 0 0, .slice A4 2 c4, .slice none 0 0, .int .i64 0]) (by simp [results, Tryz.results38, go_sem, *]) rfl ?_
  exact (M4.set5 _).close_args (by omega) (row4.set 5 _) hl4 h41 h42 (by omega) hs4 23 0 ⟨#[]⟩ (by decide) _ _ _ _ _ _ _ _
end Go.Proofs.YtiinghgfojicdaaGreat
namespace Go.Proofs.YtiinghgfojicdaaGreat
open Go.RowKit Go.RowG Go.FRow Go.GMem
set_option linter.unusedVariables false
attribute [local go_sem ↓] Go.wp_at_zero Go.wp_at_succ
set_option maxRecDepth 100000 in
set_option maxHeartbeats 8000000 in
theorem ex_match (g : Nat) (A : Option Addr) (n c : Nat) (w0 : World) (hC : Rolls1 g A n c w0) (dp dq : Int) (hge : 1 ≤ dp) (hdq : IntKind.i64.wrap (dp - 1) = dq) (R N : Nat) (hE : ExprAt g A n c w0 dq R N) (b : Bool) (k p k2 : Nat) (w : World) (hW : Rolled g w0 w) (hd : Dice w g A n c k b) (hk : k + (4 * R + 46) ≤ 100000) (hp : p < 25) (hk2 : k2 ≤ k + 1) (hK : kinds[p]? = some 13) 
    (hroll : Calls Tryz.prog 35 #[.pointer (some ⟨g, 0, none⟩), .int .i64 25] ((w.alloc (.cells #[.int .i64 0, .int .i64 0, .string ⟨#[]⟩, .slice none 0 0, .slice none 0 0, .slice none 0 0, .slice none 0 0, .int .i64 0] 50)).alloc (.cells #[.int .i64 8, .int .i64 8, .int .i64 8, .int .i64 7, .int .i64 6, .int .i64 6, .int .i64 9, .int .i64 9, .int .i64 10, .int .i64 11, .int .i64 12, .int .i64 12, .int .i64 13, .int .i64 14, .int .i64 15, .int .i64 17, .int .i64 18, .int .i64 19, .int .i64 20, .int .i64 20, .int .i64 21, .int .i64 22, .int .i64 23, .int .i64 24, .int .i64 25] 3)) (RollIs g A n c k2 b p ((w.alloc (.cells #[.int .i64 0, .int .i64 0, .string ⟨#[]⟩, .slice none 0 0, .slice none 0 0, .slice none 0 0, .slice none 0 0, .int .i64 0] 50)).alloc (.cells #[.int .i64 8, .int .i64 8, .int .i64 8, .int .i64 7, .int .i64 6, .int .i64 6, .int .i64 9, .int .i64 9, .int .i64 10, .int .i64 11, .int .i64 12, .int .i64 12, .int .i64 13, .int .i64 14, .int .i64 15, .int .i64 17, .int .i64 18, .int .i64 19, .int .i64 20, .int .i64 20, .int .i64 21, .int .i64 22, .int .i64 23, .int .i64 24, .int .i64 25] 3)))) :
    Calls Tryz.prog 38 #[.pointer (some ⟨g, 0, none⟩), .int .i64 dp] w (ExGen g A n c k b (4 * R + 46) (4 * N + 46) w) := by
  have hgl : g < w.heap.size := hd.lt
  have hdec : decide (dp < 1) = false := decide_eq_false (by omega)
  obtain ⟨W1, hW1⟩ : ∃ W1, W1 = ((w.alloc (.cells #[.int .i64 0, .int .i64 0, .string ⟨#[]⟩, .slice none 0 0, .slice none 0 0, .slice none 0 0, .slice none 0 0, .int .i64 0] 50)).alloc (.cells #[.int .i64 8, .int .i64 8, .int .i64 8, .int .i64 7, .int .i64 6, .int .i64 6, .int .i64 9, .int .i64 9, .int .i64 10, .int .i64 11, .int .i64 12, .int .i64 12, .int .i64 13, .int .i64 14, .int .i64 15, .int .i64 17, .int .i64 18, .int .i64 19, .int .i64 20, .int .i64 20, .int .i64 21, .int .i64 22, .int .i64 23, .int .i64 24, .int .i64 25] 3)) := ⟨_, rfl⟩
  have hR1 : Rolled g w W1 := by rw [hW1]; exact ((Rolled.refl _ _).alloc _).alloc _
  have ho1 : Own8 W1 w.heap.size 50 (.int .i64 0) (.int .i64 0) (.string ⟨#[]⟩) (.slice none 0 0) (.slice none 0 0) (.slice none 0 0) (.slice none 0 0) (.int .i64 0) := by
    rw [hW1]
    exact Own8.alloc (heap_alloc_new w _) _
  have hl1 : W1.heap[w.heap.size + 1]? = some (.cells (kinds.map (Value.int .i64)).toArray 3 (0, 0)) := by
    rw [hW1]
    have := heap_alloc_new (w.alloc (.cells #[.int .i64 0, .int .i64 0, .string ⟨#[]⟩, .slice none 0 0, .slice none 0 0, .slice none 0 0, .slice none 0 0, .int .i64 0] 50)) (.cells #[.int .i64 8, .int .i64 8, .int .i64 8, .int .i64 7, .int .i64 6, .int .i64 6, .int .i64 9, .int .i64 9, .int .i64 10, .int .i64 11, .int .i64 12, .int .i64 12, .int .i64 13, .int .i64 14, .int .i64 15, .int .i64 17, .int .i64 18, .int .i64 19, .int .i64 20, .int .i64 20, .int .i64 21, .int .i64 22, .int .i64 23, .int .i64 24, .int .i64 25] 3)
    have e : (w.alloc (.cells #[.int .i64 0, .int .i64 0, .string ⟨#[]⟩, .slice none 0 0, .slice none 0 0, .slice none 0 0, .slice none 0 0, .int .i64 0] 50)).heap.size = w.heap.size + 1 := by simp
    rw [e] at this
    exact this
  have hs1 : W1.heap.size = w.heap.size + 2 := by rw [hW1]; simp
  have HW1 := Lib.hid hW1
  have HD := Lib.hid hd
  have HE := Lib.hid hE
  have HC := Lib.hid hC
  have hKv : (kinds.map (Value.int .i64)).toArray.toList[p]? = some (.int .i64 13) := by
    show (kinds.map (Value.int .i64))[p]? = _
    rw [List.getElem?_map, hK]
    rfl
  have hp0 : (0 : Int) ≤ (p : Int) := Int.natCast_nonneg _
  have hp25 : (p : Int) < 25 := by omega
  clear hW1 hd hE hC
  go_enter Tryz.func38, Tryz.ntmps38
  go_wp2_with (first
    | (go_at_call 35
       (with_reducible refine hroll.mono ?_)
       rintro e w2 ⟨rfl, hd2, hr2, hz2⟩
       rw [← HW1.out] at hr2 hz2
       have hcp : w2.cell? ⟨w.heap.size + 1, p, none⟩ = some (.int .i64 13) := by
         have h := World.news_of_block ((hr2.block (w.heap.size + 1) (by omega) (by omega)).trans hl1) p (.int .i64 13) hKv
         rw [add_at, Nat.zero_add] at h
         exact h
       have hca : w2.cell? ((⟨w.heap.size + 1, 0, none⟩ : Addr).add p) = some (.int .i64 13) := by rw [add_at, Nat.zero_add]; exact hcp
       have hR2 : Rolled g w w2 := hR1.trans hr2
       have ho2 := ho1.rolled hr2 (by omega)
       have M3 : Mk g A n c w0 w w2.heap.size 13 k2 b (w2.alloc (.cells #[.int .i64 13, .int .i64 0, .string ⟨#[]⟩, .slice none 0 0, .slice none 0 0, .slice none 0 0, .slice none 0 0, .int .i64 0] 50)) (.int .i64 0) (.string ⟨#[]⟩) (.slice none 0 0) (.slice none 0 0) (.slice none 0 0) (.slice none 0 0) :=
         ⟨hW, hgl, by omega, hR2.alloc _, hd2.alloc _, ho2.alloc _, heap_alloc_new w2 _⟩
       have hz3 := M3.hi
       have hzl3 := M3.zlt
       have hg3 := M3.lo
       obtain ⟨⟨r0, r1, r2, r3, r4, r5, r6, r7⟩, s0, s1, s2, s3, s4, s5, s6, s7⟩ := own_eight M3.res
       obtain ⟨⟨q0, q1, q2, q3, q4, q5, q6, q7⟩, f0, f1, f2, f3, f4, f5, f6, f7⟩ := own_eight M3.blk
       have all1 : Calls Tryz.prog 71 #[.pointer (some ⟨g, 0, none⟩), .int .i64 1, .int .i64 dq] (w2.alloc (.cells #[.int .i64 13, .int .i64 0, .string ⟨#[]⟩, .slice none 0 0, .slice none 0 0, .slice none 0 0, .slice none 0 0, .int .i64 0] 50)) (AllGen g A n c k2 b R N 1 (w2.alloc (.cells #[.int .i64 13, .int .i64 0, .string ⟨#[]⟩, .slice none 0 0, .slice none 0 0, .slice none 0 0, .slice none 0 0, .int .i64 0] 50))) := M3.all HE.out 1 (by omega) (by omega)
       clear hroll hl1 hr2 hd2 hz2)
    | (go_at_call 71
       (with_reducible refine all1.mono ?_)
       rintro e w4 ⟨x4, A4, c4, k4, rfl, hl4, hg4, h41, h42, hn4, hs4, hk4, hd4, hr4⟩
       have M4 := M3.rolled hr4 hd4
       have row4 : RowM w w2.heap.size w4 A4 1 (encX false x4) := RowM.of hg4 M3.zlt M3.hi
       clear r0 r1 r2 r3 r4 r5 r6 r7 s0 s1 s2 s3 s4 s5 s6 s7 q0 q1 q2 q3 q4 q5 q6 q7 f0 f1 f2 f3 f4 f5 f6 f7
       obtain ⟨⟨r0, r1, r2, r3, r4, r5, r6, r7⟩, s0, s1, s2, s3, s4, s5, s6, s7⟩ := own_eight M4.res
       obtain ⟨⟨q0, q1, q2, q3, q4, q5, q6, q7⟩, f0, f1, f2, f3, f4, f5, f6, f7⟩ := own_eight M4.blk
       have armsc : Calls Tryz.prog 74 #[.pointer (some ⟨g, 0, none⟩), .int .i64 dq] w4 (ArmsGen g A n c k4 b R N w4) := M4.arms HC.out HE.out (by omega)
       clear hg4 hr4 hd4)
    | (go_at_call 74
       (with_reducible refine armsc.mono ?_)
       rintro e w5 ⟨y5, m5, A5, c5, k5, rfl, hl5, hg5, h51, h52, hn5, hs5, hk5, hd5, hr5⟩
       have M5 := M4.rolled hr5 hd5
       have row5 : RowM w w2.heap.size w5 A5 m5 (encX true y5) := RowM.of hg5 M4.zlt M4.hi
       clear r0 r1 r2 r3 r4 r5 r6 r7 s0 s1 s2 s3 s4 s5 s6 s7 q0 q1 q2 q3 q4 q5 q6 q7 f0 f1 f2 f3 f4 f5 f6 f7
       obtain ⟨⟨r0, r1, r2, r3, r4, r5, r6, r7⟩, s0, s1, s2, s3, s4, s5, s6, s7⟩ := own_eight M5.res
       obtain ⟨⟨q0, q1, q2, q3, q4, q5, q6, q7⟩, f0, f1, f2, f3, f4, f5, f6, f7⟩ := own_eight M5.blk
       have row45 := row4.rolled hr5 hg3
       clear hg5 hd5)
    | fail "none")
  refine bodyPost_ret (v := .agg #[.int .i64 13, .int .i64 0, .string ⟨#[]⟩, .slice none 0 0, .slice none 0 0, .slice A4 1 c4, .slice A5 m5 c5, .int .i64 0]) (by simp [results, Tryz.results38, go_sem, *]) rfl ?_
  exact ((M5.set5 _).set6 _).close_both (by omega) ((row45.set 5 _).set 6 _) hl4 h41 h42 ((row5.set 5 _).set 6 _) hl5 h51 h52 (by omega) hs4 hs5 13 0 _ _ _ _ _ _ _ _
end Go.Proofs.YtiinghgfojicdaaGreat
namespace Go.Proofs.YtiinghgfojicdaaGreat
open Go.RowKit Go.RowG Go.FRow Go.GMem
set_option linter.unusedVariables false
attribute [local go_sem ↓] Go.wp_at_zero Go.wp_at_succ
set_option maxRecDepth 100000 in
set_option maxHeartbeats 8000000 in
theorem ex_recv (g : Nat) (A : Option Addr) (n c : Nat) (w0 : World) (hC : Rolls1 g A n c w0) (dp dq : Int) (hge : 1 ≤ dp) (hdq : IntKind.i64.wrap (dp - 1) = dq) (R N : Nat) (hE : ExprAt g A n c w0 dq R N) (b : Bool) (k p k2 : Nat) (w : World) (hW : Rolled g w0 w) (hd : Dice w g A n c k b) (hk : k + (4 * R + 46) ≤ 100000) (hp : p < 25) (hk2 : k2 ≤ k + 1) (hK : kinds[p]? = some 18) 
    (hroll : Calls Tryz.prog 35 #[.pointer (some ⟨g, 0, none⟩), .int .i64 25] ((w.alloc (.cells #[.int .i64 0, .int .i64 0, .string ⟨#[]⟩, .slice none 0 0, .slice none 0 0, .slice none 0 0, .slice none 0 0, .int .i64 0] 50)).alloc (.cells #[.int .i64 8, .int .i64 8, .int .i64 8, .int .i64 7, .int .i64 6, .int .i64 6, .int .i64 9, .int .i64 9, .int .i64 10, .int .i64 11, .int .i64 12, .int .i64 12, .int .i64 13, .int .i64 14, .int .i64 15, .int .i64 17, .int .i64 18, .int .i64 19, .int .i64 20, .int .i64 20, .int .i64 21, .int .i64 22, .int .i64 23, .int .i64 24, .int .i64 25] 3)) (RollIs g A n c k2 b p ((w.alloc (.cells #[.int .i64 0, .int .i64 0, .string ⟨#[]⟩, .slice none 0 0, .slice none 0 0, .slice none 0 0, .slice none 0 0, .int .i64 0] 50)).alloc (.cells #[.int .i64 8, .int .i64 8, .int .i64 8, .int .i64 7, .int .i64 6, .int .i64 6, .int .i64 9, .int .i64 9, .int .i64 10, .int .i64 11, .int .i64 12, .int .i64 12, .int .i64 13, .int .i64 14, .int .i64 15, .int .i64 17, .int .i64 18, .int .i64 19, .int .i64 20, .int .i64 20, .int .i64 21, .int .i64 22, .int .i64 23, .int .i64 24, .int .i64 25] 3)))) :
    Calls Tryz.prog 38 #[.pointer (some ⟨g, 0, none⟩), .int .i64 dp] w (ExGen g A n c k b (4 * R + 46) (4 * N + 46) w) := by
  have hgl : g < w.heap.size := hd.lt
  have hdec : decide (dp < 1) = false := decide_eq_false (by omega)
  obtain ⟨W1, hW1⟩ : ∃ W1, W1 = ((w.alloc (.cells #[.int .i64 0, .int .i64 0, .string ⟨#[]⟩, .slice none 0 0, .slice none 0 0, .slice none 0 0, .slice none 0 0, .int .i64 0] 50)).alloc (.cells #[.int .i64 8, .int .i64 8, .int .i64 8, .int .i64 7, .int .i64 6, .int .i64 6, .int .i64 9, .int .i64 9, .int .i64 10, .int .i64 11, .int .i64 12, .int .i64 12, .int .i64 13, .int .i64 14, .int .i64 15, .int .i64 17, .int .i64 18, .int .i64 19, .int .i64 20, .int .i64 20, .int .i64 21, .int .i64 22, .int .i64 23, .int .i64 24, .int .i64 25] 3)) := ⟨_, rfl⟩
  have hR1 : Rolled g w W1 := by rw [hW1]; exact ((Rolled.refl _ _).alloc _).alloc _
  have ho1 : Own8 W1 w.heap.size 50 (.int .i64 0) (.int .i64 0) (.string ⟨#[]⟩) (.slice none 0 0) (.slice none 0 0) (.slice none 0 0) (.slice none 0 0) (.int .i64 0) := by
    rw [hW1]
    exact Own8.alloc (heap_alloc_new w _) _
  have hl1 : W1.heap[w.heap.size + 1]? = some (.cells (kinds.map (Value.int .i64)).toArray 3 (0, 0)) := by
    rw [hW1]
    have := heap_alloc_new (w.alloc (.cells #[.int .i64 0, .int .i64 0, .string ⟨#[]⟩, .slice none 0 0, .slice none 0 0, .slice none 0 0, .slice none 0 0, .int .i64 0] 50)) (.cells #[.int .i64 8, .int .i64 8, .int .i64 8, .int .i64 7, .int .i64 6, .int .i64 6, .int .i64 9, .int .i64 9, .int .i64 10, .int .i64 11, .int .i64 12, .int .i64 12, .int .i64 13, .int .i64 14, .int .i64 15, .int .i64 17, .int .i64 18, .int .i64 19, .int .i64 20, .int .i64 20, .int .i64 21, .int .i64 22, .int .i64 23, .int .i64 24, .int .i64 25] 3)
    have e : (w.alloc (.cells #[.int .i64 0, .int .i64 0, .string ⟨#[]⟩, .slice none 0 0, .slice none 0 0, .slice none 0 0, .slice none 0 0, .int .i64 0] 50)).heap.size = w.heap.size + 1 := by simp
    rw [e] at this
    exact this
  have hs1 : W1.heap.size = w.heap.size + 2 := by rw [hW1]; simp
  have HW1 := Lib.hid hW1
  have HD := Lib.hid hd
  have HE := Lib.hid hE
  have HC := Lib.hid hC
  have hKv : (kinds.map (Value.int .i64)).toArray.toList[p]? = some (.int .i64 18) := by
    show (kinds.map (Value.int .i64))[p]? = _
    rw [List.getElem?_map, hK]
    rfl
  have hp0 : (0 : Int) ≤ (p : Int) := Int.natCast_nonneg _
  have hp25 : (p : Int) < 25 := by omega
  clear hW1 hd hE hC
  go_enter Tryz.func38, Tryz.ntmps38
  go_wp2_with (first
    | (go_at_call 35
       (with_reducible refine hroll.mono ?_)
       rintro e w2 ⟨rfl, hd2, hr2, hz2⟩
       rw [← HW1.out] at hr2 hz2
       have hcp : w2.cell? ⟨w.heap.size + 1, p, none⟩ = some (.int .i64 18) := by
         have h := World.news_of_block ((hr2.block (w.heap.size + 1) (by omega) (by omega)).trans hl1) p (.int .i64 18) hKv
         rw [add_at, Nat.zero_add] at h
         exact h
       have hca : w2.cell? ((⟨w.heap.size + 1, 0, none⟩ : Addr).add p) = some (.int .i64 18) := by rw [add_at, Nat.zero_add]; exact hcp
       have hR2 : Rolled g w w2 := hR1.trans hr2
       have ho2 := ho1.rolled hr2 (by omega)
       have M3 : Mk g A n c w0 w w2.heap.size 18 k2 b (w2.alloc (.cells #[.int .i64 18, .int .i64 0, .string ⟨#[]⟩, .slice none 0 0, .slice none 0 0, .slice none 0 0, .slice none 0 0, .int .i64 0] 50)) (.int .i64 0) (.string ⟨#[]⟩) (.slice none 0 0) (.slice none 0 0) (.slice none 0 0) (.slice none 0 0) :=
         ⟨hW, hgl, by omega, hR2.alloc _, hd2.alloc _, ho2.alloc _, heap_alloc_new w2 _⟩
       have hz3 := M3.hi
       have hzl3 := M3.zlt
       have hg3 := M3.lo
       obtain ⟨⟨r0, r1, r2, r3, r4, r5, r6, r7⟩, s0, s1, s2, s3, s4, s5, s6, s7⟩ := own_eight M3.res
       obtain ⟨⟨q0, q1, q2, q3, q4, q5, q6, q7⟩, f0, f1, f2, f3, f4, f5, f6, f7⟩ := own_eight M3.blk
       have M31 : Mk g A n c w0 w w2.heap.size 18 k2 b (w2.alloc (.cells #[.int .i64 18, .int .i64 (-1), .string ⟨#[]⟩, .slice none 0 0, .slice none 0 0, .slice none 0 0, .slice none 0 0, .int .i64 0] 50)) (.int .i64 (-1)) (.string ⟨#[]⟩) (.slice none 0 0) (.slice none 0 0) (.slice none 0 0) (.slice none 0 0) := ⟨hW, hgl, hz3, hR2.alloc _, hd2.alloc _, ho2.alloc _, heap_alloc_new w2 _⟩
       have n2 : Calls Tryz.prog 35 #[.pointer (some ⟨g, 0, none⟩), .int .i64 2] (w2.alloc (.cells #[.int .i64 18, .int .i64 (-1), .string ⟨#[]⟩, .slice none 0 0, .slice none 0 0, .slice none 0 0, .slice none 0 0, .int .i64 0] 50)) (RollEnds g A n c k2 b 2 (w2.alloc (.cells #[.int .i64 18, .int .i64 (-1), .string ⟨#[]⟩, .slice none 0 0, .slice none 0 0, .slice none 0 0, .slice none 0 0, .int .i64 0] 50))) := M31.n HC.out 2 (by omega) (by omega) (by omega)
       clear hroll hl1 hr2 hd2 hz2)
    | (go_at_call 35
       (with_reducible refine n2.mono ?_)
       rintro e w4 ⟨p4, k4, hp4, hk4, rfl, hd4, hr4, hz4⟩
       have M4 := M31.rolled hr4 hd4
       have hpp4 : (0 : Int) ≤ (p4 : Int) := Int.natCast_nonneg _
       clear r0 r1 r2 r3 r4 r5 r6 r7 s0 s1 s2 s3 s4 s5 s6 s7 q0 q1 q2 q3 q4 q5 q6 q7 f0 f1 f2 f3 f4 f5 f6 f7
       obtain ⟨⟨r0, r1, r2, r3, r4, r5, r6, r7⟩, s0, s1, s2, s3, s4, s5, s6, s7⟩ := own_eight M4.res
       obtain ⟨⟨q0, q1, q2, q3, q4, q5, q6, q7⟩, f0, f1, f2, f3, f4, f5, f6, f7⟩ := own_eight M4.blk
       have armsc : Calls Tryz.prog 74 #[.pointer (some ⟨g, 0, none⟩), .int .i64 dq] w4 (ArmsGen g A n c k4 b R N w4) := M4.arms HC.out HE.out (by omega)
       have n3 : Calls Tryz.prog 35 #[.pointer (some ⟨g, 0, none⟩), .int .i64 3] w4 (RollEnds g A n c k4 b 3 w4) := M4.n HC.out 3 (by omega) (by omega) (by omega)
       clear hd4 hz4)
    | (go_at_call 35
       (with_reducible refine n3.mono ?_)
       rintro e w5 ⟨p5, k5, hp5, hk5, rfl, hd5, hr5, hz5⟩
       have M5 := M4.rolled hr5 hd5
       have hpp5 : (0 : Int) ≤ (p5 : Int) := Int.natCast_nonneg _
       clear r0 r1 r2 r3 r4 r5 r6 r7 s0 s1 s2 s3 s4 s5 s6 s7 q0 q1 q2 q3 q4 q5 q6 q7 f0 f1 f2 f3 f4 f5 f6 f7
       obtain ⟨⟨r0, r1, r2, r3, r4, r5, r6, r7⟩, s0, s1, s2, s3, s4, s5, s6, s7⟩ := own_eight M5.res
       obtain ⟨⟨q0, q1, q2, q3, q4, q5, q6, q7⟩, f0, f1, f2, f3, f4, f5, f6, f7⟩ := own_eight M5.blk
       have all1 : Calls Tryz.prog 71 #[.pointer (some ⟨g, 0, none⟩), .int .i64 1, .int .i64 dq] w5 (AllGen g A n c k5 b R N 1 w5) := M5.all HE.out 1 (by omega) (by omega)
       clear hd5 hz5)
    | (go_at_call 71
       (with_reducible refine all1.mono ?_)
       rintro e w6 ⟨x6, A6, c6, k6, rfl, hl6, hg6, h61, h62, hn6, hs6, hk6, hd6, hr6⟩
       have M6 := M5.rolled hr6 hd6
       have row6 : RowM w w2.heap.size w6 A6 1 (encX false x6) := RowM.of hg6 M5.zlt M5.hi
       clear r0 r1 r2 r3 r4 r5 r6 r7 s0 s1 s2 s3 s4 s5 s6 s7 q0 q1 q2 q3 q4 q5 q6 q7 f0 f1 f2 f3 f4 f5 f6 f7
       obtain ⟨⟨r0, r1, r2, r3, r4, r5, r6, r7⟩, s0, s1, s2, s3, s4, s5, s6, s7⟩ := own_eight M6.res
       obtain ⟨⟨q0, q1, q2, q3, q4, q5, q6, q7⟩, f0, f1, f2, f3, f4, f5, f6, f7⟩ := own_eight M6.blk
       have M62 := (M6.set1 (.int .i64 (p5 : Int))).set5 (.slice A6 1 c6)
       have armsd : Calls Tryz.prog 74 #[.pointer (some ⟨g, 0, none⟩), .int .i64 dq] ((w6.setCell ⟨w2.heap.size, 1, none⟩ (.int .i64 (p5 : Int))).setCell ⟨w2.heap.size, 5, none⟩ (.slice A6 1 c6)) (ArmsGen g A n c k6 b R N ((w6.setCell ⟨w2.heap.size, 1, none⟩ (.int .i64 (p5 : Int))).setCell ⟨w2.heap.size, 5, none⟩ (.slice A6 1 c6))) := M62.arms HC.out HE.out (by omega)
       clear hg6 hr6 hd6)
    | (go_at_call 74
       (with_reducible refine armsd.mono ?_)
       rintro e w7 ⟨y7, m7, A7, c7, k7, rfl, hl7, hg7, h71, h72, hn7, hs7, hk7, hd7, hr7⟩
       have M7 := M62.rolled hr7 hd7
       have row7 : RowM w w2.heap.size w7 A7 m7 (encX true y7) := RowM.of hg7 M62.zlt M62.hi
       clear r0 r1 r2 r3 r4 r5 r6 r7 s0 s1 s2 s3 s4 s5 s6 s7 q0 q1 q2 q3 q4 q5 q6 q7 f0 f1 f2 f3 f4 f5 f6 f7
       obtain ⟨⟨r0, r1, r2, r3, r4, r5, r6, r7⟩, s0, s1, s2, s3, s4, s5, s6, s7⟩ := own_eight M7.res
       obtain ⟨⟨q0, q1, q2, q3, q4, q5, q6, q7⟩, f0, f1, f2, f3, f4, f5, f6, f7⟩ := own_eight M7.blk
       have row67 := ((row6.set 1 (.int .i64 (p5 : Int))).set 5 (.slice A6 1 c6)).rolled hr7 hg3
       clear hg7 hd7)
    | (go_at_call 74
       (with_reducible refine armsc.mono ?_)
       rintro e w7 ⟨y7, m7, A7, c7, k7, rfl, hl7, hg7, h71, h72, hn7, hs7, hk7, hd7, hr7⟩
       have M7 := M4.rolled hr7 hd7
       have row7 : RowM w w2.heap.size w7 A7 m7 (encX true y7) := RowM.of hg7 M4.zlt M4.hi
       clear r0 r1 r2 r3 r4 r5 r6 r7 s0 s1 s2 s3 s4 s5 s6 s7 q0 q1 q2 q3 q4 q5 q6 q7 f0 f1 f2 f3 f4 f5 f6 f7
       obtain ⟨⟨r0, r1, r2, r3, r4, r5, r6, r7⟩, s0, s1, s2, s3, s4, s5, s6, s7⟩ := own_eight M7.res
       obtain ⟨⟨q0, q1, q2, q3, q4, q5, q6, q7⟩, f0, f1, f2, f3, f4, f5, f6, f7⟩ := own_eight M7.blk
       clear hg7 hd7)
    | fail "none")
  · refine bodyPost_ret (v := .agg #[.int .i64 18, .int .i64 (p5 : Int), .string ⟨#[]⟩, .slice none 0 0, .slice none 0 0, .slice A6 1 c6, .slice A7 m7 c7, .int .i64 0]) (by simp [results, Tryz.results38, go_sem, *]) rfl ?_
    exact (M7.set6 _).close_both (by omega) (row67.set 6 _) hl6 h61 h62 (row7.set 6 _) hl7 h71 h72 (by omega) hs6 hs7 18 (p5 : Int) _ _ _ _ _ _ _ _
  · refine bodyPost_ret (v := .agg #[.int .i64 18, .int .i64 (-1), .string ⟨#[]⟩, .slice none 0 0, .slice none 0 0, .slice none 0 0, .slice A7 m7 c7, .int .i64 0]) (by simp [results, Tryz.results38, go_sem, *]) rfl ?_
    exact (M7.set6 _).close_both (x := .nil) (by omega) (GRow.nil _ _ _ _) rfl (Nat.le_refl _) (Nat.zero_le _) (row7.set 6 _) hl7 h71 h72 (by simp only [sizeX]; omega) trivial hs7 18 (-1) _ _ _ _ _ _ _ _
end Go.Proofs.YtiinghgfojicdaaGreat
