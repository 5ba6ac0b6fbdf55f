/- A part of the proof of FoldTwice: dice.expr: a way. No conditions. -/
import Derived.Deep.RegionHeld3
import Derived.Test.YtiinghgfojicdaaGreatFoT
import Derived.Test.YtiinghgfojicdaaGreatFoL
set_option linter.unusedVariables false
set_option linter.unusedSimpArgs false
namespace Go.Proofs.YtiinghgfojicdaaGreat
open Go.RowKit Go.RowG Go.FRow Go.GMem
set_option linter.unusedVariables false
attribute [local go_sem ↓] Go.wp_at_zero Go.wp_at_succ
set_option maxRecDepth 100000 in
set_option maxHeartbeats 8000000 in
theorem ex_become (g : Nat) (A : Option Addr) (n c : Nat) (w0 : World) (hC : Rolls1 g A n c w0) (dp dq : Int) (hge : 1 ≤ dp) (hdq : IntKind.i64.wrap (dp - 1) = dq) (R N : Nat) (hE : ExprAt g A n c w0 dq R N) (b : Bool) (k p k2 : Nat) (w : World) (hW : Rolled g w0 w) (hd : Dice w g A n c k b) (hk : k + (4 * R + 46) ≤ 100000) (hp : p < 25) (hk2 : k2 ≤ k + 1) (hK : kinds[p]? = some 17) 
    (hroll : Calls Tryz.prog 35 #[.pointer (some ⟨g, 0, none⟩), .int .i64 25] ((w.alloc (.cells #[.int .i64 0, .int .i64 0, .string ⟨#[]⟩, .slice none 0 0, .slice none 0 0, .slice none 0 0, .slice none 0 0, .int .i64 0] 50)).alloc (.cells #[.int .i64 8, .int .i64 8, .int .i64 8, .int .i64 7, .int .i64 6, .int .i64 6, .int .i64 9, .int .i64 9, .int .i64 10, .int .i64 11, .int .i64 12, .int .i64 12, .int .i64 13, .int .i64 14, .int .i64 15, .int .i64 17, .int .i64 18, .int .i64 19, .int .i64 20, .int .i64 20, .int .i64 21, .int .i64 22, .int .i64 23, .int .i64 24, .int .i64 25] 3)) (RollIs g A n c k2 b p ((w.alloc (.cells #[.int .i64 0, .int .i64 0, .string ⟨#[]⟩, .slice none 0 0, .slice none 0 0, .slice none 0 0, .slice none 0 0, .int .i64 0] 50)).alloc (.cells #[.int .i64 8, .int .i64 8, .int .i64 8, .int .i64 7, .int .i64 6, .int .i64 6, .int .i64 9, .int .i64 9, .int .i64 10, .int .i64 11, .int .i64 12, .int .i64 12, .int .i64 13, .int .i64 14, .int .i64 15, .int .i64 17, .int .i64 18, .int .i64 19, .int .i64 20, .int .i64 20, .int .i64 21, .int .i64 22, .int .i64 23, .int .i64 24, .int .i64 25] 3)))) :
    Calls Tryz.prog 38 #[.pointer (some ⟨g, 0, none⟩), .int .i64 dp] w (ExGen g A n c k b (4 * R + 46) (4 * N + 46) w) := by
  have hgl : g < w.heap.size := hd.lt
  have hdec : decide (dp < 1) = false := decide_eq_false (by omega)
  obtain ⟨W1, hW1⟩ : ∃ W1, W1 = ((w.alloc (.cells #[.int .i64 0, .int .i64 0, .string ⟨#[]⟩, .slice none 0 0, .slice none 0 0, .slice none 0 0, .slice none 0 0, .int .i64 0] 50)).alloc (.cells #[.int .i64 8, .int .i64 8, .int .i64 8, .int .i64 7, .int .i64 6, .int .i64 6, .int .i64 9, .int .i64 9, .int .i64 10, .int .i64 11, .int .i64 12, .int .i64 12, .int .i64 13, .int .i64 14, .int .i64 15, .int .i64 17, .int .i64 18, .int .i64 19, .int .i64 20, .int .i64 20, .int .i64 21, .int .i64 22, .int .i64 23, .int .i64 24, .int .i64 25] 3)) := ⟨_, rfl⟩
  have hR1 : Rolled g w W1 := by rw [hW1]; exact ((Rolled.refl _ _).alloc _).alloc _
  have ho1 : Own8 W1 w.heap.size 50 (.int .i64 0) (.int .i64 0) (.string ⟨#[]⟩) (.slice none 0 0) (.slice none 0 0) (.slice none 0 0) (.slice none 0 0) (.int .i64 0) := by
    rw [hW1]
    exact Own8.alloc (heap_alloc_new w _) _
  have hl1 : W1.heap[w.heap.size + 1]? = some (.cells (kinds.map (Value.int .i64)).toArray 3 (0, 0)) := by
    rw [hW1]
    have := heap_alloc_new (w.alloc (.cells #[.int .i64 0, .int .i64 0, .string ⟨#[]⟩, .slice none 0 0, .slice none 0 0, .slice none 0 0, .slice none 0 0, .int .i64 0] 50)) (.cells #[.int .i64 8, .int .i64 8, .int .i64 8, .int .i64 7, .int .i64 6, .int .i64 6, .int .i64 9, .int .i64 9, .int .i64 10, .int .i64 11, .int .i64 12, .int .i64 12, .int .i64 13, .int .i64 14, .int .i64 15, .int .i64 17, .int .i64 18, .int .i64 19, .int .i64 20, .int .i64 20, .int .i64 21, .int .i64 22, .int .i64 23, .int .i64 24, .int .i64 25] 3)
    have e : (w.alloc (.cells #[.int .i64 0, .int .i64 0, .string ⟨#[]⟩, .slice none 0 0, .slice none 0 0, .slice none 0 0, .slice none 0 0, .int .i64 0] 50)).heap.size = w.heap.size + 1 := by simp
    rw [e] at this
    exact this
  have hs1 : W1.heap.size = w.heap.size + 2 := by rw [hW1]; simp
  have HW1 := Lib.hid hW1
  have HD := Lib.hid hd
  have HE := Lib.hid hE
  have HC := Lib.hid hC
  have hKv : (kinds.map (Value.int .i64)).toArray.toList[p]? = some (.int .i64 17) := by
    show (kinds.map (Value.int .i64))[p]? = _
    rw [List.getElem?_map, hK]
    rfl
  have hp0 : (0 : Int) ≤ (p : Int) := Int.natCast_nonneg _
  have hp25 : (p : Int) < 25 := by omega
  clear hW1 hd hE hC
  go_enter Tryz.func38, Tryz.ntmps38
  go_wp2_with (first
    | (go_at_call 35
       (with_reducible refine hroll.mono ?_)
       rintro e w2 ⟨rfl, hd2, hr2, hz2⟩
       rw [← HW1.out] at hr2 hz2
       have hcp : w2.cell? ⟨w.heap.size + 1, p, none⟩ = some (.int .i64 17) := by
         have h := World.news_of_block ((hr2.block (w.heap.size + 1) (by omega) (by omega)).trans hl1) p (.int .i64 17) hKv
         rw [add_at, Nat.zero_add] at h
         exact h
       have hca : w2.cell? ((⟨w.heap.size + 1, 0, none⟩ : Addr).add p) = some (.int .i64 17) := by rw [add_at, Nat.zero_add]; exact hcp
       have hR2 : Rolled g w w2 := hR1.trans hr2
       have ho2 := ho1.rolled hr2 (by omega)
       have M3 : Mk g A n c w0 w w2.heap.size 17 k2 b (w2.alloc (.cells #[.int .i64 17, .int .i64 0, .string ⟨#[]⟩, .slice none 0 0, .slice none 0 0, .slice none 0 0, .slice none 0 0, .int .i64 0] 50)) (.int .i64 0) (.string ⟨#[]⟩) (.slice none 0 0) (.slice none 0 0) (.slice none 0 0) (.slice none 0 0) :=
         ⟨hW, hgl, by omega, hR2.alloc _, hd2.alloc _, ho2.alloc _, heap_alloc_new w2 _⟩
       have hz3 := M3.hi
       have hzl3 := M3.zlt
       have hg3 := M3.lo
       obtain ⟨⟨r0, r1, r2, r3, r4, r5, r6, r7⟩, s0, s1, s2, s3, s4, s5, s6, s7⟩ := own_eight M3.res
       obtain ⟨⟨q0, q1, q2, q3, q4, q5, q6, q7⟩, f0, f1, f2, f3, f4, f5, f6, f7⟩ := own_eight M3.blk
       have n6 : Calls Tryz.prog 35 #[.pointer (some ⟨g, 0, none⟩), .int .i64 6] (w2.alloc (.cells #[.int .i64 17, .int .i64 0, .string ⟨#[]⟩, .slice none 0 0, .slice none 0 0, .slice none 0 0, .slice none 0 0, .int .i64 0] 50)) (RollEnds g A n c k2 b 6 (w2.alloc (.cells #[.int .i64 17, .int .i64 0, .string ⟨#[]⟩, .slice none 0 0, .slice none 0 0, .slice none 0 0, .slice none 0 0, .int .i64 0] 50))) := M3.n HC.out 6 (by omega) (by omega) (by omega)
       clear hroll hl1 hr2 hd2 hz2)
    | (go_at_call 35
       (with_reducible refine n6.mono ?_)
       rintro e w4 ⟨p4, k4, hp4, hk4, rfl, hd4, hr4, hz4⟩
       have M4 := M3.rolled hr4 hd4
       have hpp4 : (0 : Int) ≤ (p4 : Int) := Int.natCast_nonneg _
       clear r0 r1 r2 r3 r4 r5 r6 r7 s0 s1 s2 s3 s4 s5 s6 s7 q0 q1 q2 q3 q4 q5 q6 q7 f0 f1 f2 f3 f4 f5 f6 f7
       obtain ⟨⟨r0, r1, r2, r3, r4, r5, r6, r7⟩, s0, s1, s2, s3, s4, s5, s6, s7⟩ := own_eight M4.res
       obtain ⟨⟨q0, q1, q2, q3, q4, q5, q6, q7⟩, f0, f1, f2, f3, f4, f5, f6, f7⟩ := own_eight M4.blk
       obtain ⟨qq, hqv, hq1⟩ : ∃ q : Nat, (p4 : Int).tdiv 5 = (q : Int) ∧ q ≤ 1 := ⟨p4 / 5, by rw [Int.tdiv_eq_ediv_of_nonneg (by omega)]; rfl, by omega⟩
       have hw1 : IntKind.i64.wrap (qq : Int) = (qq : Int) := IntWalk.i64_in _ (by omega)
       have hw2 : IntKind.i64.wrap (1 + (qq : Int)) = 1 + (qq : Int) := IntWalk.i64_in _ (by omega)
       have hpr : (qq + 1) * R ≤ 2 * R := Nat.mul_le_mul_right _ (by omega)
       have hpn : (qq + 1) * N ≤ 2 * N := Nat.mul_le_mul_right _ (by omega)
       have allp : Calls Tryz.prog 71 #[.pointer (some ⟨g, 0, none⟩), .int .i64 (1 + (qq : Int)), .int .i64 dq] w4 (AllGen g A n c k4 b R N (qq + 1) w4) := by
         have := M4.all HE.out (qq + 1) (by omega) (by omega)
         rw [show (1 + (qq : Int)) = ((qq + 1 : Nat) : Int) by omega]
         exact this
       clear hd4 hz4)
    | (go_at_call 71
       (with_reducible refine allp.mono ?_)
       rintro e w5 ⟨x5, A5, c5, k5, rfl, hl5, hg5, h51, h52, hn5, hs5, hk5, hd5, hr5⟩
       have M5 := M4.rolled hr5 hd5
       have row5 : RowM w w2.heap.size w5 A5 (qq + 1) (encX false x5) := RowM.of hg5 M4.zlt M4.hi
       clear r0 r1 r2 r3 r4 r5 r6 r7 s0 s1 s2 s3 s4 s5 s6 s7 q0 q1 q2 q3 q4 q5 q6 q7 f0 f1 f2 f3 f4 f5 f6 f7
       obtain ⟨⟨r0, r1, r2, r3, r4, r5, r6, r7⟩, s0, s1, s2, s3, s4, s5, s6, s7⟩ := own_eight M5.res
       obtain ⟨⟨q0, q1, q2, q3, q4, q5, q6, q7⟩, f0, f1, f2, f3, f4, f5, f6, f7⟩ := own_eight M5.blk
       have hdb : w5.cell? ⟨g, 2, none⟩ = some (.bool b) := by
         have h := World.news_of_block M5.dice 2 (.bool b) rfl
         simpa [Addr.add] using h
       have hrowx : GRow w5 (fun b => w.heap.size < b ∧ b < w5.heap.size ∧ b ≠ w2.heap.size) A5 x5.len (encX false x5) := by
         rw [hl5]
         exact row5
       have hlt5 : 0 < x5.len := by omega
       obtain ⟨ad, q50, hA5, hSad, hc5, he5⟩ := (xrest hrowx).nth (i := 0) (atX_some (x := x5) (i := 0) hlt5)
       subst hA5
       rw [show ad.add ((0 + 0) * 8) = ad by simp [Addr.add]] at hc5
       obtain ⟨a0, a1, a2, a3, a4, a5, a6, a7⟩ := hc5
       have ne1 : w2.heap.size ≠ ad.block := fun e => hSad.2.2 e.symm
       have ne2 : w.heap.size ≠ ad.block := by have := hSad.1; omega
       have ne3 : w2.heap.size ≠ g := by omega
       have ad0 : (w5.setCell ⟨w2.heap.size, 5, none⟩ (.slice (some ad) (qq + 1) c5)).cell? ad = some (.int .i64 (atX x5 0).h.k) := (World.cell?_of_block (Below.heap_setCell _ _ _ _ (Ne.symm ne1))).trans a0
       have hq0 : (0 : Int) < ((qq + 1 : Nat) : Int) := by omega
       have hq00 : 0 < qq + 1 := by omega
       have HEI := Lib.hid he5
       have HSM := Lib.hid (show (atX x5 0).small ∧ (atX x5 0).size ≤ sizeX false x5 from ⟨small_at hs5 (atX_some hlt5), size_at (atX_some hlt5)⟩)
       clear he5 hrowx
       clear hg5 hr5 hd5)
    | fail "none")
  · refine bodyPost_ret (v := agg8 (atX x5 0) q50) (by simp [results, Tryz.results38, go_sem, agg8, *]) rfl ?_
    exact (M5.set5 _).close (by omega) (HEI.out.keep (fun b hb => ⟨hb.1, by have := hb.2.1; simpa [World.setCell] using this⟩) fun p hp => World.cell?_of_block (Below.heap_setCell _ _ _ _ hp.2.2)) (by have := HSM.out.2; omega) HSM.out.1 _ _ _ _ _ _ _ _
  · refine bodyPost_ret (v := .agg #[.int .i64 17, .int .i64 0, .string ⟨#[]⟩, .slice none 0 0, .slice none 0 0, .slice (some ad) (qq + 1) c5, .slice none 0 0, .int .i64 0]) (by simp [results, Tryz.results38, go_sem, *]) rfl ?_
    exact (M5.set5 _).close_args (by omega) (row5.set 5 _) hl5 h51 h52 (by omega) hs5 17 0 ⟨#[]⟩ (by decide) _ _ _ _ _ _ _ _
end Go.Proofs.YtiinghgfojicdaaGreat
