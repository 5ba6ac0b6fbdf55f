/- A part of the proof of FoldTwice: dice.expr: a way. No conditions. -/
import Derived.Deep.RegionLaw
import Derived.Deep.CutRange
import Derived.Deep.RegionHeld3
import Derived.Test.YtiinghgfojicdaaGreatFoY
set_option linter.unusedVariables false
set_option linter.unusedSimpArgs false
namespace Go.Proofs.YtiinghgfojicdaaGreat
open Go.RowKit Go.RowG Go.FRow Go.GMem
set_option linter.unusedVariables false
attribute [local go_sem ↓] Go.wp_at_zero Go.wp_at_succ
set_option maxRecDepth 100000 in
set_option maxHeartbeats 8000000 in
theorem ex_fun (g : Nat) (A : Option Addr) (n c : Nat) (w0 : World) (hC : Rolls1 g A n c w0) (dp dq : Int) (hge : 1 ≤ dp) (hdq : IntKind.i64.wrap (dp - 1) = dq) (R N : Nat) (hE : ExprAt g A n c w0 dq R N) (b : Bool) (k p k2 : Nat) (w : World) (hW : Rolled g w0 w) (hd : Dice w g A n c k b) (hk : k + (4 * R + 46) ≤ 100000) (hp : p < 25) (hk2 : k2 ≤ k + 1) (hK : kinds[p]? = some 10) 
    (hroll : Calls Tryz.prog 35 #[.pointer (some ⟨g, 0, none⟩), .int .i64 25] ((w.alloc (.cells #[.int .i64 0, .int .i64 0, .string ⟨#[]⟩, .slice none 0 0, .slice none 0 0, .slice none 0 0, .slice none 0 0, .int .i64 0] 50)).alloc (.cells #[.int .i64 8, .int .i64 8, .int .i64 8, .int .i64 7, .int .i64 6, .int .i64 6, .int .i64 9, .int .i64 9, .int .i64 10, .int .i64 11, .int .i64 12, .int .i64 12, .int .i64 13, .int .i64 14, .int .i64 15, .int .i64 17, .int .i64 18, .int .i64 19, .int .i64 20, .int .i64 20, .int .i64 21, .int .i64 22, .int .i64 23, .int .i64 24, .int .i64 25] 3)) (RollIs g A n c k2 b p ((w.alloc (.cells #[.int .i64 0, .int .i64 0, .string ⟨#[]⟩, .slice none 0 0, .slice none 0 0, .slice none 0 0, .slice none 0 0, .int .i64 0] 50)).alloc (.cells #[.int .i64 8, .int .i64 8, .int .i64 8, .int .i64 7, .int .i64 6, .int .i64 6, .int .i64 9, .int .i64 9, .int .i64 10, .int .i64 11, .int .i64 12, .int .i64 12, .int .i64 13, .int .i64 14, .int .i64 15, .int .i64 17, .int .i64 18, .int .i64 19, .int .i64 20, .int .i64 20, .int .i64 21, .int .i64 22, .int .i64 23, .int .i64 24, .int .i64 25] 3)))) :
    Calls Tryz.prog 38 #[.pointer (some ⟨g, 0, none⟩), .int .i64 dp] w (ExGen g A n c k b (4 * R + 46) (4 * N + 46) w) := by
  have hgl : g < w.heap.size := hd.lt
  have hdec : decide (dp < 1) = false := decide_eq_false (by omega)
  obtain ⟨W1, hW1⟩ : ∃ W1, W1 = ((w.alloc (.cells #[.int .i64 0, .int .i64 0, .string ⟨#[]⟩, .slice none 0 0, .slice none 0 0, .slice none 0 0, .slice none 0 0, .int .i64 0] 50)).alloc (.cells #[.int .i64 8, .int .i64 8, .int .i64 8, .int .i64 7, .int .i64 6, .int .i64 6, .int .i64 9, .int .i64 9, .int .i64 10, .int .i64 11, .int .i64 12, .int .i64 12, .int .i64 13, .int .i64 14, .int .i64 15, .int .i64 17, .int .i64 18, .int .i64 19, .int .i64 20, .int .i64 20, .int .i64 21, .int .i64 22, .int .i64 23, .int .i64 24, .int .i64 25] 3)) := ⟨_, rfl⟩
  have hR1 : Rolled g w W1 := by rw [hW1]; exact ((Rolled.refl _ _).alloc _).alloc _
  have ho1 : Own8 W1 w.heap.size 50 (.int .i64 0) (.int .i64 0) (.string ⟨#[]⟩) (.slice none 0 0) (.slice none 0 0) (.slice none 0 0) (.slice none 0 0) (.int .i64 0) := by
    rw [hW1]
    exact Own8.alloc (heap_alloc_new w _) _
  have hl1 : W1.heap[w.heap.size + 1]? = some (.cells (kinds.map (Value.int .i64)).toArray 3 (0, 0)) := by
    rw [hW1]
    have := heap_alloc_new (w.alloc (.cells #[.int .i64 0, .int .i64 0, .string ⟨#[]⟩, .slice none 0 0, .slice none 0 0, .slice none 0 0, .slice none 0 0, .int .i64 0] 50)) (.cells #[.int .i64 8, .int .i64 8, .int .i64 8, .int .i64 7, .int .i64 6, .int .i64 6, .int .i64 9, .int .i64 9, .int .i64 10, .int .i64 11, .int .i64 12, .int .i64 12, .int .i64 13, .int .i64 14, .int .i64 15, .int .i64 17, .int .i64 18, .int .i64 19, .int .i64 20, .int .i64 20, .int .i64 21, .int .i64 22, .int .i64 23, .int .i64 24, .int .i64 25] 3)
    have e : (w.alloc (.cells #[.int .i64 0, .int .i64 0, .string ⟨#[]⟩, .slice none 0 0, .slice none 0 0, .slice none 0 0, .slice none 0 0, .int .i64 0] 50)).heap.size = w.heap.size + 1 := by simp
    rw [e] at this
    exact this
  have hs1 : W1.heap.size = w.heap.size + 2 := by rw [hW1]; simp
  have HW1 := Lib.hid hW1
  have HD := Lib.hid hd
  have HE := Lib.hid hE
  have HC := Lib.hid hC
  have hKv : (kinds.map (Value.int .i64)).toArray.toList[p]? = some (.int .i64 10) := by
    show (kinds.map (Value.int .i64))[p]? = _
    rw [List.getElem?_map, hK]
    rfl
  have hp0 : (0 : Int) ≤ (p : Int) := Int.natCast_nonneg _
  have hp25 : (p : Int) < 25 := by omega
  clear hW1 hd hE hC
  go_enter Tryz.func38, Tryz.ntmps38
  go_upto_region 22 with (first
    | (go_at_call 35
       (with_reducible refine hroll.mono ?_)
       rintro e w2 ⟨rfl, hd2, hr2, hz2⟩
       rw [← HW1.out] at hr2 hz2
       have hcp : w2.cell? ⟨w.heap.size + 1, p, none⟩ = some (.int .i64 10) := by
         have h := World.news_of_block ((hr2.block (w.heap.size + 1) (by omega) (by omega)).trans hl1) p (.int .i64 10) hKv
         rw [add_at, Nat.zero_add] at h
         exact h
       have hca : w2.cell? ((⟨w.heap.size + 1, 0, none⟩ : Addr).add p) = some (.int .i64 10) := by rw [add_at, Nat.zero_add]; exact hcp
       have hR2 : Rolled g w w2 := hR1.trans hr2
       have ho2 := ho1.rolled hr2 (by omega)
       have M3 : Mk g A n c w0 w w2.heap.size 10 k2 b (w2.alloc (.cells #[.int .i64 10, .int .i64 0, .string ⟨#[]⟩, .slice none 0 0, .slice none 0 0, .slice none 0 0, .slice none 0 0, .int .i64 0] 50)) (.int .i64 0) (.string ⟨#[]⟩) (.slice none 0 0) (.slice none 0 0) (.slice none 0 0) (.slice none 0 0) :=
         ⟨hW, hgl, by omega, hR2.alloc _, hd2.alloc _, ho2.alloc _, heap_alloc_new w2 _⟩
       have hz3 := M3.hi
       have hzl3 := M3.zlt
       have hg3 := M3.lo
       obtain ⟨⟨r0, r1, r2, r3, r4, r5, r6, r7⟩, s0, s1, s2, s3, s4, s5, s6, s7⟩ := own_eight M3.res
       obtain ⟨⟨q0, q1, q2, q3, q4, q5, q6, q7⟩, f0, f1, f2, f3, f4, f5, f6, f7⟩ := own_eight M3.blk
       have hdb : (w2.alloc (.cells #[.int .i64 10, .int .i64 0, .string ⟨#[]⟩, .slice none 0 0, .slice none 0 0, .slice none 0 0, .slice none 0 0, .int .i64 0] 50)).cell? ⟨g, 2, none⟩ = some (.bool b) := by
         have h := World.news_of_block M3.dice 2 (.bool b) rfl
         simpa [Addr.add] using h
       have hdf : (w2.alloc (.cells #[.int .i64 10, .int .i64 0, .string ⟨#[]⟩, .slice none 0 0, .slice none 0 0, .slice none 0 0, .slice none 0 0, .int .i64 0] 50)).frozen? ⟨g, 2, none⟩ = false := by
         have h := M3.dice
         unfold Dice at h
         simp [World.frozen?, h]
       have ng1 : w2.heap.size ≠ g := by omega
       have ng2 : w.heap.size ≠ g := by omega
       have MG := M3.flag false
       have MF := MG.drew
       clear hroll hl1 hr2 hd2 hz2)
    | fail "none")
  go_cut [] from 77 to 85 (fun wx => Fun1 g A n c w0 w w2.heap.size k2 R N false wx)
  case first =>
    have eD : ((w2.alloc (.cells #[.int .i64 10, .int .i64 0, .string ⟨#[]⟩, .slice none 0 0, .slice none 0 0, .slice none 0 0, .slice none 0 0, .int .i64 0] 50)).setCell ⟨g, 2, none⟩ (.bool false)).heap.size = w2.heap.size + 1 := by simp [World.setCell]
    have NB0 : NR w w2.heap.size (((w2.alloc (.cells #[.int .i64 10, .int .i64 0, .string ⟨#[]⟩, .slice none 0 0, .slice none 0 0, .slice none 0 0, .slice none 0 0, .int .i64 0] 50)).setCell ⟨g, 2, none⟩ (.bool false)).alloc (.cells #[.string ⟨#[120]⟩, .string ⟨#[121]⟩] 9)).drew (w2.heap.size + 1) := by
      have h := NR.new (w := w) MG.hi MG.zlt
      rw [eD] at h
      exact ⟨h.heap, h.lo, h.ne⟩
    have n3a : Calls Tryz.prog 35 #[.pointer (some ⟨g, 0, none⟩), .int .i64 3] ((w2.alloc (.cells #[.int .i64 10, .int .i64 0, .string ⟨#[]⟩, .slice none 0 0, .slice none 0 0, .slice none 0 0, .slice none 0 0, .int .i64 0] 50)).setCell ⟨g, 2, none⟩ (.bool false)).drew (RollEnds g A n c k2 false 3 ((w2.alloc (.cells #[.int .i64 10, .int .i64 0, .string ⟨#[]⟩, .slice none 0 0, .slice none 0 0, .slice none 0 0, .slice none 0 0, .int .i64 0] 50)).setCell ⟨g, 2, none⟩ (.bool false)).drew) := MF.n HC.out 3 (by omega) (by omega) (by omega)
    have n3b : Calls Tryz.prog 35 #[.pointer (some ⟨g, 0, none⟩), .int .i64 3] (((w2.alloc (.cells #[.int .i64 10, .int .i64 0, .string ⟨#[]⟩, .slice none 0 0, .slice none 0 0, .slice none 0 0, .slice none 0 0, .int .i64 0] 50)).setCell ⟨g, 2, none⟩ (.bool false)).alloc (.cells #[.string ⟨#[120]⟩, .string ⟨#[121]⟩] 9)).drew (RollEnds g A n c k2 false 3 (((w2.alloc (.cells #[.int .i64 10, .int .i64 0, .string ⟨#[]⟩, .slice none 0 0, .slice none 0 0, .slice none 0 0, .slice none 0 0, .int .i64 0] 50)).setCell ⟨g, 2, none⟩ (.bool false)).alloc (.cells #[.string ⟨#[120]⟩, .string ⟨#[121]⟩] 9)).drew) := (MG.alloc _).drew.n HC.out 3 (by omega) (by omega) (by omega)
    clear hdb hdf r0 r1 r2 r3 r4 r5 r6 r7 s0 s1 s2 s3 s4 s5 s6 s7 q0 q1 q2 q3 q4 q5 q6 q7 f0 f1 f2 f3 f4 f5 f6 f7
    go_region_law (first
      | (go_simp
         go_at_call 35
         (with_reducible refine n3a.mono ?_)
         rintro e w4 ⟨p4, k4, hp4, hk4, rfl, hd4, hr4, hz4⟩
         have M4 := MF.rolled hr4 hd4
         clear hz4
         have hp40 : (0 : Int) ≤ (p4 : Int) := Int.natCast_nonneg _
         have hp42 : (p4 : Int) ≤ 2 := by omega
         have hp4n : p4 ≤ 2 := by omega
         have hs4 : w2.heap.size < w4.heap.size := M4.zlt
         have N4 : NR w w2.heap.size (w4.alloc (.cells #[.string ⟨#[120]⟩, .string ⟨#[121]⟩] 9)) w4.heap.size := NR.new MF.hi M4.zlt
         have a1 : Calls Tryz.prog 71 #[.pointer (some ⟨g, 0, none⟩), .int .i64 1, .int .i64 dq] w4 (AllGen g A n c k4 false R N 1 w4) := M4.all HE.out 1 (by omega) (by omega)
         have a2 : Calls Tryz.prog 71 #[.pointer (some ⟨g, 0, none⟩), .int .i64 1, .int .i64 dq] (w4.alloc (.cells #[.string ⟨#[120]⟩, .string ⟨#[121]⟩] 9)) (AllGen g A n c k4 false R N 1 (w4.alloc (.cells #[.string ⟨#[120]⟩, .string ⟨#[121]⟩] 9))) := (M4.alloc _).all HE.out 1 (by omega) (by omega))
      | (go_simp
         go_at_call 35
         (with_reducible refine n3b.mono ?_)
         rintro e w4 ⟨p4, k4, hp4, hk4, rfl, hd4, hr4, hz4⟩
         have M4 := (MG.alloc _).drew.rolled hr4 hd4
         clear hz4
         have hp40 : (0 : Int) ≤ (p4 : Int) := Int.natCast_nonneg _
         have hp42 : (p4 : Int) ≤ 2 := by omega
         have hp4n : p4 ≤ 2 := by omega
         have hs4 : w2.heap.size < w4.heap.size := M4.zlt
         have N4 := NB0.rolled hr4 hg3
         have a3 : Calls Tryz.prog 71 #[.pointer (some ⟨g, 0, none⟩), .int .i64 1, .int .i64 dq] w4 (AllGen g A n c k4 false R N 1 w4) := M4.all HE.out 1 (by omega) (by omega))
      | (go_simp
         go_at_call 71
         (with_reducible refine a1.mono ?_)
         rintro e w5 ⟨x5, A5, c5, k5, rfl, hl5, hg5, h51, h52, hn5, hs5, hk5, hd5, hr5⟩
         have M5 := M4.rolled hr5 hd5
         have row5 : RowM w w2.heap.size w5 A5 1 (encX false x5) := RowM.of hg5 M4.zlt M4.hi
         have N5 : NR w w2.heap.size (w5.alloc (.cells #[.string ⟨#[120]⟩, .string ⟨#[121]⟩] 9)) w5.heap.size := NR.new MF.hi M5.zlt
         obtain ⟨⟨aa0, aa1, aa2, aa3, aa4, aa5, aa6, aa7⟩, ab0, ab1, ab2, ab3, ab4, ab5, ab6, ab7⟩ := own_eight (M5.alloc (.cells #[.string ⟨#[120]⟩, .string ⟨#[121]⟩] 9)).res
         obtain ⟨⟨ac0, ac1, ac2, ac3, ac4, ac5, ac6, ac7⟩, ad0, ad1, ad2, ad3, ad4, ad5, ad6, ad7⟩ := own_eight (M5.alloc (.cells #[.string ⟨#[120]⟩, .string ⟨#[121]⟩] 9)).blk
         obtain ⟨⟨r0, r1, r2, r3, r4, r5, r6, r7⟩, s0, s1, s2, s3, s4, s5, s6, s7⟩ := own_eight M5.res
         obtain ⟨⟨q0, q1, q2, q3, q4, q5, q6, q7⟩, f0, f1, f2, f3, f4, f5, f6, f7⟩ := own_eight M5.blk)
      | (go_simp
         go_at_call 71
         (with_reducible refine a2.mono ?_)
         rintro e w5 ⟨x5, A5, c5, k5, rfl, hl5, hg5, h51, h52, hn5, hs5, hk5, hd5, hr5⟩
         have M5 := (M4.alloc _).rolled hr5 hd5
         have row5 : RowM w w2.heap.size w5 A5 1 (encX false x5) := RowM.of hg5 (M4.alloc _).zlt M4.hi
         have N5 := N4.rolled hr5 hg3
         obtain ⟨⟨r0, r1, r2, r3, r4, r5, r6, r7⟩, s0, s1, s2, s3, s4, s5, s6, s7⟩ := own_eight M5.res
         obtain ⟨⟨q0, q1, q2, q3, q4, q5, q6, q7⟩, f0, f1, f2, f3, f4, f5, f6, f7⟩ := own_eight M5.blk)
      | (go_simp
         go_at_call 71
         (with_reducible refine a3.mono ?_)
         rintro e w5 ⟨x5, A5, c5, k5, rfl, hl5, hg5, h51, h52, hn5, hs5, hk5, hd5, hr5⟩
         have M5 := M4.rolled hr5 hd5
         have row5 : RowM w w2.heap.size w5 A5 1 (encX false x5) := RowM.of hg5 M4.zlt M4.hi
         have N5 := N4.rolled hr5 hg3
         obtain ⟨⟨r0, r1, r2, r3, r4, r5, r6, r7⟩, s0, s1, s2, s3, s4, s5, s6, s7⟩ := own_eight M5.res
         obtain ⟨⟨q0, q1, q2, q3, q4, q5, q6, q7⟩, f0, f1, f2, f3, f4, f5, f6, f7⟩ := own_eight M5.blk)
      | fail "none")
    all_goals
      go_wp2_with fail
      go_meet
      first
        | exact Fun1.of hp4 ((M5.set3 _).set5 _) ((N5.set 3 _).set 5 _) ((row5.set 3 _).set 5 _) hl5 h51 h52 hn5 hs5 (by omega)
        | exact Fun1.of hp4 (((M5.alloc _).set3 _).set5 _) ((N5.set 3 _).set 5 _) (((row5.alloc _).set 3 _).set 5 _) hl5 h51 h52 hn5 hs5 (by omega)
  case rest =>
  clear hdb hdf MG MF
  obtain ⟨p4, An, cn, k4, ns, x4, A4, c4, hp4, hns, hcn, hcm, hrn, hra, hlx, h41, h42, hsx, hsmx, hk4, MC⟩ := hcut
  have hdb : wc.cell? ⟨g, 2, none⟩ = some (.bool false) := by
    have h := World.news_of_block MC.dice 2 (.bool false) rfl
    simpa [Addr.add] using h
  have hdf : wc.frozen? ⟨g, 2, none⟩ = false := by
    have h := MC.dice
    unfold Dice at h
    simp [World.frozen?, h]
  have ME := MC.flag b
  have rn := hrn.rolled (Rolled.setz wc g 2 (.bool b)) MC.lo
  have ra := hra.rolled (Rolled.setz wc g 2 (.bool b)) MC.lo
  clear r0 r1 r2 r3 r4 r5 r6 r7 s0 s1 s2 s3 s4 s5 s6 s7 q0 q1 q2 q3 q4 q5 q6 q7 f0 f1 f2 f3 f4 f5 f6 f7 hrn hra
  obtain ⟨⟨r0, r1, r2, r3, r4, r5, r6, r7⟩, s0, s1, s2, s3, s4, s5, s6, s7⟩ := own_eight MC.res
  obtain ⟨⟨q0, q1, q2, q3, q4, q5, q6, q7⟩, f0, f1, f2, f3, f4, f5, f6, f7⟩ := own_eight MC.blk
  obtain ⟨W8, hW8⟩ : ∃ W8, W8 = wc.setCell ⟨g, 2, none⟩ (.bool b) := ⟨_, rfl⟩
  go_upto_region 24 with fail
  rw [← hW8]
  rw [← hW8] at ME rn ra
  clear hdb hdf MC hW8 r0 r1 r2 r3 r4 r5 r6 r7 s0 s1 s2 s3 s4 s5 s6 s7 q0 q1 q2 q3 q4 q5 q6 q7 f0 f1 f2 f3 f4 f5 f6 f7
  have hty : Calls Tryz.prog 29 #[.int .i64 1, .slice none 0 0] W8.drew fun e w' => e = .returned (.agg #[.int .i64 1, .string ⟨#[]⟩, .slice none 0 0]) ∧ Below W8.drew.heap.size W8.drew w' := ty_says W8.drew
  obtain ⟨⟨r0, r1, r2, r3, r4, r5, r6, r7⟩, s0, s1, s2, s3, s4, s5, s6, s7⟩ := own_eight ME.res
  obtain ⟨⟨q0, q1, q2, q3, q4, q5, q6, q7⟩, f0, f1, f2, f3, f4, f5, f6, f7⟩ := own_eight ME.blk
  have hz8 := ME.zlt
  go_region_law (first
    | (go_simp
       go_at_call 29
       (with_reducible refine hty.mono ?_)
       rintro e w6 ⟨rfl, hb6⟩
       have M6 := ME.drew.below hb6
       have rn6 := rn.drew.rolled (Rolled.of_below (g := g) hb6) ME.lo
       have ra6 := ra.drew.rolled (Rolled.of_below (g := g) hb6) ME.lo
       obtain ⟨⟨rx0, rx1, rx2, rx3, rx4, rx5, rx6, rx7⟩, sa0, sa1, sa2, sa3, sa4, sa5, sa6, sa7⟩ := own_eight M6.res
       obtain ⟨⟨qa0, qa1, qa2, qa3, qa4, qa5, qa6, qa7⟩, fa0, fa1, fa2, fa3, fa4, fa5, fa6, fa7⟩ := own_eight M6.blk
       obtain ⟨⟨aa0, aa1, aa2, aa3, aa4, aa5, aa6, aa7⟩, ab0, ab1, ab2, ab3, ab4, ab5, ab6, ab7⟩ := own_eight (M6.alloc (.cells #[.int .i64 1, .string ⟨#[]⟩, .slice none 0 0] 72)).blk
       have hrep : Calls Tryz.prog 72 #[.slice (some ⟨w6.heap.size, 0, none⟩) 1 1, .int .i64 (p4 : Int)] (w6.alloc (.cells #[.int .i64 1, .string ⟨#[]⟩, .slice none 0 0] 72)) (RepEnds p4 (w6.alloc (.cells #[.int .i64 1, .string ⟨#[]⟩, .slice none 0 0] 72))) := rep_says p4 hp4 _ w6.heap.size (heap_alloc_new w6 _))
    | (go_simp
       go_at_call 72
       (with_reducible refine hrep.mono ?_)
       rintro e w7 ⟨At, ct, rfl, hg7, h71, h72, hb7⟩
       have M7 := (M6.alloc _).below hb7
       have rn7 := (rn6.alloc _).rolled (Rolled.of_below (g := g) hb7) ME.lo
       have ra7 := (ra6.alloc _).rolled (Rolled.of_below (g := g) hb7) ME.lo
       have rt7 : RowM w w2.heap.size w7 At p4 (encY p4) := RowM.of hg7 (M6.alloc _).zlt M6.hi
       clear r0 r1 r2 r3 r4 r5 r6 r7 s0 s1 s2 s3 s4 s5 s6 s7 q0 q1 q2 q3 q4 q5 q6 q7 f0 f1 f2 f3 f4 f5 f6 f7
       obtain ⟨⟨r0, r1, r2, r3, r4, r5, r6, r7⟩, s0, s1, s2, s3, s4, s5, s6, s7⟩ := own_eight M7.res
       obtain ⟨⟨q0, q1, q2, q3, q4, q5, q6, q7⟩, f0, f1, f2, f3, f4, f5, f6, f7⟩ := own_eight M7.blk)
    | fail "none")
  all_goals
    go_wp2_with fail
    refine bodyPost_ret (v := .agg #[.int .i64 10, .int .i64 0, .string ⟨#[]⟩, .slice An p4 cn, .slice At p4 ct, .slice A4 1 c4, .slice none 0 0, .int .i64 0]) (by simp [results, Tryz.results38, go_sem, *]) rfl ?_
    exact (M7.set4 _).close_fun (by omega) (by omega) (rn7.set 4 _) hns hcn hcm (rt7.set 4 _) h71 h72 (ra7.set 4 _) hlx h41 h42 (by omega) hsmx _ _ _ _ _ _ _ _
end Go.Proofs.YtiinghgfojicdaaGreat
