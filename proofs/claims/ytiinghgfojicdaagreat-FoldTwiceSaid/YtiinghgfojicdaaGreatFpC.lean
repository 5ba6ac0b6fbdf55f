/- A part of the proof of FoldTwice: the walk. No conditions. -/
import Derived.Deep.RegionHeld3
import Derived.Test.YtiinghgfojicdaaGreatFpB
import Derived.Test.YtiinghgfojicdaaGreatFoR
set_option linter.unusedVariables false
set_option linter.unusedSimpArgs false
namespace Go.Proofs.YtiinghgfojicdaaGreat
open Go.RowKit Go.RowG Go.FRow Go.GMem
set_option linter.unusedVariables false
attribute [local go_sem ↓] Go.wp_at_zero Go.wp_at_succ
theorem small_fit : ∀ {x : X}, smallX x → fitX x
  | .nil, _ => trivial
  | .cons _ _ _ _ _, ⟨h1, h2, h3, h4⟩ => ⟨⟨h1.1, h1.2.1⟩, small_fit h2, small_fit h3, small_fit h4⟩
theorem ex_fit {e : Ex} (h : e.small) : e.fit := ⟨⟨h.1.1, h.1.2.1⟩, small_fit h.2.1, small_fit h.2.2⟩
theorem foldE_small (fr : Ex → Bool) {e : Ex} (h : e.small) : (foldE fr e).small := fold1_small fr ⟨h.1, foldX_small fr h.2.1, foldX_small fr h.2.2⟩
set_option maxRecDepth 100000 in
set_option maxHeartbeats 16000000 in
theorem folds_says (haw : ∀ w : World, Calls Tryz.prog 8 #[] w (TrueEnds w)) (A1 : Option Addr) (n1 c1 : Nat) (L1 : List Int) (w : World) (h1 : L1.length = n1) (hI1 : IntsAt w w.heap.size A1 L1) :
    Calls Tryz.prog 4 #[.slice A1 n1 c1] w (TrueEnds w) := by
  have hs1 := fun w => short_says A1 n1 c1 w
  by_cases hn1 : n1 ≤ 300
  · have d1 : decide ((n1 : Int) ≤ 300) = true := decide_eq_true (by omega)
    rw [d1] at hs1
    -- the dice
    have hbody : ∀ W : World, Below w.heap.size w W → Calls Tryz.prog 18 #[.pointer (some ⟨W.heap.size, 0, none⟩), .int .i64 4] (W.alloc (.cells #[.slice A1 n1 c1, .int .i64 0, .bool false] 33)) (ExGen W.heap.size A1 n1 c1 0 false 30000 400 (W.alloc (.cells #[.slice A1 n1 c1, .int .i64 0, .bool false] 33))) := fun W hb => by
      have hI := hI1.after hb
      refine body_says W.heap.size A1 n1 c1 false (W.alloc (.cells #[.slice A1 n1 c1, .int .i64 0, .bool false] 33)) (rolls1_of h1 (hI.after ((Below.refl _ _).alloc (Nat.le_refl _) _)) (fun ad e h0 => ?_) hn1 (by simp)) _ (Rolled.refl _ _) (heap_alloc_new W _)
      obtain ⟨ad', e', hlt, _⟩ := hI (by omega)
      rw [e] at e'
      obtain rfl := Option.some.inj e'
      omega
    have HB := Lib.hid hbody
    clear hbody h1 hI1 hn1 d1
    go_enter Tryz.func4, Tryz.ntmps4
    go_upto_region 7 with (first
      | (go_at_call 8; (with_reducible refine (haw _).mono ?_); rintro e w2 ⟨rfl, hb2⟩)
      | (go_at_call 9; (with_reducible refine (hs1 _).mono ?_); rintro e w3 ⟨rfl, rfl⟩)
      | (go_at_call 18
         (with_reducible refine (HB.out _ hb2).mono ?_)
         rintro e w4 ⟨E4, q4, k4, rfl, hq4, hn4, hsm4, hk4, hd4, hr4⟩
         have hb24 : Below w3.heap.size w3 w4 := Rolled.below hr4
         have hb4 : Below w.heap.size w w4 := hb2.trans (hb24.mono hb2.size)
         obtain ⟨W5, hW5⟩ : ∃ W5, W5 = w4.alloc (.cells (eight E4 q4).toArray 50) := ⟨_, rfl⟩
         have hz5 : Own8 W5 w4.heap.size 50 (.int .i64 E4.h.k) (.int .i64 E4.h.n) (.string E4.h.t) (.slice q4.a1 E4.h.ns.length q4.c1) (.slice q4.a2 E4.h.m q4.c2) (.slice q4.a3 E4.args.len q4.c3) (.slice q4.a4 E4.arms.len q4.c4) (.int .i64 0) := by rw [hW5]; exact heap_alloc_new w4 _
         have hb45 : Below w4.heap.size w4 W5 := by rw [hW5]; exact (Below.refl _ _).alloc (Nat.le_refl _) _
         have hb5 : Below w.heap.size w W5 := hb4.trans (hb45.mono hb4.size)
         have hq5 : EIs W5 (lt W5) E4 q4 := hq4.keep (fun b hb => Nat.lt_of_lt_of_le hb.2 hb45.size) fun p hp => hb45.cell hp.2
         have hf5 := fold_says E4 q4 W5 (lt W5) (fun _ h => h) hq5 (by omega) hsm4
         obtain ⟨y0, y1, y2, y3, y4, y5, y6, y7⟩ := eight_at hz5
         have HW5 := Lib.hid hW5
         rw [hW5] at hf5 y0 y1 y2 y3 y4 y5 y6 y7
         simp only [agg8, eight] at hf5 y0 y1 y2 y3 y4 y5 y6 y7)
      | (go_at_call 19
         (with_reducible refine hf5.mono ?_)
         rintro e w6 ⟨q6, rfl, hq6, hb6⟩)
      | fail "none")
    have hw5 := HW5.out
    simp only [eight] at hw5
    rw [← hw5] at hb6 hq6
    clear hf5 y0 y1 y2 y3 y4 y5 y6 y7 hw5
    obtain ⟨F, hF⟩ : ∃ F, F = foldE closedE E4 := ⟨_, rfl⟩
    rw [← hF]
    rw [← hF] at hq6
    have hFF : foldE closedE F = F := by rw [hF]; exact foldE_twice closedE E4
    have hFs : F.size ≤ E4.size := by rw [hF]; exact foldE_size closedE E4
    have hFm : F.small := by rw [hF]; exact foldE_small closedE hsm4
    obtain ⟨W8, hW8⟩ : ∃ W8, W8 = w6.alloc (.cells #[.int .i64 F.h.k, .int .i64 F.h.n, .string F.h.t, .slice q6.a1 F.h.ns.length q6.c1, .slice q6.a2 F.h.m q6.c2, .slice q6.a3 F.args.len q6.c3, .slice q6.a4 F.arms.len q6.c4, .int .i64 0] 50) := ⟨_, rfl⟩
    have hb8 : Below w6.heap.size w6 W8 := by rw [hW8]; exact (Below.refl _ _).alloc (Nat.le_refl _) _
    have zF : Own8 W8 w6.heap.size 50 (.int .i64 F.h.k) (.int .i64 F.h.n) (.string F.h.t) (.slice q6.a1 F.h.ns.length q6.c1) (.slice q6.a2 F.h.m q6.c2) (.slice q6.a3 F.args.len q6.c3) (.slice q6.a4 F.arms.len q6.c4) (.int .i64 0) := by rw [hW8]; exact heap_alloc_new w6 _
    rw [← hW8]
    have hb58 : Below W5.heap.size W5 W8 := hb6.trans (hb8.mono hb6.size)
    have zE := hz5.keep hb58
    have hqE : EIs W8 (lt W8) E4 q4 := hq5.below hb58
    have hqF : EIs W8 (lt W8) F q6 := hq6.keep (fun b hb => by
      rcases hb with h | h
      · exact Nat.lt_of_lt_of_le h hb58.size
      · exact Nat.lt_of_lt_of_le h.2 hb8.size) fun p hp => hb8.cell (by
      rcases hp with h | h
      · exact Nat.lt_of_lt_of_le h hb6.size
      · exact h.2)
    have hbw8 : Below w.heap.size w W8 := hb5.trans (hb58.mono hb5.size)
    obtain ⟨y0, y1, y2, y3, y4, y5, y6, y7⟩ := eight_at zE
    obtain ⟨x0, x1, x2, x3, x4, x5, x6, x7⟩ := eight_at zF
    have Hy0 := Lib.hid y0
    have Hy1 := Lib.hid y1
    have Hy2 := Lib.hid y2
    have Hy3 := Lib.hid y3
    have Hy4 := Lib.hid y4
    have Hy5 := Lib.hid y5
    have Hy6 := Lib.hid y6
    have Hy7 := Lib.hid y7
    have Hx0 := Lib.hid x0
    have Hx1 := Lib.hid x1
    have Hx2 := Lib.hid x2
    have Hx3 := Lib.hid x3
    have Hx4 := Lib.hid x4
    have Hx5 := Lib.hid x5
    have Hx6 := Lib.hid x6
    have Hx7 := Lib.hid x7
    have HK : Hid (∀ w' : World, Below W8.heap.size W8 w' → (w'.cell? ⟨w4.heap.size, 0, none⟩ = some (.int .i64 E4.h.k) ∧ w'.cell? ⟨w4.heap.size, 1, none⟩ = some (.int .i64 E4.h.n) ∧ w'.cell? ⟨w4.heap.size, 2, none⟩ = some (.string E4.h.t) ∧ w'.cell? ⟨w4.heap.size, 3, none⟩ = some (.slice q4.a1 E4.h.ns.length q4.c1) ∧ w'.cell? ⟨w4.heap.size, 4, none⟩ = some (.slice q4.a2 E4.h.m q4.c2) ∧ w'.cell? ⟨w4.heap.size, 5, none⟩ = some (.slice q4.a3 E4.args.len q4.c3) ∧ w'.cell? ⟨w4.heap.size, 6, none⟩ = some (.slice q4.a4 E4.arms.len q4.c4) ∧ w'.cell? ⟨w4.heap.size, 7, none⟩ = some (.int .i64 0) ∧ w'.cell? ⟨w6.heap.size, 0, none⟩ = some (.int .i64 F.h.k) ∧ w'.cell? ⟨w6.heap.size, 1, none⟩ = some (.int .i64 F.h.n) ∧ w'.cell? ⟨w6.heap.size, 2, none⟩ = some (.string F.h.t) ∧ w'.cell? ⟨w6.heap.size, 3, none⟩ = some (.slice q6.a1 F.h.ns.length q6.c1) ∧ w'.cell? ⟨w6.heap.size, 4, none⟩ = some (.slice q6.a2 F.h.m q6.c2) ∧ w'.cell? ⟨w6.heap.size, 5, none⟩ = some (.slice q6.a3 F.args.len q6.c3) ∧ w'.cell? ⟨w6.heap.size, 6, none⟩ = some (.slice q6.a4 F.arms.len q6.c4) ∧ w'.cell? ⟨w6.heap.size, 7, none⟩ = some (.int .i64 0))) := Lib.hid fun w' hb => ⟨below_cell hb Hy0.out, below_cell hb Hy1.out, below_cell hb Hy2.out, below_cell hb Hy3.out, below_cell hb Hy4.out, below_cell hb Hy5.out, below_cell hb Hy6.out, below_cell hb Hy7.out, below_cell hb Hx0.out, below_cell hb Hx1.out, below_cell hb Hx2.out, below_cell hb Hx3.out, below_cell hb Hx4.out, below_cell hb Hx5.out, below_cell hb Hx6.out, below_cell hb Hx7.out⟩
    have hfold : ∀ W : World, Below W8.heap.size W8 W → Calls Tryz.prog 19 #[.agg #[.int .i64 F.h.k, .int .i64 F.h.n, .string F.h.t, .slice q6.a1 F.h.ns.length q6.c1, .slice q6.a2 F.h.m q6.c2, .slice q6.a3 F.args.len q6.c3, .slice q6.a4 F.arms.len q6.c4, .int .i64 0]] W (ExEnds (lt W) F W) := fun W hb => by
      have h := fold_says F q6 W (lt W) (fun _ h => h) (hqF.below hb) (by omega) hFm
      rw [hFF] at h
      exact h
    have hsame : ∀ (W : World) (q2 : At), Below W8.heap.size W8 W → EIs W (lt W) F q2 → Calls Tryz.prog 20 #[agg8 F q2, .agg #[.int .i64 F.h.k, .int .i64 F.h.n, .string F.h.t, .slice q6.a1 F.h.ns.length q6.c1, .slice q6.a2 F.h.m q6.c2, .slice q6.a3 F.args.len q6.c3, .slice q6.a4 F.arms.len q6.c4, .int .i64 0]] W (SameEnds W) := fun W q2 hb hq => sameEx_says F q2 q6 W hq (hqF.below hb) (by omega) (ex_fit hFm)
    have hsF : ∀ W : World, Below W8.heap.size W8 W → Calls Tryz.prog 21 #[.agg #[.int .i64 F.h.k, .int .i64 F.h.n, .string F.h.t, .slice q6.a1 F.h.ns.length q6.c1, .slice q6.a2 F.h.m q6.c2, .slice q6.a3 F.args.len q6.c3, .slice q6.a4 F.arms.len q6.c4, .int .i64 0]] W (IntEnds (F.size : Int) W) := fun W hb => size_says F q6 W (hqF.below hb) (by omega)
    have hsE : ∀ W : World, Below W8.heap.size W8 W → Calls Tryz.prog 21 #[.agg #[.int .i64 E4.h.k, .int .i64 E4.h.n, .string E4.h.t, .slice q4.a1 E4.h.ns.length q4.c1, .slice q4.a2 E4.h.m q4.c2, .slice q4.a3 E4.args.len q4.c3, .slice q4.a4 E4.arms.len q4.c4, .int .i64 0]] W (IntEnds (E4.size : Int) W) := fun W hb => size_says E4 q4 W (hqE.below hb) (by omega)
    have hle : decide ((F.size : Int) ≤ (E4.size : Int)) = true := decide_eq_true (by omega)
    have hw8 : Below W8.heap.size W8 W8.drew := (Below.refl _ _).drew
    clear hF hW8 hFF hq6 hq5 hq4 hz5 zE zF
    go_region_held3 (fun w' => w'.cell? ⟨w4.heap.size, 0, none⟩ = some (.int .i64 E4.h.k) ∧ w'.cell? ⟨w4.heap.size, 1, none⟩ = some (.int .i64 E4.h.n) ∧ w'.cell? ⟨w4.heap.size, 2, none⟩ = some (.string E4.h.t) ∧ w'.cell? ⟨w4.heap.size, 3, none⟩ = some (.slice q4.a1 E4.h.ns.length q4.c1) ∧ w'.cell? ⟨w4.heap.size, 4, none⟩ = some (.slice q4.a2 E4.h.m q4.c2) ∧ w'.cell? ⟨w4.heap.size, 5, none⟩ = some (.slice q4.a3 E4.args.len q4.c3) ∧ w'.cell? ⟨w4.heap.size, 6, none⟩ = some (.slice q4.a4 E4.arms.len q4.c4) ∧ w'.cell? ⟨w4.heap.size, 7, none⟩ = some (.int .i64 0) ∧ w'.cell? ⟨w6.heap.size, 0, none⟩ = some (.int .i64 F.h.k) ∧ w'.cell? ⟨w6.heap.size, 1, none⟩ = some (.int .i64 F.h.n) ∧ w'.cell? ⟨w6.heap.size, 2, none⟩ = some (.string F.h.t) ∧ w'.cell? ⟨w6.heap.size, 3, none⟩ = some (.slice q6.a1 F.h.ns.length q6.c1) ∧ w'.cell? ⟨w6.heap.size, 4, none⟩ = some (.slice q6.a2 F.h.m q6.c2) ∧ w'.cell? ⟨w6.heap.size, 5, none⟩ = some (.slice q6.a3 F.args.len q6.c3) ∧ w'.cell? ⟨w6.heap.size, 6, none⟩ = some (.slice q6.a4 F.arms.len q6.c4) ∧ w'.cell? ⟨w6.heap.size, 7, none⟩ = some (.int .i64 0)) (first | exact HK.out _ hb12 | exact HK.out _ hb11 | exact HK.out _ hb10 | exact HK.out _ hb9 | exact HK.out _ (Below.refl _ _) | exact HK.out _ hw8 | go_keep) (first
      | (go_at_call 19
         (with_reducible refine (hfold _ hw8).mono ?_)
         rintro e w9 ⟨q9, rfl, hq9, hb9'⟩
         have hb9 : Below W8.heap.size W8 w9 := hw8.trans (hb9'.mono (Nat.le_refl _))
         have hq9l : EIs w9 (lt w9) F q9 := hq9.mono fun b hb => by
           rcases hb with h | h
           · exact Nat.lt_of_lt_of_le h hb9'.size
           · exact h.2)
      | (go_at_call 20
         (with_reducible refine (hsame _ _ hb9 hq9l).mono ?_)
         rintro e w10 ⟨rfl, hb10'⟩
         have hb10 : Below W8.heap.size W8 w10 := hb9.trans (hb10'.mono hb9.size))
      | (go_at_call 21
         (with_reducible refine (hsF _ hb10).mono ?_)
         rintro e w11 ⟨rfl, hb11'⟩
         have hb11 : Below W8.heap.size W8 w11 := hb10.trans (hb11'.mono hb10.size))
      | (go_at_call 21
         (with_reducible refine (hsE _ hb11).mono ?_)
         rintro e w12 ⟨rfl, hb12'⟩
         have hb12 : Below W8.heap.size W8 w12 := hb11.trans (hb12'.mono hb11.size))
      | fail "none")
    all_goals
      go_wp2
      go_ret
      exact ⟨rfl, hbw8.trans (hb12.mono hbw8.size)⟩
  · have d1 : decide ((n1 : Int) ≤ 300) = false := decide_eq_false (by omega)
    rw [d1] at hs1
    clear h1 hI1 hn1 d1
    go_enter Tryz.func4, Tryz.ntmps4
    go_wp2_with (first
      | (go_at_call 8; (with_reducible refine (haw _).mono ?_); rintro e w2 ⟨rfl, hb2⟩)
      | (go_at_call 9; (with_reducible refine (hs1 _).mono ?_); rintro e w3 ⟨rfl, rfl⟩)
      | fail "none")
    go_ret
    exact ⟨rfl, hb2⟩
end Go.Proofs.YtiinghgfojicdaaGreat
