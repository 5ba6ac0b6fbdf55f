/- A part of the proof of FoldTwice: fold.Expr: cases. No conditions. -/
import Derived.Test.YtiinghgfojicdaaGreatFoL
set_option linter.unusedVariables false
set_option linter.unusedSimpArgs false
namespace Go.Proofs.YtiinghgfojicdaaGreat
open Go.RowKit Go.RowG Go.FRow Go.GMem
set_option linter.unusedVariables false
set_option maxRecDepth 100000
attribute [local go_sem ↓] Go.wp_at_zero Go.wp_at_succ
set_option maxHeartbeats 16000000 in
theorem fold_e0 (e : Ex) (hA : EachX (FoldSaid closedE) e.args) (hB : EachX (FoldSaid closedE) e.arms) (hk_ : e.h.k = 7) (hl_ : 3 ≤ (foldX closedE e.args).len) (h0_ : (atX (foldX closedE e.args) 0).h.k = 3) (hnu_ : (atX (foldX closedE e.args) 0).h.n = 0) (hf_ : closedE (atX (foldX closedE e.args) 1) = false) : FoldSaid closedE e := by
  intro q w S hS he hn hsm
  obtain ⟨h, args, arms⟩ := e
  have hk : h.k = 7 := hk_
  clear hk_
  have hl : 3 ≤ (foldX closedE args).len := hl_
  clear hl_
  have h0 : (atX (foldX closedE args) 0).h.k = 3 := h0_
  clear h0_
  have hnu : (atX (foldX closedE args) 0).h.n = 0 := hnu_
  clear hnu_
  have hf : closedE (atX (foldX closedE args) 1) = false := hf_
  clear hf_
  obtain ⟨A, hAe⟩ : ∃ A, A = foldX closedE args := ⟨_, rfl⟩
  rw [← hAe] at hl h0 hnu hf
  obtain ⟨B, hBe⟩ : ∃ B, B = foldX closedE arms := ⟨_, rfl⟩
  obtain ⟨res, hres⟩ : ∃ res, res = foldE closedE ⟨h, args, arms⟩ := ⟨_, rfl⟩
  have hres' : res = fold1 closedE ⟨h, A, B⟩ := by rw [hres, hAe, hBe]; rfl
  rw [← hres]
  obtain ⟨W1, hW1⟩ : ∃ W1, W1 = (w.alloc (.cells (eight ⟨h, args, arms⟩ q).toArray 50)).alloc (.cells #[.int .i64 0, .int .i64 0, .string ⟨#[]⟩, .slice none 0 0, .slice none 0 0, .slice none 0 0, .slice none 0 0, .int .i64 0] 50) := ⟨_, rfl⟩
  have hb1 : Below w.heap.size w W1 := by rw [hW1]; exact ((Below.refl _ _).alloc (Nat.le_refl _) _).alloc (by simp) _
  have hs1 : W1.heap.size = w.heap.size + 2 := by rw [hW1]; simp
  have hx1 : W1.heap[w.heap.size]? = some (.cells (eight ⟨h, args, arms⟩ q).toArray 50 (0, 0)) := by
    rw [hW1]
    exact (heap_alloc_old _ _ (by simp)).trans (heap_alloc_new w _)
  have hr1 : Own8 W1 (w.heap.size + 1) 50 (.int .i64 0) (.int .i64 0) (.string ⟨#[]⟩) (.slice none 0 0) (.slice none 0 0) (.slice none 0 0) (.slice none 0 0) (.int .i64 0) := by
    rw [hW1]
    have := heap_alloc_new (w.alloc (.cells (eight ⟨h, args, arms⟩ q).toArray 50)) (.cells #[.int .i64 0, .int .i64 0, .string ⟨#[]⟩, .slice none 0 0, .slice none 0 0, .slice none 0 0, .slice none 0 0, .int .i64 0] 50)
    simpa [Own8] using this
  have hparts := parts_says closedE ⟨h, args, arms⟩ hA hB q W1 S (fun b hb => by have := hS b hb; omega) (he.keep (fun _ h => h) fun p hp => hb1.cell (hS _ hp)) hn hsm
  simp only [← hAe, ← hBe] at hparts
  have hsmA : smallX A := by rw [hAe]; exact foldX_small closedE hsm.2.1
  have hszA : sizeX false A ≤ 100000 := by
    rw [hAe]
    have := foldX_size closedE false args
    simp only [Ex.size] at hn
    omega
  have hsmO : (⟨h, A, B⟩ : Ex).small := ⟨hsm.1, hsmA, by rw [hBe]; exact foldX_small closedE hsm.2.2⟩
  have HSMO := Lib.hid hsmO
  have HRES := Lib.hid hres'
  have HX1 := Lib.hid hx1
  have HR1 := Lib.hid hr1
  have hx8 := eight_at hx1
  clear hA hB he hn hsm hAe hBe hres hres' hr1
  obtain ⟨k, n, t, ns, ty⟩ := h
  obtain ⟨a1, c1, a2, c2, a3, c3, a4, c4⟩ := q
  simp only [eight, agg8] at hx8 hx1 hW1 hparts ⊢
  rw [hW1] at hparts
  have HW1 := Lib.hid hW1
  clear hW1 hx1
  obtain ⟨x0, x1, x2, x3, x4, x5, x6, x7⟩ := hx8
  have hk : k = 7 := hk
  subst hk
  have dl : decide (3 ≤ (A.len : Int)) = true := decide_eq_true (by omega)
  have hlt0 : 0 < A.len := by omega
  have hi0 : (0 : Int) < (A.len : Int) := by omega
  have hlt1 : 1 < A.len := by omega
  have hi1 : (1 : Int) < (A.len : Int) := by omega
  have hlt2 : 2 < A.len := by omega
  have hi2 : (2 : Int) < (A.len : Int) := by omega
  have hsz : (atX A 1).size ≤ 100000 := Nat.le_trans (size_at (atX_some (x := A) (i := 1) hlt1)) hszA
  have hss : (atX A 1).small := small_at hsmA (atX_some (x := A) (i := 1) hlt1)
  have hw10 : IntKind.i64.wrap (1 + 0) = 1 := by decide
  have hw11 : IntKind.i64.wrap (1 + 1) = 2 := by decide
  have hw1 : IntKind.i64.wrap 1 = 1 := by decide
  have hw20 : IntKind.i64.wrap (2 - 0) = 2 := by decide
  have hw21 : IntKind.i64.wrap (2 - 1) = 1 := by decide
  have hw2 : IntKind.i64.wrap 2 = 2 := by decide
  have hr : res = ⟨⟨7, n, t, ns, ty⟩, A, B⟩ := by
    rw [HRES.out]
    unfold fold1
    simp [hl, h0, hnu, hf, litH, offNum]
  have HR := Lib.hid hr
  clear hr
  go_enter Tryz.func19, Tryz.ntmps19
  go_wp2_with (first
    | (go_at_call 39
       (with_reducible refine hparts.mono ?_)
       rintro e w5 ⟨q5, rfl, hq5, hb5⟩
       rw [← HW1.out] at hq5 hb5)
    | fail "none")
  obtain ⟨b1, d1, b2, d2, b3, d3, b4, d4⟩ := q5
  obtain ⟨W6, hW6⟩ : ∃ W6, W6 = w5.alloc (.cells #[.int .i64 7, .int .i64 n, .string t, .slice b1 ns.length d1, .slice b2 ty d2, .slice b3 A.len d3, .slice b4 B.len d4, .int .i64 0] 50) := ⟨_, rfl⟩
  have hz6 : W6.heap[w5.heap.size]? = some (.cells #[.int .i64 7, .int .i64 n, .string t, .slice b1 ns.length d1, .slice b2 ty d2, .slice b3 A.len d3, .slice b4 B.len d4, .int .i64 0] 50 (0, 0)) := by rw [hW6]; exact heap_alloc_new w5 _
  have hb6 : Below W1.heap.size W1 W6 := by rw [hW6]; exact hb5.alloc hb5.size _
  have hb56 : Below w5.heap.size w5 W6 := by rw [hW6]; exact (Below.refl _ _).alloc (Nat.le_refl _) _
  have hq6 := hq5.keep (w' := W6) (S' := fun b => S b ∨ (W1.heap.size ≤ b ∧ b < W6.heap.size)) (fun b hb => hb.imp_right fun h => ⟨h.1, Nat.lt_of_lt_of_le h.2 hb56.size⟩) (fun p hp => hb56.cell (by
    rcases hp with h | h
    · have := hS _ h
      have := hb5.size
      omega
    · exact h.2))
  have hx6 := (hb6.block w.heap.size (by omega)).trans HX1.out
  have hr6 : Own8 W6 (w.heap.size + 1) 50 _ _ _ _ _ _ _ _ := (hb6.block (w.heap.size + 1) (by omega)).trans HR1.out
  obtain ⟨z0, z1, z2, z3, z4, z5, z6, z7⟩ := eight_at hz6
  simp only [eight] at hx6
  obtain ⟨y0, y1, y2, y3, y4, y5, y6, y7⟩ := eight_at hx6
  obtain ⟨⟨r0, r1, r2, r3, r4, r5, r6, r7⟩, s0, s1, s2, s3, s4, s5, s6, s7⟩ := own_eight hr6
  have HZ6 := Lib.hid hz6
  have HX6 := Lib.hid hx6
  have HR6 := Lib.hid hr6
  have hW5 : W1.heap.size ≤ w5.heap.size := hb5.size
  have hlz : w5.heap.size < W6.heap.size := (Array.getElem?_eq_some_iff.1 hz6).1
  clear x0 x1 x2 x3 x4 x5 x6 x7 hz6 hx6 hr6
  rw [← hW6]
  clear hW6
  obtain ⟨ad, q00, hb3, hSad, hc0, he0⟩ := (xrest hq6.r3).nth (i := 0) (atX_some (x := A) (i := 0) hlt0)
  simp only at hb3
  rw [show ad.add ((0 + 0) * 8) = ad by simp [Addr.add]] at hc0
  obtain ⟨ad1, q10, hb31, _, hc1, he1⟩ := (xrest hq6.r3).nth (i := 1) (atX_some (x := A) (i := 1) hlt1)
  simp only at hb31
  rw [hb3] at hb31
  obtain rfl := Option.some.inj hb31
  rw [show ad.add ((0 + 1) * 8) = ⟨ad.block, ad.off + 8, none⟩ by simp [Addr.add]] at hc1
  subst hb3
  have hadl : ad.block < W6.heap.size := by
    rcases hSad with h | h
    · have := hS _ h
      have := hb6.size
      omega
    · exact h.2
  have hadw : ad.block ≠ w.heap.size + 1 := by
    rcases hSad with h | h
    · have := hS _ h
      omega
    · have := h.1
      omega
  obtain ⟨E0, hE0⟩ : ∃ E, E = atX A 0 := ⟨_, rfl⟩
  rw [← hE0] at hc0 he0 h0 hnu
  obtain ⟨E1, hE1⟩ : ∃ E, E = atX A 1 := ⟨_, rfl⟩
  rw [← hE1] at hc1 he1 hf hsz hss
  have HE0 := Lib.hid hE0
  have HEI0 := Lib.hid he0
  clear hE0 he0
  have HE1 := Lib.hid hE1
  have HEI1 := Lib.hid he1
  clear hE1 he1
  obtain ⟨⟨k0, n0, t0, ns0, m0⟩, ar0, am0⟩ := E0
  obtain ⟨x01, d01, x02, d02, x03, d03, x04, d04⟩ := q00
  simp only [cells8] at hc0
  obtain ⟨f00, f01, f02, f03, f04, f05, f06, f07⟩ := hc0
  obtain ⟨⟨k1, n1, t1, ns1, m1⟩, ar1, am1⟩ := E1
  obtain ⟨x11, d11, x12, d12, x13, d13, x14, d14⟩ := q10
  simp only [cells8] at hc1
  obtain ⟨f10, f11, f12, f13, f14, f15, f16, f17⟩ := hc1
  have Hy0 := Lib.hid y0
  have Hy2 := Lib.hid y2
  have Hz5 := Lib.hid z5
  have Hf00 := Lib.hid f00
  have Hf01 := Lib.hid f01
  have Hf02 := Lib.hid f02
  have Hf03 := Lib.hid f03
  have Hf04 := Lib.hid f04
  have Hf05 := Lib.hid f05
  have Hf06 := Lib.hid f06
  have Hf07 := Lib.hid f07
  have Hf10 := Lib.hid f10
  have Hf11 := Lib.hid f11
  have Hf12 := Lib.hid f12
  have Hf13 := Lib.hid f13
  have Hf14 := Lib.hid f14
  have Hf15 := Lib.hid f15
  have Hf16 := Lib.hid f16
  have Hf17 := Lib.hid f17
  have h0 : k0 = 3 := h0
  have hnu : n0 = 0 := hnu
  subst h0 hnu
  have hli : litH 3 0 = true := rfl
  obtain ⟨EE, hEE⟩ : ∃ E : Ex, E = ⟨⟨k1, n1, t1, ns1, m1⟩, ar1, am1⟩ := ⟨_, rfl⟩
  have HEE := Lib.hid hEE
  rw [← hEE] at hf
  have hfr : (((free1 EE [] []).length : Int) == 0) = false := by
    unfold closedE at hf
    simpa using hf
  clear z0 z1 z2 z3 z4 z6 z7 y1 y3 y4 y5 y6 y7 r0 r1 r2 r3 r4 r5 r6 r7 s0 s1 s2 s3 s4 s5 s6 s7 hEE hf
  have hkeep : ∀ w' : World, Below W6.heap.size W6 w' → (w'.cell? ⟨w.heap.size, 0, none⟩ = some (.int .i64 7) ∧ w'.cell? ⟨w.heap.size, 2, none⟩ = some (.string t) ∧ w'.cell? ⟨w5.heap.size, 5, none⟩ = some (.slice (some ad) A.len d3) ∧ w'.cell? ad = some (.int .i64 3) ∧ w'.cell? ⟨ad.block, ad.off + 1, none⟩ = some (.int .i64 0) ∧ w'.cell? ⟨ad.block, ad.off + 2, none⟩ = some (.string t0) ∧ w'.cell? ⟨ad.block, ad.off + 3, none⟩ = some (.slice x01 ns0.length d01) ∧ w'.cell? ⟨ad.block, ad.off + 4, none⟩ = some (.slice x02 m0 d02) ∧ w'.cell? ⟨ad.block, ad.off + 5, none⟩ = some (.slice x03 ar0.len d03) ∧ w'.cell? ⟨ad.block, ad.off + 6, none⟩ = some (.slice x04 am0.len d04) ∧ w'.cell? ⟨ad.block, ad.off + 7, none⟩ = some (.int .i64 0) ∧ w'.cell? ⟨ad.block, ad.off + 8, none⟩ = some (.int .i64 k1) ∧ w'.cell? ⟨ad.block, ad.off + 8 + 1, none⟩ = some (.int .i64 n1) ∧ w'.cell? ⟨ad.block, ad.off + 8 + 2, none⟩ = some (.string t1) ∧ w'.cell? ⟨ad.block, ad.off + 8 + 3, none⟩ = some (.slice x11 ns1.length d11) ∧ w'.cell? ⟨ad.block, ad.off + 8 + 4, none⟩ = some (.slice x12 m1 d12) ∧ w'.cell? ⟨ad.block, ad.off + 8 + 5, none⟩ = some (.slice x13 ar1.len d13) ∧ w'.cell? ⟨ad.block, ad.off + 8 + 6, none⟩ = some (.slice x14 am1.len d14) ∧ w'.cell? ⟨ad.block, ad.off + 8 + 7, none⟩ = some (.int .i64 0)) := fun w' hb => ⟨below_cell hb Hy0.out, below_cell hb Hy2.out, below_cell hb Hz5.out, below_cell hb Hf00.out, below_cell hb Hf01.out, below_cell hb Hf02.out, below_cell hb Hf03.out, below_cell hb Hf04.out, below_cell hb Hf05.out, below_cell hb Hf06.out, below_cell hb Hf07.out, below_cell hb Hf10.out, below_cell hb Hf11.out, below_cell hb Hf12.out, below_cell hb Hf13.out, below_cell hb Hf14.out, below_cell hb Hf15.out, below_cell hb Hf16.out, below_cell hb Hf17.out⟩
  have HK := Lib.hid hkeep
  clear hkeep
  have hw6 : Below W6.heap.size W6 W6.drew := (Below.refl _ _).drew
  have hfree : ∀ W : World, Below W6.heap.size W6 W → Calls Tryz.prog 41 #[.agg #[.int .i64 k1, .int .i64 n1, .string t1, .slice x11 ns1.length d11, .slice x12 m1 d12, .slice x13 ar1.len d13, .slice x14 am1.len d14, .int .i64 0]] W (FreeFEnds EE W) := fun W hb => by
    have hh := HEI1.out.keep (w' := W) (S' := lt W) (fun b hb' => by
      rcases hb' with h | h
      · have := hS _ h
        have := hb6.size
        have := hb.size
        show b < _
        omega
      · exact Nat.lt_of_lt_of_le h.2 hb.size) (fun p hp => hb.cell (by
      rcases hp with h | h
      · have := hS _ h
        have := hb6.size
        omega
      · exact h.2))
    rw [HEE.out]
    exact freeF_says ⟨⟨k1, n1, t1, ns1, m1⟩, ar1, am1⟩ ⟨x11, d11, x12, d12, x13, d13, x14, d14⟩ W hh hsz hss
  have hlit : ∀ W : World, Calls Tryz.prog 40 #[.agg #[.int .i64 3, .int .i64 0, .string t0, .slice x01 ns0.length d01, .slice x02 m0 d02, .slice x03 ar0.len d03, .slice x04 am0.len d04, .int .i64 0]] W (BoolEnds (litH 3 0) W) := fun W => literal_says _ _ _ _ _ _ _ _ _ _ _ _ _ _ _ W
  go_region_held3 (fun w' => w'.cell? ⟨w.heap.size, 0, none⟩ = some (.int .i64 7) ∧ w'.cell? ⟨w.heap.size, 2, none⟩ = some (.string t) ∧ w'.cell? ⟨w5.heap.size, 5, none⟩ = some (.slice (some ad) A.len d3) ∧ w'.cell? ad = some (.int .i64 3) ∧ w'.cell? ⟨ad.block, ad.off + 1, none⟩ = some (.int .i64 0) ∧ w'.cell? ⟨ad.block, ad.off + 2, none⟩ = some (.string t0) ∧ w'.cell? ⟨ad.block, ad.off + 3, none⟩ = some (.slice x01 ns0.length d01) ∧ w'.cell? ⟨ad.block, ad.off + 4, none⟩ = some (.slice x02 m0 d02) ∧ w'.cell? ⟨ad.block, ad.off + 5, none⟩ = some (.slice x03 ar0.len d03) ∧ w'.cell? ⟨ad.block, ad.off + 6, none⟩ = some (.slice x04 am0.len d04) ∧ w'.cell? ⟨ad.block, ad.off + 7, none⟩ = some (.int .i64 0) ∧ w'.cell? ⟨ad.block, ad.off + 8, none⟩ = some (.int .i64 k1) ∧ w'.cell? ⟨ad.block, ad.off + 8 + 1, none⟩ = some (.int .i64 n1) ∧ w'.cell? ⟨ad.block, ad.off + 8 + 2, none⟩ = some (.string t1) ∧ w'.cell? ⟨ad.block, ad.off + 8 + 3, none⟩ = some (.slice x11 ns1.length d11) ∧ w'.cell? ⟨ad.block, ad.off + 8 + 4, none⟩ = some (.slice x12 m1 d12) ∧ w'.cell? ⟨ad.block, ad.off + 8 + 5, none⟩ = some (.slice x13 ar1.len d13) ∧ w'.cell? ⟨ad.block, ad.off + 8 + 6, none⟩ = some (.slice x14 am1.len d14) ∧ w'.cell? ⟨ad.block, ad.off + 8 + 7, none⟩ = some (.int .i64 0)) (first | exact HK.out _ hb68 | exact HK.out _ hb67 | exact HK.out _ (Below.refl _ _) | exact HK.out _ hw6 | go_keep) (first
    | (go_at_call 40
       (with_reducible refine (hlit _).mono ?_)
       rintro e w7 ⟨rfl, hb7⟩
       have hb67 : Below W6.heap.size W6 w7 := (Below.refl _ _).drew.trans (hb7.mono (Nat.le_refl _)))
    | (go_at_call 41
       (with_reducible refine (hfree _ hb67).mono ?_)
       rintro e w8 ⟨A8, n8, c8, rfl, hn8, hb8⟩
       have hb68 : Below W6.heap.size W6 w8 := hb67.trans (hb8.mono hb67.size)
       have hfr8 : ((n8 : Int) == 0) = false := by rw [hn8]; exact hfr)
    | fail "none")
  all_goals
    clear y0 y2 z5
    clear f00 f01 f02 f03 f04 f05 f06 f07 f10 f11 f12 f13 f14 f15 f16 f17
    have my0 : ∀ x : Later w8, x.val.cell? ⟨w.heap.size, 0, none⟩ = some (.int .i64 7) := fun x => later_cell hb68 Hy0.out x
    have mz5 : ∀ x : Later w8, x.val.cell? ⟨w5.heap.size, 5, none⟩ = some (.slice (some ad) A.len d3) := fun x => later_cell hb68 Hz5.out x
    have py0 : World.cell? w8 ⟨w.heap.size, 0, none⟩ = some (.int .i64 7) := below_cell hb68 Hy0.out
    have py2 : World.cell? w8 ⟨w.heap.size, 2, none⟩ = some (.string t) := below_cell hb68 Hy2.out
    have pz5 : World.cell? w8 ⟨w5.heap.size, 5, none⟩ = some (.slice (some ad) A.len d3) := below_cell hb68 Hz5.out
    go_wp2
    clear py0 py2 pz5
    refine region_later (by kernel_rfl) (by kernel_rfl) ?_
    repeat (go_big_quiet_step (fail "none"))
    refine wpQuiet_nil ?_
    intro w9 hw9
    obtain ⟨x9, hx9⟩ := hw9
    subst hx9
    have hb69 : Below W6.heap.size W6 x9.val := hb68.trans (x9.ok.mono hb68.size)
    have hb9 : Below W1.heap.size W1 x9.val := hb6.trans (hb69.mono hb6.size)
    obtain ⟨⟨r0, r1, r2, r3, r4, r5, r6, r7⟩, s0, s1, s2, s3, s4, s5, s6, s7⟩ := own_eight ((hb69.block (w.heap.size + 1) (by have := hb6.size; omega)).trans HR6.out)
    obtain ⟨z0, z1, z2, z3, z4, z5, z6, z7⟩ := eight_at ((hb69.block w5.heap.size hlz).trans HZ6.out)
    have hq9 := hq6.keep (w' := x9.val) (S' := fun b => S b ∨ (W1.heap.size ≤ b ∧ b < (x9.val).heap.size)) (fun b hb => hb.imp_right fun h => ⟨h.1, Nat.lt_of_lt_of_le h.2 (hb69).size⟩) (fun p hp => (hb69).cell (by
      rcases hp with h | h
      · have := hS _ h
        have := hb6.size
        omega
      · exact h.2))
    go_wp2
    refine bodyPost_ret (v := .agg #[.int .i64 7, .int .i64 n, .string t, .slice b1 ns.length d1, .slice b2 ty d2, .slice (some ad) A.len d3, .slice b4 B.len d4, .int .i64 0]) (by simp [results, Tryz.results19, go_sem, *]) rfl ?_
    rw [HR.out]
    exact truth_close hS hb1 hs1 (Below.refl _ _) hq9 hb9 _ _ _ _ _ _ _ _
end Go.Proofs.YtiinghgfojicdaaGreat
namespace Go.Proofs.YtiinghgfojicdaaGreat
open Go.RowKit Go.RowG Go.FRow Go.GMem
set_option linter.unusedVariables false
set_option maxRecDepth 100000
attribute [local go_sem ↓] Go.wp_at_zero Go.wp_at_succ
set_option maxHeartbeats 16000000 in
theorem fold_e1 (e : Ex) (hA : EachX (FoldSaid closedE) e.args) (hB : EachX (FoldSaid closedE) e.arms) (hk_ : e.h.k = 7) (hl_ : 3 ≤ (foldX closedE e.args).len) (h0_ : (atX (foldX closedE e.args) 0).h.k = 3) (hnu_ : (atX (foldX closedE e.args) 0).h.n = 1) (hf_ : closedE (atX (foldX closedE e.args) 2) = false) : FoldSaid closedE e := by
  intro q w S hS he hn hsm
  obtain ⟨h, args, arms⟩ := e
  have hk : h.k = 7 := hk_
  clear hk_
  have hl : 3 ≤ (foldX closedE args).len := hl_
  clear hl_
  have h0 : (atX (foldX closedE args) 0).h.k = 3 := h0_
  clear h0_
  have hnu : (atX (foldX closedE args) 0).h.n = 1 := hnu_
  clear hnu_
  have hf : closedE (atX (foldX closedE args) 2) = false := hf_
  clear hf_
  obtain ⟨A, hAe⟩ : ∃ A, A = foldX closedE args := ⟨_, rfl⟩
  rw [← hAe] at hl h0 hnu hf
  obtain ⟨B, hBe⟩ : ∃ B, B = foldX closedE arms := ⟨_, rfl⟩
  obtain ⟨res, hres⟩ : ∃ res, res = foldE closedE ⟨h, args, arms⟩ := ⟨_, rfl⟩
  have hres' : res = fold1 closedE ⟨h, A, B⟩ := by rw [hres, hAe, hBe]; rfl
  rw [← hres]
  obtain ⟨W1, hW1⟩ : ∃ W1, W1 = (w.alloc (.cells (eight ⟨h, args, arms⟩ q).toArray 50)).alloc (.cells #[.int .i64 0, .int .i64 0, .string ⟨#[]⟩, .slice none 0 0, .slice none 0 0, .slice none 0 0, .slice none 0 0, .int .i64 0] 50) := ⟨_, rfl⟩
  have hb1 : Below w.heap.size w W1 := by rw [hW1]; exact ((Below.refl _ _).alloc (Nat.le_refl _) _).alloc (by simp) _
  have hs1 : W1.heap.size = w.heap.size + 2 := by rw [hW1]; simp
  have hx1 : W1.heap[w.heap.size]? = some (.cells (eight ⟨h, args, arms⟩ q).toArray 50 (0, 0)) := by
    rw [hW1]
    exact (heap_alloc_old _ _ (by simp)).trans (heap_alloc_new w _)
  have hr1 : Own8 W1 (w.heap.size + 1) 50 (.int .i64 0) (.int .i64 0) (.string ⟨#[]⟩) (.slice none 0 0) (.slice none 0 0) (.slice none 0 0) (.slice none 0 0) (.int .i64 0) := by
    rw [hW1]
    have := heap_alloc_new (w.alloc (.cells (eight ⟨h, args, arms⟩ q).toArray 50)) (.cells #[.int .i64 0, .int .i64 0, .string ⟨#[]⟩, .slice none 0 0, .slice none 0 0, .slice none 0 0, .slice none 0 0, .int .i64 0] 50)
    simpa [Own8] using this
  have hparts := parts_says closedE ⟨h, args, arms⟩ hA hB q W1 S (fun b hb => by have := hS b hb; omega) (he.keep (fun _ h => h) fun p hp => hb1.cell (hS _ hp)) hn hsm
  simp only [← hAe, ← hBe] at hparts
  have hsmA : smallX A := by rw [hAe]; exact foldX_small closedE hsm.2.1
  have hszA : sizeX false A ≤ 100000 := by
    rw [hAe]
    have := foldX_size closedE false args
    simp only [Ex.size] at hn
    omega
  have hsmO : (⟨h, A, B⟩ : Ex).small := ⟨hsm.1, hsmA, by rw [hBe]; exact foldX_small closedE hsm.2.2⟩
  have HSMO := Lib.hid hsmO
  have HRES := Lib.hid hres'
  have HX1 := Lib.hid hx1
  have HR1 := Lib.hid hr1
  have hx8 := eight_at hx1
  clear hA hB he hn hsm hAe hBe hres hres' hr1
  obtain ⟨k, n, t, ns, ty⟩ := h
  obtain ⟨a1, c1, a2, c2, a3, c3, a4, c4⟩ := q
  simp only [eight, agg8] at hx8 hx1 hW1 hparts ⊢
  rw [hW1] at hparts
  have HW1 := Lib.hid hW1
  clear hW1 hx1
  obtain ⟨x0, x1, x2, x3, x4, x5, x6, x7⟩ := hx8
  have hk : k = 7 := hk
  subst hk
  have dl : decide (3 ≤ (A.len : Int)) = true := decide_eq_true (by omega)
  have hlt0 : 0 < A.len := by omega
  have hi0 : (0 : Int) < (A.len : Int) := by omega
  have hlt1 : 1 < A.len := by omega
  have hi1 : (1 : Int) < (A.len : Int) := by omega
  have hlt2 : 2 < A.len := by omega
  have hi2 : (2 : Int) < (A.len : Int) := by omega
  have hsz : (atX A 2).size ≤ 100000 := Nat.le_trans (size_at (atX_some (x := A) (i := 2) hlt2)) hszA
  have hss : (atX A 2).small := small_at hsmA (atX_some (x := A) (i := 2) hlt2)
  have hw10 : IntKind.i64.wrap (1 + 0) = 1 := by decide
  have hw11 : IntKind.i64.wrap (1 + 1) = 2 := by decide
  have hw1 : IntKind.i64.wrap 1 = 1 := by decide
  have hw20 : IntKind.i64.wrap (2 - 0) = 2 := by decide
  have hw21 : IntKind.i64.wrap (2 - 1) = 1 := by decide
  have hw2 : IntKind.i64.wrap 2 = 2 := by decide
  have hr : res = ⟨⟨7, n, t, ns, ty⟩, A, B⟩ := by
    rw [HRES.out]
    unfold fold1
    simp [hl, h0, hnu, hf, litH, offNum]
  have HR := Lib.hid hr
  clear hr
  go_enter Tryz.func19, Tryz.ntmps19
  go_wp2_with (first
    | (go_at_call 39
       (with_reducible refine hparts.mono ?_)
       rintro e w5 ⟨q5, rfl, hq5, hb5⟩
       rw [← HW1.out] at hq5 hb5)
    | fail "none")
  obtain ⟨b1, d1, b2, d2, b3, d3, b4, d4⟩ := q5
  obtain ⟨W6, hW6⟩ : ∃ W6, W6 = w5.alloc (.cells #[.int .i64 7, .int .i64 n, .string t, .slice b1 ns.length d1, .slice b2 ty d2, .slice b3 A.len d3, .slice b4 B.len d4, .int .i64 0] 50) := ⟨_, rfl⟩
  have hz6 : W6.heap[w5.heap.size]? = some (.cells #[.int .i64 7, .int .i64 n, .string t, .slice b1 ns.length d1, .slice b2 ty d2, .slice b3 A.len d3, .slice b4 B.len d4, .int .i64 0] 50 (0, 0)) := by rw [hW6]; exact heap_alloc_new w5 _
  have hb6 : Below W1.heap.size W1 W6 := by rw [hW6]; exact hb5.alloc hb5.size _
  have hb56 : Below w5.heap.size w5 W6 := by rw [hW6]; exact (Below.refl _ _).alloc (Nat.le_refl _) _
  have hq6 := hq5.keep (w' := W6) (S' := fun b => S b ∨ (W1.heap.size ≤ b ∧ b < W6.heap.size)) (fun b hb => hb.imp_right fun h => ⟨h.1, Nat.lt_of_lt_of_le h.2 hb56.size⟩) (fun p hp => hb56.cell (by
    rcases hp with h | h
    · have := hS _ h
      have := hb5.size
      omega
    · exact h.2))
  have hx6 := (hb6.block w.heap.size (by omega)).trans HX1.out
  have hr6 : Own8 W6 (w.heap.size + 1) 50 _ _ _ _ _ _ _ _ := (hb6.block (w.heap.size + 1) (by omega)).trans HR1.out
  obtain ⟨z0, z1, z2, z3, z4, z5, z6, z7⟩ := eight_at hz6
  simp only [eight] at hx6
  obtain ⟨y0, y1, y2, y3, y4, y5, y6, y7⟩ := eight_at hx6
  obtain ⟨⟨r0, r1, r2, r3, r4, r5, r6, r7⟩, s0, s1, s2, s3, s4, s5, s6, s7⟩ := own_eight hr6
  have HZ6 := Lib.hid hz6
  have HX6 := Lib.hid hx6
  have HR6 := Lib.hid hr6
  have hW5 : W1.heap.size ≤ w5.heap.size := hb5.size
  have hlz : w5.heap.size < W6.heap.size := (Array.getElem?_eq_some_iff.1 hz6).1
  clear x0 x1 x2 x3 x4 x5 x6 x7 hz6 hx6 hr6
  rw [← hW6]
  clear hW6
  obtain ⟨ad, q00, hb3, hSad, hc0, he0⟩ := (xrest hq6.r3).nth (i := 0) (atX_some (x := A) (i := 0) hlt0)
  simp only at hb3
  rw [show ad.add ((0 + 0) * 8) = ad by simp [Addr.add]] at hc0
  obtain ⟨ad2, q20, hb32, _, hc2, he2⟩ := (xrest hq6.r3).nth (i := 2) (atX_some (x := A) (i := 2) hlt2)
  simp only at hb32
  rw [hb3] at hb32
  obtain rfl := Option.some.inj hb32
  rw [show ad.add ((0 + 2) * 8) = ⟨ad.block, ad.off + 16, none⟩ by simp [Addr.add]] at hc2
  subst hb3
  have hadl : ad.block < W6.heap.size := by
    rcases hSad with h | h
    · have := hS _ h
      have := hb6.size
      omega
    · exact h.2
  have hadw : ad.block ≠ w.heap.size + 1 := by
    rcases hSad with h | h
    · have := hS _ h
      omega
    · have := h.1
      omega
  obtain ⟨E0, hE0⟩ : ∃ E, E = atX A 0 := ⟨_, rfl⟩
  rw [← hE0] at hc0 he0 h0 hnu
  obtain ⟨E2, hE2⟩ : ∃ E, E = atX A 2 := ⟨_, rfl⟩
  rw [← hE2] at hc2 he2 hf hsz hss
  have HE0 := Lib.hid hE0
  have HEI0 := Lib.hid he0
  clear hE0 he0
  have HE2 := Lib.hid hE2
  have HEI2 := Lib.hid he2
  clear hE2 he2
  obtain ⟨⟨k0, n0, t0, ns0, m0⟩, ar0, am0⟩ := E0
  obtain ⟨x01, d01, x02, d02, x03, d03, x04, d04⟩ := q00
  simp only [cells8] at hc0
  obtain ⟨f00, f01, f02, f03, f04, f05, f06, f07⟩ := hc0
  obtain ⟨⟨k2, n2, t2, ns2, m2⟩, ar2, am2⟩ := E2
  obtain ⟨x21, d21, x22, d22, x23, d23, x24, d24⟩ := q20
  simp only [cells8] at hc2
  obtain ⟨f20, f21, f22, f23, f24, f25, f26, f27⟩ := hc2
  have Hy0 := Lib.hid y0
  have Hy2 := Lib.hid y2
  have Hz5 := Lib.hid z5
  have Hf00 := Lib.hid f00
  have Hf01 := Lib.hid f01
  have Hf02 := Lib.hid f02
  have Hf03 := Lib.hid f03
  have Hf04 := Lib.hid f04
  have Hf05 := Lib.hid f05
  have Hf06 := Lib.hid f06
  have Hf07 := Lib.hid f07
  have Hf20 := Lib.hid f20
  have Hf21 := Lib.hid f21
  have Hf22 := Lib.hid f22
  have Hf23 := Lib.hid f23
  have Hf24 := Lib.hid f24
  have Hf25 := Lib.hid f25
  have Hf26 := Lib.hid f26
  have Hf27 := Lib.hid f27
  have h0 : k0 = 3 := h0
  have hnu : n0 = 1 := hnu
  subst h0 hnu
  have hli : litH 3 1 = true := rfl
  obtain ⟨EE, hEE⟩ : ∃ E : Ex, E = ⟨⟨k2, n2, t2, ns2, m2⟩, ar2, am2⟩ := ⟨_, rfl⟩
  have HEE := Lib.hid hEE
  rw [← hEE] at hf
  have hfr : (((free1 EE [] []).length : Int) == 0) = false := by
    unfold closedE at hf
    simpa using hf
  clear z0 z1 z2 z3 z4 z6 z7 y1 y3 y4 y5 y6 y7 r0 r1 r2 r3 r4 r5 r6 r7 s0 s1 s2 s3 s4 s5 s6 s7 hEE hf
  have hkeep : ∀ w' : World, Below W6.heap.size W6 w' → (w'.cell? ⟨w.heap.size, 0, none⟩ = some (.int .i64 7) ∧ w'.cell? ⟨w.heap.size, 2, none⟩ = some (.string t) ∧ w'.cell? ⟨w5.heap.size, 5, none⟩ = some (.slice (some ad) A.len d3) ∧ w'.cell? ad = some (.int .i64 3) ∧ w'.cell? ⟨ad.block, ad.off + 1, none⟩ = some (.int .i64 1) ∧ w'.cell? ⟨ad.block, ad.off + 2, none⟩ = some (.string t0) ∧ w'.cell? ⟨ad.block, ad.off + 3, none⟩ = some (.slice x01 ns0.length d01) ∧ w'.cell? ⟨ad.block, ad.off + 4, none⟩ = some (.slice x02 m0 d02) ∧ w'.cell? ⟨ad.block, ad.off + 5, none⟩ = some (.slice x03 ar0.len d03) ∧ w'.cell? ⟨ad.block, ad.off + 6, none⟩ = some (.slice x04 am0.len d04) ∧ w'.cell? ⟨ad.block, ad.off + 7, none⟩ = some (.int .i64 0) ∧ w'.cell? ⟨ad.block, ad.off + 16, none⟩ = some (.int .i64 k2) ∧ w'.cell? ⟨ad.block, ad.off + 16 + 1, none⟩ = some (.int .i64 n2) ∧ w'.cell? ⟨ad.block, ad.off + 16 + 2, none⟩ = some (.string t2) ∧ w'.cell? ⟨ad.block, ad.off + 16 + 3, none⟩ = some (.slice x21 ns2.length d21) ∧ w'.cell? ⟨ad.block, ad.off + 16 + 4, none⟩ = some (.slice x22 m2 d22) ∧ w'.cell? ⟨ad.block, ad.off + 16 + 5, none⟩ = some (.slice x23 ar2.len d23) ∧ w'.cell? ⟨ad.block, ad.off + 16 + 6, none⟩ = some (.slice x24 am2.len d24) ∧ w'.cell? ⟨ad.block, ad.off + 16 + 7, none⟩ = some (.int .i64 0)) := fun w' hb => ⟨below_cell hb Hy0.out, below_cell hb Hy2.out, below_cell hb Hz5.out, below_cell hb Hf00.out, below_cell hb Hf01.out, below_cell hb Hf02.out, below_cell hb Hf03.out, below_cell hb Hf04.out, below_cell hb Hf05.out, below_cell hb Hf06.out, below_cell hb Hf07.out, below_cell hb Hf20.out, below_cell hb Hf21.out, below_cell hb Hf22.out, below_cell hb Hf23.out, below_cell hb Hf24.out, below_cell hb Hf25.out, below_cell hb Hf26.out, below_cell hb Hf27.out⟩
  have HK := Lib.hid hkeep
  clear hkeep
  have hw6 : Below W6.heap.size W6 W6.drew := (Below.refl _ _).drew
  have hfree : ∀ W : World, Below W6.heap.size W6 W → Calls Tryz.prog 41 #[.agg #[.int .i64 k2, .int .i64 n2, .string t2, .slice x21 ns2.length d21, .slice x22 m2 d22, .slice x23 ar2.len d23, .slice x24 am2.len d24, .int .i64 0]] W (FreeFEnds EE W) := fun W hb => by
    have hh := HEI2.out.keep (w' := W) (S' := lt W) (fun b hb' => by
      rcases hb' with h | h
      · have := hS _ h
        have := hb6.size
        have := hb.size
        show b < _
        omega
      · exact Nat.lt_of_lt_of_le h.2 hb.size) (fun p hp => hb.cell (by
      rcases hp with h | h
      · have := hS _ h
        have := hb6.size
        omega
      · exact h.2))
    rw [HEE.out]
    exact freeF_says ⟨⟨k2, n2, t2, ns2, m2⟩, ar2, am2⟩ ⟨x21, d21, x22, d22, x23, d23, x24, d24⟩ W hh hsz hss
  have hlit : ∀ W : World, Calls Tryz.prog 40 #[.agg #[.int .i64 3, .int .i64 1, .string t0, .slice x01 ns0.length d01, .slice x02 m0 d02, .slice x03 ar0.len d03, .slice x04 am0.len d04, .int .i64 0]] W (BoolEnds (litH 3 1) W) := fun W => literal_says _ _ _ _ _ _ _ _ _ _ _ _ _ _ _ W
  go_region_held3 (fun w' => w'.cell? ⟨w.heap.size, 0, none⟩ = some (.int .i64 7) ∧ w'.cell? ⟨w.heap.size, 2, none⟩ = some (.string t) ∧ w'.cell? ⟨w5.heap.size, 5, none⟩ = some (.slice (some ad) A.len d3) ∧ w'.cell? ad = some (.int .i64 3) ∧ w'.cell? ⟨ad.block, ad.off + 1, none⟩ = some (.int .i64 1) ∧ w'.cell? ⟨ad.block, ad.off + 2, none⟩ = some (.string t0) ∧ w'.cell? ⟨ad.block, ad.off + 3, none⟩ = some (.slice x01 ns0.length d01) ∧ w'.cell? ⟨ad.block, ad.off + 4, none⟩ = some (.slice x02 m0 d02) ∧ w'.cell? ⟨ad.block, ad.off + 5, none⟩ = some (.slice x03 ar0.len d03) ∧ w'.cell? ⟨ad.block, ad.off + 6, none⟩ = some (.slice x04 am0.len d04) ∧ w'.cell? ⟨ad.block, ad.off + 7, none⟩ = some (.int .i64 0) ∧ w'.cell? ⟨ad.block, ad.off + 16, none⟩ = some (.int .i64 k2) ∧ w'.cell? ⟨ad.block, ad.off + 16 + 1, none⟩ = some (.int .i64 n2) ∧ w'.cell? ⟨ad.block, ad.off + 16 + 2, none⟩ = some (.string t2) ∧ w'.cell? ⟨ad.block, ad.off + 16 + 3, none⟩ = some (.slice x21 ns2.length d21) ∧ w'.cell? ⟨ad.block, ad.off + 16 + 4, none⟩ = some (.slice x22 m2 d22) ∧ w'.cell? ⟨ad.block, ad.off + 16 + 5, none⟩ = some (.slice x23 ar2.len d23) ∧ w'.cell? ⟨ad.block, ad.off + 16 + 6, none⟩ = some (.slice x24 am2.len d24) ∧ w'.cell? ⟨ad.block, ad.off + 16 + 7, none⟩ = some (.int .i64 0)) (first | exact HK.out _ hb68 | exact HK.out _ hb67 | exact HK.out _ (Below.refl _ _) | exact HK.out _ hw6 | go_keep) (first
    | (go_at_call 40
       (with_reducible refine (hlit _).mono ?_)
       rintro e w7 ⟨rfl, hb7⟩
       have hb67 : Below W6.heap.size W6 w7 := (Below.refl _ _).drew.trans (hb7.mono (Nat.le_refl _)))
    | (go_at_call 41
       (with_reducible refine (hfree _ hb67).mono ?_)
       rintro e w8 ⟨A8, n8, c8, rfl, hn8, hb8⟩
       have hb68 : Below W6.heap.size W6 w8 := hb67.trans (hb8.mono hb67.size)
       have hfr8 : ((n8 : Int) == 0) = false := by rw [hn8]; exact hfr)
    | fail "none")
  all_goals
    clear y0 y2 z5
    clear f00 f01 f02 f03 f04 f05 f06 f07 f20 f21 f22 f23 f24 f25 f26 f27
    have my0 : ∀ x : Later w8, x.val.cell? ⟨w.heap.size, 0, none⟩ = some (.int .i64 7) := fun x => later_cell hb68 Hy0.out x
    have mz5 : ∀ x : Later w8, x.val.cell? ⟨w5.heap.size, 5, none⟩ = some (.slice (some ad) A.len d3) := fun x => later_cell hb68 Hz5.out x
    have py0 : World.cell? w8 ⟨w.heap.size, 0, none⟩ = some (.int .i64 7) := below_cell hb68 Hy0.out
    have py2 : World.cell? w8 ⟨w.heap.size, 2, none⟩ = some (.string t) := below_cell hb68 Hy2.out
    have pz5 : World.cell? w8 ⟨w5.heap.size, 5, none⟩ = some (.slice (some ad) A.len d3) := below_cell hb68 Hz5.out
    go_wp2
    clear py0 py2 pz5
    refine region_later (by kernel_rfl) (by kernel_rfl) ?_
    repeat (go_big_quiet_step (fail "none"))
    refine wpQuiet_nil ?_
    intro w9 hw9
    obtain ⟨x9, hx9⟩ := hw9
    subst hx9
    have hb69 : Below W6.heap.size W6 x9.val := hb68.trans (x9.ok.mono hb68.size)
    have hb9 : Below W1.heap.size W1 x9.val := hb6.trans (hb69.mono hb6.size)
    obtain ⟨⟨r0, r1, r2, r3, r4, r5, r6, r7⟩, s0, s1, s2, s3, s4, s5, s6, s7⟩ := own_eight ((hb69.block (w.heap.size + 1) (by have := hb6.size; omega)).trans HR6.out)
    obtain ⟨z0, z1, z2, z3, z4, z5, z6, z7⟩ := eight_at ((hb69.block w5.heap.size hlz).trans HZ6.out)
    have hq9 := hq6.keep (w' := x9.val) (S' := fun b => S b ∨ (W1.heap.size ≤ b ∧ b < (x9.val).heap.size)) (fun b hb => hb.imp_right fun h => ⟨h.1, Nat.lt_of_lt_of_le h.2 (hb69).size⟩) (fun p hp => (hb69).cell (by
      rcases hp with h | h
      · have := hS _ h
        have := hb6.size
        omega
      · exact h.2))
    go_wp2
    refine bodyPost_ret (v := .agg #[.int .i64 7, .int .i64 n, .string t, .slice b1 ns.length d1, .slice b2 ty d2, .slice (some ad) A.len d3, .slice b4 B.len d4, .int .i64 0]) (by simp [results, Tryz.results19, go_sem, *]) rfl ?_
    rw [HR.out]
    exact truth_close hS hb1 hs1 (Below.refl _ _) hq9 hb9 _ _ _ _ _ _ _ _
end Go.Proofs.YtiinghgfojicdaaGreat
