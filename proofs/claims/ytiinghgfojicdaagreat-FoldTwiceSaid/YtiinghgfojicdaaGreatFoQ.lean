/- A part of the proof of FoldTwice: fold.Expr: cases. No conditions. -/
import Derived.Test.YtiinghgfojicdaaGreatFoL
set_option linter.unusedVariables false
set_option linter.unusedSimpArgs false
namespace Go.Proofs.YtiinghgfojicdaaGreat
open Go.RowKit Go.RowG Go.FRow Go.GMem
set_option linter.unusedVariables false
set_option maxRecDepth 100000
attribute [local go_sem ↓] Go.wp_at_zero Go.wp_at_succ
set_option maxHeartbeats 16000000 in
theorem fold_k (e : Ex) (hA : EachX (FoldSaid closedE) e.args) (hB : EachX (FoldSaid closedE) e.arms) (hk_ : e.h.k = 8) (h2_ : (foldX closedE e.args).len = 2) (hi_ : litH (atX (foldX closedE e.args) 0).h.k (atX (foldX closedE e.args) 0).h.n = false) : FoldSaid closedE e := by
  intro q w S hS he hn hsm
  obtain ⟨h, args, arms⟩ := e
  have hk : h.k = 8 := hk_
  clear hk_
  have h2 : (foldX closedE args).len = 2 := h2_
  clear h2_
  have hi : litH (atX (foldX closedE args) 0).h.k (atX (foldX closedE args) 0).h.n = false := hi_
  clear hi_
  obtain ⟨A, hAe⟩ : ∃ A, A = foldX closedE args := ⟨_, rfl⟩
  rw [← hAe] at h2 hi
  obtain ⟨B, hBe⟩ : ∃ B, B = foldX closedE arms := ⟨_, rfl⟩
  obtain ⟨res, hres⟩ : ∃ res, res = foldE closedE ⟨h, args, arms⟩ := ⟨_, rfl⟩
  have hres' : res = fold1 closedE ⟨h, A, B⟩ := by rw [hres, hAe, hBe]; rfl
  rw [← hres]
  obtain ⟨W1, hW1⟩ : ∃ W1, W1 = (w.alloc (.cells (eight ⟨h, args, arms⟩ q).toArray 50)).alloc (.cells #[.int .i64 0, .int .i64 0, .string ⟨#[]⟩, .slice none 0 0, .slice none 0 0, .slice none 0 0, .slice none 0 0, .int .i64 0] 50) := ⟨_, rfl⟩
  have hb1 : Below w.heap.size w W1 := by rw [hW1]; exact ((Below.refl _ _).alloc (Nat.le_refl _) _).alloc (by simp) _
  have hs1 : W1.heap.size = w.heap.size + 2 := by rw [hW1]; simp
  have hx1 : W1.heap[w.heap.size]? = some (.cells (eight ⟨h, args, arms⟩ q).toArray 50 (0, 0)) := by
    rw [hW1]
    exact (heap_alloc_old _ _ (by simp)).trans (heap_alloc_new w _)
  have hr1 : Own8 W1 (w.heap.size + 1) 50 (.int .i64 0) (.int .i64 0) (.string ⟨#[]⟩) (.slice none 0 0) (.slice none 0 0) (.slice none 0 0) (.slice none 0 0) (.int .i64 0) := by
    rw [hW1]
    have := heap_alloc_new (w.alloc (.cells (eight ⟨h, args, arms⟩ q).toArray 50)) (.cells #[.int .i64 0, .int .i64 0, .string ⟨#[]⟩, .slice none 0 0, .slice none 0 0, .slice none 0 0, .slice none 0 0, .int .i64 0] 50)
    simpa [Own8] using this
  have hparts := parts_says closedE ⟨h, args, arms⟩ hA hB q W1 S (fun b hb => by have := hS b hb; omega) (he.keep (fun _ h => h) fun p hp => hb1.cell (hS _ hp)) hn hsm
  simp only [← hAe, ← hBe] at hparts
  have hsmA : smallX A := by rw [hAe]; exact foldX_small closedE hsm.2.1
  have hszA : sizeX false A ≤ 100000 := by
    rw [hAe]
    have := foldX_size closedE false args
    simp only [Ex.size] at hn
    omega
  have hsmO : (⟨h, A, B⟩ : Ex).small := ⟨hsm.1, hsmA, by rw [hBe]; exact foldX_small closedE hsm.2.2⟩
  have HSMO := Lib.hid hsmO
  have HRES := Lib.hid hres'
  have HX1 := Lib.hid hx1
  have HR1 := Lib.hid hr1
  have hx8 := eight_at hx1
  clear hA hB he hn hsm hAe hBe hres hres' hr1
  obtain ⟨k, n, t, ns, ty⟩ := h
  obtain ⟨a1, c1, a2, c2, a3, c3, a4, c4⟩ := q
  simp only [eight, agg8] at hx8 hx1 hW1 hparts ⊢
  rw [hW1] at hparts
  have HW1 := Lib.hid hW1
  clear hW1 hx1
  obtain ⟨x0, x1, x2, x3, x4, x5, x6, x7⟩ := hx8
  have hk : k = 8 := hk
  subst hk
  have d1 : ((A.len : Int) == 1) = false := by simp; omega
  have d2 : ((A.len : Int) == 2) = true := by simp; omega
  have hlt0 : 0 < A.len := by omega
  have hi0 : (0 : Int) < (A.len : Int) := by omega
  have hlt1 : 1 < A.len := by omega
  have hi1 : (1 : Int) < (A.len : Int) := by omega
  have hr : res = ⟨⟨8, n, t, ns, ty⟩, A, B⟩ := by
    rw [HRES.out]
    unfold fold1
    simp [h2, hi]
  have HR := Lib.hid hr
  clear hr
  have HLN := Lib.hid h2
  clear h2
  go_enter Tryz.func19, Tryz.ntmps19
  go_wp2_with (first
    | (go_at_call 39
       (with_reducible refine hparts.mono ?_)
       rintro e w5 ⟨q5, rfl, hq5, hb5⟩
       rw [← HW1.out] at hq5 hb5)
    | fail "none")
  obtain ⟨b1, d1, b2, d2, b3, d3, b4, d4⟩ := q5
  obtain ⟨W6, hW6⟩ : ∃ W6, W6 = w5.alloc (.cells #[.int .i64 8, .int .i64 n, .string t, .slice b1 ns.length d1, .slice b2 ty d2, .slice b3 A.len d3, .slice b4 B.len d4, .int .i64 0] 50) := ⟨_, rfl⟩
  have hz6 : W6.heap[w5.heap.size]? = some (.cells #[.int .i64 8, .int .i64 n, .string t, .slice b1 ns.length d1, .slice b2 ty d2, .slice b3 A.len d3, .slice b4 B.len d4, .int .i64 0] 50 (0, 0)) := by rw [hW6]; exact heap_alloc_new w5 _
  have hb6 : Below W1.heap.size W1 W6 := by rw [hW6]; exact hb5.alloc hb5.size _
  have hb56 : Below w5.heap.size w5 W6 := by rw [hW6]; exact (Below.refl _ _).alloc (Nat.le_refl _) _
  have hq6 := hq5.keep (w' := W6) (S' := fun b => S b ∨ (W1.heap.size ≤ b ∧ b < W6.heap.size)) (fun b hb => hb.imp_right fun h => ⟨h.1, Nat.lt_of_lt_of_le h.2 hb56.size⟩) (fun p hp => hb56.cell (by
    rcases hp with h | h
    · have := hS _ h
      have := hb5.size
      omega
    · exact h.2))
  have hx6 := (hb6.block w.heap.size (by omega)).trans HX1.out
  have hr6 : Own8 W6 (w.heap.size + 1) 50 _ _ _ _ _ _ _ _ := (hb6.block (w.heap.size + 1) (by omega)).trans HR1.out
  obtain ⟨z0, z1, z2, z3, z4, z5, z6, z7⟩ := eight_at hz6
  simp only [eight] at hx6
  obtain ⟨y0, y1, y2, y3, y4, y5, y6, y7⟩ := eight_at hx6
  obtain ⟨⟨r0, r1, r2, r3, r4, r5, r6, r7⟩, s0, s1, s2, s3, s4, s5, s6, s7⟩ := own_eight hr6
  have HZ6 := Lib.hid hz6
  have HX6 := Lib.hid hx6
  have HR6 := Lib.hid hr6
  have hW5 : W1.heap.size ≤ w5.heap.size := hb5.size
  have hlz : w5.heap.size < W6.heap.size := (Array.getElem?_eq_some_iff.1 hz6).1
  clear x0 x1 x2 x3 x4 x5 x6 x7 hz6 hx6 hr6
  rw [← hW6]
  clear hW6
  obtain ⟨ad, q00, hb3, hSad, hc0, he0⟩ := (xrest hq6.r3).nth (i := 0) (atX_some (x := A) (i := 0) hlt0)
  simp only at hb3
  rw [show ad.add ((0 + 0) * 8) = ad by simp [Addr.add]] at hc0
  subst hb3
  have hadl : ad.block < W6.heap.size := by
    rcases hSad with h | h
    · have := hS _ h
      have := hb6.size
      omega
    · exact h.2
  have hadw : ad.block ≠ w.heap.size + 1 := by
    rcases hSad with h | h
    · have := hS _ h
      omega
    · have := h.1
      omega
  obtain ⟨E0, hE0⟩ : ∃ E, E = atX A 0 := ⟨_, rfl⟩
  rw [← hE0] at hc0 he0 hi
  have HE0 := Lib.hid hE0
  have HEI0 := Lib.hid he0
  clear hE0 he0
  obtain ⟨⟨k0, n0, t0, ns0, m0⟩, ar0, am0⟩ := E0
  obtain ⟨x01, d01, x02, d02, x03, d03, x04, d04⟩ := q00
  simp only [cells8] at hc0
  obtain ⟨f00, f01, f02, f03, f04, f05, f06, f07⟩ := hc0
  have Hy0 := Lib.hid y0
  have Hy2 := Lib.hid y2
  have Hz5 := Lib.hid z5
  have Hf00 := Lib.hid f00
  have Hf01 := Lib.hid f01
  have Hf02 := Lib.hid f02
  have Hf03 := Lib.hid f03
  have Hf04 := Lib.hid f04
  have Hf05 := Lib.hid f05
  have Hf06 := Lib.hid f06
  have Hf07 := Lib.hid f07
  have hi : litH k0 n0 = false := hi
  clear z0 z1 z2 z3 z4 z5 z6 z7 y0 y1 y2 y3 y4 y5 y6 y7 r0 r1 r2 r3 r4 r5 r6 r7 s0 s1 s2 s3 s4 s5 s6 s7
  clear f00 f01 f02 f03 f04 f05 f06 f07
  have ly0 : ∀ x : Later W6, x.val.cell? ⟨w.heap.size, 0, none⟩ = some (.int .i64 8) := fun x => later_cell (Below.refl _ _) Hy0.out x
  have ly2 : ∀ x : Later W6, x.val.cell? ⟨w.heap.size, 2, none⟩ = some (.string t) := fun x => later_cell (Below.refl _ _) Hy2.out x
  have lz5 : ∀ x : Later W6, x.val.cell? ⟨w5.heap.size, 5, none⟩ = some (.slice (some ad) A.len d3) := fun x => later_cell (Below.refl _ _) Hz5.out x
  refine region_later (by kernel_rfl) (by kernel_rfl) ?_
  repeat (go_big_quiet_step (fail "none"))
  refine wpQuiet_nil ?_
  intro w7 hw7
  obtain ⟨x7, hx7⟩ := hw7
  subst hx7
  clear ly0 ly2 lz5
  have py0 : World.cell? x7.val ⟨w.heap.size, 0, none⟩ = some (.int .i64 8) := below_cell x7.ok Hy0.out
  have py2 : World.cell? x7.val ⟨w.heap.size, 2, none⟩ = some (.string t) := below_cell x7.ok Hy2.out
  have pz5 : World.cell? x7.val ⟨w5.heap.size, 5, none⟩ = some (.slice (some ad) A.len d3) := below_cell x7.ok Hz5.out
  go_wp2
  clear py0 py2 pz5
  have my0 : ∀ x : Later x7.val, x.val.cell? ⟨w.heap.size, 0, none⟩ = some (.int .i64 8) := fun x => later_cell x7.ok Hy0.out x
  have mz5 : ∀ x : Later x7.val, x.val.cell? ⟨w5.heap.size, 5, none⟩ = some (.slice (some ad) A.len d3) := fun x => later_cell x7.ok Hz5.out x
  have mf00 : ∀ x : Later x7.val, x.val.cell? ad = some (.int .i64 k0) := fun x => later_cell x7.ok Hf00.out x
  have mf01 : ∀ x : Later x7.val, x.val.cell? ⟨ad.block, ad.off + 1, none⟩ = some (.int .i64 n0) := fun x => later_cell x7.ok Hf01.out x
  have mf02 : ∀ x : Later x7.val, x.val.cell? ⟨ad.block, ad.off + 2, none⟩ = some (.string t0) := fun x => later_cell x7.ok Hf02.out x
  have mf03 : ∀ x : Later x7.val, x.val.cell? ⟨ad.block, ad.off + 3, none⟩ = some (.slice x01 ns0.length d01) := fun x => later_cell x7.ok Hf03.out x
  have mf04 : ∀ x : Later x7.val, x.val.cell? ⟨ad.block, ad.off + 4, none⟩ = some (.slice x02 m0 d02) := fun x => later_cell x7.ok Hf04.out x
  have mf05 : ∀ x : Later x7.val, x.val.cell? ⟨ad.block, ad.off + 5, none⟩ = some (.slice x03 ar0.len d03) := fun x => later_cell x7.ok Hf05.out x
  have mf06 : ∀ x : Later x7.val, x.val.cell? ⟨ad.block, ad.off + 6, none⟩ = some (.slice x04 am0.len d04) := fun x => later_cell x7.ok Hf06.out x
  have mf07 : ∀ x : Later x7.val, x.val.cell? ⟨ad.block, ad.off + 7, none⟩ = some (.int .i64 0) := fun x => later_cell x7.ok Hf07.out x
  refine region_later (by kernel_rfl) (by kernel_rfl) ?_
  repeat (go_big_quiet_step ((go_at_call 40; exact lit_later _ _ _ _ _ _ _ _ _ _ _ _ _ _ _ _)))
  refine wpQuiet_nil ?_
  intro w9 hw9
  obtain ⟨x9, hx9⟩ := hw9
  subst hx9
  clear my0 mz5 mf00 mf01 mf02 mf03 mf04 mf05 mf06 mf07
  have hb69 : Below W6.heap.size W6 x9.val := x7.ok.trans (x9.ok.mono x7.ok.size)
  have hb9 : Below W1.heap.size W1 x9.val := hb6.trans (hb69.mono hb6.size)
  obtain ⟨⟨r0, r1, r2, r3, r4, r5, r6, r7⟩, s0, s1, s2, s3, s4, s5, s6, s7⟩ := own_eight ((hb69.block (w.heap.size + 1) (by have := hb6.size; omega)).trans HR6.out)
  obtain ⟨z0, z1, z2, z3, z4, z5, z6, z7⟩ := eight_at ((hb69.block w5.heap.size hlz).trans HZ6.out)
  have hq9 := hq6.keep (w' := x9.val) (S' := fun b => S b ∨ (W1.heap.size ≤ b ∧ b < (x9.val).heap.size)) (fun b hb => hb.imp_right fun h => ⟨h.1, Nat.lt_of_lt_of_le h.2 (hb69).size⟩) (fun p hp => (hb69).cell (by
    rcases hp with h | h
    · have := hS _ h
      have := hb6.size
      omega
    · exact h.2))
  go_wp2
  refine bodyPost_ret (v := .agg #[.int .i64 8, .int .i64 n, .string t, .slice b1 ns.length d1, .slice b2 ty d2, .slice (some ad) A.len d3, .slice b4 B.len d4, .int .i64 0]) (by simp [results, Tryz.results19, go_sem, *]) rfl ?_
  rw [HR.out]
  exact truth_close hS hb1 hs1 (Below.refl _ _) hq9 hb9 _ _ _ _ _ _ _ _
end Go.Proofs.YtiinghgfojicdaaGreat
namespace Go.Proofs.YtiinghgfojicdaaGreat
open Go.RowKit Go.RowG Go.FRow Go.GMem
set_option linter.unusedVariables false
set_option maxRecDepth 100000
attribute [local go_sem ↓] Go.wp_at_zero Go.wp_at_succ
set_option maxHeartbeats 16000000 in
theorem fold_l (e : Ex) (hA : EachX (FoldSaid closedE) e.args) (hB : EachX (FoldSaid closedE) e.arms) (hk_ : e.h.k = 8) (h2_ : (foldX closedE e.args).len = 2) (hi_ : litH (atX (foldX closedE e.args) 0).h.k (atX (foldX closedE e.args) 0).h.n = true) (hke_ : (atX (foldX closedE e.args) 0).h.k ≠ (atX (foldX closedE e.args) 1).h.k) : FoldSaid closedE e := by
  intro q w S hS he hn hsm
  obtain ⟨h, args, arms⟩ := e
  have hk : h.k = 8 := hk_
  clear hk_
  have h2 : (foldX closedE args).len = 2 := h2_
  clear h2_
  have hi : litH (atX (foldX closedE args) 0).h.k (atX (foldX closedE args) 0).h.n = true := hi_
  clear hi_
  have hke : (atX (foldX closedE args) 0).h.k ≠ (atX (foldX closedE args) 1).h.k := hke_
  clear hke_
  obtain ⟨A, hAe⟩ : ∃ A, A = foldX closedE args := ⟨_, rfl⟩
  rw [← hAe] at h2 hi hke
  obtain ⟨B, hBe⟩ : ∃ B, B = foldX closedE arms := ⟨_, rfl⟩
  obtain ⟨res, hres⟩ : ∃ res, res = foldE closedE ⟨h, args, arms⟩ := ⟨_, rfl⟩
  have hres' : res = fold1 closedE ⟨h, A, B⟩ := by rw [hres, hAe, hBe]; rfl
  rw [← hres]
  obtain ⟨W1, hW1⟩ : ∃ W1, W1 = (w.alloc (.cells (eight ⟨h, args, arms⟩ q).toArray 50)).alloc (.cells #[.int .i64 0, .int .i64 0, .string ⟨#[]⟩, .slice none 0 0, .slice none 0 0, .slice none 0 0, .slice none 0 0, .int .i64 0] 50) := ⟨_, rfl⟩
  have hb1 : Below w.heap.size w W1 := by rw [hW1]; exact ((Below.refl _ _).alloc (Nat.le_refl _) _).alloc (by simp) _
  have hs1 : W1.heap.size = w.heap.size + 2 := by rw [hW1]; simp
  have hx1 : W1.heap[w.heap.size]? = some (.cells (eight ⟨h, args, arms⟩ q).toArray 50 (0, 0)) := by
    rw [hW1]
    exact (heap_alloc_old _ _ (by simp)).trans (heap_alloc_new w _)
  have hr1 : Own8 W1 (w.heap.size + 1) 50 (.int .i64 0) (.int .i64 0) (.string ⟨#[]⟩) (.slice none 0 0) (.slice none 0 0) (.slice none 0 0) (.slice none 0 0) (.int .i64 0) := by
    rw [hW1]
    have := heap_alloc_new (w.alloc (.cells (eight ⟨h, args, arms⟩ q).toArray 50)) (.cells #[.int .i64 0, .int .i64 0, .string ⟨#[]⟩, .slice none 0 0, .slice none 0 0, .slice none 0 0, .slice none 0 0, .int .i64 0] 50)
    simpa [Own8] using this
  have hparts := parts_says closedE ⟨h, args, arms⟩ hA hB q W1 S (fun b hb => by have := hS b hb; omega) (he.keep (fun _ h => h) fun p hp => hb1.cell (hS _ hp)) hn hsm
  simp only [← hAe, ← hBe] at hparts
  have hsmA : smallX A := by rw [hAe]; exact foldX_small closedE hsm.2.1
  have hszA : sizeX false A ≤ 100000 := by
    rw [hAe]
    have := foldX_size closedE false args
    simp only [Ex.size] at hn
    omega
  have hsmO : (⟨h, A, B⟩ : Ex).small := ⟨hsm.1, hsmA, by rw [hBe]; exact foldX_small closedE hsm.2.2⟩
  have HSMO := Lib.hid hsmO
  have HRES := Lib.hid hres'
  have HX1 := Lib.hid hx1
  have HR1 := Lib.hid hr1
  have hx8 := eight_at hx1
  clear hA hB he hn hsm hAe hBe hres hres' hr1
  obtain ⟨k, n, t, ns, ty⟩ := h
  obtain ⟨a1, c1, a2, c2, a3, c3, a4, c4⟩ := q
  simp only [eight, agg8] at hx8 hx1 hW1 hparts ⊢
  rw [hW1] at hparts
  have HW1 := Lib.hid hW1
  clear hW1 hx1
  obtain ⟨x0, x1, x2, x3, x4, x5, x6, x7⟩ := hx8
  have hk : k = 8 := hk
  subst hk
  have d1 : ((A.len : Int) == 1) = false := by simp; omega
  have d2 : ((A.len : Int) == 2) = true := by simp; omega
  have hlt0 : 0 < A.len := by omega
  have hi0 : (0 : Int) < (A.len : Int) := by omega
  have hlt1 : 1 < A.len := by omega
  have hi1 : (1 : Int) < (A.len : Int) := by omega
  have hr : res = ⟨⟨8, n, t, ns, ty⟩, A, B⟩ := by
    rw [HRES.out]
    unfold fold1
    simp [h2, hi, hke]
  have HR := Lib.hid hr
  clear hr
  have HLN := Lib.hid h2
  clear h2
  go_enter Tryz.func19, Tryz.ntmps19
  go_wp2_with (first
    | (go_at_call 39
       (with_reducible refine hparts.mono ?_)
       rintro e w5 ⟨q5, rfl, hq5, hb5⟩
       rw [← HW1.out] at hq5 hb5)
    | fail "none")
  obtain ⟨b1, d1, b2, d2, b3, d3, b4, d4⟩ := q5
  obtain ⟨W6, hW6⟩ : ∃ W6, W6 = w5.alloc (.cells #[.int .i64 8, .int .i64 n, .string t, .slice b1 ns.length d1, .slice b2 ty d2, .slice b3 A.len d3, .slice b4 B.len d4, .int .i64 0] 50) := ⟨_, rfl⟩
  have hz6 : W6.heap[w5.heap.size]? = some (.cells #[.int .i64 8, .int .i64 n, .string t, .slice b1 ns.length d1, .slice b2 ty d2, .slice b3 A.len d3, .slice b4 B.len d4, .int .i64 0] 50 (0, 0)) := by rw [hW6]; exact heap_alloc_new w5 _
  have hb6 : Below W1.heap.size W1 W6 := by rw [hW6]; exact hb5.alloc hb5.size _
  have hb56 : Below w5.heap.size w5 W6 := by rw [hW6]; exact (Below.refl _ _).alloc (Nat.le_refl _) _
  have hq6 := hq5.keep (w' := W6) (S' := fun b => S b ∨ (W1.heap.size ≤ b ∧ b < W6.heap.size)) (fun b hb => hb.imp_right fun h => ⟨h.1, Nat.lt_of_lt_of_le h.2 hb56.size⟩) (fun p hp => hb56.cell (by
    rcases hp with h | h
    · have := hS _ h
      have := hb5.size
      omega
    · exact h.2))
  have hx6 := (hb6.block w.heap.size (by omega)).trans HX1.out
  have hr6 : Own8 W6 (w.heap.size + 1) 50 _ _ _ _ _ _ _ _ := (hb6.block (w.heap.size + 1) (by omega)).trans HR1.out
  obtain ⟨z0, z1, z2, z3, z4, z5, z6, z7⟩ := eight_at hz6
  simp only [eight] at hx6
  obtain ⟨y0, y1, y2, y3, y4, y5, y6, y7⟩ := eight_at hx6
  obtain ⟨⟨r0, r1, r2, r3, r4, r5, r6, r7⟩, s0, s1, s2, s3, s4, s5, s6, s7⟩ := own_eight hr6
  have HZ6 := Lib.hid hz6
  have HX6 := Lib.hid hx6
  have HR6 := Lib.hid hr6
  have hW5 : W1.heap.size ≤ w5.heap.size := hb5.size
  have hlz : w5.heap.size < W6.heap.size := (Array.getElem?_eq_some_iff.1 hz6).1
  clear x0 x1 x2 x3 x4 x5 x6 x7 hz6 hx6 hr6
  rw [← hW6]
  clear hW6
  obtain ⟨ad, q00, hb3, hSad, hc0, he0⟩ := (xrest hq6.r3).nth (i := 0) (atX_some (x := A) (i := 0) hlt0)
  simp only at hb3
  rw [show ad.add ((0 + 0) * 8) = ad by simp [Addr.add]] at hc0
  obtain ⟨ad1, q10, hb31, _, hc1, he1⟩ := (xrest hq6.r3).nth (i := 1) (atX_some (x := A) (i := 1) hlt1)
  simp only at hb31
  rw [hb3] at hb31
  obtain rfl := Option.some.inj hb31
  rw [show ad.add ((0 + 1) * 8) = ⟨ad.block, ad.off + 8, none⟩ by simp [Addr.add]] at hc1
  subst hb3
  have hadl : ad.block < W6.heap.size := by
    rcases hSad with h | h
    · have := hS _ h
      have := hb6.size
      omega
    · exact h.2
  have hadw : ad.block ≠ w.heap.size + 1 := by
    rcases hSad with h | h
    · have := hS _ h
      omega
    · have := h.1
      omega
  obtain ⟨E0, hE0⟩ : ∃ E, E = atX A 0 := ⟨_, rfl⟩
  rw [← hE0] at hc0 he0 hi hke
  obtain ⟨E1, hE1⟩ : ∃ E, E = atX A 1 := ⟨_, rfl⟩
  rw [← hE1] at hc1 he1 hke
  have HE0 := Lib.hid hE0
  have HEI0 := Lib.hid he0
  clear hE0 he0
  have HE1 := Lib.hid hE1
  have HEI1 := Lib.hid he1
  clear hE1 he1
  obtain ⟨⟨k0, n0, t0, ns0, m0⟩, ar0, am0⟩ := E0
  obtain ⟨x01, d01, x02, d02, x03, d03, x04, d04⟩ := q00
  simp only [cells8] at hc0
  obtain ⟨f00, f01, f02, f03, f04, f05, f06, f07⟩ := hc0
  obtain ⟨⟨k1, n1, t1, ns1, m1⟩, ar1, am1⟩ := E1
  obtain ⟨x11, d11, x12, d12, x13, d13, x14, d14⟩ := q10
  simp only [cells8] at hc1
  obtain ⟨f10, f11, f12, f13, f14, f15, f16, f17⟩ := hc1
  have Hy0 := Lib.hid y0
  have Hy2 := Lib.hid y2
  have Hz5 := Lib.hid z5
  have Hf00 := Lib.hid f00
  have Hf01 := Lib.hid f01
  have Hf02 := Lib.hid f02
  have Hf03 := Lib.hid f03
  have Hf04 := Lib.hid f04
  have Hf05 := Lib.hid f05
  have Hf06 := Lib.hid f06
  have Hf07 := Lib.hid f07
  have Hf10 := Lib.hid f10
  have Hf11 := Lib.hid f11
  have Hf12 := Lib.hid f12
  have Hf13 := Lib.hid f13
  have Hf14 := Lib.hid f14
  have Hf15 := Lib.hid f15
  have Hf16 := Lib.hid f16
  have Hf17 := Lib.hid f17
  have hi : litH k0 n0 = true := hi
  have hke : (k0 == k1) = false := by simpa using hke
  clear z0 z1 z2 z3 z4 z5 z6 z7 y0 y1 y2 y3 y4 y5 y6 y7 r0 r1 r2 r3 r4 r5 r6 r7 s0 s1 s2 s3 s4 s5 s6 s7
  clear f00 f01 f02 f03 f04 f05 f06 f07 f10 f11 f12 f13 f14 f15 f16 f17
  have ly0 : ∀ x : Later W6, x.val.cell? ⟨w.heap.size, 0, none⟩ = some (.int .i64 8) := fun x => later_cell (Below.refl _ _) Hy0.out x
  have ly2 : ∀ x : Later W6, x.val.cell? ⟨w.heap.size, 2, none⟩ = some (.string t) := fun x => later_cell (Below.refl _ _) Hy2.out x
  have lz5 : ∀ x : Later W6, x.val.cell? ⟨w5.heap.size, 5, none⟩ = some (.slice (some ad) A.len d3) := fun x => later_cell (Below.refl _ _) Hz5.out x
  refine region_later (by kernel_rfl) (by kernel_rfl) ?_
  repeat (go_big_quiet_step (fail "none"))
  refine wpQuiet_nil ?_
  intro w7 hw7
  obtain ⟨x7, hx7⟩ := hw7
  subst hx7
  clear ly0 ly2 lz5
  have py0 : World.cell? x7.val ⟨w.heap.size, 0, none⟩ = some (.int .i64 8) := below_cell x7.ok Hy0.out
  have py2 : World.cell? x7.val ⟨w.heap.size, 2, none⟩ = some (.string t) := below_cell x7.ok Hy2.out
  have pz5 : World.cell? x7.val ⟨w5.heap.size, 5, none⟩ = some (.slice (some ad) A.len d3) := below_cell x7.ok Hz5.out
  go_wp2
  clear py0 py2 pz5
  have my0 : ∀ x : Later x7.val, x.val.cell? ⟨w.heap.size, 0, none⟩ = some (.int .i64 8) := fun x => later_cell x7.ok Hy0.out x
  have mz5 : ∀ x : Later x7.val, x.val.cell? ⟨w5.heap.size, 5, none⟩ = some (.slice (some ad) A.len d3) := fun x => later_cell x7.ok Hz5.out x
  have mf00 : ∀ x : Later x7.val, x.val.cell? ad = some (.int .i64 k0) := fun x => later_cell x7.ok Hf00.out x
  have mf01 : ∀ x : Later x7.val, x.val.cell? ⟨ad.block, ad.off + 1, none⟩ = some (.int .i64 n0) := fun x => later_cell x7.ok Hf01.out x
  have mf02 : ∀ x : Later x7.val, x.val.cell? ⟨ad.block, ad.off + 2, none⟩ = some (.string t0) := fun x => later_cell x7.ok Hf02.out x
  have mf03 : ∀ x : Later x7.val, x.val.cell? ⟨ad.block, ad.off + 3, none⟩ = some (.slice x01 ns0.length d01) := fun x => later_cell x7.ok Hf03.out x
  have mf04 : ∀ x : Later x7.val, x.val.cell? ⟨ad.block, ad.off + 4, none⟩ = some (.slice x02 m0 d02) := fun x => later_cell x7.ok Hf04.out x
  have mf05 : ∀ x : Later x7.val, x.val.cell? ⟨ad.block, ad.off + 5, none⟩ = some (.slice x03 ar0.len d03) := fun x => later_cell x7.ok Hf05.out x
  have mf06 : ∀ x : Later x7.val, x.val.cell? ⟨ad.block, ad.off + 6, none⟩ = some (.slice x04 am0.len d04) := fun x => later_cell x7.ok Hf06.out x
  have mf07 : ∀ x : Later x7.val, x.val.cell? ⟨ad.block, ad.off + 7, none⟩ = some (.int .i64 0) := fun x => later_cell x7.ok Hf07.out x
  have mf10 : ∀ x : Later x7.val, x.val.cell? ⟨ad.block, ad.off + 8, none⟩ = some (.int .i64 k1) := fun x => later_cell x7.ok Hf10.out x
  have mf11 : ∀ x : Later x7.val, x.val.cell? ⟨ad.block, ad.off + 8 + 1, none⟩ = some (.int .i64 n1) := fun x => later_cell x7.ok Hf11.out x
  have mf12 : ∀ x : Later x7.val, x.val.cell? ⟨ad.block, ad.off + 8 + 2, none⟩ = some (.string t1) := fun x => later_cell x7.ok Hf12.out x
  have mf13 : ∀ x : Later x7.val, x.val.cell? ⟨ad.block, ad.off + 8 + 3, none⟩ = some (.slice x11 ns1.length d11) := fun x => later_cell x7.ok Hf13.out x
  have mf14 : ∀ x : Later x7.val, x.val.cell? ⟨ad.block, ad.off + 8 + 4, none⟩ = some (.slice x12 m1 d12) := fun x => later_cell x7.ok Hf14.out x
  have mf15 : ∀ x : Later x7.val, x.val.cell? ⟨ad.block, ad.off + 8 + 5, none⟩ = some (.slice x13 ar1.len d13) := fun x => later_cell x7.ok Hf15.out x
  have mf16 : ∀ x : Later x7.val, x.val.cell? ⟨ad.block, ad.off + 8 + 6, none⟩ = some (.slice x14 am1.len d14) := fun x => later_cell x7.ok Hf16.out x
  have mf17 : ∀ x : Later x7.val, x.val.cell? ⟨ad.block, ad.off + 8 + 7, none⟩ = some (.int .i64 0) := fun x => later_cell x7.ok Hf17.out x
  refine region_later (by kernel_rfl) (by kernel_rfl) ?_
  repeat (go_big_quiet_step ((go_at_call 40; exact lit_later _ _ _ _ _ _ _ _ _ _ _ _ _ _ _ _)))
  refine wpQuiet_nil ?_
  intro w9 hw9
  obtain ⟨x9, hx9⟩ := hw9
  subst hx9
  clear my0 mz5 mf00 mf01 mf02 mf03 mf04 mf05 mf06 mf07 mf10 mf11 mf12 mf13 mf14 mf15 mf16 mf17
  have hb69 : Below W6.heap.size W6 x9.val := x7.ok.trans (x9.ok.mono x7.ok.size)
  have hb9 : Below W1.heap.size W1 x9.val := hb6.trans (hb69.mono hb6.size)
  obtain ⟨⟨r0, r1, r2, r3, r4, r5, r6, r7⟩, s0, s1, s2, s3, s4, s5, s6, s7⟩ := own_eight ((hb69.block (w.heap.size + 1) (by have := hb6.size; omega)).trans HR6.out)
  obtain ⟨z0, z1, z2, z3, z4, z5, z6, z7⟩ := eight_at ((hb69.block w5.heap.size hlz).trans HZ6.out)
  have hq9 := hq6.keep (w' := x9.val) (S' := fun b => S b ∨ (W1.heap.size ≤ b ∧ b < (x9.val).heap.size)) (fun b hb => hb.imp_right fun h => ⟨h.1, Nat.lt_of_lt_of_le h.2 (hb69).size⟩) (fun p hp => (hb69).cell (by
    rcases hp with h | h
    · have := hS _ h
      have := hb6.size
      omega
    · exact h.2))
  go_wp2
  refine bodyPost_ret (v := .agg #[.int .i64 8, .int .i64 n, .string t, .slice b1 ns.length d1, .slice b2 ty d2, .slice (some ad) A.len d3, .slice b4 B.len d4, .int .i64 0]) (by simp [results, Tryz.results19, go_sem, *]) rfl ?_
  rw [HR.out]
  exact truth_close hS hb1 hs1 (Below.refl _ _) hq9 hb9 _ _ _ _ _ _ _ _
end Go.Proofs.YtiinghgfojicdaaGreat
namespace Go.Proofs.YtiinghgfojicdaaGreat
open Go.RowKit Go.RowG Go.FRow Go.GMem
set_option linter.unusedVariables false
set_option maxRecDepth 100000
attribute [local go_sem ↓] Go.wp_at_zero Go.wp_at_succ
set_option maxHeartbeats 16000000 in
theorem fold_m (e : Ex) (hA : EachX (FoldSaid closedE) e.args) (hB : EachX (FoldSaid closedE) e.arms) (hk_ : e.h.k = 8) (h2_ : (foldX closedE e.args).len = 2) (hi_ : litH (atX (foldX closedE e.args) 0).h.k (atX (foldX closedE e.args) 0).h.n = true) (hke_ : (atX (foldX closedE e.args) 0).h.k = (atX (foldX closedE e.args) 1).h.k) (hj_ : litH (atX (foldX closedE e.args) 1).h.k (atX (foldX closedE e.args) 1).h.n = false) : FoldSaid closedE e := by
  intro q w S hS he hn hsm
  obtain ⟨h, args, arms⟩ := e
  have hk : h.k = 8 := hk_
  clear hk_
  have h2 : (foldX closedE args).len = 2 := h2_
  clear h2_
  have hi : litH (atX (foldX closedE args) 0).h.k (atX (foldX closedE args) 0).h.n = true := hi_
  clear hi_
  have hke : (atX (foldX closedE args) 0).h.k = (atX (foldX closedE args) 1).h.k := hke_
  clear hke_
  have hj : litH (atX (foldX closedE args) 1).h.k (atX (foldX closedE args) 1).h.n = false := hj_
  clear hj_
  obtain ⟨A, hAe⟩ : ∃ A, A = foldX closedE args := ⟨_, rfl⟩
  rw [← hAe] at h2 hi hke hj
  obtain ⟨B, hBe⟩ : ∃ B, B = foldX closedE arms := ⟨_, rfl⟩
  obtain ⟨res, hres⟩ : ∃ res, res = foldE closedE ⟨h, args, arms⟩ := ⟨_, rfl⟩
  have hres' : res = fold1 closedE ⟨h, A, B⟩ := by rw [hres, hAe, hBe]; rfl
  rw [← hres]
  obtain ⟨W1, hW1⟩ : ∃ W1, W1 = (w.alloc (.cells (eight ⟨h, args, arms⟩ q).toArray 50)).alloc (.cells #[.int .i64 0, .int .i64 0, .string ⟨#[]⟩, .slice none 0 0, .slice none 0 0, .slice none 0 0, .slice none 0 0, .int .i64 0] 50) := ⟨_, rfl⟩
  have hb1 : Below w.heap.size w W1 := by rw [hW1]; exact ((Below.refl _ _).alloc (Nat.le_refl _) _).alloc (by simp) _
  have hs1 : W1.heap.size = w.heap.size + 2 := by rw [hW1]; simp
  have hx1 : W1.heap[w.heap.size]? = some (.cells (eight ⟨h, args, arms⟩ q).toArray 50 (0, 0)) := by
    rw [hW1]
    exact (heap_alloc_old _ _ (by simp)).trans (heap_alloc_new w _)
  have hr1 : Own8 W1 (w.heap.size + 1) 50 (.int .i64 0) (.int .i64 0) (.string ⟨#[]⟩) (.slice none 0 0) (.slice none 0 0) (.slice none 0 0) (.slice none 0 0) (.int .i64 0) := by
    rw [hW1]
    have := heap_alloc_new (w.alloc (.cells (eight ⟨h, args, arms⟩ q).toArray 50)) (.cells #[.int .i64 0, .int .i64 0, .string ⟨#[]⟩, .slice none 0 0, .slice none 0 0, .slice none 0 0, .slice none 0 0, .int .i64 0] 50)
    simpa [Own8] using this
  have hparts := parts_says closedE ⟨h, args, arms⟩ hA hB q W1 S (fun b hb => by have := hS b hb; omega) (he.keep (fun _ h => h) fun p hp => hb1.cell (hS _ hp)) hn hsm
  simp only [← hAe, ← hBe] at hparts
  have hsmA : smallX A := by rw [hAe]; exact foldX_small closedE hsm.2.1
  have hszA : sizeX false A ≤ 100000 := by
    rw [hAe]
    have := foldX_size closedE false args
    simp only [Ex.size] at hn
    omega
  have hsmO : (⟨h, A, B⟩ : Ex).small := ⟨hsm.1, hsmA, by rw [hBe]; exact foldX_small closedE hsm.2.2⟩
  have HSMO := Lib.hid hsmO
  have HRES := Lib.hid hres'
  have HX1 := Lib.hid hx1
  have HR1 := Lib.hid hr1
  have hx8 := eight_at hx1
  clear hA hB he hn hsm hAe hBe hres hres' hr1
  obtain ⟨k, n, t, ns, ty⟩ := h
  obtain ⟨a1, c1, a2, c2, a3, c3, a4, c4⟩ := q
  simp only [eight, agg8] at hx8 hx1 hW1 hparts ⊢
  rw [hW1] at hparts
  have HW1 := Lib.hid hW1
  clear hW1 hx1
  obtain ⟨x0, x1, x2, x3, x4, x5, x6, x7⟩ := hx8
  have hk : k = 8 := hk
  subst hk
  have d1 : ((A.len : Int) == 1) = false := by simp; omega
  have d2 : ((A.len : Int) == 2) = true := by simp; omega
  have hlt0 : 0 < A.len := by omega
  have hi0 : (0 : Int) < (A.len : Int) := by omega
  have hlt1 : 1 < A.len := by omega
  have hi1 : (1 : Int) < (A.len : Int) := by omega
  have hi4 := hi
  rw [hke] at hi4
  have hr : res = ⟨⟨8, n, t, ns, ty⟩, A, B⟩ := by
    rw [HRES.out]
    unfold fold1
    simp [h2, hi4, hke, hj]
  have HR := Lib.hid hr
  clear hr
  have HLN := Lib.hid h2
  clear h2
  go_enter Tryz.func19, Tryz.ntmps19
  go_wp2_with (first
    | (go_at_call 39
       (with_reducible refine hparts.mono ?_)
       rintro e w5 ⟨q5, rfl, hq5, hb5⟩
       rw [← HW1.out] at hq5 hb5)
    | fail "none")
  obtain ⟨b1, d1, b2, d2, b3, d3, b4, d4⟩ := q5
  obtain ⟨W6, hW6⟩ : ∃ W6, W6 = w5.alloc (.cells #[.int .i64 8, .int .i64 n, .string t, .slice b1 ns.length d1, .slice b2 ty d2, .slice b3 A.len d3, .slice b4 B.len d4, .int .i64 0] 50) := ⟨_, rfl⟩
  have hz6 : W6.heap[w5.heap.size]? = some (.cells #[.int .i64 8, .int .i64 n, .string t, .slice b1 ns.length d1, .slice b2 ty d2, .slice b3 A.len d3, .slice b4 B.len d4, .int .i64 0] 50 (0, 0)) := by rw [hW6]; exact heap_alloc_new w5 _
  have hb6 : Below W1.heap.size W1 W6 := by rw [hW6]; exact hb5.alloc hb5.size _
  have hb56 : Below w5.heap.size w5 W6 := by rw [hW6]; exact (Below.refl _ _).alloc (Nat.le_refl _) _
  have hq6 := hq5.keep (w' := W6) (S' := fun b => S b ∨ (W1.heap.size ≤ b ∧ b < W6.heap.size)) (fun b hb => hb.imp_right fun h => ⟨h.1, Nat.lt_of_lt_of_le h.2 hb56.size⟩) (fun p hp => hb56.cell (by
    rcases hp with h | h
    · have := hS _ h
      have := hb5.size
      omega
    · exact h.2))
  have hx6 := (hb6.block w.heap.size (by omega)).trans HX1.out
  have hr6 : Own8 W6 (w.heap.size + 1) 50 _ _ _ _ _ _ _ _ := (hb6.block (w.heap.size + 1) (by omega)).trans HR1.out
  obtain ⟨z0, z1, z2, z3, z4, z5, z6, z7⟩ := eight_at hz6
  simp only [eight] at hx6
  obtain ⟨y0, y1, y2, y3, y4, y5, y6, y7⟩ := eight_at hx6
  obtain ⟨⟨r0, r1, r2, r3, r4, r5, r6, r7⟩, s0, s1, s2, s3, s4, s5, s6, s7⟩ := own_eight hr6
  have HZ6 := Lib.hid hz6
  have HX6 := Lib.hid hx6
  have HR6 := Lib.hid hr6
  have hW5 : W1.heap.size ≤ w5.heap.size := hb5.size
  have hlz : w5.heap.size < W6.heap.size := (Array.getElem?_eq_some_iff.1 hz6).1
  clear x0 x1 x2 x3 x4 x5 x6 x7 hz6 hx6 hr6
  rw [← hW6]
  clear hW6
  obtain ⟨ad, q00, hb3, hSad, hc0, he0⟩ := (xrest hq6.r3).nth (i := 0) (atX_some (x := A) (i := 0) hlt0)
  simp only at hb3
  rw [show ad.add ((0 + 0) * 8) = ad by simp [Addr.add]] at hc0
  obtain ⟨ad1, q10, hb31, _, hc1, he1⟩ := (xrest hq6.r3).nth (i := 1) (atX_some (x := A) (i := 1) hlt1)
  simp only at hb31
  rw [hb3] at hb31
  obtain rfl := Option.some.inj hb31
  rw [show ad.add ((0 + 1) * 8) = ⟨ad.block, ad.off + 8, none⟩ by simp [Addr.add]] at hc1
  subst hb3
  have hadl : ad.block < W6.heap.size := by
    rcases hSad with h | h
    · have := hS _ h
      have := hb6.size
      omega
    · exact h.2
  have hadw : ad.block ≠ w.heap.size + 1 := by
    rcases hSad with h | h
    · have := hS _ h
      omega
    · have := h.1
      omega
  obtain ⟨E0, hE0⟩ : ∃ E, E = atX A 0 := ⟨_, rfl⟩
  rw [← hE0] at hc0 he0 hi hke
  obtain ⟨E1, hE1⟩ : ∃ E, E = atX A 1 := ⟨_, rfl⟩
  rw [← hE1] at hc1 he1 hke hj
  have HE0 := Lib.hid hE0
  have HEI0 := Lib.hid he0
  clear hE0 he0
  have HE1 := Lib.hid hE1
  have HEI1 := Lib.hid he1
  clear hE1 he1
  obtain ⟨⟨k0, n0, t0, ns0, m0⟩, ar0, am0⟩ := E0
  obtain ⟨x01, d01, x02, d02, x03, d03, x04, d04⟩ := q00
  simp only [cells8] at hc0
  obtain ⟨f00, f01, f02, f03, f04, f05, f06, f07⟩ := hc0
  obtain ⟨⟨k1, n1, t1, ns1, m1⟩, ar1, am1⟩ := E1
  obtain ⟨x11, d11, x12, d12, x13, d13, x14, d14⟩ := q10
  simp only [cells8] at hc1
  obtain ⟨f10, f11, f12, f13, f14, f15, f16, f17⟩ := hc1
  have Hy0 := Lib.hid y0
  have Hy2 := Lib.hid y2
  have Hz5 := Lib.hid z5
  have Hf00 := Lib.hid f00
  have Hf01 := Lib.hid f01
  have Hf02 := Lib.hid f02
  have Hf03 := Lib.hid f03
  have Hf04 := Lib.hid f04
  have Hf05 := Lib.hid f05
  have Hf06 := Lib.hid f06
  have Hf07 := Lib.hid f07
  have Hf10 := Lib.hid f10
  have Hf11 := Lib.hid f11
  have Hf12 := Lib.hid f12
  have Hf13 := Lib.hid f13
  have Hf14 := Lib.hid f14
  have Hf15 := Lib.hid f15
  have Hf16 := Lib.hid f16
  have Hf17 := Lib.hid f17
  clear hi4
  have hi : litH k0 n0 = true := hi
  have hkb : (k0 == k1) = true := by simpa using hke
  clear hke
  have hj : litH k1 n1 = false := hj
  clear z0 z1 z2 z3 z4 z5 z6 z7 y0 y1 y2 y3 y4 y5 y6 y7 r0 r1 r2 r3 r4 r5 r6 r7 s0 s1 s2 s3 s4 s5 s6 s7
  clear f00 f01 f02 f03 f04 f05 f06 f07 f10 f11 f12 f13 f14 f15 f16 f17
  have ly0 : ∀ x : Later W6, x.val.cell? ⟨w.heap.size, 0, none⟩ = some (.int .i64 8) := fun x => later_cell (Below.refl _ _) Hy0.out x
  have ly2 : ∀ x : Later W6, x.val.cell? ⟨w.heap.size, 2, none⟩ = some (.string t) := fun x => later_cell (Below.refl _ _) Hy2.out x
  have lz5 : ∀ x : Later W6, x.val.cell? ⟨w5.heap.size, 5, none⟩ = some (.slice (some ad) A.len d3) := fun x => later_cell (Below.refl _ _) Hz5.out x
  refine region_later (by kernel_rfl) (by kernel_rfl) ?_
  repeat (go_big_quiet_step (fail "none"))
  refine wpQuiet_nil ?_
  intro w7 hw7
  obtain ⟨x7, hx7⟩ := hw7
  subst hx7
  clear ly0 ly2 lz5
  have py0 : World.cell? x7.val ⟨w.heap.size, 0, none⟩ = some (.int .i64 8) := below_cell x7.ok Hy0.out
  have py2 : World.cell? x7.val ⟨w.heap.size, 2, none⟩ = some (.string t) := below_cell x7.ok Hy2.out
  have pz5 : World.cell? x7.val ⟨w5.heap.size, 5, none⟩ = some (.slice (some ad) A.len d3) := below_cell x7.ok Hz5.out
  go_wp2
  clear py0 py2 pz5
  have my0 : ∀ x : Later x7.val, x.val.cell? ⟨w.heap.size, 0, none⟩ = some (.int .i64 8) := fun x => later_cell x7.ok Hy0.out x
  have mz5 : ∀ x : Later x7.val, x.val.cell? ⟨w5.heap.size, 5, none⟩ = some (.slice (some ad) A.len d3) := fun x => later_cell x7.ok Hz5.out x
  have mf00 : ∀ x : Later x7.val, x.val.cell? ad = some (.int .i64 k0) := fun x => later_cell x7.ok Hf00.out x
  have mf01 : ∀ x : Later x7.val, x.val.cell? ⟨ad.block, ad.off + 1, none⟩ = some (.int .i64 n0) := fun x => later_cell x7.ok Hf01.out x
  have mf02 : ∀ x : Later x7.val, x.val.cell? ⟨ad.block, ad.off + 2, none⟩ = some (.string t0) := fun x => later_cell x7.ok Hf02.out x
  have mf03 : ∀ x : Later x7.val, x.val.cell? ⟨ad.block, ad.off + 3, none⟩ = some (.slice x01 ns0.length d01) := fun x => later_cell x7.ok Hf03.out x
  have mf04 : ∀ x : Later x7.val, x.val.cell? ⟨ad.block, ad.off + 4, none⟩ = some (.slice x02 m0 d02) := fun x => later_cell x7.ok Hf04.out x
  have mf05 : ∀ x : Later x7.val, x.val.cell? ⟨ad.block, ad.off + 5, none⟩ = some (.slice x03 ar0.len d03) := fun x => later_cell x7.ok Hf05.out x
  have mf06 : ∀ x : Later x7.val, x.val.cell? ⟨ad.block, ad.off + 6, none⟩ = some (.slice x04 am0.len d04) := fun x => later_cell x7.ok Hf06.out x
  have mf07 : ∀ x : Later x7.val, x.val.cell? ⟨ad.block, ad.off + 7, none⟩ = some (.int .i64 0) := fun x => later_cell x7.ok Hf07.out x
  have mf10 : ∀ x : Later x7.val, x.val.cell? ⟨ad.block, ad.off + 8, none⟩ = some (.int .i64 k1) := fun x => later_cell x7.ok Hf10.out x
  have mf11 : ∀ x : Later x7.val, x.val.cell? ⟨ad.block, ad.off + 8 + 1, none⟩ = some (.int .i64 n1) := fun x => later_cell x7.ok Hf11.out x
  have mf12 : ∀ x : Later x7.val, x.val.cell? ⟨ad.block, ad.off + 8 + 2, none⟩ = some (.string t1) := fun x => later_cell x7.ok Hf12.out x
  have mf13 : ∀ x : Later x7.val, x.val.cell? ⟨ad.block, ad.off + 8 + 3, none⟩ = some (.slice x11 ns1.length d11) := fun x => later_cell x7.ok Hf13.out x
  have mf14 : ∀ x : Later x7.val, x.val.cell? ⟨ad.block, ad.off + 8 + 4, none⟩ = some (.slice x12 m1 d12) := fun x => later_cell x7.ok Hf14.out x
  have mf15 : ∀ x : Later x7.val, x.val.cell? ⟨ad.block, ad.off + 8 + 5, none⟩ = some (.slice x13 ar1.len d13) := fun x => later_cell x7.ok Hf15.out x
  have mf16 : ∀ x : Later x7.val, x.val.cell? ⟨ad.block, ad.off + 8 + 6, none⟩ = some (.slice x14 am1.len d14) := fun x => later_cell x7.ok Hf16.out x
  have mf17 : ∀ x : Later x7.val, x.val.cell? ⟨ad.block, ad.off + 8 + 7, none⟩ = some (.int .i64 0) := fun x => later_cell x7.ok Hf17.out x
  refine region_later (by kernel_rfl) (by kernel_rfl) ?_
  repeat (go_big_quiet_step ((go_at_call 40; exact lit_later _ _ _ _ _ _ _ _ _ _ _ _ _ _ _ _)))
  refine wpQuiet_nil ?_
  intro w9 hw9
  obtain ⟨x9, hx9⟩ := hw9
  subst hx9
  clear my0 mz5 mf00 mf01 mf02 mf03 mf04 mf05 mf06 mf07 mf10 mf11 mf12 mf13 mf14 mf15 mf16 mf17
  have hb69 : Below W6.heap.size W6 x9.val := x7.ok.trans (x9.ok.mono x7.ok.size)
  have hb9 : Below W1.heap.size W1 x9.val := hb6.trans (hb69.mono hb6.size)
  obtain ⟨⟨r0, r1, r2, r3, r4, r5, r6, r7⟩, s0, s1, s2, s3, s4, s5, s6, s7⟩ := own_eight ((hb69.block (w.heap.size + 1) (by have := hb6.size; omega)).trans HR6.out)
  obtain ⟨z0, z1, z2, z3, z4, z5, z6, z7⟩ := eight_at ((hb69.block w5.heap.size hlz).trans HZ6.out)
  have hq9 := hq6.keep (w' := x9.val) (S' := fun b => S b ∨ (W1.heap.size ≤ b ∧ b < (x9.val).heap.size)) (fun b hb => hb.imp_right fun h => ⟨h.1, Nat.lt_of_lt_of_le h.2 (hb69).size⟩) (fun p hp => (hb69).cell (by
    rcases hp with h | h
    · have := hS _ h
      have := hb6.size
      omega
    · exact h.2))
  go_wp2
  refine bodyPost_ret (v := .agg #[.int .i64 8, .int .i64 n, .string t, .slice b1 ns.length d1, .slice b2 ty d2, .slice (some ad) A.len d3, .slice b4 B.len d4, .int .i64 0]) (by simp [results, Tryz.results19, go_sem, *]) rfl ?_
  rw [HR.out]
  exact truth_close hS hb1 hs1 (Below.refl _ _) hq9 hb9 _ _ _ _ _ _ _ _
end Go.Proofs.YtiinghgfojicdaaGreat
namespace Go.Proofs.YtiinghgfojicdaaGreat
open Go.RowKit Go.RowG Go.FRow Go.GMem
set_option linter.unusedVariables false
set_option maxRecDepth 100000
attribute [local go_sem ↓] Go.wp_at_zero Go.wp_at_succ
set_option maxHeartbeats 16000000 in
theorem fold_n (e : Ex) (hA : EachX (FoldSaid closedE) e.args) (hB : EachX (FoldSaid closedE) e.arms) (hk_ : e.h.k = 8) (h2_ : (foldX closedE e.args).len = 2) (hi_ : litH (atX (foldX closedE e.args) 0).h.k (atX (foldX closedE e.args) 0).h.n = true) (hke_ : (atX (foldX closedE e.args) 0).h.k = (atX (foldX closedE e.args) 1).h.k) (hj_ : litH (atX (foldX closedE e.args) 1).h.k (atX (foldX closedE e.args) 1).h.n = true) : FoldSaid closedE e := by
  intro q w S hS he hn hsm
  obtain ⟨h, args, arms⟩ := e
  have hk : h.k = 8 := hk_
  clear hk_
  have h2 : (foldX closedE args).len = 2 := h2_
  clear h2_
  have hi : litH (atX (foldX closedE args) 0).h.k (atX (foldX closedE args) 0).h.n = true := hi_
  clear hi_
  have hke : (atX (foldX closedE args) 0).h.k = (atX (foldX closedE args) 1).h.k := hke_
  clear hke_
  have hj : litH (atX (foldX closedE args) 1).h.k (atX (foldX closedE args) 1).h.n = true := hj_
  clear hj_
  obtain ⟨A, hAe⟩ : ∃ A, A = foldX closedE args := ⟨_, rfl⟩
  rw [← hAe] at h2 hi hke hj
  obtain ⟨B, hBe⟩ : ∃ B, B = foldX closedE arms := ⟨_, rfl⟩
  obtain ⟨res, hres⟩ : ∃ res, res = foldE closedE ⟨h, args, arms⟩ := ⟨_, rfl⟩
  have hres' : res = fold1 closedE ⟨h, A, B⟩ := by rw [hres, hAe, hBe]; rfl
  rw [← hres]
  obtain ⟨W1, hW1⟩ : ∃ W1, W1 = (w.alloc (.cells (eight ⟨h, args, arms⟩ q).toArray 50)).alloc (.cells #[.int .i64 0, .int .i64 0, .string ⟨#[]⟩, .slice none 0 0, .slice none 0 0, .slice none 0 0, .slice none 0 0, .int .i64 0] 50) := ⟨_, rfl⟩
  have hb1 : Below w.heap.size w W1 := by rw [hW1]; exact ((Below.refl _ _).alloc (Nat.le_refl _) _).alloc (by simp) _
  have hs1 : W1.heap.size = w.heap.size + 2 := by rw [hW1]; simp
  have hx1 : W1.heap[w.heap.size]? = some (.cells (eight ⟨h, args, arms⟩ q).toArray 50 (0, 0)) := by
    rw [hW1]
    exact (heap_alloc_old _ _ (by simp)).trans (heap_alloc_new w _)
  have hr1 : Own8 W1 (w.heap.size + 1) 50 (.int .i64 0) (.int .i64 0) (.string ⟨#[]⟩) (.slice none 0 0) (.slice none 0 0) (.slice none 0 0) (.slice none 0 0) (.int .i64 0) := by
    rw [hW1]
    have := heap_alloc_new (w.alloc (.cells (eight ⟨h, args, arms⟩ q).toArray 50)) (.cells #[.int .i64 0, .int .i64 0, .string ⟨#[]⟩, .slice none 0 0, .slice none 0 0, .slice none 0 0, .slice none 0 0, .int .i64 0] 50)
    simpa [Own8] using this
  have hparts := parts_says closedE ⟨h, args, arms⟩ hA hB q W1 S (fun b hb => by have := hS b hb; omega) (he.keep (fun _ h => h) fun p hp => hb1.cell (hS _ hp)) hn hsm
  simp only [← hAe, ← hBe] at hparts
  have hsmA : smallX A := by rw [hAe]; exact foldX_small closedE hsm.2.1
  have hszA : sizeX false A ≤ 100000 := by
    rw [hAe]
    have := foldX_size closedE false args
    simp only [Ex.size] at hn
    omega
  have hsmO : (⟨h, A, B⟩ : Ex).small := ⟨hsm.1, hsmA, by rw [hBe]; exact foldX_small closedE hsm.2.2⟩
  have HSMO := Lib.hid hsmO
  have HRES := Lib.hid hres'
  have HX1 := Lib.hid hx1
  have HR1 := Lib.hid hr1
  have hx8 := eight_at hx1
  clear hA hB he hn hsm hAe hBe hres hres' hr1
  obtain ⟨k, n, t, ns, ty⟩ := h
  obtain ⟨a1, c1, a2, c2, a3, c3, a4, c4⟩ := q
  simp only [eight, agg8] at hx8 hx1 hW1 hparts ⊢
  rw [hW1] at hparts
  have HW1 := Lib.hid hW1
  clear hW1 hx1
  obtain ⟨x0, x1, x2, x3, x4, x5, x6, x7⟩ := hx8
  have hk : k = 8 := hk
  subst hk
  have d1 : ((A.len : Int) == 1) = false := by simp; omega
  have d2 : ((A.len : Int) == 2) = true := by simp; omega
  have hlt0 : 0 < A.len := by omega
  have hi0 : (0 : Int) < (A.len : Int) := by omega
  have hlt1 : 1 < A.len := by omega
  have hi1 : (1 : Int) < (A.len : Int) := by omega
  have hi4 := hi
  rw [hke] at hi4
  have hr : res = twoF ⟨⟨8, n, t, ns, ty⟩, A, B⟩ (atX A 0).h (atX A 1).h := by
    rw [HRES.out]
    unfold fold1
    simp [h2, hi4, hke, hj]
  have HR := Lib.hid hr
  clear hr
  have HLN := Lib.hid h2
  clear h2
  go_enter Tryz.func19, Tryz.ntmps19
  go_wp2_with (first
    | (go_at_call 39
       (with_reducible refine hparts.mono ?_)
       rintro e w5 ⟨q5, rfl, hq5, hb5⟩
       rw [← HW1.out] at hq5 hb5)
    | fail "none")
  obtain ⟨b1, d1, b2, d2, b3, d3, b4, d4⟩ := q5
  obtain ⟨W6, hW6⟩ : ∃ W6, W6 = w5.alloc (.cells #[.int .i64 8, .int .i64 n, .string t, .slice b1 ns.length d1, .slice b2 ty d2, .slice b3 A.len d3, .slice b4 B.len d4, .int .i64 0] 50) := ⟨_, rfl⟩
  have hz6 : W6.heap[w5.heap.size]? = some (.cells #[.int .i64 8, .int .i64 n, .string t, .slice b1 ns.length d1, .slice b2 ty d2, .slice b3 A.len d3, .slice b4 B.len d4, .int .i64 0] 50 (0, 0)) := by rw [hW6]; exact heap_alloc_new w5 _
  have hb6 : Below W1.heap.size W1 W6 := by rw [hW6]; exact hb5.alloc hb5.size _
  have hb56 : Below w5.heap.size w5 W6 := by rw [hW6]; exact (Below.refl _ _).alloc (Nat.le_refl _) _
  have hq6 := hq5.keep (w' := W6) (S' := fun b => S b ∨ (W1.heap.size ≤ b ∧ b < W6.heap.size)) (fun b hb => hb.imp_right fun h => ⟨h.1, Nat.lt_of_lt_of_le h.2 hb56.size⟩) (fun p hp => hb56.cell (by
    rcases hp with h | h
    · have := hS _ h
      have := hb5.size
      omega
    · exact h.2))
  have hx6 := (hb6.block w.heap.size (by omega)).trans HX1.out
  have hr6 : Own8 W6 (w.heap.size + 1) 50 _ _ _ _ _ _ _ _ := (hb6.block (w.heap.size + 1) (by omega)).trans HR1.out
  obtain ⟨z0, z1, z2, z3, z4, z5, z6, z7⟩ := eight_at hz6
  simp only [eight] at hx6
  obtain ⟨y0, y1, y2, y3, y4, y5, y6, y7⟩ := eight_at hx6
  obtain ⟨⟨r0, r1, r2, r3, r4, r5, r6, r7⟩, s0, s1, s2, s3, s4, s5, s6, s7⟩ := own_eight hr6
  have HZ6 := Lib.hid hz6
  have HX6 := Lib.hid hx6
  have HR6 := Lib.hid hr6
  have hW5 : W1.heap.size ≤ w5.heap.size := hb5.size
  have hlz : w5.heap.size < W6.heap.size := (Array.getElem?_eq_some_iff.1 hz6).1
  clear x0 x1 x2 x3 x4 x5 x6 x7 hz6 hx6 hr6
  rw [← hW6]
  clear hW6
  obtain ⟨ad, q00, hb3, hSad, hc0, he0⟩ := (xrest hq6.r3).nth (i := 0) (atX_some (x := A) (i := 0) hlt0)
  simp only at hb3
  rw [show ad.add ((0 + 0) * 8) = ad by simp [Addr.add]] at hc0
  obtain ⟨ad1, q10, hb31, _, hc1, he1⟩ := (xrest hq6.r3).nth (i := 1) (atX_some (x := A) (i := 1) hlt1)
  simp only at hb31
  rw [hb3] at hb31
  obtain rfl := Option.some.inj hb31
  rw [show ad.add ((0 + 1) * 8) = ⟨ad.block, ad.off + 8, none⟩ by simp [Addr.add]] at hc1
  subst hb3
  have hadl : ad.block < W6.heap.size := by
    rcases hSad with h | h
    · have := hS _ h
      have := hb6.size
      omega
    · exact h.2
  have hadw : ad.block ≠ w.heap.size + 1 := by
    rcases hSad with h | h
    · have := hS _ h
      omega
    · have := h.1
      omega
  obtain ⟨E0, hE0⟩ : ∃ E, E = atX A 0 := ⟨_, rfl⟩
  rw [← hE0] at hc0 he0 hi hke
  obtain ⟨E1, hE1⟩ : ∃ E, E = atX A 1 := ⟨_, rfl⟩
  rw [← hE1] at hc1 he1 hke hj
  have HE0 := Lib.hid hE0
  have HEI0 := Lib.hid he0
  clear hE0 he0
  have HE1 := Lib.hid hE1
  have HEI1 := Lib.hid he1
  clear hE1 he1
  obtain ⟨⟨k0, n0, t0, ns0, m0⟩, ar0, am0⟩ := E0
  obtain ⟨x01, d01, x02, d02, x03, d03, x04, d04⟩ := q00
  simp only [cells8] at hc0
  obtain ⟨f00, f01, f02, f03, f04, f05, f06, f07⟩ := hc0
  obtain ⟨⟨k1, n1, t1, ns1, m1⟩, ar1, am1⟩ := E1
  obtain ⟨x11, d11, x12, d12, x13, d13, x14, d14⟩ := q10
  simp only [cells8] at hc1
  obtain ⟨f10, f11, f12, f13, f14, f15, f16, f17⟩ := hc1
  have Hy0 := Lib.hid y0
  have Hy2 := Lib.hid y2
  have Hz5 := Lib.hid z5
  have Hf00 := Lib.hid f00
  have Hf01 := Lib.hid f01
  have Hf02 := Lib.hid f02
  have Hf03 := Lib.hid f03
  have Hf04 := Lib.hid f04
  have Hf05 := Lib.hid f05
  have Hf06 := Lib.hid f06
  have Hf07 := Lib.hid f07
  have Hf10 := Lib.hid f10
  have Hf11 := Lib.hid f11
  have Hf12 := Lib.hid f12
  have Hf13 := Lib.hid f13
  have Hf14 := Lib.hid f14
  have Hf15 := Lib.hid f15
  have Hf16 := Lib.hid f16
  have Hf17 := Lib.hid f17
  clear hi4
  have hi : litH k0 n0 = true := hi
  have hkb : (k0 == k1) = true := by simpa using hke
  clear hke
  have hj : litH k1 n1 = true := hj
  clear z0 z1 z2 z3 z4 z5 z6 z7 y0 y1 y2 y3 y4 y5 y6 y7 r0 r1 r2 r3 r4 r5 r6 r7 s0 s1 s2 s3 s4 s5 s6 s7
  clear f00 f01 f02 f03 f04 f05 f06 f07 f10 f11 f12 f13 f14 f15 f16 f17
  have ly0 : ∀ x : Later W6, x.val.cell? ⟨w.heap.size, 0, none⟩ = some (.int .i64 8) := fun x => later_cell (Below.refl _ _) Hy0.out x
  have ly2 : ∀ x : Later W6, x.val.cell? ⟨w.heap.size, 2, none⟩ = some (.string t) := fun x => later_cell (Below.refl _ _) Hy2.out x
  have lz5 : ∀ x : Later W6, x.val.cell? ⟨w5.heap.size, 5, none⟩ = some (.slice (some ad) A.len d3) := fun x => later_cell (Below.refl _ _) Hz5.out x
  refine region_later (by kernel_rfl) (by kernel_rfl) ?_
  repeat (go_big_quiet_step (fail "none"))
  refine wpQuiet_nil ?_
  intro w7 hw7
  obtain ⟨x7, hx7⟩ := hw7
  subst hx7
  clear ly0 ly2 lz5
  have py0 : World.cell? x7.val ⟨w.heap.size, 0, none⟩ = some (.int .i64 8) := below_cell x7.ok Hy0.out
  have py2 : World.cell? x7.val ⟨w.heap.size, 2, none⟩ = some (.string t) := below_cell x7.ok Hy2.out
  have pz5 : World.cell? x7.val ⟨w5.heap.size, 5, none⟩ = some (.slice (some ad) A.len d3) := below_cell x7.ok Hz5.out
  go_wp2
  clear py0 py2 pz5
  have my0 : ∀ x : Later x7.val, x.val.cell? ⟨w.heap.size, 0, none⟩ = some (.int .i64 8) := fun x => later_cell x7.ok Hy0.out x
  have mz5 : ∀ x : Later x7.val, x.val.cell? ⟨w5.heap.size, 5, none⟩ = some (.slice (some ad) A.len d3) := fun x => later_cell x7.ok Hz5.out x
  have mf00 : ∀ x : Later x7.val, x.val.cell? ad = some (.int .i64 k0) := fun x => later_cell x7.ok Hf00.out x
  have mf01 : ∀ x : Later x7.val, x.val.cell? ⟨ad.block, ad.off + 1, none⟩ = some (.int .i64 n0) := fun x => later_cell x7.ok Hf01.out x
  have mf02 : ∀ x : Later x7.val, x.val.cell? ⟨ad.block, ad.off + 2, none⟩ = some (.string t0) := fun x => later_cell x7.ok Hf02.out x
  have mf03 : ∀ x : Later x7.val, x.val.cell? ⟨ad.block, ad.off + 3, none⟩ = some (.slice x01 ns0.length d01) := fun x => later_cell x7.ok Hf03.out x
  have mf04 : ∀ x : Later x7.val, x.val.cell? ⟨ad.block, ad.off + 4, none⟩ = some (.slice x02 m0 d02) := fun x => later_cell x7.ok Hf04.out x
  have mf05 : ∀ x : Later x7.val, x.val.cell? ⟨ad.block, ad.off + 5, none⟩ = some (.slice x03 ar0.len d03) := fun x => later_cell x7.ok Hf05.out x
  have mf06 : ∀ x : Later x7.val, x.val.cell? ⟨ad.block, ad.off + 6, none⟩ = some (.slice x04 am0.len d04) := fun x => later_cell x7.ok Hf06.out x
  have mf07 : ∀ x : Later x7.val, x.val.cell? ⟨ad.block, ad.off + 7, none⟩ = some (.int .i64 0) := fun x => later_cell x7.ok Hf07.out x
  have mf10 : ∀ x : Later x7.val, x.val.cell? ⟨ad.block, ad.off + 8, none⟩ = some (.int .i64 k1) := fun x => later_cell x7.ok Hf10.out x
  have mf11 : ∀ x : Later x7.val, x.val.cell? ⟨ad.block, ad.off + 8 + 1, none⟩ = some (.int .i64 n1) := fun x => later_cell x7.ok Hf11.out x
  have mf12 : ∀ x : Later x7.val, x.val.cell? ⟨ad.block, ad.off + 8 + 2, none⟩ = some (.string t1) := fun x => later_cell x7.ok Hf12.out x
  have mf13 : ∀ x : Later x7.val, x.val.cell? ⟨ad.block, ad.off + 8 + 3, none⟩ = some (.slice x11 ns1.length d11) := fun x => later_cell x7.ok Hf13.out x
  have mf14 : ∀ x : Later x7.val, x.val.cell? ⟨ad.block, ad.off + 8 + 4, none⟩ = some (.slice x12 m1 d12) := fun x => later_cell x7.ok Hf14.out x
  have mf15 : ∀ x : Later x7.val, x.val.cell? ⟨ad.block, ad.off + 8 + 5, none⟩ = some (.slice x13 ar1.len d13) := fun x => later_cell x7.ok Hf15.out x
  have mf16 : ∀ x : Later x7.val, x.val.cell? ⟨ad.block, ad.off + 8 + 6, none⟩ = some (.slice x14 am1.len d14) := fun x => later_cell x7.ok Hf16.out x
  have mf17 : ∀ x : Later x7.val, x.val.cell? ⟨ad.block, ad.off + 8 + 7, none⟩ = some (.int .i64 0) := fun x => later_cell x7.ok Hf17.out x
  refine region_later (by kernel_rfl) (by kernel_rfl) ?_
  repeat (go_big_quiet_step ((go_at_call 40; exact lit_later _ _ _ _ _ _ _ _ _ _ _ _ _ _ _ _)))
  refine wpQuiet_nil ?_
  intro w9 hw9
  obtain ⟨x9, hx9⟩ := hw9
  subst hx9
  clear my0 mz5 mf00 mf01 mf02 mf03 mf04 mf05 mf06 mf07 mf10 mf11 mf12 mf13 mf14 mf15 mf16 mf17
  have hb69 : Below W6.heap.size W6 x9.val := x7.ok.trans (x9.ok.mono x7.ok.size)
  have hb9 : Below W1.heap.size W1 x9.val := hb6.trans (hb69.mono hb6.size)
  obtain ⟨z0, z1, z2, z3, z4, z5, z6, z7⟩ := eight_at ((hb69.block w5.heap.size hlz).trans HZ6.out)
  have hq9 := hq6.keep (w' := x9.val) (S' := fun b => S b ∨ (W1.heap.size ≤ b ∧ b < x9.val.heap.size)) (fun b hb => hb.imp_right fun h => ⟨h.1, Nat.lt_of_lt_of_le h.2 hb69.size⟩) (fun p hp => hb69.cell (by
    rcases hp with h | h
    · have := hS _ h
      have := hb6.size
      omega
    · exact h.2))
  have htwo := two_says _ A B _ x9.val _ (fun b hb => by
    rcases hb with h | h
    · have := hS _ h
      have := hb9.size
      omega
    · exact h.2) HLN.out hsmA hq9
  have HTW := Lib.hid (show atX A 0 = atX A 0 from rfl)
  simp only [agg8] at htwo
  go_wp2_with (first
    | (go_at_call 43
       (with_reducible refine htwo.mono ?_)
       rintro e w10 ⟨q10, rfl, hq10, hb10⟩
       have hb610 : Below W6.heap.size W6 w10 := hb69.trans (hb10.mono hb69.size)
       obtain ⟨⟨r0, r1, r2, r3, r4, r5, r6, r7⟩, s0, s1, s2, s3, s4, s5, s6, s7⟩ := own_eight ((hb610.block (w.heap.size + 1) (by have := hb6.size; omega)).trans HR6.out))
    | fail "none")
  refine bodyPost_ret (v := agg8 (twoF ⟨⟨8, n, t, ns, ty⟩, A, B⟩ (atX A 0).h (atX A 1).h) q10) (by simp [results, Tryz.results19, go_sem, agg8, *]) rfl ?_
  rw [HR.out]
  exact truth_close hS hb1 hs1 (Below.refl _ _) (hq10.mono fun b hb => by
    rcases hb with (h | h) | h
    · exact Or.inl h
    · exact Or.inr ⟨h.1, Nat.lt_of_lt_of_le h.2 hb10.size⟩
    · exact Or.inr ⟨Nat.le_trans hb9.size h.1, h.2⟩) (hb9.trans (hb10.mono hb9.size)) _ _ _ _ _ _ _ _
end Go.Proofs.YtiinghgfojicdaaGreat
namespace Go.Proofs.YtiinghgfojicdaaGreat
open Go.RowKit Go.RowG Go.FRow Go.GMem
set_option linter.unusedVariables false
set_option maxRecDepth 100000
attribute [local go_sem ↓] Go.wp_at_zero Go.wp_at_succ
set_option maxHeartbeats 16000000 in
theorem fold_o (e : Ex) (hA : EachX (FoldSaid closedE) e.args) (hB : EachX (FoldSaid closedE) e.arms) (hk_ : e.h.k = 8) (hl1_ : (foldX closedE e.args).len ≠ 1) (hl2_ : (foldX closedE e.args).len ≠ 2) : FoldSaid closedE e := by
  intro q w S hS he hn hsm
  obtain ⟨h, args, arms⟩ := e
  have hk : h.k = 8 := hk_
  clear hk_
  have hl1 : (foldX closedE args).len ≠ 1 := hl1_
  clear hl1_
  have hl2 : (foldX closedE args).len ≠ 2 := hl2_
  clear hl2_
  obtain ⟨A, hAe⟩ : ∃ A, A = foldX closedE args := ⟨_, rfl⟩
  rw [← hAe] at hl1 hl2
  obtain ⟨B, hBe⟩ : ∃ B, B = foldX closedE arms := ⟨_, rfl⟩
  obtain ⟨res, hres⟩ : ∃ res, res = foldE closedE ⟨h, args, arms⟩ := ⟨_, rfl⟩
  have hres' : res = fold1 closedE ⟨h, A, B⟩ := by rw [hres, hAe, hBe]; rfl
  rw [← hres]
  obtain ⟨W1, hW1⟩ : ∃ W1, W1 = (w.alloc (.cells (eight ⟨h, args, arms⟩ q).toArray 50)).alloc (.cells #[.int .i64 0, .int .i64 0, .string ⟨#[]⟩, .slice none 0 0, .slice none 0 0, .slice none 0 0, .slice none 0 0, .int .i64 0] 50) := ⟨_, rfl⟩
  have hb1 : Below w.heap.size w W1 := by rw [hW1]; exact ((Below.refl _ _).alloc (Nat.le_refl _) _).alloc (by simp) _
  have hs1 : W1.heap.size = w.heap.size + 2 := by rw [hW1]; simp
  have hx1 : W1.heap[w.heap.size]? = some (.cells (eight ⟨h, args, arms⟩ q).toArray 50 (0, 0)) := by
    rw [hW1]
    exact (heap_alloc_old _ _ (by simp)).trans (heap_alloc_new w _)
  have hr1 : Own8 W1 (w.heap.size + 1) 50 (.int .i64 0) (.int .i64 0) (.string ⟨#[]⟩) (.slice none 0 0) (.slice none 0 0) (.slice none 0 0) (.slice none 0 0) (.int .i64 0) := by
    rw [hW1]
    have := heap_alloc_new (w.alloc (.cells (eight ⟨h, args, arms⟩ q).toArray 50)) (.cells #[.int .i64 0, .int .i64 0, .string ⟨#[]⟩, .slice none 0 0, .slice none 0 0, .slice none 0 0, .slice none 0 0, .int .i64 0] 50)
    simpa [Own8] using this
  have hparts := parts_says closedE ⟨h, args, arms⟩ hA hB q W1 S (fun b hb => by have := hS b hb; omega) (he.keep (fun _ h => h) fun p hp => hb1.cell (hS _ hp)) hn hsm
  simp only [← hAe, ← hBe] at hparts
  have hsmA : smallX A := by rw [hAe]; exact foldX_small closedE hsm.2.1
  have hszA : sizeX false A ≤ 100000 := by
    rw [hAe]
    have := foldX_size closedE false args
    simp only [Ex.size] at hn
    omega
  have hsmO : (⟨h, A, B⟩ : Ex).small := ⟨hsm.1, hsmA, by rw [hBe]; exact foldX_small closedE hsm.2.2⟩
  have HSMO := Lib.hid hsmO
  have HRES := Lib.hid hres'
  have HX1 := Lib.hid hx1
  have HR1 := Lib.hid hr1
  have hx8 := eight_at hx1
  clear hA hB he hn hsm hAe hBe hres hres' hr1
  obtain ⟨k, n, t, ns, ty⟩ := h
  obtain ⟨a1, c1, a2, c2, a3, c3, a4, c4⟩ := q
  simp only [eight, agg8] at hx8 hx1 hW1 hparts ⊢
  rw [hW1] at hparts
  have HW1 := Lib.hid hW1
  clear hW1 hx1
  obtain ⟨x0, x1, x2, x3, x4, x5, x6, x7⟩ := hx8
  have hk : k = 8 := hk
  subst hk
  have d1 : ((A.len : Int) == 1) = false := by simp; omega
  have d2 : ((A.len : Int) == 2) = false := by simp; omega
  have hr : res = ⟨⟨8, n, t, ns, ty⟩, A, B⟩ := by
    rw [HRES.out]
    unfold fold1
    simp [hl1, hl2]
  have HR := Lib.hid hr
  clear hr
  go_enter Tryz.func19, Tryz.ntmps19
  go_wp2_with (first
    | (go_at_call 39
       (with_reducible refine hparts.mono ?_)
       rintro e w5 ⟨q5, rfl, hq5, hb5⟩
       rw [← HW1.out] at hq5 hb5)
    | fail "none")
  obtain ⟨b1, d1, b2, d2, b3, d3, b4, d4⟩ := q5
  obtain ⟨W6, hW6⟩ : ∃ W6, W6 = w5.alloc (.cells #[.int .i64 8, .int .i64 n, .string t, .slice b1 ns.length d1, .slice b2 ty d2, .slice b3 A.len d3, .slice b4 B.len d4, .int .i64 0] 50) := ⟨_, rfl⟩
  have hz6 : W6.heap[w5.heap.size]? = some (.cells #[.int .i64 8, .int .i64 n, .string t, .slice b1 ns.length d1, .slice b2 ty d2, .slice b3 A.len d3, .slice b4 B.len d4, .int .i64 0] 50 (0, 0)) := by rw [hW6]; exact heap_alloc_new w5 _
  have hb6 : Below W1.heap.size W1 W6 := by rw [hW6]; exact hb5.alloc hb5.size _
  have hb56 : Below w5.heap.size w5 W6 := by rw [hW6]; exact (Below.refl _ _).alloc (Nat.le_refl _) _
  have hq6 := hq5.keep (w' := W6) (S' := fun b => S b ∨ (W1.heap.size ≤ b ∧ b < W6.heap.size)) (fun b hb => hb.imp_right fun h => ⟨h.1, Nat.lt_of_lt_of_le h.2 hb56.size⟩) (fun p hp => hb56.cell (by
    rcases hp with h | h
    · have := hS _ h
      have := hb5.size
      omega
    · exact h.2))
  have hx6 := (hb6.block w.heap.size (by omega)).trans HX1.out
  have hr6 : Own8 W6 (w.heap.size + 1) 50 _ _ _ _ _ _ _ _ := (hb6.block (w.heap.size + 1) (by omega)).trans HR1.out
  obtain ⟨z0, z1, z2, z3, z4, z5, z6, z7⟩ := eight_at hz6
  simp only [eight] at hx6
  obtain ⟨y0, y1, y2, y3, y4, y5, y6, y7⟩ := eight_at hx6
  obtain ⟨⟨r0, r1, r2, r3, r4, r5, r6, r7⟩, s0, s1, s2, s3, s4, s5, s6, s7⟩ := own_eight hr6
  have HZ6 := Lib.hid hz6
  have HX6 := Lib.hid hx6
  have HR6 := Lib.hid hr6
  have hW5 : W1.heap.size ≤ w5.heap.size := hb5.size
  have hlz : w5.heap.size < W6.heap.size := (Array.getElem?_eq_some_iff.1 hz6).1
  clear x0 x1 x2 x3 x4 x5 x6 x7 hz6 hx6 hr6
  rw [← hW6]
  clear hW6
  have Hy0 := Lib.hid y0
  have Hy2 := Lib.hid y2
  have Hz5 := Lib.hid z5
  clear z0 z1 z2 z3 z4 z5 z6 z7 y0 y1 y2 y3 y4 y5 y6 y7 r0 r1 r2 r3 r4 r5 r6 r7 s0 s1 s2 s3 s4 s5 s6 s7
  have ly0 : ∀ x : Later W6, x.val.cell? ⟨w.heap.size, 0, none⟩ = some (.int .i64 8) := fun x => later_cell (Below.refl _ _) Hy0.out x
  have ly2 : ∀ x : Later W6, x.val.cell? ⟨w.heap.size, 2, none⟩ = some (.string t) := fun x => later_cell (Below.refl _ _) Hy2.out x
  have lz5 : ∀ x : Later W6, x.val.cell? ⟨w5.heap.size, 5, none⟩ = some (.slice b3 A.len d3) := fun x => later_cell (Below.refl _ _) Hz5.out x
  refine region_later (by kernel_rfl) (by kernel_rfl) ?_
  repeat (go_big_quiet_step (fail "none"))
  refine wpQuiet_nil ?_
  intro w7 hw7
  obtain ⟨x7, hx7⟩ := hw7
  subst hx7
  clear ly0 ly2 lz5
  have py0 : World.cell? x7.val ⟨w.heap.size, 0, none⟩ = some (.int .i64 8) := below_cell x7.ok Hy0.out
  have py2 : World.cell? x7.val ⟨w.heap.size, 2, none⟩ = some (.string t) := below_cell x7.ok Hy2.out
  have pz5 : World.cell? x7.val ⟨w5.heap.size, 5, none⟩ = some (.slice b3 A.len d3) := below_cell x7.ok Hz5.out
  go_wp2
  clear py0 py2 pz5
  have my0 : ∀ x : Later x7.val, x.val.cell? ⟨w.heap.size, 0, none⟩ = some (.int .i64 8) := fun x => later_cell x7.ok Hy0.out x
  have mz5 : ∀ x : Later x7.val, x.val.cell? ⟨w5.heap.size, 5, none⟩ = some (.slice b3 A.len d3) := fun x => later_cell x7.ok Hz5.out x
  refine region_later (by kernel_rfl) (by kernel_rfl) ?_
  repeat (go_big_quiet_step (fail "none"))
  refine wpQuiet_nil ?_
  intro w9 hw9
  obtain ⟨x9, hx9⟩ := hw9
  subst hx9
  clear my0 mz5
  have hb69 : Below W6.heap.size W6 x9.val := x7.ok.trans (x9.ok.mono x7.ok.size)
  have hb9 : Below W1.heap.size W1 x9.val := hb6.trans (hb69.mono hb6.size)
  obtain ⟨⟨r0, r1, r2, r3, r4, r5, r6, r7⟩, s0, s1, s2, s3, s4, s5, s6, s7⟩ := own_eight ((hb69.block (w.heap.size + 1) (by have := hb6.size; omega)).trans HR6.out)
  obtain ⟨z0, z1, z2, z3, z4, z5, z6, z7⟩ := eight_at ((hb69.block w5.heap.size hlz).trans HZ6.out)
  have hq9 := hq6.keep (w' := x9.val) (S' := fun b => S b ∨ (W1.heap.size ≤ b ∧ b < (x9.val).heap.size)) (fun b hb => hb.imp_right fun h => ⟨h.1, Nat.lt_of_lt_of_le h.2 (hb69).size⟩) (fun p hp => (hb69).cell (by
    rcases hp with h | h
    · have := hS _ h
      have := hb6.size
      omega
    · exact h.2))
  go_wp2
  refine bodyPost_ret (v := .agg #[.int .i64 8, .int .i64 n, .string t, .slice b1 ns.length d1, .slice b2 ty d2, .slice b3 A.len d3, .slice b4 B.len d4, .int .i64 0]) (by simp [results, Tryz.results19, go_sem, *]) rfl ?_
  rw [HR.out]
  exact truth_close hS hb1 hs1 (Below.refl _ _) hq9 hb9 _ _ _ _ _ _ _ _
end Go.Proofs.YtiinghgfojicdaaGreat
