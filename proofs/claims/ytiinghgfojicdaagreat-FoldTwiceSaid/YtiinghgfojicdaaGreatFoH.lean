/- A part of the proof of FoldTwice: fold.two. No conditions. -/
import Derived.Deep.RegionWith
import Derived.Deep.RegionLaw
import Derived.Test.YtiinghgfojicdaaGreatFoG
set_option linter.unusedVariables false
set_option linter.unusedSimpArgs false
namespace Go.Proofs.YtiinghgfojicdaaGreat
open Go.RowKit Go.RowG Go.FRow Go.GMem
set_option linter.unusedVariables false
set_option maxRecDepth 100000
attribute [local go_sem ↓] Go.wp_at_zero Go.wp_at_succ
theorem truth_close {S : Nat → Prop} {w W1 Wc w5 : World} {e : Ex} {q5 : At} (hS : ∀ b, S b → b < w.heap.size) (hb1 : Below w.heap.size w W1) (hs1 : W1.heap.size = w.heap.size + 2) (hWc : Below W1.heap.size W1 Wc) (hq5 : EIs w5 (fun b => S b ∨ (Wc.heap.size ≤ b ∧ b < w5.heap.size)) e q5) (hb5 : Below Wc.heap.size Wc w5) (v0 v1 v2 v3 v4 v5 v6 v7 : Value) :
    ExEnds S e w (.returned (agg8 e q5)) ((((((((w5.setCell ⟨w.heap.size + 1, 0, none⟩ v0).setCell ⟨w.heap.size + 1, 1, none⟩ v1).setCell ⟨w.heap.size + 1, 2, none⟩ v2).setCell ⟨w.heap.size + 1, 3, none⟩ v3).setCell ⟨w.heap.size + 1, 4, none⟩ v4).setCell ⟨w.heap.size + 1, 5, none⟩ v5).setCell ⟨w.heap.size + 1, 6, none⟩ v6).setCell ⟨w.heap.size + 1, 7, none⟩ v7) := by
  have h1 := hWc.size
  have h2 : Below w.heap.size w w5 := (hb1.trans (hWc.mono hb1.size)).trans (hb5.mono (by omega))
  have h3 := fill8_below h2 (Nat.le_succ _) v0 v1 v2 v3 v4 v5 v6 v7
  refine ⟨q5, rfl, hq5.keep (fun b hb => ?_) (fun p hp => World.cell?_of_block (fill8_far _ _ _ _ _ _ _ _ _ _ ?_)), h3⟩
  · rcases hb with h | ⟨h, h'⟩
    · exact Or.inl h
    · exact Or.inr ⟨by omega, by simpa [World.setCell] using h'⟩
  · rcases hp with h | ⟨h, h'⟩
    · have := hS _ h; omega
    · omega
theorem two_below {w W1 : World} (h : Below w.heap.size w W1) (v0 v1 v2 v3 v4 v5 v6 v7 : Value) (o o' : Obj) : Below w.heap.size w (((((((((((W1.setCell ⟨w.heap.size + 1, 0, none⟩ v0).setCell ⟨w.heap.size + 1, 1, none⟩ v1).setCell ⟨w.heap.size + 1, 2, none⟩ v2).setCell ⟨w.heap.size + 1, 3, none⟩ v3).setCell ⟨w.heap.size + 1, 4, none⟩ v4).setCell ⟨w.heap.size + 1, 5, none⟩ v5).setCell ⟨w.heap.size + 1, 6, none⟩ v6).setCell ⟨w.heap.size + 1, 7, none⟩ v7).alloc o).alloc o').drew) := by
  have h1 := fill8_below h (Nat.le_succ _) v0 v1 v2 v3 v4 v5 v6 v7
  exact ((h1.alloc h1.size o).alloc (h1.alloc h1.size o).size o').drew
set_option maxHeartbeats 8000000 in
theorem two_try (h : Hd) (p1 p2 : Pt) (h1 h2 : Hd) (ar1 am1 ar2 am2 arms : X) (q : At) (w : World) (S : Nat → Prop) (hS : ∀ b, S b → b < w.heap.size) (hz1 : h1.t.size ≤ 100) (hz2 : h2.t.size ≤ 100) (he : EIs w S ⟨h, .cons p1 h1 ar1 am1 (.cons p2 h2 ar2 am2 .nil), arms⟩ q) :
    Calls Tryz.prog 43 #[agg8 ⟨h, .cons p1 h1 ar1 am1 (.cons p2 h2 ar2 am2 .nil), arms⟩ q] w (ExEnds S (twoF ⟨h, .cons p1 h1 ar1 am1 (.cons p2 h2 ar2 am2 .nil), arms⟩ h1 h2) w) := by
  obtain ⟨ad, q1, ea, hab, hc1, _, hre⟩ := (xrest he.r3).step
  obtain ⟨ad', q2, ea', _, hc2, _, _⟩ := hre.step
  rw [ea] at ea'
  obtain rfl := Option.some.inj ea'
  simp only [Nat.zero_mul, Nat.zero_add, Nat.one_mul] at hc1 hc2
  rw [show ad.add 0 = ad by simp [Addr.add]] at hc1
  rw [show ad.add 8 = ⟨ad.block, ad.off + 8, none⟩ by simp [Addr.add]] at hc2
  have hab : ad.block < w.heap.size := hS _ hab
  obtain ⟨E, hE⟩ : ∃ E : Ex, E = ⟨h, .cons p1 h1 ar1 am1 (.cons p2 h2 ar2 am2 .nil), arms⟩ := ⟨_, rfl⟩
  rw [← hE] at he ⊢
  have HE := Lib.hid he
  have hlen : E.args.len = 2 := by rw [hE]; rfl
  have hhd : E.h = h := by rw [hE]
  obtain ⟨res, hres⟩ : ∃ res, res = twoF E h1 h2 := ⟨_, rfl⟩
  rw [← hres]
  have HRES := Lib.hid hres
  have HHD := Lib.hid hhd
  have hself : ∀ W : World, Below w.heap.size w W → ExEnds S E w (.returned (agg8 E q)) W := fun W hW => ⟨q, rfl, HE.out.keep (fun b hb => Or.inl hb) fun p hp => hW.cell (hS _ hp), hW⟩
  unfold agg8 at hself ⊢
  rw [hlen, hhd] at hself
  rw [hlen, hhd]
  obtain ⟨k, n, t, ns, m⟩ := h
  obtain ⟨k1, n1, t1, ns1, m1⟩ := h1
  obtain ⟨k2, n2, t2, ns2, m2⟩ := h2
  obtain ⟨a1, c1, a2, c2, a3, c3, a4, c4⟩ := q
  obtain ⟨x1, d1, x2, d2, x3, d3, x4, d4⟩ := q1
  obtain ⟨z1, e1, z2, e2, z3, e3, z4, e4⟩ := q2
  simp only [cells8] at hc1 hc2 ea hself ⊢
  subst ea
  obtain ⟨nl, hnl⟩ : ∃ nl, nl = ns.length := ⟨_, rfl⟩
  obtain ⟨ml, hml⟩ : ∃ ml, ml = E.arms.len := ⟨_, rfl⟩
  obtain ⟨u3, hu3⟩ : ∃ u, u = ns1.length := ⟨_, rfl⟩
  obtain ⟨u5, hu5⟩ : ∃ u, u = ar1.len := ⟨_, rfl⟩
  obtain ⟨u6, hu6⟩ : ∃ u, u = am1.len := ⟨_, rfl⟩
  obtain ⟨v3, hv3⟩ : ∃ u, u = ns2.length := ⟨_, rfl⟩
  obtain ⟨v5, hv5⟩ : ∃ u, u = ar2.len := ⟨_, rfl⟩
  obtain ⟨v6, hv6⟩ : ∃ u, u = am2.len := ⟨_, rfl⟩
  rw [← hnl, ← hml] at hself
  rw [← hnl, ← hml]
  rw [← hu3, ← hu5, ← hu6] at hc1
  rw [← hv3, ← hv5, ← hv6] at hc2
  obtain ⟨W1, hW1⟩ : ∃ W1, W1 = (w.alloc (.cells #[.int .i64 k, .int .i64 n, .string t, .slice a1 nl c1, .slice a2 m c2, .slice (some ad) 2 c3, .slice a4 ml c4, .int .i64 0] 50)).alloc (.cells #[.int .i64 0, .int .i64 0, .string ⟨#[]⟩, .slice none 0 0, .slice none 0 0, .slice none 0 0, .slice none 0 0, .int .i64 0] 50) := ⟨_, rfl⟩
  have hb1 : Below w.heap.size w W1 := by rw [hW1]; exact ((Below.refl _ _).alloc (Nat.le_refl _) _).alloc (by simp) _
  have hzz1 : W1.heap[w.heap.size]? = some (.cells #[.int .i64 k, .int .i64 n, .string t, .slice a1 nl c1, .slice a2 m c2, .slice (some ad) 2 c3, .slice a4 ml c4, .int .i64 0] 50 (0, 0)) := by
    rw [hW1]
    exact (heap_alloc_old _ _ (by simp)).trans (heap_alloc_new w _)
  have hzz2 : W1.heap[w.heap.size + 1]? = some (.cells #[.int .i64 0, .int .i64 0, .string ⟨#[]⟩, .slice none 0 0, .slice none 0 0, .slice none 0 0, .slice none 0 0, .int .i64 0] 50 (0, 0)) := by
    rw [hW1]
    have := heap_alloc_new (w.alloc (.cells #[.int .i64 k, .int .i64 n, .string t, .slice a1 nl c1, .slice a2 m c2, .slice (some ad) 2 c3, .slice a4 ml c4, .int .i64 0] 50)) (.cells #[.int .i64 0, .int .i64 0, .string ⟨#[]⟩, .slice none 0 0, .slice none 0 0, .slice none 0 0, .slice none 0 0, .int .i64 0] 50)
    simpa using this
  have hs1 : W1.heap.size = w.heap.size + 2 := by rw [hW1]; simp
  obtain ⟨b0, b1, b2, b3, b4, b5, b6, b7⟩ := eight_at hzz1
  obtain ⟨f0, f1, f2, f3, f4, f5, f6, f7⟩ := hc1
  obtain ⟨g0, g1, g2, g3, g4, g5, g6, g7⟩ := hc2
  have i0 := (hb1.cell (p := ad) hab).trans f0
  have i1 := (hb1.cell (p := ⟨ad.block, ad.off + 1, none⟩) hab).trans f1
  have i2 := (hb1.cell (p := ⟨ad.block, ad.off + 2, none⟩) hab).trans f2
  have i3 := (hb1.cell (p := ⟨ad.block, ad.off + 3, none⟩) hab).trans f3
  have i4 := (hb1.cell (p := ⟨ad.block, ad.off + 4, none⟩) hab).trans f4
  have i5 := (hb1.cell (p := ⟨ad.block, ad.off + 5, none⟩) hab).trans f5
  have i6 := (hb1.cell (p := ⟨ad.block, ad.off + 6, none⟩) hab).trans f6
  have i7 := (hb1.cell (p := ⟨ad.block, ad.off + 7, none⟩) hab).trans f7
  have j0 := (hb1.cell (p := ⟨ad.block, ad.off + 8, none⟩) hab).trans g0
  have j1 := (hb1.cell (p := ⟨ad.block, ad.off + 8 + 1, none⟩) hab).trans g1
  have j2 := (hb1.cell (p := ⟨ad.block, ad.off + 8 + 2, none⟩) hab).trans g2
  have j3 := (hb1.cell (p := ⟨ad.block, ad.off + 8 + 3, none⟩) hab).trans g3
  have j4 := (hb1.cell (p := ⟨ad.block, ad.off + 8 + 4, none⟩) hab).trans g4
  have j5 := (hb1.cell (p := ⟨ad.block, ad.off + 8 + 5, none⟩) hab).trans g5
  have j6 := (hb1.cell (p := ⟨ad.block, ad.off + 8 + 6, none⟩) hab).trans g6
  have j7 := (hb1.cell (p := ⟨ad.block, ad.off + 8 + 7, none⟩) hab).trans g7
  have HW1 := Lib.hid hW1
  have HSF := Lib.hid hself
  clear f0 f1 f2 f3 f4 f5 f6 f7 g0 g1 g2 g3 g4 g5 g6 g7 hnl hml hu3 hu5 hu6 hv3 hv5 hv6 hself he hE hlen hhd hres hre hW1

  have ne0 : W1.heap.size ≠ ad.block := by omega
  have ne1 : W1.heap.size + 1 ≠ ad.block := by omega
  have ne4 : W1.heap.size ≠ w.heap.size := by omega
  have ne5 : W1.heap.size + 1 ≠ w.heap.size := by omega
  have hz1 : t1.size ≤ 100 := hz1
  have hz2 : t2.size ≤ 100 := hz2
  have hwp : wrap64 ((t1.size : Int) + (t2.size : Int)) = ((t1.size + t2.size : Nat) : Int) := by unfold RowKit.wrap64; omega
  have hadd : t1.size + t2.size ≤ 9223372036854775807 := by omega
  have HZ2 := Lib.hid hzz2
  obtain ⟨⟨r0, r1, r2, r3, r4, r5, r6, r7⟩, s0, s1, s2, s3, s4, s5, s6, s7⟩ := own_eight hzz2
  obtain ⟨ga, gb⟩ := alloc_cell2 (w := W1) (z := w.heap.size + 1) (by omega)
  have hcases : (t.toList = [61] ∧ (n1 == n2) = true) ∨ (t.toList = [61] ∧ (n1 == n2) = false) ∨ ((k1 == 4) = true ∧ t.toList = [94] ∧ t1.size + t2.size ≤ 64) ∨ ((t.toList == [61]) = false ∧ (k1 == 4) = false ∧ (k1 != 2) = true) ∨ ((t.toList == [61]) = false ∧ ((k1 == 4) = true ∧ (k1 != 2) = true) ∧ (t.toList == [94]) = false) ∨ (((k1 == 4) = true ∧ (k1 != 2) = true) ∧ t.toList = [94] ∧ ¬ (t1.size + t2.size ≤ 64)) ∨
      (((k1 == 4) = false ∧ (k1 != 2) = false) ∧ t.toList = [43]) ∨ (((k1 == 4) = false ∧ (k1 != 2) = false) ∧ t.toList = [45]) ∨ (((k1 == 4) = false ∧ (k1 != 2) = false) ∧ t.toList = [42]) ∨ (((k1 == 4) = false ∧ (k1 != 2) = false) ∧ t.toList = [60]) ∨ (((k1 == 4) = false ∧ (k1 != 2) = false) ∧ t.toList = [47] ∧ (n2 == 0) = true) ∨ (((k1 == 4) = false ∧ (k1 != 2) = false) ∧ t.toList = [47] ∧ (n2 == 0) = false) ∨
      (((k1 == 4) = false ∧ (k1 != 2) = false) ∧ t.toList = [37] ∧ (n2 == 0) = true) ∨ (((k1 == 4) = false ∧ (k1 != 2) = false) ∧ t.toList = [37] ∧ (n2 == 0) = false) ∨
      (((k1 == 4) = false ∧ (k1 != 2) = false) ∧ (t.toList == [61]) = false ∧ (t.toList == [43]) = false ∧ (t.toList == [45]) = false ∧ (t.toList == [42]) = false ∧ (t.toList == [60]) = false ∧ (t.toList == [47]) = false ∧ (t.toList == [37]) = false) := by
    simp only [beq_eq_false_iff_ne, bne_iff_ne, beq_iff_eq, bne_eq_false_iff_eq]
    by_cases e1 : t.toList = [61]
    · by_cases e2 : n1 = n2 <;> simp [e1, e2]
    · by_cases e2 : k1 = 2
      · by_cases e3 : t.toList = [43]
        · simp [e2, e3]
        · by_cases e4 : t.toList = [45]
          · simp [e2, e4]
          · by_cases e5 : t.toList = [42]
            · simp [e2, e5]
            · by_cases e6 : t.toList = [60]
              · simp [e2, e6]
              · by_cases e7 : t.toList = [47]
                · by_cases e8 : n2 = 0 <;> simp [e2, e7, e8]
                · by_cases e9 : t.toList = [37]
                  · by_cases e8 : n2 = 0 <;> simp [e2, e9, e8]
                  · simp [e1, e2, e3, e4, e5, e6, e7, e9]
      · by_cases e3 : k1 = 4
        · by_cases e4 : t.toList = [94]
          · by_cases e5 : t1.size + t2.size ≤ 64 <;> simp [e3, e4, e5]
          · simp [e1, e3, e4]
        · simp [e1, e2, e3]
  rcases hcases with ⟨ht, hn⟩ | ⟨ht, hn⟩ | ⟨hk, ht, hl⟩ | ⟨ht, hk, hk2⟩ | ⟨ht, ⟨hk, hk2⟩, ht2⟩ | ⟨⟨hk, hk2⟩, ht, hl⟩ | ⟨⟨hk, hk2⟩, ht⟩ | ⟨⟨hk, hk2⟩, ht⟩ | ⟨⟨hk, hk2⟩, ht⟩ | ⟨⟨hk, hk2⟩, ht⟩ | ⟨⟨hk, hk2⟩, ht, hn⟩ | ⟨⟨hk, hk2⟩, ht, hn⟩ | ⟨⟨hk, hk2⟩, ht, hn⟩ | ⟨⟨hk, hk2⟩, ht, hn⟩ | ⟨⟨hk, hk2⟩, ht, ht1, ht2, ht3, ht4, ht5, ht6⟩
  · have hn' : n1 = n2 := by simpa using hn
    have hr : res = truthE (t1.toList == t2.toList) := by
      rw [HRES.out]
      unfold twoF
      rw [HHD.out]
      simp [ht, hn']
    have HR := Lib.hid hr
    clear hr hn'
    go_enter Tryz.func43, Tryz.ntmps43
    go_wp2
    rw [← HW1.out]
    go_region_held3 (fun w' => w'.cell? ⟨w.heap.size, 5, none⟩ = some (.slice (some ad) 2 c3) ∧ w'.cell? (ad) = some (.int .i64 k1) ∧ w'.cell? (⟨ad.block, ad.off + 1, none⟩) = some (.int .i64 n1) ∧ w'.cell? (⟨ad.block, ad.off + 2, none⟩) = some (.string t1) ∧ w'.cell? (⟨ad.block, ad.off + 3, none⟩) = some (.slice x1 u3 d1) ∧ w'.cell? (⟨ad.block, ad.off + 4, none⟩) = some (.slice x2 m1 d2) ∧ w'.cell? (⟨ad.block, ad.off + 5, none⟩) = some (.slice x3 u5 d3) ∧ w'.cell? (⟨ad.block, ad.off + 6, none⟩) = some (.slice x4 u6 d4) ∧ w'.cell? (⟨ad.block, ad.off + 7, none⟩) = some (.int .i64 0) ∧ w'.cell? (⟨ad.block, ad.off + 8, none⟩) = some (.int .i64 k2) ∧ w'.cell? (⟨ad.block, ad.off + 8 + 1, none⟩) = some (.int .i64 n2) ∧ w'.cell? (⟨ad.block, ad.off + 8 + 2, none⟩) = some (.string t2) ∧ w'.cell? (⟨ad.block, ad.off + 8 + 3, none⟩) = some (.slice z1 v3 e1) ∧ w'.cell? (⟨ad.block, ad.off + 8 + 4, none⟩) = some (.slice z2 m2 e2) ∧ w'.cell? (⟨ad.block, ad.off + 8 + 5, none⟩) = some (.slice z3 v5 e3) ∧ w'.cell? (⟨ad.block, ad.off + 8 + 6, none⟩) = some (.slice z4 v6 e4) ∧ w'.cell? (⟨ad.block, ad.off + 8 + 7, none⟩) = some (.int .i64 0)) (go_keep) (fail "none")
    all_goals
      go_wp2_with (first
        | (go_at_call 42
           (with_reducible refine (truth_says _ _ S).mono ?_)
           rintro e w5 ⟨q5, rfl, hq5, hb5⟩
           have hz5 := (hb5.block (w.heap.size + 1) (by simp; omega)).trans ((heap_alloc_old _ _ (by simp; omega)).trans ((heap_alloc_old _ _ (by omega)).trans HZ2.out))
           clear r0 r1 r2 r3 r4 r5 r6 r7 s0 s1 s2 s3 s4 s5 s6 s7 ga gb
           obtain ⟨⟨r0, r1, r2, r3, r4, r5, r6, r7⟩, s0, s1, s2, s3, s4, s5, s6, s7⟩ := own_eight hz5)
        | fail "none")
      refine bodyPost_ret (v := agg8 (truthE (t1.toList == t2.toList)) q5) (by simp [results, Tryz.results43, go_sem, agg8, *]) rfl ?_
      rw [HR.out]
      exact truth_close hS hb1 hs1 (((Below.refl _ _).alloc (Nat.le_refl _) _).alloc (by simp) _).drew hq5 hb5 _ _ _ _ _ _ _ _
  · have hn' : n1 ≠ n2 := by simpa using hn
    have hr : res = truthE false := by
      rw [HRES.out]
      unfold twoF
      rw [HHD.out]
      simp [ht, hn]
    have HR := Lib.hid hr
    clear hr hn'
    go_enter Tryz.func43, Tryz.ntmps43
    go_wp2
    rw [← HW1.out]
    go_region_held3 (fun w' => w'.cell? ⟨w.heap.size, 5, none⟩ = some (.slice (some ad) 2 c3) ∧ w'.cell? (ad) = some (.int .i64 k1) ∧ w'.cell? (⟨ad.block, ad.off + 1, none⟩) = some (.int .i64 n1) ∧ w'.cell? (⟨ad.block, ad.off + 2, none⟩) = some (.string t1) ∧ w'.cell? (⟨ad.block, ad.off + 3, none⟩) = some (.slice x1 u3 d1) ∧ w'.cell? (⟨ad.block, ad.off + 4, none⟩) = some (.slice x2 m1 d2) ∧ w'.cell? (⟨ad.block, ad.off + 5, none⟩) = some (.slice x3 u5 d3) ∧ w'.cell? (⟨ad.block, ad.off + 6, none⟩) = some (.slice x4 u6 d4) ∧ w'.cell? (⟨ad.block, ad.off + 7, none⟩) = some (.int .i64 0) ∧ w'.cell? (⟨ad.block, ad.off + 8, none⟩) = some (.int .i64 k2) ∧ w'.cell? (⟨ad.block, ad.off + 8 + 1, none⟩) = some (.int .i64 n2) ∧ w'.cell? (⟨ad.block, ad.off + 8 + 2, none⟩) = some (.string t2) ∧ w'.cell? (⟨ad.block, ad.off + 8 + 3, none⟩) = some (.slice z1 v3 e1) ∧ w'.cell? (⟨ad.block, ad.off + 8 + 4, none⟩) = some (.slice z2 m2 e2) ∧ w'.cell? (⟨ad.block, ad.off + 8 + 5, none⟩) = some (.slice z3 v5 e3) ∧ w'.cell? (⟨ad.block, ad.off + 8 + 6, none⟩) = some (.slice z4 v6 e4) ∧ w'.cell? (⟨ad.block, ad.off + 8 + 7, none⟩) = some (.int .i64 0)) (go_keep) (fail "none")
    all_goals
      go_wp2_with (first
        | (go_at_call 42
           (with_reducible refine (truth_says _ _ S).mono ?_)
           rintro e w5 ⟨q5, rfl, hq5, hb5⟩
           have hz5 := (hb5.block (w.heap.size + 1) (by simp; omega)).trans ((heap_alloc_old _ _ (by simp; omega)).trans ((heap_alloc_old _ _ (by omega)).trans HZ2.out))
           clear r0 r1 r2 r3 r4 r5 r6 r7 s0 s1 s2 s3 s4 s5 s6 s7 ga gb
           obtain ⟨⟨r0, r1, r2, r3, r4, r5, r6, r7⟩, s0, s1, s2, s3, s4, s5, s6, s7⟩ := own_eight hz5)
        | fail "none")
      refine bodyPost_ret (v := agg8 (truthE false) q5) (by simp [results, Tryz.results43, go_sem, agg8, *]) rfl ?_
      rw [HR.out]
      exact truth_close hS hb1 hs1 (((Below.refl _ _).alloc (Nat.le_refl _) _).alloc (by simp) _).drew hq5 hb5 _ _ _ _ _ _ _ _
  · have hk4 : k1 = 4 := by simpa using hk
    have hl' : decide (((t1.size + t2.size : Nat) : Int) ≤ 64) = true := decide_eq_true (by omega)
    have hr : res = leafE 4 0 (t1 ++ t2) := by
      rw [HRES.out]
      unfold twoF
      rw [HHD.out]
      simp [ht, hk4, hl]
    have HR := Lib.hid hr
    clear hr hk4
    go_enter Tryz.func43, Tryz.ntmps43
    go_wp2
    rw [← HW1.out]
    go_region_held3 (fun w' => w'.cell? ⟨w.heap.size, 5, none⟩ = some (.slice (some ad) 2 c3) ∧ w'.cell? (ad) = some (.int .i64 k1) ∧ w'.cell? (⟨ad.block, ad.off + 1, none⟩) = some (.int .i64 n1) ∧ w'.cell? (⟨ad.block, ad.off + 2, none⟩) = some (.string t1) ∧ w'.cell? (⟨ad.block, ad.off + 3, none⟩) = some (.slice x1 u3 d1) ∧ w'.cell? (⟨ad.block, ad.off + 4, none⟩) = some (.slice x2 m1 d2) ∧ w'.cell? (⟨ad.block, ad.off + 5, none⟩) = some (.slice x3 u5 d3) ∧ w'.cell? (⟨ad.block, ad.off + 6, none⟩) = some (.slice x4 u6 d4) ∧ w'.cell? (⟨ad.block, ad.off + 7, none⟩) = some (.int .i64 0) ∧ w'.cell? (⟨ad.block, ad.off + 8, none⟩) = some (.int .i64 k2) ∧ w'.cell? (⟨ad.block, ad.off + 8 + 1, none⟩) = some (.int .i64 n2) ∧ w'.cell? (⟨ad.block, ad.off + 8 + 2, none⟩) = some (.string t2) ∧ w'.cell? (⟨ad.block, ad.off + 8 + 3, none⟩) = some (.slice z1 v3 e1) ∧ w'.cell? (⟨ad.block, ad.off + 8 + 4, none⟩) = some (.slice z2 m2 e2) ∧ w'.cell? (⟨ad.block, ad.off + 8 + 5, none⟩) = some (.slice z3 v5 e3) ∧ w'.cell? (⟨ad.block, ad.off + 8 + 6, none⟩) = some (.slice z4 v6 e4) ∧ w'.cell? (⟨ad.block, ad.off + 8 + 7, none⟩) = some (.int .i64 0)) (go_keep) (fail "none")
    all_goals
      go_wp2
      refine bodyPost_ret (v := agg8L 4 0 (t1 ++ t2)) (by simp [results, Tryz.results43, go_sem, agg8L, *]) rfl ?_
      rw [HR.out]
      exact leaf_ends (two_below hb1 _ _ _ _ _ _ _ _ _ _)
  · have ht' : t.toList ≠ [61] := by simpa using ht
    have hk4 : k1 ≠ 4 := by simpa using hk
    have hk3 : k1 ≠ 2 := by simpa using hk2
    have hr : res = E := by
      rw [HRES.out]
      unfold twoF
      rw [HHD.out]
      simp [ht', hk4, hk3]
    have HR := Lib.hid hr
    clear hr hk4 ht' hk3
    go_enter Tryz.func43, Tryz.ntmps43
    go_wp2
    rw [← HW1.out]
    go_region_held3 (fun w' => w'.cell? ⟨w.heap.size, 5, none⟩ = some (.slice (some ad) 2 c3) ∧ w'.cell? (ad) = some (.int .i64 k1) ∧ w'.cell? (⟨ad.block, ad.off + 1, none⟩) = some (.int .i64 n1) ∧ w'.cell? (⟨ad.block, ad.off + 2, none⟩) = some (.string t1) ∧ w'.cell? (⟨ad.block, ad.off + 3, none⟩) = some (.slice x1 u3 d1) ∧ w'.cell? (⟨ad.block, ad.off + 4, none⟩) = some (.slice x2 m1 d2) ∧ w'.cell? (⟨ad.block, ad.off + 5, none⟩) = some (.slice x3 u5 d3) ∧ w'.cell? (⟨ad.block, ad.off + 6, none⟩) = some (.slice x4 u6 d4) ∧ w'.cell? (⟨ad.block, ad.off + 7, none⟩) = some (.int .i64 0) ∧ w'.cell? (⟨ad.block, ad.off + 8, none⟩) = some (.int .i64 k2) ∧ w'.cell? (⟨ad.block, ad.off + 8 + 1, none⟩) = some (.int .i64 n2) ∧ w'.cell? (⟨ad.block, ad.off + 8 + 2, none⟩) = some (.string t2) ∧ w'.cell? (⟨ad.block, ad.off + 8 + 3, none⟩) = some (.slice z1 v3 e1) ∧ w'.cell? (⟨ad.block, ad.off + 8 + 4, none⟩) = some (.slice z2 m2 e2) ∧ w'.cell? (⟨ad.block, ad.off + 8 + 5, none⟩) = some (.slice z3 v5 e3) ∧ w'.cell? (⟨ad.block, ad.off + 8 + 6, none⟩) = some (.slice z4 v6 e4) ∧ w'.cell? (⟨ad.block, ad.off + 8 + 7, none⟩) = some (.int .i64 0)) (go_keep) (fail "none")
    all_goals
      go_wp2
      refine bodyPost_ret (v := .agg #[.int .i64 k, .int .i64 n, .string t, .slice a1 nl c1, .slice a2 m c2, .slice (some ad) 2 c3, .slice a4 ml c4, .int .i64 0]) (by simp [results, Tryz.results43, go_sem, *]) rfl ?_
      rw [HR.out]
      exact HSF.out _ (two_below hb1 _ _ _ _ _ _ _ _ _ _)
  · have ht' : t.toList ≠ [61] := by simpa using ht
    have ht'' : t.toList ≠ [94] := by simpa using ht2
    have hk4 : k1 = 4 := by simpa using hk
    have hr : res = E := by
      rw [HRES.out]
      unfold twoF
      rw [HHD.out]
      simp [ht', ht'', hk4]
    have HR := Lib.hid hr
    clear hr hk4 ht' ht''
    go_enter Tryz.func43, Tryz.ntmps43
    go_wp2
    rw [← HW1.out]
    go_region_held3 (fun w' => w'.cell? ⟨w.heap.size, 5, none⟩ = some (.slice (some ad) 2 c3) ∧ w'.cell? (ad) = some (.int .i64 k1) ∧ w'.cell? (⟨ad.block, ad.off + 1, none⟩) = some (.int .i64 n1) ∧ w'.cell? (⟨ad.block, ad.off + 2, none⟩) = some (.string t1) ∧ w'.cell? (⟨ad.block, ad.off + 3, none⟩) = some (.slice x1 u3 d1) ∧ w'.cell? (⟨ad.block, ad.off + 4, none⟩) = some (.slice x2 m1 d2) ∧ w'.cell? (⟨ad.block, ad.off + 5, none⟩) = some (.slice x3 u5 d3) ∧ w'.cell? (⟨ad.block, ad.off + 6, none⟩) = some (.slice x4 u6 d4) ∧ w'.cell? (⟨ad.block, ad.off + 7, none⟩) = some (.int .i64 0) ∧ w'.cell? (⟨ad.block, ad.off + 8, none⟩) = some (.int .i64 k2) ∧ w'.cell? (⟨ad.block, ad.off + 8 + 1, none⟩) = some (.int .i64 n2) ∧ w'.cell? (⟨ad.block, ad.off + 8 + 2, none⟩) = some (.string t2) ∧ w'.cell? (⟨ad.block, ad.off + 8 + 3, none⟩) = some (.slice z1 v3 e1) ∧ w'.cell? (⟨ad.block, ad.off + 8 + 4, none⟩) = some (.slice z2 m2 e2) ∧ w'.cell? (⟨ad.block, ad.off + 8 + 5, none⟩) = some (.slice z3 v5 e3) ∧ w'.cell? (⟨ad.block, ad.off + 8 + 6, none⟩) = some (.slice z4 v6 e4) ∧ w'.cell? (⟨ad.block, ad.off + 8 + 7, none⟩) = some (.int .i64 0)) (go_keep) (fail "none")
    all_goals
      go_wp2
      refine bodyPost_ret (v := .agg #[.int .i64 k, .int .i64 n, .string t, .slice a1 nl c1, .slice a2 m c2, .slice (some ad) 2 c3, .slice a4 ml c4, .int .i64 0]) (by simp [results, Tryz.results43, go_sem, *]) rfl ?_
      rw [HR.out]
      exact HSF.out _ (two_below hb1 _ _ _ _ _ _ _ _ _ _)
  · have hk4 : k1 = 4 := by simpa using hk
    have hl' : decide (((t1.size + t2.size : Nat) : Int) ≤ 64) = false := decide_eq_false (by omega)
    have hr : res = E := by
      rw [HRES.out]
      unfold twoF
      rw [HHD.out]
      simp [ht, hk4, hl]
    have HR := Lib.hid hr
    clear hr hk4
    go_enter Tryz.func43, Tryz.ntmps43
    go_wp2
    rw [← HW1.out]
    go_region_held3 (fun w' => w'.cell? ⟨w.heap.size, 5, none⟩ = some (.slice (some ad) 2 c3) ∧ w'.cell? (ad) = some (.int .i64 k1) ∧ w'.cell? (⟨ad.block, ad.off + 1, none⟩) = some (.int .i64 n1) ∧ w'.cell? (⟨ad.block, ad.off + 2, none⟩) = some (.string t1) ∧ w'.cell? (⟨ad.block, ad.off + 3, none⟩) = some (.slice x1 u3 d1) ∧ w'.cell? (⟨ad.block, ad.off + 4, none⟩) = some (.slice x2 m1 d2) ∧ w'.cell? (⟨ad.block, ad.off + 5, none⟩) = some (.slice x3 u5 d3) ∧ w'.cell? (⟨ad.block, ad.off + 6, none⟩) = some (.slice x4 u6 d4) ∧ w'.cell? (⟨ad.block, ad.off + 7, none⟩) = some (.int .i64 0) ∧ w'.cell? (⟨ad.block, ad.off + 8, none⟩) = some (.int .i64 k2) ∧ w'.cell? (⟨ad.block, ad.off + 8 + 1, none⟩) = some (.int .i64 n2) ∧ w'.cell? (⟨ad.block, ad.off + 8 + 2, none⟩) = some (.string t2) ∧ w'.cell? (⟨ad.block, ad.off + 8 + 3, none⟩) = some (.slice z1 v3 e1) ∧ w'.cell? (⟨ad.block, ad.off + 8 + 4, none⟩) = some (.slice z2 m2 e2) ∧ w'.cell? (⟨ad.block, ad.off + 8 + 5, none⟩) = some (.slice z3 v5 e3) ∧ w'.cell? (⟨ad.block, ad.off + 8 + 6, none⟩) = some (.slice z4 v6 e4) ∧ w'.cell? (⟨ad.block, ad.off + 8 + 7, none⟩) = some (.int .i64 0)) (go_keep) (fail "none")
    all_goals
      go_wp2
      refine bodyPost_ret (v := .agg #[.int .i64 k, .int .i64 n, .string t, .slice a1 nl c1, .slice a2 m c2, .slice (some ad) 2 c3, .slice a4 ml c4, .int .i64 0]) (by simp [results, Tryz.results43, go_sem, *]) rfl ?_
      rw [HR.out]
      exact HSF.out _ (two_below hb1 _ _ _ _ _ _ _ _ _ _)
  · have hk4 : k1 = 2 := by simpa using hk2
    have hr : res = leafE 2 (wrap64 (n1 + n2)) ⟨#[]⟩ := by
      rw [HRES.out]
      unfold twoF
      rw [HHD.out]
      simp [ht, hk4]
    have HR := Lib.hid hr
    clear hr hk4
    go_enter Tryz.func43, Tryz.ntmps43
    go_wp2
    rw [← HW1.out]
    go_region_held3 (fun w' => w'.cell? ⟨w.heap.size, 5, none⟩ = some (.slice (some ad) 2 c3) ∧ w'.cell? (ad) = some (.int .i64 k1) ∧ w'.cell? (⟨ad.block, ad.off + 1, none⟩) = some (.int .i64 n1) ∧ w'.cell? (⟨ad.block, ad.off + 2, none⟩) = some (.string t1) ∧ w'.cell? (⟨ad.block, ad.off + 3, none⟩) = some (.slice x1 u3 d1) ∧ w'.cell? (⟨ad.block, ad.off + 4, none⟩) = some (.slice x2 m1 d2) ∧ w'.cell? (⟨ad.block, ad.off + 5, none⟩) = some (.slice x3 u5 d3) ∧ w'.cell? (⟨ad.block, ad.off + 6, none⟩) = some (.slice x4 u6 d4) ∧ w'.cell? (⟨ad.block, ad.off + 7, none⟩) = some (.int .i64 0) ∧ w'.cell? (⟨ad.block, ad.off + 8, none⟩) = some (.int .i64 k2) ∧ w'.cell? (⟨ad.block, ad.off + 8 + 1, none⟩) = some (.int .i64 n2) ∧ w'.cell? (⟨ad.block, ad.off + 8 + 2, none⟩) = some (.string t2) ∧ w'.cell? (⟨ad.block, ad.off + 8 + 3, none⟩) = some (.slice z1 v3 e1) ∧ w'.cell? (⟨ad.block, ad.off + 8 + 4, none⟩) = some (.slice z2 m2 e2) ∧ w'.cell? (⟨ad.block, ad.off + 8 + 5, none⟩) = some (.slice z3 v5 e3) ∧ w'.cell? (⟨ad.block, ad.off + 8 + 6, none⟩) = some (.slice z4 v6 e4) ∧ w'.cell? (⟨ad.block, ad.off + 8 + 7, none⟩) = some (.int .i64 0)) (go_keep) (fail "none")
    all_goals
      go_wp2
      refine bodyPost_ret (v := agg8L 2 (wrap64 (n1 + n2)) ⟨#[]⟩) (by simp [results, Tryz.results43, go_sem, agg8L, *]) rfl ?_
      rw [HR.out]
      exact leaf_ends (two_below hb1 _ _ _ _ _ _ _ _ _ _)
  · have hk4 : k1 = 2 := by simpa using hk2
    have hr : res = leafE 2 (wrap64 (n1 - n2)) ⟨#[]⟩ := by
      rw [HRES.out]
      unfold twoF
      rw [HHD.out]
      simp [ht, hk4]
    have HR := Lib.hid hr
    clear hr hk4
    go_enter Tryz.func43, Tryz.ntmps43
    go_wp2
    rw [← HW1.out]
    go_region_held3 (fun w' => w'.cell? ⟨w.heap.size, 5, none⟩ = some (.slice (some ad) 2 c3) ∧ w'.cell? (ad) = some (.int .i64 k1) ∧ w'.cell? (⟨ad.block, ad.off + 1, none⟩) = some (.int .i64 n1) ∧ w'.cell? (⟨ad.block, ad.off + 2, none⟩) = some (.string t1) ∧ w'.cell? (⟨ad.block, ad.off + 3, none⟩) = some (.slice x1 u3 d1) ∧ w'.cell? (⟨ad.block, ad.off + 4, none⟩) = some (.slice x2 m1 d2) ∧ w'.cell? (⟨ad.block, ad.off + 5, none⟩) = some (.slice x3 u5 d3) ∧ w'.cell? (⟨ad.block, ad.off + 6, none⟩) = some (.slice x4 u6 d4) ∧ w'.cell? (⟨ad.block, ad.off + 7, none⟩) = some (.int .i64 0) ∧ w'.cell? (⟨ad.block, ad.off + 8, none⟩) = some (.int .i64 k2) ∧ w'.cell? (⟨ad.block, ad.off + 8 + 1, none⟩) = some (.int .i64 n2) ∧ w'.cell? (⟨ad.block, ad.off + 8 + 2, none⟩) = some (.string t2) ∧ w'.cell? (⟨ad.block, ad.off + 8 + 3, none⟩) = some (.slice z1 v3 e1) ∧ w'.cell? (⟨ad.block, ad.off + 8 + 4, none⟩) = some (.slice z2 m2 e2) ∧ w'.cell? (⟨ad.block, ad.off + 8 + 5, none⟩) = some (.slice z3 v5 e3) ∧ w'.cell? (⟨ad.block, ad.off + 8 + 6, none⟩) = some (.slice z4 v6 e4) ∧ w'.cell? (⟨ad.block, ad.off + 8 + 7, none⟩) = some (.int .i64 0)) (go_keep) (fail "none")
    all_goals
      go_wp2
      refine bodyPost_ret (v := agg8L 2 (wrap64 (n1 - n2)) ⟨#[]⟩) (by simp [results, Tryz.results43, go_sem, agg8L, *]) rfl ?_
      rw [HR.out]
      exact leaf_ends (two_below hb1 _ _ _ _ _ _ _ _ _ _)
  · have hk4 : k1 = 2 := by simpa using hk2
    have hr : res = leafE 2 (wrap64 (n1 * n2)) ⟨#[]⟩ := by
      rw [HRES.out]
      unfold twoF
      rw [HHD.out]
      simp [ht, hk4]
    have HR := Lib.hid hr
    clear hr hk4
    go_enter Tryz.func43, Tryz.ntmps43
    go_wp2
    rw [← HW1.out]
    go_region_held3 (fun w' => w'.cell? ⟨w.heap.size, 5, none⟩ = some (.slice (some ad) 2 c3) ∧ w'.cell? (ad) = some (.int .i64 k1) ∧ w'.cell? (⟨ad.block, ad.off + 1, none⟩) = some (.int .i64 n1) ∧ w'.cell? (⟨ad.block, ad.off + 2, none⟩) = some (.string t1) ∧ w'.cell? (⟨ad.block, ad.off + 3, none⟩) = some (.slice x1 u3 d1) ∧ w'.cell? (⟨ad.block, ad.off + 4, none⟩) = some (.slice x2 m1 d2) ∧ w'.cell? (⟨ad.block, ad.off + 5, none⟩) = some (.slice x3 u5 d3) ∧ w'.cell? (⟨ad.block, ad.off + 6, none⟩) = some (.slice x4 u6 d4) ∧ w'.cell? (⟨ad.block, ad.off + 7, none⟩) = some (.int .i64 0) ∧ w'.cell? (⟨ad.block, ad.off + 8, none⟩) = some (.int .i64 k2) ∧ w'.cell? (⟨ad.block, ad.off + 8 + 1, none⟩) = some (.int .i64 n2) ∧ w'.cell? (⟨ad.block, ad.off + 8 + 2, none⟩) = some (.string t2) ∧ w'.cell? (⟨ad.block, ad.off + 8 + 3, none⟩) = some (.slice z1 v3 e1) ∧ w'.cell? (⟨ad.block, ad.off + 8 + 4, none⟩) = some (.slice z2 m2 e2) ∧ w'.cell? (⟨ad.block, ad.off + 8 + 5, none⟩) = some (.slice z3 v5 e3) ∧ w'.cell? (⟨ad.block, ad.off + 8 + 6, none⟩) = some (.slice z4 v6 e4) ∧ w'.cell? (⟨ad.block, ad.off + 8 + 7, none⟩) = some (.int .i64 0)) (go_keep) (fail "none")
    all_goals
      go_wp2
      refine bodyPost_ret (v := agg8L 2 (wrap64 (n1 * n2)) ⟨#[]⟩) (by simp [results, Tryz.results43, go_sem, agg8L, *]) rfl ?_
      rw [HR.out]
      exact leaf_ends (two_below hb1 _ _ _ _ _ _ _ _ _ _)
  · have hk4 : k1 = 2 := by simpa using hk2
    have hr : res = truthE (decide (n1 < n2)) := by
      rw [HRES.out]
      unfold twoF
      rw [HHD.out]
      simp [ht, hk4]
    have HR := Lib.hid hr
    clear hr hk4
    go_enter Tryz.func43, Tryz.ntmps43
    go_wp2
    rw [← HW1.out]
    go_region_held3 (fun w' => w'.cell? ⟨w.heap.size, 5, none⟩ = some (.slice (some ad) 2 c3) ∧ w'.cell? (ad) = some (.int .i64 k1) ∧ w'.cell? (⟨ad.block, ad.off + 1, none⟩) = some (.int .i64 n1) ∧ w'.cell? (⟨ad.block, ad.off + 2, none⟩) = some (.string t1) ∧ w'.cell? (⟨ad.block, ad.off + 3, none⟩) = some (.slice x1 u3 d1) ∧ w'.cell? (⟨ad.block, ad.off + 4, none⟩) = some (.slice x2 m1 d2) ∧ w'.cell? (⟨ad.block, ad.off + 5, none⟩) = some (.slice x3 u5 d3) ∧ w'.cell? (⟨ad.block, ad.off + 6, none⟩) = some (.slice x4 u6 d4) ∧ w'.cell? (⟨ad.block, ad.off + 7, none⟩) = some (.int .i64 0) ∧ w'.cell? (⟨ad.block, ad.off + 8, none⟩) = some (.int .i64 k2) ∧ w'.cell? (⟨ad.block, ad.off + 8 + 1, none⟩) = some (.int .i64 n2) ∧ w'.cell? (⟨ad.block, ad.off + 8 + 2, none⟩) = some (.string t2) ∧ w'.cell? (⟨ad.block, ad.off + 8 + 3, none⟩) = some (.slice z1 v3 e1) ∧ w'.cell? (⟨ad.block, ad.off + 8 + 4, none⟩) = some (.slice z2 m2 e2) ∧ w'.cell? (⟨ad.block, ad.off + 8 + 5, none⟩) = some (.slice z3 v5 e3) ∧ w'.cell? (⟨ad.block, ad.off + 8 + 6, none⟩) = some (.slice z4 v6 e4) ∧ w'.cell? (⟨ad.block, ad.off + 8 + 7, none⟩) = some (.int .i64 0)) (go_keep) (fail "none")
    all_goals
      go_wp2_with (first
        | (go_at_call 42
           (with_reducible refine (truth_says _ _ S).mono ?_)
           rintro e w5 ⟨q5, rfl, hq5, hb5⟩
           have hz5 := (hb5.block (w.heap.size + 1) (by simp; omega)).trans ((heap_alloc_old _ _ (by simp; omega)).trans ((heap_alloc_old _ _ (by omega)).trans HZ2.out))
           clear r0 r1 r2 r3 r4 r5 r6 r7 s0 s1 s2 s3 s4 s5 s6 s7 ga gb
           obtain ⟨⟨r0, r1, r2, r3, r4, r5, r6, r7⟩, s0, s1, s2, s3, s4, s5, s6, s7⟩ := own_eight hz5)
        | fail "none")
      refine bodyPost_ret (v := agg8 (truthE (decide (n1 < n2))) q5) (by simp [results, Tryz.results43, go_sem, agg8, *]) rfl ?_
      rw [HR.out]
      exact truth_close hS hb1 hs1 (((Below.refl _ _).alloc (Nat.le_refl _) _).alloc (by simp) _).drew hq5 hb5 _ _ _ _ _ _ _ _
  · have hk4 : k1 = 2 := by simpa using hk2
    have hn' : n2 = 0 := by simpa using hn
    have hr : res = E := by
      rw [HRES.out]
      unfold twoF
      rw [HHD.out]
      simp [ht, hk4, hn']
    have HR := Lib.hid hr
    clear hr hn' hk4
    go_enter Tryz.func43, Tryz.ntmps43
    go_wp2
    rw [← HW1.out]
    go_region_held3 (fun w' => w'.cell? ⟨w.heap.size, 5, none⟩ = some (.slice (some ad) 2 c3) ∧ w'.cell? (ad) = some (.int .i64 k1) ∧ w'.cell? (⟨ad.block, ad.off + 1, none⟩) = some (.int .i64 n1) ∧ w'.cell? (⟨ad.block, ad.off + 2, none⟩) = some (.string t1) ∧ w'.cell? (⟨ad.block, ad.off + 3, none⟩) = some (.slice x1 u3 d1) ∧ w'.cell? (⟨ad.block, ad.off + 4, none⟩) = some (.slice x2 m1 d2) ∧ w'.cell? (⟨ad.block, ad.off + 5, none⟩) = some (.slice x3 u5 d3) ∧ w'.cell? (⟨ad.block, ad.off + 6, none⟩) = some (.slice x4 u6 d4) ∧ w'.cell? (⟨ad.block, ad.off + 7, none⟩) = some (.int .i64 0) ∧ w'.cell? (⟨ad.block, ad.off + 8, none⟩) = some (.int .i64 k2) ∧ w'.cell? (⟨ad.block, ad.off + 8 + 1, none⟩) = some (.int .i64 n2) ∧ w'.cell? (⟨ad.block, ad.off + 8 + 2, none⟩) = some (.string t2) ∧ w'.cell? (⟨ad.block, ad.off + 8 + 3, none⟩) = some (.slice z1 v3 e1) ∧ w'.cell? (⟨ad.block, ad.off + 8 + 4, none⟩) = some (.slice z2 m2 e2) ∧ w'.cell? (⟨ad.block, ad.off + 8 + 5, none⟩) = some (.slice z3 v5 e3) ∧ w'.cell? (⟨ad.block, ad.off + 8 + 6, none⟩) = some (.slice z4 v6 e4) ∧ w'.cell? (⟨ad.block, ad.off + 8 + 7, none⟩) = some (.int .i64 0)) (go_keep) (fail "none")
    all_goals
      go_wp2
      refine bodyPost_ret (v := .agg #[.int .i64 k, .int .i64 n, .string t, .slice a1 nl c1, .slice a2 m c2, .slice (some ad) 2 c3, .slice a4 ml c4, .int .i64 0]) (by simp [results, Tryz.results43, go_sem, *]) rfl ?_
      rw [HR.out]
      exact HSF.out _ (two_below hb1 _ _ _ _ _ _ _ _ _ _)
  · have hk4 : k1 = 2 := by simpa using hk2
    have hn' : n2 ≠ 0 := by simpa using hn
    have hr : res = leafE 2 (wrap64 (n1.tdiv n2)) ⟨#[]⟩ := by
      rw [HRES.out]
      unfold twoF
      rw [HHD.out]
      simp [ht, hk4, hn']
    have HR := Lib.hid hr
    clear hr hk4
    go_enter Tryz.func43, Tryz.ntmps43
    go_wp2
    rw [← HW1.out]
    go_region_held3 (fun w' => w'.cell? ⟨w.heap.size, 5, none⟩ = some (.slice (some ad) 2 c3) ∧ w'.cell? (ad) = some (.int .i64 k1) ∧ w'.cell? (⟨ad.block, ad.off + 1, none⟩) = some (.int .i64 n1) ∧ w'.cell? (⟨ad.block, ad.off + 2, none⟩) = some (.string t1) ∧ w'.cell? (⟨ad.block, ad.off + 3, none⟩) = some (.slice x1 u3 d1) ∧ w'.cell? (⟨ad.block, ad.off + 4, none⟩) = some (.slice x2 m1 d2) ∧ w'.cell? (⟨ad.block, ad.off + 5, none⟩) = some (.slice x3 u5 d3) ∧ w'.cell? (⟨ad.block, ad.off + 6, none⟩) = some (.slice x4 u6 d4) ∧ w'.cell? (⟨ad.block, ad.off + 7, none⟩) = some (.int .i64 0) ∧ w'.cell? (⟨ad.block, ad.off + 8, none⟩) = some (.int .i64 k2) ∧ w'.cell? (⟨ad.block, ad.off + 8 + 1, none⟩) = some (.int .i64 n2) ∧ w'.cell? (⟨ad.block, ad.off + 8 + 2, none⟩) = some (.string t2) ∧ w'.cell? (⟨ad.block, ad.off + 8 + 3, none⟩) = some (.slice z1 v3 e1) ∧ w'.cell? (⟨ad.block, ad.off + 8 + 4, none⟩) = some (.slice z2 m2 e2) ∧ w'.cell? (⟨ad.block, ad.off + 8 + 5, none⟩) = some (.slice z3 v5 e3) ∧ w'.cell? (⟨ad.block, ad.off + 8 + 6, none⟩) = some (.slice z4 v6 e4) ∧ w'.cell? (⟨ad.block, ad.off + 8 + 7, none⟩) = some (.int .i64 0)) (go_keep) (fail "none")
    all_goals
      go_wp2
      refine bodyPost_ret (v := agg8L 2 (wrap64 (n1.tdiv n2)) ⟨#[]⟩) (by simp [results, Tryz.results43, go_sem, agg8L, *]) rfl ?_
      rw [HR.out]
      exact leaf_ends (two_below hb1 _ _ _ _ _ _ _ _ _ _)
  · have hk4 : k1 = 2 := by simpa using hk2
    have hn' : n2 = 0 := by simpa using hn
    have hr : res = E := by
      rw [HRES.out]
      unfold twoF
      rw [HHD.out]
      simp [ht, hk4, hn']
    have HR := Lib.hid hr
    clear hr hn' hk4
    go_enter Tryz.func43, Tryz.ntmps43
    go_wp2
    rw [← HW1.out]
    go_region_held3 (fun w' => w'.cell? ⟨w.heap.size, 5, none⟩ = some (.slice (some ad) 2 c3) ∧ w'.cell? (ad) = some (.int .i64 k1) ∧ w'.cell? (⟨ad.block, ad.off + 1, none⟩) = some (.int .i64 n1) ∧ w'.cell? (⟨ad.block, ad.off + 2, none⟩) = some (.string t1) ∧ w'.cell? (⟨ad.block, ad.off + 3, none⟩) = some (.slice x1 u3 d1) ∧ w'.cell? (⟨ad.block, ad.off + 4, none⟩) = some (.slice x2 m1 d2) ∧ w'.cell? (⟨ad.block, ad.off + 5, none⟩) = some (.slice x3 u5 d3) ∧ w'.cell? (⟨ad.block, ad.off + 6, none⟩) = some (.slice x4 u6 d4) ∧ w'.cell? (⟨ad.block, ad.off + 7, none⟩) = some (.int .i64 0) ∧ w'.cell? (⟨ad.block, ad.off + 8, none⟩) = some (.int .i64 k2) ∧ w'.cell? (⟨ad.block, ad.off + 8 + 1, none⟩) = some (.int .i64 n2) ∧ w'.cell? (⟨ad.block, ad.off + 8 + 2, none⟩) = some (.string t2) ∧ w'.cell? (⟨ad.block, ad.off + 8 + 3, none⟩) = some (.slice z1 v3 e1) ∧ w'.cell? (⟨ad.block, ad.off + 8 + 4, none⟩) = some (.slice z2 m2 e2) ∧ w'.cell? (⟨ad.block, ad.off + 8 + 5, none⟩) = some (.slice z3 v5 e3) ∧ w'.cell? (⟨ad.block, ad.off + 8 + 6, none⟩) = some (.slice z4 v6 e4) ∧ w'.cell? (⟨ad.block, ad.off + 8 + 7, none⟩) = some (.int .i64 0)) (go_keep) (fail "none")
    all_goals
      go_wp2
      refine bodyPost_ret (v := .agg #[.int .i64 k, .int .i64 n, .string t, .slice a1 nl c1, .slice a2 m c2, .slice (some ad) 2 c3, .slice a4 ml c4, .int .i64 0]) (by simp [results, Tryz.results43, go_sem, *]) rfl ?_
      rw [HR.out]
      exact HSF.out _ (two_below hb1 _ _ _ _ _ _ _ _ _ _)
  · have hk4 : k1 = 2 := by simpa using hk2
    have hn' : n2 ≠ 0 := by simpa using hn
    have hr : res = leafE 2 (n1.tmod n2) ⟨#[]⟩ := by
      rw [HRES.out]
      unfold twoF
      rw [HHD.out]
      simp [ht, hk4, hn']
    have HR := Lib.hid hr
    clear hr hk4
    go_enter Tryz.func43, Tryz.ntmps43
    go_wp2
    rw [← HW1.out]
    go_region_held3 (fun w' => w'.cell? ⟨w.heap.size, 5, none⟩ = some (.slice (some ad) 2 c3) ∧ w'.cell? (ad) = some (.int .i64 k1) ∧ w'.cell? (⟨ad.block, ad.off + 1, none⟩) = some (.int .i64 n1) ∧ w'.cell? (⟨ad.block, ad.off + 2, none⟩) = some (.string t1) ∧ w'.cell? (⟨ad.block, ad.off + 3, none⟩) = some (.slice x1 u3 d1) ∧ w'.cell? (⟨ad.block, ad.off + 4, none⟩) = some (.slice x2 m1 d2) ∧ w'.cell? (⟨ad.block, ad.off + 5, none⟩) = some (.slice x3 u5 d3) ∧ w'.cell? (⟨ad.block, ad.off + 6, none⟩) = some (.slice x4 u6 d4) ∧ w'.cell? (⟨ad.block, ad.off + 7, none⟩) = some (.int .i64 0) ∧ w'.cell? (⟨ad.block, ad.off + 8, none⟩) = some (.int .i64 k2) ∧ w'.cell? (⟨ad.block, ad.off + 8 + 1, none⟩) = some (.int .i64 n2) ∧ w'.cell? (⟨ad.block, ad.off + 8 + 2, none⟩) = some (.string t2) ∧ w'.cell? (⟨ad.block, ad.off + 8 + 3, none⟩) = some (.slice z1 v3 e1) ∧ w'.cell? (⟨ad.block, ad.off + 8 + 4, none⟩) = some (.slice z2 m2 e2) ∧ w'.cell? (⟨ad.block, ad.off + 8 + 5, none⟩) = some (.slice z3 v5 e3) ∧ w'.cell? (⟨ad.block, ad.off + 8 + 6, none⟩) = some (.slice z4 v6 e4) ∧ w'.cell? (⟨ad.block, ad.off + 8 + 7, none⟩) = some (.int .i64 0)) (go_keep) (fail "none")
    all_goals
      go_wp2
      refine bodyPost_ret (v := agg8L 2 (n1.tmod n2) ⟨#[]⟩) (by simp [results, Tryz.results43, go_sem, agg8L, *]) rfl ?_
      rw [HR.out]
      exact leaf_ends (two_below hb1 _ _ _ _ _ _ _ _ _ _)
  · have hk4 : k1 = 2 := by simpa using hk2
    have q0 : t.toList ≠ [61] := by simpa using ht
    have q1 : t.toList ≠ [43] := by simpa using ht1
    have q2 : t.toList ≠ [45] := by simpa using ht2
    have q3 : t.toList ≠ [42] := by simpa using ht3
    have q4 : t.toList ≠ [60] := by simpa using ht4
    have q5 : t.toList ≠ [47] := by simpa using ht5
    have q6 : t.toList ≠ [37] := by simpa using ht6
    have hr : res = E := by
      rw [HRES.out]
      unfold twoF
      rw [HHD.out]
      simp [hk4, q0, q1, q2, q3, q4, q5, q6]
    have HR := Lib.hid hr
    clear hr hk4 q0 q1 q2 q3 q4 q5 q6
    go_enter Tryz.func43, Tryz.ntmps43
    go_wp2
    rw [← HW1.out]
    go_region_held3 (fun w' => w'.cell? ⟨w.heap.size, 5, none⟩ = some (.slice (some ad) 2 c3) ∧ w'.cell? (ad) = some (.int .i64 k1) ∧ w'.cell? (⟨ad.block, ad.off + 1, none⟩) = some (.int .i64 n1) ∧ w'.cell? (⟨ad.block, ad.off + 2, none⟩) = some (.string t1) ∧ w'.cell? (⟨ad.block, ad.off + 3, none⟩) = some (.slice x1 u3 d1) ∧ w'.cell? (⟨ad.block, ad.off + 4, none⟩) = some (.slice x2 m1 d2) ∧ w'.cell? (⟨ad.block, ad.off + 5, none⟩) = some (.slice x3 u5 d3) ∧ w'.cell? (⟨ad.block, ad.off + 6, none⟩) = some (.slice x4 u6 d4) ∧ w'.cell? (⟨ad.block, ad.off + 7, none⟩) = some (.int .i64 0) ∧ w'.cell? (⟨ad.block, ad.off + 8, none⟩) = some (.int .i64 k2) ∧ w'.cell? (⟨ad.block, ad.off + 8 + 1, none⟩) = some (.int .i64 n2) ∧ w'.cell? (⟨ad.block, ad.off + 8 + 2, none⟩) = some (.string t2) ∧ w'.cell? (⟨ad.block, ad.off + 8 + 3, none⟩) = some (.slice z1 v3 e1) ∧ w'.cell? (⟨ad.block, ad.off + 8 + 4, none⟩) = some (.slice z2 m2 e2) ∧ w'.cell? (⟨ad.block, ad.off + 8 + 5, none⟩) = some (.slice z3 v5 e3) ∧ w'.cell? (⟨ad.block, ad.off + 8 + 6, none⟩) = some (.slice z4 v6 e4) ∧ w'.cell? (⟨ad.block, ad.off + 8 + 7, none⟩) = some (.int .i64 0)) (go_keep) (fail "none")
    all_goals
      go_wp2
      refine bodyPost_ret (v := .agg #[.int .i64 k, .int .i64 n, .string t, .slice a1 nl c1, .slice a2 m c2, .slice (some ad) 2 c3, .slice a4 ml c4, .int .i64 0]) (by simp [results, Tryz.results43, go_sem, *]) rfl ?_
      rw [HR.out]
      exact HSF.out _ (two_below hb1 _ _ _ _ _ _ _ _ _ _)
end Go.Proofs.YtiinghgfojicdaaGreat
