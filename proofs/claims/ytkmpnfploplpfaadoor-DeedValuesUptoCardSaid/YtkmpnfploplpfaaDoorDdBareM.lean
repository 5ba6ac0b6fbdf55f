/- A part of the proofs of the laws of the deeds: BareM. -/
import Derived.Test.YtkmpnfploplpfaaDoorDdBare
set_option linter.unusedVariables false
set_option linter.unusedSimpArgs false
namespace Go.Proofs.YtkmpnfploplpfaaDoor
open Go.RowKit Go.Deed Go.RowG
attribute [local go_sem ↓] Go.wp_at_zero Go.wp_at_succ
set_option linter.unusedVariables false

theorem bareF_cons (k n : Int) (t : ByteArray) (a r : F) : bareF (.cons k n t a r) = .cons k (bareV k n t a).n (bareV k n t a).t (bareV k n t a).a (bareF r) := rfl
theorem snoc_app (k n : Int) (t : ByteArray) (a r : F) : ∀ f : F, (f.snoc k n t a).app r = f.app (.cons k n t a r)
  | .nil => rfl
  | .cons _ _ _ _ f => by simp only [F.snoc, F.app, snoc_app k n t a r f]

set_option maxRecDepth 100000 in
set_option maxHeartbeats 4000000 in
theorem bare_make (n : Int) (t : ByteArray) (a : F) (hQ : Each BareSaid a) (A : Option Addr) (c : Nat) (w : World) (h : RowAt w (lt w) A a) (hc : a.len ≤ c) (hcm : c ≤ maxLen) (hw : wt a ≤ 100000000) : Calls Tryd.prog 12 #[agg4 5 n t A a.len c] w (BareEnds ⟨5, 0, t, bareF a⟩ w) := by
  obtain ⟨m, hm⟩ : ∃ m, m = a.len := ⟨_, rfl⟩
  have hml : m ≤ 10000000 := by have := len_wt a; omega
  have hrest := h.rest
  obtain ⟨res, hres⟩ : ∃ res, res = bareF a := ⟨_, rfl⟩
  have hrl : res.len = m := by rw [hres, bareF_len, hm]
  rw [← hm] at hrest hc
  rw [← hm, ← hres]
  have HRES := Lib.hid hres
  clear hm h hres
  go_enter Tryd.func12, Tryd.ntmps12
  go_wp2
  go_loopw [31] (fun i wr => ∃ (j : Nat) (acc r : F) (v : Value), j ≤ m ∧ i = .int .i64 j ∧ acc.len = j ∧ acc.app (bareF r) = res ∧ wt r ≤ 100000000 ∧ Each BareSaid r ∧ Deed.Rest w (lt w) A m j r ∧ Own4 wr (w.heap.size + 1) 34 (.int .i64 0) (.int .i64 0) (.string ⟨#[]⟩) (.slice none 0 0) ∧
    Own4 wr (w.heap.size + 1 + 1) 34 (.int .i64 5) (.int .i64 0) (.string t) v ∧ OwnF 34 wr (w.heap.size + 1 + 1 + 1) v acc ∧ Below w.heap.size w wr) (fun i _ => m - (intOf i).toNat)
  case atStart =>
    refine ⟨0, .nil, a, .slice none 0 0, Nat.zero_le _, rfl, rfl, HRES.out.symm, hw, hQ, hrest, ?_, ?_, OwnF.nil _ _ _, below3 w _ _ _⟩
    · have := heap_alloc_new (w.alloc (.cells #[.int .i64 5, .int .i64 n, .string t, .slice A m c] 34)) (.cells #[.int .i64 0, .int .i64 0, .string ⟨#[]⟩, .slice none 0 0] 34)
      have e : (w.alloc (.cells #[.int .i64 5, .int .i64 n, .string t, .slice A m c] 34)).heap.size = w.heap.size + 1 := by simp
      rw [e] at this
      exact Own4.alloc this _
    · have := heap_alloc_new ((w.alloc (.cells #[.int .i64 5, .int .i64 n, .string t, .slice A m c] 34)).alloc (.cells #[.int .i64 0, .int .i64 0, .string ⟨#[]⟩, .slice none 0 0] 34)) (.cells #[.int .i64 5, .int .i64 0, .string t, .slice none 0 0] 34)
      have e : ((w.alloc (.cells #[.int .i64 5, .int .i64 n, .string t, .slice A m c] 34)).alloc (.cells #[.int .i64 0, .int .i64 0, .string ⟨#[]⟩, .slice none 0 0] 34)).heap.size = w.heap.size + 1 + 1 := by simp
      rw [e] at this
      exact this
  case round =>
    obtain ⟨j, acc, r, v, hj, rfl, haj, hap, hwr, hq, hre, hY, hZ, hown, hb⟩ := hrel
    have hbs := hb.size
    have hyl := hY.lt
    have hzl := hZ.lt
    obtain ⟨⟨y0, y1, y2, y3⟩, g0, g1, g2, g3⟩ := hY.cells
    obtain ⟨⟨z0, z1, z2, z3⟩, f0, f1, f2, f3⟩ := hZ.cells
    cases r with
    | nil =>
      obtain rfl : j = m := by have := hre.1; simp only [F.len] at this; omega
      simp only [bareF, F.app_nil] at hap
      subst hap
      obtain ⟨A5, c5, rfl, h51, h52, hrow⟩ := hown.row
      rw [haj] at z3
      clear hwr
      go_wp2
      refine bodyPost_ret (v := agg4 5 0 t A5 j c5) (by simp [results, Tryd.results12, go_sem, agg4, *]) rfl ?_
      refine ⟨fill4_below (z := w.heap.size + 1) hb (by omega) _ _ _ _, A5, c5, by rw [haj], ?_, h51, h52⟩
      refine hrow.keep (fun b hb => ⟨by have := hb.1; omega, by have := hb.2; simpa [World.setCell] using this⟩) fun p hp => World.cell?_of_block ?_
      have hne : p.block ≠ w.heap.size + 1 := by have := hp.1; omega
      show (fill4 wr (w.heap.size + 1) (.int .i64 5) (.int .i64 0) (.string t) (.slice A5 j c5)).heap[p.block]? = _
      unfold fill4
      rw [Below.heap_setCell _ _ _ _ hne, Below.heap_setCell _ _ _ _ hne, Below.heap_setCell _ _ _ _ hne, Below.heap_setCell _ _ _ _ hne]
    | cons k' n' t' a' r' =>
      have hlt : j < m := by have := hre.1; simp only [F.len] at this; omega
      obtain ⟨ad, R, rc, rfl, hab, hc0, hc1, hc2, hc3, hrl1, hrm1, hra, hre'⟩ := hre.step
      obtain ⟨hq1, hq2⟩ := hq
      simp only [wt] at hwr
      rw [bareF_cons] at hap
      have hcall : ∀ W : World, Below w.heap.size w W → Calls Tryd.prog 12 #[agg4 k' n' t' R a'.len rc] W (BareEnds (bareV k' n' t' a') W) := fun W hW =>
        hq1 R rc W (hra.below hW) hrl1 hrm1 (by omega)
      obtain ⟨m', hm'⟩ : ∃ m', m' = a'.len := ⟨_, rfl⟩
      rw [← hm'] at hcall hc3
      obtain ⟨bv, hbv⟩ : ∃ bv, bv = bareV k' n' t' a' := ⟨_, rfl⟩
      have hbk : bv.k = k' := by rw [hbv]; rfl
      rw [← hbv] at hcall hap
      obtain ⟨k2, n2, t2, a2⟩ := bv
      simp only at hbk hap
      subst hbk
      clear hq1 hm' hbv hra hrl1 hrm1
      have d0 := (hb.cell (p := ad.add (j * 4)) (by rw [add_block]; exact hab)).trans hc0
      have d1 := (hb.cell (p := ⟨(ad.add (j * 4)).block, (ad.add (j * 4)).off + 1, none⟩) (by rw [add_block]; exact hab)).trans hc1
      have d2 := (hb.cell (p := ⟨(ad.add (j * 4)).block, (ad.add (j * 4)).off + 2, none⟩) (by rw [add_block]; exact hab)).trans hc2
      have d3 := (hb.cell (p := ⟨(ad.add (j * 4)).block, (ad.add (j * 4)).off + 3, none⟩) (by rw [add_block]; exact hab)).trans hc3
      clear hc0 hc1 hc2 hc3
      obtain ⟨A, c, hvA, hcc, hccm, _⟩ := hown.row
      have hvl : v = .slice A j c := by rw [← haj]; exact hvA
      subst hvl
      clear hvA
      go_wp2
      go_region_law (first
        | (refine step_append_onez valTy (by decide) w3 [.int .i64 k2, .int .i64 n2, .string t2, .slice A4 a2.len c4] 34 w3.heap.size rfl rfl (.tmp 36) (.tmp 39) rfl (w.heap.size + 1 + 1 + 1) _ j xs (by simp [Act.eval]) hownr (by simp [Act.eval]) rfl (by simp [Value.oneCell']) (by omega) (by omega) ?_
           intro v5 w5 hown5 hg5 hv5
           obtain ⟨A5, c5, rfl, h51, h52, _⟩ := CellsAt.of_own hown5
           have hZ5 := (hZ3.alloc (.cells #[.int .i64 k2, .int .i64 n2, .string t2, .slice A4 a2.len c4] 34)).grown hg5 hne0
           have hY5 := (hY3.alloc (.cells #[.int .i64 k2, .int .i64 n2, .string t2, .slice A4 a2.len c4] 34)).grown hg5 hne1
           obtain ⟨⟨p0, p1, p2, p3⟩, q0, q1, q2, q3⟩ := hZ5.cells)
        | (go_simp
           go_at_call 12
           (with_reducible refine (hcall _ (hb.alloc hbs _).drew).mono ?_)
           rintro e w3 ⟨hb3, A4, c4, rfl, hrow4, hc4, hc4'⟩
           have hZ3 := Own4.keep (w := (wr.alloc (.cells #[.int .i64 k2, .int .i64 n', .string t', .slice R m' rc] 34)).drew) (hZ.alloc _) hb3
           have hY3 := Own4.keep (w := (wr.alloc (.cells #[.int .i64 k2, .int .i64 n', .string t', .slice R m' rc] 34)).drew) (hY.alloc _) hb3
           obtain ⟨⟨r0, r1, r2, r3⟩, l0, l1, l2, l3⟩ := hZ3.cells
           obtain ⟨xs, hownr, hfc⟩ := OwnF.kept (w := (wr.alloc (.cells #[.int .i64 k2, .int .i64 n', .string t', .slice R m' rc] 34)).drew) (hown.kept ((Below.refl _ _).alloc (Nat.le_refl _) _).drew) hb3
           rw [haj] at hownr
           have hne0 : some (w.heap.size + 1 + 1) ≠ (Value.slice A j c).ownBlock := fun e => by have := (hownr.lt _ e.symm).1; omega
           have hne1 : some (w.heap.size + 1) ≠ (Value.slice A j c).ownBlock := fun e => by have := (hownr.lt _ e.symm).1; omega
           have hs3 : wr.heap.size + 1 ≤ w3.heap.size := by have := hb3.size; simpa using this
           have hzl3 : w.heap.size + 1 + 1 < w3.heap.size := by omega
           skip))
      all_goals
        go_wp2
        go_roundw
        case measure => simp [intOf]; omega
        case rel =>
          have hb2' : Below w.heap.size w w3 := (hb.alloc hbs _).drew.trans (hb3.mono (by simp; omega))
          have hlow := fun gg (hg : (Value.slice A j c).ownBlock = some gg) => (hownr.lt gg hg).1
          have hlt0 : ∀ gg, (Value.slice A j c).ownBlock = some gg → gg < wr.heap.size := fun gg hg => by
            obtain ⟨_, hw0, _⟩ := hown
            exact (hw0.lt gg hg).2
          refine ⟨j + 1, acc.snoc k2 n2 t2 a2, r', _, by omega, by go_num, by rw [F.snoc_len]; omega, by rw [snoc_app]; exact hap, by omega, hq2, hre', hY5.setOther (by simp) _, hZ5.set3 _, ?_, ?_⟩
          · have hsn := OwnF.snoc (e := 34) (o := .cells #[.int .i64 k2, .int .i64 n2, .string t2, .slice A4 a2.len c4] 34) (R := A4) (c := c4) hfc hc4 hc4' (RowAt.keep hrow4 (fun b hb => ⟨by have := hb.1; simp at this; omega, hb.2, fun e => by
                have := hlt0 b e.symm
                have := hb.1
                simp at this
                omega⟩) fun p hp => rfl) (by rw [haj]; exact hown5) hg5 hv5
            exact hsn.setCell (by show w.heap.size + 1 + 1 < _; omega) _
          · exact (((hb2'.alloc hb2'.size _).grown hg5 (by simp; omega) (fun gg hg => by have := hlow gg hg; omega)).setCell (by show w.heap.size ≤ w.heap.size + 1 + 1; omega) _)
theorem bare_rec (k n : Int) (t : ByteArray) (a : F) (hQ : Each BareSaid a) : BareSaid k n t a := by
  intro A c w h hc hcm hw
  by_cases hnum : k = 2 ∨ k = 3 ∨ k = 6
  · have e : bareV k n t a = ⟨k, n, toB [], .nil⟩ := by
      unfold bareV
      rw [if_pos hnum, if_neg (by omega), if_neg (by omega)]
    rw [e]
    exact bare_num k n t _ hnum A c w
  by_cases h4 : k = 4
  · subst h4
    exact bare_text n t _ A c w
  by_cases h5 : k = 5
  · subst h5
    exact bare_make n t a hQ A c w h hc hcm hw
  have e : bareV k n t a = ⟨k, 0, toB [], .nil⟩ := by
    unfold bareV
    rw [if_neg hnum, if_neg (by omega), if_neg h5]
  rw [e]
  exact bare_other k n t _ (by omega) (by omega) h4 h5 (by omega) A c w
theorem bare_all : ∀ a : F, Each BareSaid a := each_of bare_rec
theorem bare_says (k n : Int) (t : ByteArray) (a : F) : BareSaid k n t a := bare_rec k n t a (bare_all a)
end Go.Proofs.YtkmpnfploplpfaaDoor
