/- arms.part: the part of a value at a path. No conditions. -/
import Derived.Test.YtiinghgfojicdaaGreatArPlain
import Derived.Test.YtiinghgfojicdaaGreatArSmall
import Derived.Test.YtiinghgfojicdaaGreatArBinds
set_option linter.unusedVariables false
set_option linter.unusedSimpArgs false
namespace Go.Proofs.YtiinghgfojicdaaGreat
open Go.RowKit Go.RowG Go.FRow Go.GMem
set_option linter.unusedVariables false
set_option maxRecDepth 100000
attribute [local go_sem ↓] Go.wp_at_zero Go.wp_at_succ

theorem nth_cells {w : World} {S : Nat → Prop} : ∀ {f : F} {ad : Addr} {i : Nat}, FRow.FAt w S f ad → i < f.len → ∃ k n t a R c, nthF f i = some ⟨k, n, t, a⟩ ∧ w.cell? (ad.add (i * 4)) = some (.int .i64 k) ∧ w.cell? ⟨(ad.add (i * 4)).block, (ad.add (i * 4)).off + 1, none⟩ = some (.int .i64 n) ∧
    w.cell? ⟨(ad.add (i * 4)).block, (ad.add (i * 4)).off + 2, none⟩ = some (.string t) ∧ w.cell? ⟨(ad.add (i * 4)).block, (ad.add (i * 4)).off + 3, none⟩ = some (.slice R a.len c) ∧ a.len ≤ c ∧ c ≤ maxLen ∧ FRow.RowAt w S R a ∧ a.nodes ≤ f.nodes
  | .nil, _, _, _, h => by simp [F.len] at h
  | .cons k n t a r, ad, 0, ⟨h0, h1, h2, ⟨A, c, h3, h4, h5, h6⟩, hr⟩, _ => by
    have e : ad.add (0 * 4) = ad := by simp [Addr.add]
    rw [e]
    exact ⟨k, n, t, a, A, c, rfl, h0, h1, h2, h3, h4, h5, h6, by simp only [F.nodes]; omega⟩
  | .cons k n t a r, ad, i + 1, ⟨h0, h1, h2, h3, hr⟩, hl => by
    obtain ⟨k', n', t', a', R, c, e, c0, c1, c2, c3, c4, c5, c6, c7⟩ := nth_cells (i := i) hr (by simp only [F.len] at hl; omega)
    rw [add_plus, show 4 + i * 4 = (i + 1) * 4 by omega] at c0 c1 c2 c3
    exact ⟨k', n', t', a', R, c, e, c0, c1, c2, c3, c4, c5, c6, by simp only [F.nodes]; omega⟩
theorem nth_none : ∀ {f : F} {i : Nat}, f.len ≤ i → nthF f i = none
  | .nil, _, _ => rfl
  | .cons _ _ _ _ r, 0, h => by simp [F.len] at h
  | .cons _ _ _ _ r, i + 1, h => by
    simp only [nthF]
    exact nth_none (by simp only [F.len] at h; omega)
def PartEnds (res : Option Vl) (w : World) (e : Ending) (w' : World) : Prop :=
  (match res with
  | none => e = .returned (.tuple #[agg4 0 0 ⟨#[]⟩ none 0 0, .bool false])
  | some u => u.a.nodes ≤ 100000 ∧ ∃ R c, e = .returned (.tuple #[agg4 u.k u.n u.t R u.a.len c, .bool true])) ∧ Below w.heap.size w w'
theorem part_drop {u : Vl} {P : List Nat} {j x : Nat} (h : P[j]? = some x) : partV u (P.drop j) = if u.k = 5 then (match nthF u.a x with | some y => partV y (P.drop (j + 1)) | none => none) else none := by
  have hj : j < P.length := (List.getElem?_eq_some_iff.1 h).1
  have hx : P[j] = x := (List.getElem?_eq_some_iff.1 h).2
  rw [List.drop_eq_getElem_cons hj, hx]
  rfl

set_option maxHeartbeats 4000000 in
theorem part_says (P : List Nat) (A : Option Addr) (c : Nat) (vk vn : Int) (vt : ByteArray) (va : F) (A' : Option Addr) (c' : Nat) (w : World) (hP : GRow w (lt w) A P.length (encI P)) (hlen : P.length ≤ 1000) (hV : RowAt w w.heap.size A' va) (hc' : va.len ≤ c') (hm' : c' ≤ maxLen) (hn : va.nodes ≤ 100000) :
    Calls Tryz.prog 54 #[agg4 vk vn vt A' va.len c', .slice A P.length c] w (PartEnds (partV ⟨vk, vn, vt, va⟩ P) w) := by
  obtain ⟨m, hm⟩ : ∃ m, m = P.length := ⟨_, rfl⟩
  obtain ⟨vl, hvl⟩ : ∃ vl, vl = va.len := ⟨_, rfl⟩
  obtain ⟨res, hres⟩ : ∃ res, res = partV ⟨vk, vn, vt, va⟩ P := ⟨_, rfl⟩
  have HP := Lib.hid hP
  have HRES := Lib.hid hres
  have HM := Lib.hid hm
  have HVL := Lib.hid hvl
  rw [← hm, ← hres, ← hvl]
  rw [← hm] at hlen
  rw [← hvl] at hc'
  obtain ⟨W1, hW1⟩ : ∃ W1, W1 = (w.alloc (.cells #[.int .i64 vk, .int .i64 vn, .string vt, .slice A' vl c'] 29)).alloc (.cells #[.int .i64 0, .int .i64 0, .string ⟨#[]⟩, .slice none 0 0] 29) := ⟨_, rfl⟩
  have hb1 : Below w.heap.size w W1 := by rw [hW1]; exact ((Below.refl _ _).alloc (Nat.le_refl _) _).alloc (by simp) _
  have hq1 : Own4 W1 w.heap.size 29 (.int .i64 vk) (.int .i64 vn) (.string vt) (.slice A' vl c') := by rw [hW1]; exact Own4.alloc (heap_alloc_new w _) _
  have hz1 : Own4 W1 (w.heap.size + 1) 29 (.int .i64 0) (.int .i64 0) (.string ⟨#[]⟩) (.slice none 0 0) := by
    rw [hW1]
    have := heap_alloc_new (w.alloc (.cells #[.int .i64 vk, .int .i64 vn, .string vt, .slice A' vl c'] 29)) (.cells #[.int .i64 0, .int .i64 0, .string ⟨#[]⟩, .slice none 0 0] 29)
    simpa [Own4] using this
  have HW1 := Lib.hid hW1
  clear hW1 hP hres hm hvl
  unfold agg4
  go_enter Tryz.func54, Tryz.ntmps54
  go_wp2
  go_loopw [10] (fun i wr => ∃ (j : Nat) (uk un : Int) (ut : ByteArray) (ua : F) (R : Option Addr) (ul rc : Nat), j ≤ m ∧ i = .int .i64 j ∧ Own4 wr w.heap.size 29 (.int .i64 uk) (.int .i64 un) (.string ut) (.slice R ul rc) ∧ ul = ua.len ∧ ul ≤ rc ∧ rc ≤ maxLen ∧ RowAt w w.heap.size R ua ∧ ua.nodes ≤ 100000 ∧ partV ⟨uk, un, ut, ua⟩ (P.drop j) = res ∧ Own4 wr (w.heap.size + 1) 29 (.int .i64 0) (.int .i64 0) (.string ⟨#[]⟩) (.slice none 0 0) ∧ Below w.heap.size w wr) (fun i _ => m - (intOf i).toNat)
  case atStart => exact ⟨0, vk, vn, vt, va, A', vl, c', Nat.zero_le _, rfl, by rw [← HW1.out]; exact hq1, HVL.out, hc', hm', hV, hn, HRES.out.symm, by rw [← HW1.out]; exact hz1, by rw [← HW1.out]; exact hb1⟩
  case round =>
    obtain ⟨j, uk, un, ut, ua, R, ul, rc, hj, rfl, hq, hul, hur, hrm, hU, hun, hre, hz, hb⟩ := hrel
    have hbs := hb.size
    have hzl := hz.lt
    obtain ⟨⟨y0, y1, y2, y3⟩, g0, g1, g2, g3⟩ := hq.cells
    obtain ⟨⟨z0, z1, z2, z3⟩, f0, f1, f2, f3⟩ := hz.cells
    have hul5 : ul ≤ 100000 := by have := ua.len_nodes; omega
    by_cases hjm : j < m
    · have hjm' : (j : Int) < (m : Int) := by omega
      have hj0 : (0 : Int) ≤ (j : Int) := Int.natCast_nonneg _
      obtain ⟨ad, x, rfl, hab, hx, hcx⟩ := GRow.int_at HP.out (k := j) (by rw [← HM.out]; exact hjm)
      have d0 := (hb.cell (p := ad.add j) (by rw [add_block]; exact hab)).trans hcx
      rw [part_drop hx] at hre
      have hx0 : (0 : Int) ≤ (x : Int) := Int.natCast_nonneg _
      have hxd : decide ((x : Int) < 0) = false := decide_eq_false (by omega)
      by_cases hk : uk = 5
      · subst hk
        rw [if_pos rfl] at hre
        by_cases hxl : x < ul
        · have hxl' : (x : Int) < (ul : Int) := by omega
          have hxd2 : decide ((ul : Int) ≤ (x : Int)) = false := decide_eq_false (by omega)
          have hxd3 : decide (ul ≤ x) = false := decide_eq_false (by omega)
          obtain ⟨ad2, rfl, hab2, hfa⟩ := hU (by omega)
          obtain ⟨k2, n2, t2, a2, R2, c2, hn2, c0, c1, c2', c3, h4, h5, h6, h7⟩ := nth_cells hfa (by rw [← hul]; exact hxl)
          simp only [] at hre
          rw [hn2] at hre
          simp only [] at hre
          have e0 := (hb.cell (p := ad2.add (x * 4)) (by rw [add_block]; exact hab2)).trans c0
          have e1 := (hb.cell (p := ⟨(ad2.add (x * 4)).block, (ad2.add (x * 4)).off + 1, none⟩) (by rw [add_block]; exact hab2)).trans c1
          have e2 := (hb.cell (p := ⟨(ad2.add (x * 4)).block, (ad2.add (x * 4)).off + 2, none⟩) (by rw [add_block]; exact hab2)).trans c2'
          have e3 := (hb.cell (p := ⟨(ad2.add (x * 4)).block, (ad2.add (x * 4)).off + 3, none⟩) (by rw [add_block]; exact hab2)).trans c3
          obtain ⟨l2, hl2⟩ : ∃ l2, l2 = a2.len := ⟨_, rfl⟩
          rw [← hl2] at e3 h4
          have HRE := Lib.hid hre
          have HL2 := Lib.hid hl2
          clear c0 c1 c2' c3 hre hl2 hul hn2 hfa hU
          go_wp2
          go_roundw
          case measure => simp [intOf]; omega
          case rel =>
            refine ⟨j + 1, k2, n2, t2, a2, R2, l2, c2, by omega, by go_num, fill4_own hq _ _ _ _, HL2.out, h4, h5, h6, by omega, HRE.out, ?_, fill4_below hb (Nat.le_refl _) _ _ _ _⟩
            exact (fill4_far wr w.heap.size _ _ _ _ (by omega)).trans hz
        · have hxl' : (ul : Int) ≤ (x : Int) := by omega
          have hxd2 : decide ((ul : Int) ≤ (x : Int)) = true := decide_eq_true hxl'
          have hxd3 : decide (ul ≤ x) = true := decide_eq_true (by omega)
          simp only [] at hre
          rw [nth_none (by omega)] at hre
          simp only [] at hre
          have HRE := Lib.hid hre
          clear hre hul
          go_wp2
          refine bodyPost_ret (v := .tuple #[agg4 0 0 ⟨#[]⟩ none 0 0, .bool false]) (by simp [results, Tryz.results54, go_sem, agg4, *]) rfl ?_
          rw [← HRE.out]
          exact ⟨rfl, fill4_below hb (by omega) _ _ _ _⟩
      · have hk5 : (uk != 5) = true := by simpa using hk
        rw [if_neg hk] at hre
        have HRE := Lib.hid hre
        clear hre hul hk
        go_wp2
        refine bodyPost_ret (v := .tuple #[agg4 0 0 ⟨#[]⟩ none 0 0, .bool false]) (by simp [results, Tryz.results54, go_sem, agg4, *]) rfl ?_
        rw [← HRE.out]
        exact ⟨rfl, fill4_below hb (by omega) _ _ _ _⟩
    · obtain rfl : j = m := by omega
      have hdr : P.drop j = [] := by rw [HM.out, List.drop_length]
      rw [hdr] at hre
      simp only [partV] at hre
      have HRE := Lib.hid hre
      have HUL := Lib.hid hul
      clear hre hul
      go_wp2
      refine bodyPost_ret (v := .tuple #[agg4 uk un ut R ul rc, .bool true]) (by simp [results, Tryz.results54, go_sem, agg4, *]) rfl ?_
      rw [← HRE.out, HUL.out]
      exact ⟨⟨hun, _, _, rfl⟩, fill4_below hb (by omega) _ _ _ _⟩
end Go.Proofs.YtiinghgfojicdaaGreat
