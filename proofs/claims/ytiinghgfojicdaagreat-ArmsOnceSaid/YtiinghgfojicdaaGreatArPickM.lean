/- arms.Pick: the arm that a tree of questions leads to, and how many were asked. No conditions. -/
import Derived.Test.YtiinghgfojicdaaGreatArHolds
set_option linter.unusedVariables false
set_option linter.unusedSimpArgs false
namespace Go.Proofs.YtiinghgfojicdaaGreat
open Go.RowKit Go.RowG Go.FRow Go.GMem
set_option linter.unusedVariables false
set_option maxRecDepth 100000
attribute [local go_sem ↓] Go.wp_at_zero Go.wp_at_succ

def fewT : Tr → Prop
  | .leaf _ => True
  | .ask t y n => t.path.length ≤ 1000 ∧ fewT y ∧ fewT n
theorem few_build : ∀ (f : Nat) (l : List R), (∀ x ∈ l, ∀ y ∈ x.2, y.path.length ≤ 1000) → fewT (buildR f l)
  | 0, _, _ => trivial
  | f + 1, [], _ => trivial
  | f + 1, (a, []) :: l, _ => trivial
  | f + 1, (a, t :: ts) :: l, h => ⟨h (a, t :: ts) (by simp) t (by simp), few_build f _ fun z hz y hy => by
      obtain ⟨x, hx, _, hs⟩ := yes_sub hz
      exact h x hx y (hs.subset hy), few_build f _ fun z hz => h z (no_sub hz).1⟩
theorem deep_high (v : Vl) : ∀ tr : Tr, deepT tr v ≤ highT tr
  | .leaf _ => Nat.le_refl _
  | .ask t y n => by
    have h1 := deep_high v y
    have h2 := deep_high v n
    simp only [deepT, highT]
    split <;> omega
/-- A row of one tree: its nine cells. -/
theorem row_nine {w : World} {S : Nat → Prop} {A : Option Addr} {tr : Tr} (h : GRow w S A 1 (encTr tr .nil)) : ∃ b o b7 a7 A7 n7 c7 k7 m7 s7 A71 n71 c71 A72 n72 c72, A = some ⟨b, o, none⟩ ∧ S b ∧
    GCells w S (encTr tr .nil) [.bool b7, .int .i64 a7, .slice A7 n7 c7, .int .i64 k7, .int .i64 m7, .string s7, .slice none 0 0, .slice A71 n71 c71, .slice A72 n72 c72] ∧
    w.cell? ⟨b, o, none⟩ = some (.bool b7) ∧ w.cell? ⟨b, o + 1, none⟩ = some (.int .i64 a7) ∧ w.cell? ⟨b, o + 2, none⟩ = some (.slice A7 n7 c7) ∧ w.cell? ⟨b, o + 3, none⟩ = some (.int .i64 k7) ∧ w.cell? ⟨b, o + 4, none⟩ = some (.int .i64 m7) ∧
    w.cell? ⟨b, o + 5, none⟩ = some (.string s7) ∧ w.cell? ⟨b, o + 6, none⟩ = some (.slice none 0 0) ∧ w.cell? ⟨b, o + 7, none⟩ = some (.slice A71 n71 c71) ∧ w.cell? ⟨b, o + 8, none⟩ = some (.slice A72 n72 c72) := by
  obtain ⟨b, o, zs, e, hb, hz, hc⟩ := h (by decide)
  obtain ⟨b7, a7, A7, n7, c7, k7, m7, s7, A71, n71, c71, A72, n72, c72, rfl⟩ := tree_nine hz
  exact ⟨b, o, b7, a7, A7, n7, c7, k7, m7, s7, A71, n71, c71, A72, n72, c72, e, hb, hz, hc 0 _ rfl, hc 1 _ rfl, hc 2 _ rfl, hc 3 _ rfl, hc 4 _ rfl, hc 5 _ rfl, hc 6 _ rfl, hc 7 _ rfl, hc 8 _ rfl⟩
/-- What a question's nine cells are. -/
theorem ask_nine {w : World} {S : Nat → Prop} {t : T} {y n : Tr} {xs : List Value} (h : GCells w S (encTr (.ask t y n) .nil) xs) : ∃ Rp cp Ay cy An cn, xs = [.bool false, .int .i64 0, .slice Rp t.path.length cp, .int .i64 t.k, .int .i64 t.n, .string t.t, .slice none 0 0, .slice Ay 1 cy, .slice An 1 cn] ∧
    GRow w S Rp t.path.length (encI t.path) ∧ 1 ≤ cy ∧ cy ≤ maxLen ∧ GRow w S Ay 1 (encTr y .nil) ∧ 1 ≤ cn ∧ cn ≤ maxLen ∧ GRow w S An 1 (encTr n .nil) := by
  obtain ⟨_, e, _, _, e1, _, A, c, _, e2, h1, h2, h3, _, e3, _, _, e4, _, _, e5, _, _, e6, _, A1, c1, _, e7, h4, h5, h6, A2, c2, _, e8, h7, h8, h9, e9⟩ := h
  subst e9 e8 e7 e6 e5 e4 e3 e2 e1 e
  exact ⟨A, c, A1, c1, A2, c2, rfl, h3, h4, h5, h6, h7, h8, h9⟩
theorem leaf_nine {w : World} {S : Nat → Prop} {a : Int} {xs : List Value} (h : GCells w S (encTr (.leaf a) .nil) xs) : xs = [.bool true, .int .i64 a, .slice none 0 0, .int .i64 0, .int .i64 0, .string ⟨#[]⟩, .slice none 0 0, .slice none 0 0, .slice none 0 0] := by
  obtain ⟨_, e, _, _, e1, _, _, e2, _, _, e3, _, _, e4, _, _, e5, _, _, e6, _, _, e7, _, _, e8, _, e9⟩ := h
  subst e9 e8 e7 e6 e5 e4 e3 e2 e1 e
  rfl
def PickEnds (a : Int) (q : Nat) (w : World) (e : Ending) (w' : World) : Prop := e = .returned (.tuple #[.int .i64 a, .int .i64 (q : Int)]) ∧ Below w.heap.size w w'

set_option maxHeartbeats 8000000 in
theorem pickT_says (tr : Tr) (xs : List Value) (S : Nat → Prop) (vk vn : Int) (vt : ByteArray) (va : F) (A' : Option Addr) (c' : Nat) (w : World) (hS : ∀ b, S b → b < w.heap.size) (hg : GCells w S (encTr tr .nil) xs) (hfew : fewT tr) (hhigh : highT tr ≤ 100000)
    (hV : RowAt w w.heap.size A' va) (hc' : va.len ≤ c') (hm' : c' ≤ maxLen) (hn : va.nodes ≤ 100000) :
    Calls Tryz.prog 28 #[.agg xs.toArray, agg4 vk vn vt A' va.len c'] w (PickEnds (armT tr ⟨vk, vn, vt, va⟩) (deepT tr ⟨vk, vn, vt, va⟩) w) := by
  have hholds := fun (t : T) (Rp : Option Addr) (cp : Nat) (W : World) (hb : Below w.heap.size w W) (hP : GRow w S Rp t.path.length (encI t.path)) (hl : t.path.length ≤ 1000) =>
    holds_says t.path t.k t.n t.t Rp cp vk vn vt va A' c' W ((hP.mono hS).below hb) hl (RowAt.keep hV hb.size fun p hp => hb.cell hp) hc' hm' hn
  have hdeep : deepT tr ⟨vk, vn, vt, va⟩ ≤ 100000 := Nat.le_trans (deep_high _ _) hhigh
  obtain ⟨v, hv⟩ : ∃ v, v = (⟨vk, vn, vt, va⟩ : Vl) := ⟨_, rfl⟩
  rw [← hv] at hholds hdeep ⊢
  obtain ⟨arm, harm⟩ : ∃ arm, arm = armT tr v := ⟨_, rfl⟩
  obtain ⟨dp, hdp⟩ : ∃ dp, dp = deepT tr v := ⟨_, rfl⟩
  rw [← harm, ← hdp]
  rw [← hdp] at hdeep
  have HARM := Lib.hid harm
  have HDP := Lib.hid hdp
  obtain ⟨vl, hvl⟩ : ∃ vl, vl = va.len := ⟨_, rfl⟩
  rw [← hvl] at hholds ⊢
  have HH := Lib.hid hholds
  obtain ⟨b7, a7, A7, n7, c7, k7, m7, s7, A71, n71, c71, A72, n72, c72, rfl⟩ := tree_nine hg
  obtain ⟨W1, hW1⟩ : ∃ W1, W1 = (w.alloc (.cells #[.bool b7, .int .i64 a7, .slice A7 n7 c7, .int .i64 k7, .int .i64 m7, .string s7, .slice none 0 0, .slice A71 n71 c71, .slice A72 n72 c72] 59)).alloc (.cells #[.int .i64 vk, .int .i64 vn, .string vt, .slice A' vl c'] 29) := ⟨_, rfl⟩
  have hb1 : Below w.heap.size w W1 := by rw [hW1]; exact ((Below.refl _ _).alloc (Nat.le_refl _) _).alloc (by simp) _
  have hq1 : Own4 W1 (w.heap.size + 1) 29 (.int .i64 vk) (.int .i64 vn) (.string vt) (.slice A' vl c') := by
    rw [hW1]
    have := heap_alloc_new (w.alloc (.cells #[.bool b7, .int .i64 a7, .slice A7 n7 c7, .int .i64 k7, .int .i64 m7, .string s7, .slice none 0 0, .slice A71 n71 c71, .slice A72 n72 c72] 59)) (.cells #[.int .i64 vk, .int .i64 vn, .string vt, .slice A' vl c'] 29)
    simpa [Own4] using this
  have hz1 : W1.heap[w.heap.size]? = some (.cells [.bool b7, .int .i64 a7, .slice A7 n7 c7, .int .i64 k7, .int .i64 m7, .string s7, .slice none 0 0, .slice A71 n71 c71, .slice A72 n72 c72].toArray 59 (0, 0)) := by
    rw [hW1]
    exact (heap_alloc_old _ _ (by simp)).trans (heap_alloc_new w _)
  have HB1 := Lib.hid hb1
  have HZ1 := Lib.hid hz1
  have HQ1 := Lib.hid hq1
  have HG := Lib.hid hg
  have HS := Lib.hid hS
  have HFEW := Lib.hid hfew
  have HW1 := Lib.hid hW1
  clear hg hfew hW1 hb1 hz1 hq1 hholds hV hS hc' hm' hn hv harm hdp hvl hhigh
  simp only [List.toArray]
  go_enter Tryz.func28, Tryz.ntmps28
  go_wp2
  go_loopw [5] (fun i wr => ∃ (q : Nat) (t : Tr) (ys : List Value), i = .int .i64 (q : Int) ∧ GCells w S (encTr t .nil) ys ∧ wr.heap[w.heap.size]? = some (.cells ys.toArray 59 (0, 0)) ∧ Own4 wr (w.heap.size + 1) 29 (.int .i64 vk) (.int .i64 vn) (.string vt) (.slice A' vl c') ∧ fewT t ∧ armT t v = arm ∧ deepT t v + q = dp ∧ Below w.heap.size w wr) (fun i _ => dp - (intOf i).toNat)
  case atStart => exact ⟨0, tr, _, rfl, HG.out, by rw [← HW1.out]; exact HZ1.out, by rw [← HW1.out]; exact HQ1.out, HFEW.out, HARM.out.symm, by rw [HDP.out]; omega, by rw [← HW1.out]; exact HB1.out⟩
  case round =>
    obtain ⟨q, t, ys, rfl, hgt, hzt, hvt, hft, hat, hdt, hb⟩ := hrel
    have hbs := hb.size
    have hzl := hvt.lt
    obtain ⟨⟨v0, v1, v2, v3⟩, _, _, _, _⟩ := hvt.cells
    cases t with
    | leaf a =>
      obtain rfl := leaf_nine hgt
      obtain ⟨⟨y0, y1, y2, y3, y4, y5, y6, y7, y8⟩, _⟩ := own_nine hzt
      simp only [armT, deepT] at hat hdt
      subst hat
      have hq : q = dp := by omega
      subst hq
      go_wp2
      go_ret2
      exact ⟨rfl, hb⟩
    | ask t y n =>
      obtain ⟨Rp, cp, Ay, cy, An, cn, rfl, hRp, hy1, hy2, hgy, hn1, hn2, hgn⟩ := ask_nine hgt
      obtain ⟨⟨y0, y1, y2, y3, y4, y5, y6, y7, y8⟩, _⟩ := own_nine hzt
      have hcall := HH.out t Rp cp wr hb hRp hft.1
      obtain ⟨hft1, hft2, hft3⟩ := hft
      obtain ⟨P, tk, tn, tt⟩ := t
      simp only at hcall hRp hft1 y2 y3 y4 y5 hzt
      obtain ⟨pl, hpl⟩ : ∃ pl, pl = P.length := ⟨_, rfl⟩
      rw [← hpl] at hcall y2 hzt
      obtain ⟨hold, hhold⟩ : ∃ hold, hold = holdsT ⟨P, tk, tn, tt⟩ v := ⟨_, rfl⟩
      rw [← hhold] at hcall
      simp only [armT, deepT, ← hhold] at hat hdt
      have HAT := Lib.hid hat
      have hq1 : q + 1 ≤ dp := by omega
      have HZT := Lib.hid hzt
      cases hold with
      | true =>
        simp only [if_true] at hdt
        have HDT := Lib.hid hdt
        obtain ⟨bb, o, b7, a7, A7, n7, c7, k7, m7, s7, A71, n71, c71, A72, n72, c72, rfl, hSb, hg7, e0, e1, e2, e3, e4, e5, e6, e7, e8⟩ := row_nine hgy
        have hbb := HS.out bb hSb
        clear hgt hgn hgy hRp hpl hhold hat hdt hzt
        go_wp2_with (first
          | (go_at_call 26
             (with_reducible refine hcall.mono ?_)
             rintro e w5 ⟨rfl, hb5⟩
             have hb5w : Below w.heap.size w w5 := hb.trans (hb5.mono hbs)
             have hx9 := own_nine ((hb5.block w.heap.size (by omega)).trans HZT.out)
             have x0 := hx9.1.1
             have x1 := hx9.1.2.1
             have x2 := hx9.1.2.2.1
             have x3 := hx9.1.2.2.2.1
             have x4 := hx9.1.2.2.2.2.1
             have x5 := hx9.1.2.2.2.2.2.1
             have x6 := hx9.1.2.2.2.2.2.2.1
             have x7 := hx9.1.2.2.2.2.2.2.2.1
             have x8 := hx9.1.2.2.2.2.2.2.2.2
             have f0 := hx9.2.1
             have f1 := hx9.2.2.1
             have f2 := hx9.2.2.2.1
             have f3 := hx9.2.2.2.2.1
             have f4 := hx9.2.2.2.2.2.1
             have f5 := hx9.2.2.2.2.2.2.1
             have f6 := hx9.2.2.2.2.2.2.2.1
             have f7 := hx9.2.2.2.2.2.2.2.2.1
             have f8 := hx9.2.2.2.2.2.2.2.2.2
             have u0 := (hb5w.cell (p := ⟨bb, o, none⟩) hbb).trans e0
             have u1 := (hb5w.cell (p := ⟨bb, o + 1, none⟩) hbb).trans e1
             have u2 := (hb5w.cell (p := ⟨bb, o + 2, none⟩) hbb).trans e2
             have u3 := (hb5w.cell (p := ⟨bb, o + 3, none⟩) hbb).trans e3
             have u4 := (hb5w.cell (p := ⟨bb, o + 4, none⟩) hbb).trans e4
             have u5 := (hb5w.cell (p := ⟨bb, o + 5, none⟩) hbb).trans e5
             have u6 := (hb5w.cell (p := ⟨bb, o + 6, none⟩) hbb).trans e6
             have u7 := (hb5w.cell (p := ⟨bb, o + 7, none⟩) hbb).trans e7
             have u8 := (hb5w.cell (p := ⟨bb, o + 8, none⟩) hbb).trans e8
             have hz5 : w.heap.size < w5.heap.size := by have := hb5.size; omega
             clear hx9 e0 e1 e2 e3 e4 e5 e6 e7 e8 hcall)
          | fail "none")
        go_roundw
        case measure => simp [intOf]; omega
        case rel =>
          have hF := Filled.base ((hb5.block w.heap.size (by omega)).trans HZT.out) (v0 := .bool b7) (v1 := .int .i64 a7) (v2 := .slice A7 n7 c7) (v3 := .int .i64 k7) (v4 := .int .i64 m7) (v5 := .string s7) (v6 := .slice none 0 0) (v7 := .slice A71 n71 c71) (v8 := .slice A72 n72 c72)
          refine ⟨q + 1, y, _, by go_num, hg7, hF.own, (hF.rest _ (by have := hb5.size; omega) (by omega)).trans (hvt.keep hb5), hft2, HAT.out, by have := HDT.out; omega, hb5w.trans hF.below⟩
      | false =>
        simp only [Bool.false_eq_true, if_false] at hdt
        have HDT := Lib.hid hdt
        obtain ⟨bb, o, b7, a7, A7, n7, c7, k7, m7, s7, A71, n71, c71, A72, n72, c72, rfl, hSb, hg7, e0, e1, e2, e3, e4, e5, e6, e7, e8⟩ := row_nine hgn
        have hbb := HS.out bb hSb
        clear hgt hgn hgy hRp hpl hhold hat hdt hzt
        go_wp2_with (first
          | (go_at_call 26
             (with_reducible refine hcall.mono ?_)
             rintro e w5 ⟨rfl, hb5⟩
             have hb5w : Below w.heap.size w w5 := hb.trans (hb5.mono hbs)
             have hx9 := own_nine ((hb5.block w.heap.size (by omega)).trans HZT.out)
             have x0 := hx9.1.1
             have x1 := hx9.1.2.1
             have x2 := hx9.1.2.2.1
             have x3 := hx9.1.2.2.2.1
             have x4 := hx9.1.2.2.2.2.1
             have x5 := hx9.1.2.2.2.2.2.1
             have x6 := hx9.1.2.2.2.2.2.2.1
             have x7 := hx9.1.2.2.2.2.2.2.2.1
             have x8 := hx9.1.2.2.2.2.2.2.2.2
             have f0 := hx9.2.1
             have f1 := hx9.2.2.1
             have f2 := hx9.2.2.2.1
             have f3 := hx9.2.2.2.2.1
             have f4 := hx9.2.2.2.2.2.1
             have f5 := hx9.2.2.2.2.2.2.1
             have f6 := hx9.2.2.2.2.2.2.2.1
             have f7 := hx9.2.2.2.2.2.2.2.2.1
             have f8 := hx9.2.2.2.2.2.2.2.2.2
             have u0 := (hb5w.cell (p := ⟨bb, o, none⟩) hbb).trans e0
             have u1 := (hb5w.cell (p := ⟨bb, o + 1, none⟩) hbb).trans e1
             have u2 := (hb5w.cell (p := ⟨bb, o + 2, none⟩) hbb).trans e2
             have u3 := (hb5w.cell (p := ⟨bb, o + 3, none⟩) hbb).trans e3
             have u4 := (hb5w.cell (p := ⟨bb, o + 4, none⟩) hbb).trans e4
             have u5 := (hb5w.cell (p := ⟨bb, o + 5, none⟩) hbb).trans e5
             have u6 := (hb5w.cell (p := ⟨bb, o + 6, none⟩) hbb).trans e6
             have u7 := (hb5w.cell (p := ⟨bb, o + 7, none⟩) hbb).trans e7
             have u8 := (hb5w.cell (p := ⟨bb, o + 8, none⟩) hbb).trans e8
             have hz5 : w.heap.size < w5.heap.size := by have := hb5.size; omega
             clear hx9 e0 e1 e2 e3 e4 e5 e6 e7 e8 hcall)
          | fail "none")
        go_roundw
        case measure => simp [intOf]; omega
        case rel =>
          have hF := Filled.base ((hb5.block w.heap.size (by omega)).trans HZT.out) (v0 := .bool b7) (v1 := .int .i64 a7) (v2 := .slice A7 n7 c7) (v3 := .int .i64 k7) (v4 := .int .i64 m7) (v5 := .string s7) (v6 := .slice none 0 0) (v7 := .slice A71 n71 c71) (v8 := .slice A72 n72 c72)
          refine ⟨q + 1, n, _, by go_num, hg7, hF.own, (hF.rest _ (by have := hb5.size; omega) (by omega)).trans (hvt.keep hb5), hft3, HAT.out, by have := HDT.out; omega, hb5w.trans hF.below⟩
end Go.Proofs.YtiinghgfojicdaaGreat
