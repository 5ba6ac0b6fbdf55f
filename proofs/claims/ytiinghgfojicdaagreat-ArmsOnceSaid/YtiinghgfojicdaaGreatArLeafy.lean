/- A part of the proofs of the laws of the arms: Leafy. No conditions. -/
import Derived.Test.YtiinghgfojicdaaGreatArPat
set_option linter.unusedVariables false
set_option linter.unusedSimpArgs false
namespace Go.Proofs.YtiinghgfojicdaaGreat
open Go.RowKit Go.RowG Go.FRow Go.GMem
set_option linter.unusedVariables false
attribute [local go_sem ↓] Go.wp_at_zero Go.wp_at_succ

theorem valTy : RowTy Tryz.prog 27 29 4 56 := RowTy.of Tryz.underlying27 (by kernel_rfl) (by decide)
/-- What leafy's loop holds to. -/
structure LeafLoop (g : Nat) (A : Option Addr) (n c k : Nat) (b : Bool) (R' N' : Nat) (W Wl : World) (z j : Nat) (t : ByteArray) (acc : F) (v : Value) (wr : World) : Prop where
  len : acc.len = j
  kin : Kin acc
  own : OwnG 29 4 wr Wl.heap.size v j (encF acc)
  nodes : acc.nodes ≤ j * (N' + 1)
  res : Own4 wr W.heap.size 29 (.int .i64 0) (.int .i64 0) (.string ⟨#[]⟩) (.slice none 0 0)
  blk : Own4 wr z 29 (.int .i64 5) (.int .i64 0) (.string t) v
  dice : ∃ k', k' ≤ k + 2 + j * R' ∧ Dice wr g A n c k' b
  roll : Rolled g W wr
  top : Wl.heap.size ≤ wr.heap.size


set_option maxRecDepth 100000 in
set_option maxHeartbeats 4000000 in
theorem leafy_low (g : Nat) (A : Option Addr) (n c : Nat) (b : Bool) (w0 : World) (hC : Rolls g A n c w0) (dp : Int) (R N : Nat) (hlo : dp < 1) (hR4 : 4 ≤ R)
    (k : Nat) (w : World) (hW : Rolled g w0 w) (hd : Dice w g A n c k b) (hk : k + 4 ≤ 100000) :
    Calls Tryz.prog 11 #[.pointer (some ⟨g, 0, none⟩), .int .i64 dp] w (GenEnds g A n c k b R N w) := by
  have hgl : g < w.heap.size := hd.lt
  have hdec : decide (dp < 1) = true := decide_eq_true hlo
  have hroll : ∀ o : Obj, Calls Tryz.prog 35 #[.pointer (some ⟨g, 0, none⟩), .int .i64 3] (w.alloc o) (RollEnds g A n c k b 3 (w.alloc o)) := fun o =>
    hC.roll _ b k 3 (hW.alloc o) (hd.alloc o) (by omega) (by omega) (by omega)
  have HC := Lib.hid hC
  clear hd hC hlo
  go_enter Tryz.func11, Tryz.ntmps11
  go_wp2_with (first
    | (go_at_call 35
       (with_reducible refine (hroll _).mono ?_)
       rintro e w2 ⟨p, k2, hp, hk2, rfl, hd2, hr2, hz2⟩
       have ho := Own4.rolled (z := w.heap.size) (e := 29) (v0 := .int .i64 0) (v1 := .int .i64 0) (v2 := .string ⟨#[]⟩) (v3 := .slice none 0 0) (heap_alloc_new w _) hr2 (by omega)
       have hw2 : Rolled g w w2 := (Rolled.of_below ((Below.refl _ _).alloc (Nat.le_refl _) _)).trans hr2
       have roll2 : Calls Tryz.prog 35 #[.pointer (some ⟨g, 0, none⟩), .int .i64 2] w2 (RollEnds g A n c k2 b 2 w2) := HC.out.roll w2 b k2 2 (hW.trans hw2) hd2 (by omega) (by omega) (by omega)
       clear hz2 hroll)
    | (go_at_call 35
       (with_reducible refine roll2.mono ?_)
       rintro e w3 ⟨p3, k3, hp3, hk3, rfl, hd3, hr3, hz3⟩
       have ho3 := ho.rolled hr3 (by omega)
       have hw3 : Rolled g w w3 := hw2.trans hr3
       have roll4 : ∀ o : Obj, Calls Tryz.prog 35 #[.pointer (some ⟨g, 0, none⟩), .int .i64 3] (w3.alloc o) (RollEnds g A n c k3 b 3 (w3.alloc o)) := fun o => HC.out.roll _ b k3 3 ((hW.trans hw3).alloc o) (hd3.alloc o) (by omega) (by omega) (by omega)
       have hg3 := hd3.lt
       clear hz3 roll2)
    | (go_at_call 35
       (with_reducible refine (roll4 _).mono ?_)
       rintro e w4 ⟨p4, k4, hp4, hk4, rfl, hd4, hr4, hz4⟩
       have hw4 : Rolled g w w4 := (hw3.alloc _).trans hr4
       have ho4 := (ho3.alloc _).rolled hr4 (by omega)
       have hrow := (hr4.block w3.heap.size (by simp) (by omega)).trans (heap_alloc_new w3 _)
       have hcell := World.news_of_block hrow
       have c0 := hcell 0 _ rfl
       have c1 := hcell 1 _ rfl
       have c2 := hcell 2 _ rfl
       have c3 := hcell 3 _ rfl
       have c4 := hcell 4 _ rfl
       have c5 := hcell 5 _ rfl
       have c6 := hcell 6 _ rfl
       have c7 := hcell 7 _ rfl
       have c8 := hcell 8 _ rfl
       have c9 := hcell 9 _ rfl
       have c10 := hcell 10 _ rfl
       have c11 := hcell 11 _ rfl
       simp [Addr.add] at c0 c1 c2 c3 c4 c5 c6 c7 c8 c9 c10 c11
       obtain ⟨⟨q0, q1, q2, q3⟩, h0, h1, h2, h3⟩ := ho4.cells
       clear hcell hrow hz4 roll4
       obtain rfl | rfl | rfl : p4 = 0 ∨ p4 = 1 ∨ p4 = 2 := by omega))
  · refine bodyPost_ret (v := agg4 2 ((p : Int) - 1) ⟨#[]⟩ none 0 0) (by simp [results, Tryz.results11, go_sem, agg4, *]) rfl ?_
    exact gen_leaf hw4 hgl hd4 (by omega) 2 _ ⟨#[]⟩
  · refine bodyPost_ret (v := agg4 3 (p3 : Int) ⟨#[]⟩ none 0 0) (by simp [results, Tryz.results11, go_sem, agg4, *]) rfl ?_
    exact gen_leaf hw4 hgl hd4 (by omega) 3 _ ⟨#[]⟩
  · refine bodyPost_ret (v := agg4 5 0 ⟨#[78]⟩ none 0 0) (by simp [results, Tryz.results11, go_sem, agg4, *]) rfl ?_
    exact gen_leaf hw4 hgl hd4 (by omega) 5 0 ⟨#[78]⟩
set_option maxRecDepth 100000 in
set_option maxHeartbeats 4000000 in
theorem leafy_high (g : Nat) (A : Option Addr) (n c : Nat) (b : Bool) (w0 : World) (hC : Rolls g A n c w0) (dp dq : Int) (R' N' : Nat) (hge : 1 ≤ dp) (hdq : IntKind.i64.wrap (dp - 1) = dq)
    (hIH : ∀ (k : Nat) (W : World), Rolled g w0 W → Dice W g A n c k b → k + R' ≤ 100000 → Calls Tryz.prog 11 #[.pointer (some ⟨g, 0, none⟩), .int .i64 dq] W (GenEnds g A n c k b R' N' W))
    (k : Nat) (w : World) (hW : Rolled g w0 w) (hd : Dice w g A n c k b) (hk : k + (4 + 2 * R') ≤ 100000) :
    Calls Tryz.prog 11 #[.pointer (some ⟨g, 0, none⟩), .int .i64 dp] w (GenEnds g A n c k b (4 + 2 * R') (2 * (N' + 1)) w) := by
  have hgl : g < w.heap.size := hd.lt
  have hdec : decide (dp < 1) = false := decide_eq_false (by omega)
  have hmm := @run_makeMap Tryz.prog
  have hroll : ∀ o : Obj, Calls Tryz.prog 35 #[.pointer (some ⟨g, 0, none⟩), .int .i64 3] (w.alloc o) (RollEnds g A n c k b 3 (w.alloc o)) := fun o =>
    hC.roll _ b k 3 (hW.alloc o) (hd.alloc o) (by omega) (by omega) (by omega)
  have HC := Lib.hid hC
  have HI := Lib.hid hIH
  clear hd hC hge hIH
  go_enter Tryz.func11, Tryz.ntmps11
  go_wp2_with (first
    | (go_at_call 35
       (with_reducible refine (hroll _).mono ?_)
       rintro e wa ⟨pa, ka, hpa, hka, rfl, hda, hra, hza⟩
       have hoa := Own4.rolled (z := w.heap.size) (e := 29) (v0 := .int .i64 0) (v1 := .int .i64 0) (v2 := .string ⟨#[]⟩) (v3 := .slice none 0 0) (heap_alloc_new w _) hra (by omega)
       have hwa : Rolled g w wa := (Rolled.of_below ((Below.refl _ _).alloc (Nat.le_refl _) _)).trans hra
       have rollb : Calls Tryz.prog 35 #[.pointer (some ⟨g, 0, none⟩), .int .i64 3] wa (RollEnds g A n c ka b 3 wa) := HC.out.roll wa b ka 3 (hW.trans hwa) hda (by omega) (by omega) (by omega)
       have of4 : ∀ s0 s1 s2 s3 : ByteArray, Calls Tryz.prog 37 #[.pointer (some ⟨g, 0, none⟩), .slice (some ⟨wa.heap.size, 0, none⟩) 4 4] (wa.alloc (.cells #[.string s0, .string s1, .string s2, .string s3] 9)) (OfEnds g A n c ka b [s0, s1, s2, s3] (wa.alloc (.cells #[.string s0, .string s1, .string s2, .string s3] 9))) := fun s0 s1 s2 s3 =>
         HC.out.of _ b ka 4 wa.heap.size [s0, s1, s2, s3] ((hW.trans hwa).alloc _) (hda.alloc _) (by omega) rfl (by omega) (by omega) (by simp) (by have := hwa.size; omega) (heap_alloc_new wa _)
       clear hza hroll
       obtain rfl | hpa0 : pa = 0 ∨ 0 < pa := by omega
       focus skip
       rotate_left
       have hpa1 : ((pa : Int) == 0) = false := by simp; omega
       rotate_left)
    | (go_at_call 35
       (with_reducible refine rollb.mono ?_)
       rintro e w2 ⟨p, k2, hp, hk2, rfl, hd2, hr2, hz2⟩
       have ho := hoa.rolled hr2 (by omega)
       have hw2 : Rolled g w w2 := hwa.trans hr2
       have roll2 : Calls Tryz.prog 35 #[.pointer (some ⟨g, 0, none⟩), .int .i64 2] w2 (RollEnds g A n c k2 b 2 w2) := HC.out.roll w2 b k2 2 (hW.trans hw2) hd2 (by omega) (by omega) (by omega)
       clear hz2 rollb of4)
    | (go_at_call 35
       (with_reducible refine roll2.mono ?_)
       rintro e w3 ⟨p3, k3, hp3, hk3, rfl, hd3, hr3, hz3⟩
       have ho3 := ho.rolled hr3 (by omega)
       have hw3 : Rolled g w w3 := hw2.trans hr3
       have roll4 : ∀ o : Obj, Calls Tryz.prog 35 #[.pointer (some ⟨g, 0, none⟩), .int .i64 3] (w3.alloc o) (RollEnds g A n c k3 b 3 (w3.alloc o)) := fun o => HC.out.roll _ b k3 3 ((hW.trans hw3).alloc o) (hd3.alloc o) (by omega) (by omega) (by omega)
       have hg3 := hd3.lt
       clear hz3 roll2)
    | (go_at_call 35
       (with_reducible refine (roll4 _).mono ?_)
       rintro e w4 ⟨p4, k4, hp4, hk4, rfl, hd4, hr4, hz4⟩
       have hw4 : Rolled g w w4 := (hw3.alloc _).trans hr4
       have ho4 := (ho3.alloc _).rolled hr4 (by omega)
       have hrow := (hr4.block w3.heap.size (by simp) (by omega)).trans (heap_alloc_new w3 _)
       have hcell := World.news_of_block hrow
       have c0 := hcell 0 _ rfl
       have c1 := hcell 1 _ rfl
       have c2 := hcell 2 _ rfl
       have c3 := hcell 3 _ rfl
       have c4 := hcell 4 _ rfl
       have c5 := hcell 5 _ rfl
       have c6 := hcell 6 _ rfl
       have c7 := hcell 7 _ rfl
       have c8 := hcell 8 _ rfl
       have c9 := hcell 9 _ rfl
       have c10 := hcell 10 _ rfl
       have c11 := hcell 11 _ rfl
       simp [Addr.add] at c0 c1 c2 c3 c4 c5 c6 c7 c8 c9 c10 c11
       obtain ⟨⟨q0, q1, q2, q3⟩, h0, h1, h2, h3⟩ := ho4.cells
       clear hcell hrow hz4 roll4
       obtain rfl | rfl | rfl : p4 = 0 ∨ p4 = 1 ∨ p4 = 2 := by omega)
    | (go_at_call 37
       (with_reducible refine (of4 _ _ _ _).mono ?_)
       rintro e w3 ⟨s3, k3, hs3, hk3, rfl, hd3, hr3, hz3⟩
       have hw3 : Rolled g w w3 := (hwa.alloc _).trans hr3
       have ho3 := (hoa.alloc _).rolled hr3 (by omega)
       have HS3 := Lib.hid hs3
       have hm0 : ((w3.alloc (.cells #[.int .i64 5, .int .i64 0, .string s3, .slice none 0 0] 29)).alloc (.map #[] 0)).ownsMap Tryz.prog 9 (plainElem (H := Unit) Tryz.prog 3) (w3.heap.size + 1) 0 (.map []) := by
         have := World.ownsMap_made (H := Unit) (w3.alloc (.cells #[.int .i64 5, .int .i64 0, .string s3, .slice none 0 0] 29)) Tryz.prog 9 (plainElem Tryz.prog 3)
         simpa using this
       have hb0 : Own4 ((w3.alloc (.cells #[.int .i64 5, .int .i64 0, .string s3, .slice none 0 0] 29)).alloc (.map #[] 0)) w3.heap.size 29 (.int .i64 5) (.int .i64 0) (.string s3) (.slice none 0 0) := Own4.alloc (heap_alloc_new w3 _) _
       have hr0 : Rolled g w ((w3.alloc (.cells #[.int .i64 5, .int .i64 0, .string s3, .slice none 0 0] 29)).alloc (.map #[] 0)) := (hw3.alloc _).alloc _
       have hd0 : Dice ((w3.alloc (.cells #[.int .i64 5, .int .i64 0, .string s3, .slice none 0 0] 29)).alloc (.map #[] 0)) g A n c k3 b := (hd3.alloc _).alloc _
       have hq0 : Own4 ((w3.alloc (.cells #[.int .i64 5, .int .i64 0, .string s3, .slice none 0 0] 29)).alloc (.map #[] 0)) w.heap.size 29 _ _ _ _ := (ho3.alloc _).alloc _
       have hws : w.heap.size < w3.heap.size := ho3.lt
       have hg3 : g < w3.heap.size := hd3.lt
       have hsz := few_size hs3
       clear hz3 hs3 rollb)
    | ((with_reducible refine at_insert ?_); refine wpList_insert_const (H := Unit) _ 9 3 (Maps.string_keyed Tryz.underlying9) Tryz.underlying113 (plainElem Tryz.prog 3) (w3.heap.size + 1) 0 _ hm0 (by decide) _ (key_str ⟨#[78]⟩ (by decide)) _ _ (plainElem_int (a := 0) Tryz.underlying3 (by decide)) ?_ ?_
       focus rfl
       intro x1 hm1 hg1_
       have hb1 := own4_grownBy hb0 hg1_ (by omega)
       have hr1 := hr0.grown hg1_ (fun b hb => by injection hb with hb; omega)
       have hd1 := hd0.grown hg1_ (by simp; omega)
       have hq1 := own4_grownBy hq0 hg1_ (by omega)
       have hsz1_ := hg1_.size
       clear hm0 hb0 hr0 hd0 hq0)
    | ((with_reducible refine at_insert ?_); refine wpList_insert_const (H := Unit) _ 9 3 (Maps.string_keyed Tryz.underlying9) Tryz.underlying113 (plainElem Tryz.prog 3) (w3.heap.size + 1) 1 _ hm1 (by decide) _ (key_str ⟨#[65]⟩ (by decide)) _ _ (plainElem_int (a := 1) Tryz.underlying3 (by decide)) ?_ ?_
       focus rfl
       intro x2 hm2 hg2_
       have hb2 := own4_grownBy hb1 hg2_ (by omega)
       have hr2 := hr1.grown hg2_ (fun b hb => by injection hb with hb; omega)
       have hd2 := hd1.grown hg2_ (by simp; omega)
       have hq2 := own4_grownBy hq1 hg2_ (by omega)
       have hsz2_ := hg2_.size
       clear hm1 hb1 hr1 hd1 hq1)
    | ((with_reducible refine at_insert ?_); refine wpList_insert_const (H := Unit) _ 9 3 (Maps.string_keyed Tryz.underlying9) Tryz.underlying113 (plainElem Tryz.prog 3) (w3.heap.size + 1) 2 _ hm2 (by decide) _ (key_str ⟨#[66]⟩ (by decide)) _ _ (plainElem_int (a := 2) Tryz.underlying3 (by decide)) ?_ ?_
       focus rfl
       intro x3 hm3 hg3_
       have hb3 := own4_grownBy hb2 hg3_ (by omega)
       have hr3 := hr2.grown hg3_ (fun b hb => by injection hb with hb; omega)
       have hd3 := hd2.grown hg3_ (by simp; omega)
       have hq3 := own4_grownBy hq2 hg3_ (by omega)
       have hsz3_ := hg3_.size
       clear hm2 hb2 hr2 hd2 hq2)
    | ((with_reducible refine at_insert ?_); refine wpList_insert_const (H := Unit) _ 9 3 (Maps.string_keyed Tryz.underlying9) Tryz.underlying113 (plainElem Tryz.prog 3) (w3.heap.size + 1) 3 _ hm3 (by decide) _ (key_str ⟨#[81]⟩ (by decide)) _ _ (plainElem_int (a := 1) Tryz.underlying3 (by decide)) ?_ ?_
       focus rfl
       intro x4 hm4 hg4_
       have hb4 := own4_grownBy hb3 hg4_ (by omega)
       have hR4 := hr3.grown hg4_ (fun b hb => by injection hb with hb; omega)
       have hd4 := hd3.grown hg4_ (by simp; omega)
       have hq4 := own4_grownBy hq3 hg4_ (by omega)
       have hsz4_ := hg4_.size
       obtain ⟨⟨o0, o1, o2, o3⟩, f0, f1, f2, f3⟩ := hb4.cells
       clear hm3 hb3 hr3 hd3 hq3)
    | (at_lookup
       refine wpList_lookup_own_int _ rfl _ _ 113 rfl 9 3 .i64 (Maps.string_keyed Tryz.underlying9) Tryz.underlying113 Tryz.underlying3 (zero3 _) (w3.heap.size + 1) 4 _ rfl hm4 _ _ rfl (key_str s3 hsz) ?_
       intro cc hat hwc
       obtain ⟨mm, hmm2, rfl⟩ := arity_few HS3.out hat
       clear hat hwc hm4))
  · refine bodyPost_ret (v := agg4 2 ((p : Int) - 1) ⟨#[]⟩ none 0 0) (by simp [results, Tryz.results11, go_sem, agg4, *]) rfl ?_
    exact gen_leaf hw4 hgl hd4 (by omega) 2 _ ⟨#[]⟩
  · refine bodyPost_ret (v := agg4 3 (p3 : Int) ⟨#[]⟩ none 0 0) (by simp [results, Tryz.results11, go_sem, agg4, *]) rfl ?_
    exact gen_leaf hw4 hgl hd4 (by omega) 3 _ ⟨#[]⟩
  · refine bodyPost_ret (v := agg4 5 0 ⟨#[78]⟩ none 0 0) (by simp [results, Tryz.results11, go_sem, agg4, *]) rfl ?_
    exact gen_leaf hw4 hgl hd4 (by omega) 5 0 ⟨#[78]⟩
  · have hih := HI.out
    clear hmm of4
    have hk3' : k3 ≤ k + 2 := by omega
    have hxs : w3.heap.size < x4.heap.size := hb4.lt
    go_loopw [35] (fun i wr => ∃ (j : Nat) (acc : F) (v : Value), j ≤ mm ∧ i = .int .i64 j ∧ LeafLoop g A n c k b R' N' w x4 w3.heap.size j s3 acc v wr) (fun i _ => mm - (intOf i).toNat)
    case atStart => exact ⟨0, .nil, .slice none 0 0, Nat.zero_le _, rfl, ⟨rfl, trivial, OwnG.nil _ _ _ _, Nat.zero_le _, hq4, hb4, ⟨k3, by omega, hd4⟩, hR4, Nat.le_refl _⟩⟩
    case round =>
      obtain ⟨j, acc, v, hj, rfl, hlen, hkin, hown, hnod, hQ, hZ, ⟨k4, hk4, hdr⟩, hR, htop⟩ := hrel
      have hrs := hR.size
      have hzl := hZ.lt
      have hql := hQ.lt
      clear o0 o1 o2 o3 f0 f1 f2 f3
      obtain ⟨⟨y0, y1, y2, y3⟩, g0, g1, g2, g3⟩ := hQ.cells
      obtain ⟨⟨z0, z1, z2, z3⟩, f0, f1, f2, f3⟩ := hZ.cells
      obtain ⟨A5, c5, rfl, h51, h52, hrow⟩ := hown.row (by decide)
      by_cases hjm : j < mm
      · have hjm' : (j : Int) < (mm : Int) := by omega
        have hkk : k4 + R' ≤ 100000 := by
          have : j = 0 ∨ j = 1 := by omega
          rcases this with rfl | rfl <;> omega
        have hcall := hih k4 wr.drew (hW.trans hR).drew hdr hkk
        go_wp2
        go_region_law (first
          | (refine step_append_onez valTy (by decide) w5 [.int .i64 kk, .int .i64 nn, .string tt, .slice A6 f.len c6] 29 w5.heap.size rfl rfl (.tmp 38) (.tmp 43) rfl x4.heap.size _ j xs (by simp [Act.eval]) hownr (by simp [Act.eval]) rfl (by simp [Value.oneCell']) (by omega) (by omega) ?_
             intro v7 w7 hown7 hg7 hv7
             obtain ⟨A7, c7, rfl, h71, h72, _⟩ := CellsAt.of_own hown7
             have hZ7 := (hZ5.alloc (.cells #[.int .i64 kk, .int .i64 nn, .string tt, .slice A6 f.len c6] 29)).grown hg7 hne0
             have hQ7 := (hQ5.alloc (.cells #[.int .i64 kk, .int .i64 nn, .string tt, .slice A6 f.len c6] 29)).grown hg7 hne1
             have hD7 := (hd5.alloc (.cells #[.int .i64 kk, .int .i64 nn, .string tt, .slice A6 f.len c6] 29)).grown hg7 hneg
             obtain ⟨⟨p0, p1, p2, p3⟩, q0, q1, q2, q3⟩ := hZ7.cells)
          | (go_simp
             go_at_call 11
             (with_reducible refine hcall.mono ?_)
             rintro e w5 ⟨kk, nn, tt, f, A6, c6, k5, rfl, hrow6, hc61, hc62, hn6, hkin6, hk5, hd5, hr5⟩
             have hZ5 := Own4.rolled (w := wr.drew) hZ hr5 (by omega)
             have hQ5 := Own4.rolled (w := wr.drew) hQ hr5 (by omega)
             obtain ⟨⟨r0, r1, r2, r3⟩, l0, l1, l2, l3⟩ := hZ5.cells
             obtain ⟨xs, hownr, hfc⟩ := OwnG.rolled (w := wr.drew) (hown.kept (Below.refl _ _).drew) hr5 (by omega)
             have hne0 : some w3.heap.size ≠ (Value.slice A5 j c5).ownBlock := fun e => by have := (hownr.lt _ e.symm).1; omega
             have hne1 : some w.heap.size ≠ (Value.slice A5 j c5).ownBlock := fun e => by have := (hownr.lt _ e.symm).1; omega
             have hneg : some g ≠ (Value.slice A5 j c5).ownBlock := fun e => by have := (hownr.lt _ e.symm).1; omega
             have hs5 : wr.heap.size ≤ w5.heap.size := hr5.size
             have hzl5 : w3.heap.size < w5.heap.size := by omega))
        all_goals
          go_wp2
          go_roundw
          case measure => simp [intOf]; omega
          case rel =>
            have hlow := fun gg (hg : (Value.slice A5 j c5).ownBlock = some gg) => (hownr.lt gg hg).1
            have hlt0 : ∀ gg, (Value.slice A5 j c5).ownBlock = some gg → gg < wr.heap.size := fun gg hg => (hown.low hg).2
            refine ⟨j + 1, acc.snoc kk nn tt f, _, by omega, by go_num, ⟨by rw [F.snoc_len]; omega, Kin.snoc hkin6.2 hkin6.1 hkin, ?_, ?_, hQ7.setOther (by simp; omega) _, hZ7.set3 _, ⟨k5, ?_, hD7.setCell (by simp; omega) _⟩, ?_, by have := hg7.size; simp [World.setCell] at this ⊢; omega⟩⟩
            · rw [encF_snoc]
              refine OwnG.setCell (OwnG.snoc (o := .cells #[.int .i64 kk, .int .i64 nn, .string tt, .slice A6 f.len c6] 29) hfc ?_ hown7 hg7 hv7) (by show w3.heap.size < _; omega) _
              refine ⟨_, rfl, rfl, _, rfl, rfl, _, rfl, rfl, A6, c6, _, rfl, hc61, hc62, ?_, rfl⟩
              exact GRow.mono hrow6 fun b hb => ⟨by have := hb.1; simp at this; omega, hb.2, fun e => by
                have := hlt0 b e.symm
                have := hb.1
                simp at this
                omega⟩
            · rw [F.snoc_nodes, Nat.succ_mul]; omega
            · rw [Nat.succ_mul]; omega
            · exact (((hR.drew.trans hr5).alloc _).grown hg7 (fun gg hg => by have := hlow gg hg; omega)).setCell (by show w.heap.size ≤ w3.heap.size; omega) _
      · obtain rfl : j = mm := by omega
        go_wp2
        refine bodyPost_ret (v := agg4 5 0 s3 A5 j c5) (by simp [results, Tryz.results11, go_sem, agg4, *]) rfl ?_
        refine ⟨5, 0, s3, acc, A5, c5, k4, by rw [hlen], ?_, by rw [hlen]; exact h51, h52, ?_, ⟨hkin, by decide⟩, ?_, fill4_dice (z := w.heap.size) hdr (by omega) _ _ _ _, fill4_rolled (z := w.heap.size) hR (Nat.le_refl _) _ _ _ _⟩
        · rw [hlen]
          refine hrow.keep (fun b hb => ⟨by have := hb.1; omega, by have := hb.2; simpa [World.setCell] using this⟩) fun p hp => World.cell?_of_block (fill4_far wr w.heap.size (.int .i64 5) (.int .i64 0) (.string s3) (.slice A5 j c5) (by have := hp.1; omega))
        · have : j = 0 ∨ j = 1 ∨ j = 2 := by omega
          rcases this with rfl | rfl | rfl <;> omega
        · have : j = 0 ∨ j = 1 ∨ j = 2 := by omega
          rcases this with rfl | rfl | rfl <;> omega
def rollsL : Nat → Nat
  | 0 => 4
  | d + 1 => 4 + 2 * rollsL d
def nodesL : Nat → Nat
  | 0 => 0
  | d + 1 => 2 * (nodesL d + 1)
/-- A value of numbers, as deep as d. -/
theorem leafy_says (g : Nat) (A : Option Addr) (n c : Nat) (b : Bool) (w0 : World) (hC : Rolls g A n c w0) : ∀ (d : Nat), d ≤ 1000 → ∀ (k : Nat) (w : World), Rolled g w0 w → Dice w g A n c k b → k + rollsL d ≤ 100000 →
    Calls Tryz.prog 11 #[.pointer (some ⟨g, 0, none⟩), .int .i64 (d : Nat)] w (GenEnds g A n c k b (rollsL d) (nodesL d) w)
  | 0, _, k, w, hW, hd, hk => leafy_low g A n c b w0 hC 0 4 0 (by omega) (Nat.le_refl _) k w hW hd (by simpa [rollsL] using hk)
  | d + 1, hd1, k, w, hW, hd, hk =>
    leafy_high g A n c b w0 hC ((d + 1 : Nat) : Int) (d : Int) (rollsL d) (nodesL d) (by omega) (wrap_pred d (by omega)) (fun k W h1 h2 h3 => leafy_says g A n c b w0 hC d (by omega) k W h1 h2 h3) k w hW hd hk
end Go.Proofs.YtiinghgfojicdaaGreat
