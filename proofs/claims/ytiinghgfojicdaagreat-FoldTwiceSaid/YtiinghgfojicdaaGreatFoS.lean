/- A part of the proof of FoldTwice: the makers of expressions: leaf, all, arms. No conditions. -/
import Derived.Test.YtiinghgfojicdaaGreatFoI
import Derived.Test.YtiinghgfojicdaaGreatFoB
set_option linter.unusedVariables false
set_option linter.unusedSimpArgs false
namespace Go.Proofs.YtiinghgfojicdaaGreat
open Go.RowKit Go.RowG Go.FRow Go.GMem
set_option linter.unusedVariables false
/-- Some expression, all of it made since: rolls at most R, size at most N. -/
def ExGen (g : Nat) (A : Option Addr) (n c k : Nat) (b : Bool) (R N : Nat) (w : World) (e : Ending) (w' : World) : Prop :=
  ∃ (E : Ex) (q : At) (k' : Nat), e = .returned (agg8 E q) ∧ EIs w' (since w.heap.size w') E q ∧ E.size ≤ N ∧ E.small ∧ k' ≤ k + R ∧ Dice w' g A n c k' b ∧ Rolled g w w'
/-- A row of m expressions. -/
def AllGen (g : Nat) (A : Option Addr) (n c k : Nat) (b : Bool) (R N m : Nat) (w : World) (e : Ending) (w' : World) : Prop :=
  ∃ (x : X) (A' : Option Addr) (c' k' : Nat), e = .returned (.slice A' m c') ∧ x.len = m ∧ GRow w' (since w.heap.size w') A' m (encX false x) ∧ m ≤ c' ∧ c' ≤ maxLen ∧ sizeX false x ≤ m * N ∧ smallX x ∧ k' ≤ k + m * R ∧ Dice w' g A n c k' b ∧ Rolled g w w'
/-- A row of at most three arms. -/
def ArmsGen (g : Nat) (A : Option Addr) (n c k : Nat) (b : Bool) (R N : Nat) (w : World) (e : Ending) (w' : World) : Prop :=
  ∃ (x : X) (m : Nat) (A' : Option Addr) (c' k' : Nat), e = .returned (.slice A' m c') ∧ x.len = m ∧ GRow w' (since w.heap.size w') A' m (encX true x) ∧ m ≤ c' ∧ c' ≤ maxLen ∧ sizeX true x ≤ 3 * (N + 15) ∧ smallX x ∧ k' ≤ k + (1 + 3 * (R + 14)) ∧ Dice w' g A n c k' b ∧ Rolled g w w'
theorem fill8_rolled {w0 w : World} {g z : Nat} (h : Rolled g w0 w) (hz : w0.heap.size ≤ z) (v0 v1 v2 v3 v4 v5 v6 v7 : Value) : Rolled g w0 ((((((((w.setCell ⟨z, 0, none⟩ v0).setCell ⟨z, 1, none⟩ v1).setCell ⟨z, 2, none⟩ v2).setCell ⟨z, 3, none⟩ v3).setCell ⟨z, 4, none⟩ v4).setCell ⟨z, 5, none⟩ v5).setCell ⟨z, 6, none⟩ v6).setCell ⟨z, 7, none⟩ v7) := by
  have hb := fill8_below (Below.refl w0.heap.size w) hz v0 v1 v2 v3 v4 v5 v6 v7
  exact ⟨hb.os.trans h.os, hb.tape.trans h.tape, hb.output.trans h.output, Nat.le_trans h.size hb.size, fun k hk hg => (hb.block k hk).trans (h.block k hk hg)⟩
theorem fill8_dice {w : World} {g z : Nat} {A : Option Addr} {n c k : Nat} {b : Bool} (h : Dice w g A n c k b) (hz : g ≠ z) (v0 v1 v2 v3 v4 v5 v6 v7 : Value) : Dice ((((((((w.setCell ⟨z, 0, none⟩ v0).setCell ⟨z, 1, none⟩ v1).setCell ⟨z, 2, none⟩ v2).setCell ⟨z, 3, none⟩ v3).setCell ⟨z, 4, none⟩ v4).setCell ⟨z, 5, none⟩ v5).setCell ⟨z, 6, none⟩ v6).setCell ⟨z, 7, none⟩ v7) g A n c k b := by
  unfold Dice at *
  rw [fill8_far w z v0 v1 v2 v3 v4 v5 v6 v7 hz]
  exact h
/-- An expression made here goes into the result's block, and comes out. -/
theorem gen_close {w w2 : World} {g z : Nat} {A : Option Addr} {n c k k' R N : Nat} {b : Bool} {E : Ex} {q : At} (hw : Rolled g w w2) (hg : g < w.heap.size) (hz : z = w.heap.size) (hd : Dice w2 g A n c k' b) (hk : k' ≤ k + R) (hE : EIs w2 (fun b => w.heap.size < b ∧ b < w2.heap.size) E q) (hN : E.size ≤ N) (hs : E.small) (v0 v1 v2 v3 v4 v5 v6 v7 : Value) :
    ExGen g A n c k b R N w (.returned (agg8 E q)) ((((((((w2.setCell ⟨z, 0, none⟩ v0).setCell ⟨z, 1, none⟩ v1).setCell ⟨z, 2, none⟩ v2).setCell ⟨z, 3, none⟩ v3).setCell ⟨z, 4, none⟩ v4).setCell ⟨z, 5, none⟩ v5).setCell ⟨z, 6, none⟩ v6).setCell ⟨z, 7, none⟩ v7) := by
  subst hz
  refine ⟨E, q, k', rfl, hE.keep (fun b hb => ⟨by omega, by have := hb.2; simpa [World.setCell] using this⟩) (fun p hp => World.cell?_of_block (fill8_far _ _ _ _ _ _ _ _ _ _ (by have := hp.1; omega))), hN, hs, hk, fill8_dice hd (by omega) _ _ _ _ _ _ _ _, fill8_rolled hw (Nat.le_refl _) _ _ _ _ _ _ _ _⟩
theorem gen_leafE {w w2 : World} {g z : Nat} {A : Option Addr} {n c k k' R N : Nat} {b : Bool} (hw : Rolled g w w2) (hg : g < w.heap.size) (hz : z = w.heap.size) (hd : Dice w2 g A n c k' b) (hk : k' ≤ k + R) (hN : 1 ≤ N) (kk nn : Int) (tt : ByteArray) (ht : tt.size ≤ 100) (v0 v1 v2 v3 v4 v5 v6 v7 : Value) :
    ExGen g A n c k b R N w (.returned (agg8L kk nn tt)) ((((((((w2.setCell ⟨z, 0, none⟩ v0).setCell ⟨z, 1, none⟩ v1).setCell ⟨z, 2, none⟩ v2).setCell ⟨z, 3, none⟩ v3).setCell ⟨z, 4, none⟩ v4).setCell ⟨z, 5, none⟩ v5).setCell ⟨z, 6, none⟩ v6).setCell ⟨z, 7, none⟩ v7) :=
  gen_close (E := leafE kk nn tt) (q := at0) hw hg hz hd hk (leaf_eis _ _ _ _ _) (by simpa [Ex.size, sizeX] using hN) ⟨⟨by simp, by simp, ht⟩, trivial, trivial⟩ _ _ _ _ _ _ _ _
end Go.Proofs.YtiinghgfojicdaaGreat
namespace Go.Proofs.YtiinghgfojicdaaGreat
open Go.RowKit Go.RowG Go.FRow Go.GMem
set_option linter.unusedVariables false
attribute [local go_sem ↓] Go.wp_at_zero Go.wp_at_succ
theorem few_of {l : List ByteArray} {s : ByteArray} (h : s ∈ l) (hl : ∀ x ∈ l, x.size ≤ 100) : s.size ≤ 100 := hl s h
set_option maxRecDepth 100000 in
set_option maxHeartbeats 8000000 in
theorem leaf_says (g : Nat) (A : Option Addr) (n c : Nat) (b : Bool) (w0 : World) (hC : Rolls g A n c w0) (k : Nat) (w : World) (hW : Rolled g w0 w) (hd : Dice w g A n c k b) (hk : k + 2 ≤ 100000) :
    Calls Tryz.prog 70 #[.pointer (some ⟨g, 0, none⟩)] w (ExGen g A n c k b 2 1 w) := by
  have hgl : g < w.heap.size := hd.lt
  have hroll : ∀ o : Obj, Calls Tryz.prog 35 #[.pointer (some ⟨g, 0, none⟩), .int .i64 7] (w.alloc o) (RollEnds g A n c k b 7 (w.alloc o)) := fun o =>
    hC.roll _ b k 7 (hW.alloc o) (hd.alloc o) (by omega) (by omega) (by omega)
  have HC := Lib.hid hC
  clear hd hC
  go_enter Tryz.func70, Tryz.ntmps70
  go_wp2_with (first
    | (go_at_call 35
       (with_reducible refine (hroll _).mono ?_)
       rintro e w2 ⟨p, k2, hp, hk2, rfl, hd2, hr2, hz2⟩
       have ho : Own8 w2 w.heap.size 50 (.int .i64 0) (.int .i64 0) (.string ⟨#[]⟩) (.slice none 0 0) (.slice none 0 0) (.slice none 0 0) (.slice none 0 0) (.int .i64 0) := Own8.rolled (w := w.alloc (.cells #[.int .i64 0, .int .i64 0, .string ⟨#[]⟩, .slice none 0 0, .slice none 0 0, .slice none 0 0, .slice none 0 0, .int .i64 0] 50)) (heap_alloc_new w _) hr2 (by omega)
       have hw2 : Rolled g w w2 := (Rolled.of_below ((Below.refl _ _).alloc (Nat.le_refl _) _)).trans hr2
       obtain ⟨⟨r0, r1, r2, r3, r4, r5, r6, r7⟩, s0, s1, s2, s3, s4, s5, s6, s7⟩ := own_eight ho
       have roll2 : Calls Tryz.prog 35 #[.pointer (some ⟨g, 0, none⟩), .int .i64 2] w2 (RollEnds g A n c k2 b 2 w2) := HC.out.roll w2 b k2 2 (hW.trans hw2) hd2 (by omega) (by omega) (by omega)
       have roll7 : ∀ o : Obj, Calls Tryz.prog 35 #[.pointer (some ⟨g, 0, none⟩), .int .i64 7] (w2.alloc o) (RollEnds g A n c k2 b 7 (w2.alloc o)) := fun o => HC.out.roll _ b k2 7 ((hW.trans hw2).alloc o) (hd2.alloc o) (by omega) (by omega) (by omega)
       have of3 : ∀ u0 u1 u2 : ByteArray, Calls Tryz.prog 37 #[.pointer (some ⟨g, 0, none⟩), .slice (some ⟨w2.heap.size, 0, none⟩) 3 3] (w2.alloc (.cells #[.string u0, .string u1, .string u2] 9)) (OfEnds g A n c k2 b [u0, u1, u2] (w2.alloc (.cells #[.string u0, .string u1, .string u2] 9))) := fun u0 u1 u2 =>
         HC.out.of _ b k2 3 w2.heap.size [u0, u1, u2] ((hW.trans hw2).alloc _) (hd2.alloc _) (by omega) rfl (by omega) (by omega) (by simp) (by have := hw2.size; omega) (heap_alloc_new w2 _)
       have of6 : ∀ u0 u1 u2 u3 u4 u5 : ByteArray, Calls Tryz.prog 37 #[.pointer (some ⟨g, 0, none⟩), .slice (some ⟨w2.heap.size, 0, none⟩) 6 6] (w2.alloc (.cells #[.string u0, .string u1, .string u2, .string u3, .string u4, .string u5] 9)) (OfEnds g A n c k2 b [u0, u1, u2, u3, u4, u5] (w2.alloc (.cells #[.string u0, .string u1, .string u2, .string u3, .string u4, .string u5] 9))) := fun u0 u1 u2 u3 u4 u5 =>
         HC.out.of _ b k2 6 w2.heap.size [u0, u1, u2, u3, u4, u5] ((hW.trans hw2).alloc _) (hd2.alloc _) (by omega) rfl (by omega) (by omega) (by simp) (by have := hw2.size; omega) (heap_alloc_new w2 _)
       have hws : w.heap.size < w2.heap.size := ho.lt
       have hgs : g < w2.heap.size := hd2.lt
       clear hz2 hroll)
    | (go_at_call 35
       (with_reducible refine roll2.mono ?_)
       rintro e w3 ⟨p3, k3, hp3, hk3, rfl, hd3, hr3, hz3⟩
       have ho3 := ho.rolled hr3 (by omega)
       have hw3 : Rolled g w w3 := hw2.trans hr3
       clear r0 r1 r2 r3 r4 r5 r6 r7 s0 s1 s2 s3 s4 s5 s6 s7
       obtain ⟨⟨r0, r1, r2, r3, r4, r5, r6, r7⟩, s0, s1, s2, s3, s4, s5, s6, s7⟩ := own_eight ho3
       clear hz3)
    | (go_at_call 37
       (with_reducible refine (of3 _ _ _).mono ?_)
       rintro e w3 ⟨tx, k3, hs3, hk3, rfl, hd3, hr3, hz3⟩
       have hw3 : Rolled g w w3 := (hw2.alloc _).trans hr3
       have ho3 := (ho.alloc _).rolled hr3 (by omega)
       clear r0 r1 r2 r3 r4 r5 r6 r7 s0 s1 s2 s3 s4 s5 s6 s7
       obtain ⟨⟨r0, r1, r2, r3, r4, r5, r6, r7⟩, s0, s1, s2, s3, s4, s5, s6, s7⟩ := own_eight ho3
       have HS3 := few_of hs3 (by decide)
       clear hz3 hs3)
    | (go_at_call 37
       (with_reducible refine (of6 _ _ _ _ _ _).mono ?_)
       rintro e w3 ⟨tx, k3, hs3, hk3, rfl, hd3, hr3, hz3⟩
       have hw3 : Rolled g w w3 := (hw2.alloc _).trans hr3
       have ho3 := (ho.alloc _).rolled hr3 (by omega)
       clear r0 r1 r2 r3 r4 r5 r6 r7 s0 s1 s2 s3 s4 s5 s6 s7
       obtain ⟨⟨r0, r1, r2, r3, r4, r5, r6, r7⟩, s0, s1, s2, s3, s4, s5, s6, s7⟩ := own_eight ho3
       have HS3 := few_of hs3 (by decide)
       clear hz3 hs3)
    | (go_at_call 35
       (with_reducible refine (roll7 _).mono ?_)
       rintro e w3 ⟨p3, k3, hp3, hk3, rfl, hd3, hr3, hz3⟩
       have hw3 : Rolled g w w3 := (hw2.alloc _).trans hr3
       have ho3 := (ho.alloc _).rolled hr3 (by omega)
       have hrow := (hr3.block w2.heap.size (by simp) (by omega)).trans (heap_alloc_new w2 _)
       have hcell := World.news_of_block hrow
       have c0 := hcell 0 _ rfl
       have c1 := hcell 1 _ rfl
       have c2 := hcell 2 _ rfl
       have c3 := hcell 3 _ rfl
       have c4 := hcell 4 _ rfl
       have c5 := hcell 5 _ rfl
       have c6 := hcell 6 _ rfl
       simp [Addr.add] at c0 c1 c2 c3 c4 c5 c6
       clear r0 r1 r2 r3 r4 r5 r6 r7 s0 s1 s2 s3 s4 s5 s6 s7
       obtain ⟨⟨r0, r1, r2, r3, r4, r5, r6, r7⟩, s0, s1, s2, s3, s4, s5, s6, s7⟩ := own_eight ho3
       clear hcell hrow hz3
       obtain rfl | rfl | rfl | rfl | rfl | rfl | rfl : p3 = 0 ∨ p3 = 1 ∨ p3 = 2 ∨ p3 = 3 ∨ p3 = 4 ∨ p3 = 5 ∨ p3 = 6 := by omega)
    | fail "none")
  · refine bodyPost_ret (v := agg8L 1 0 ⟨#[]⟩) (by simp [results, Tryz.results70, go_sem, agg8L, *]) rfl ?_
    exact gen_leafE hw2 hgl rfl hd2 (by omega) (by omega) 1 0 ⟨#[]⟩ (by decide) _ _ _ _ _ _ _ _
  · refine bodyPost_ret (v := agg8L 3 (p3 : Int) ⟨#[]⟩) (by simp [results, Tryz.results70, go_sem, agg8L, *]) rfl ?_
    exact gen_leafE hw3 hgl rfl hd3 (by omega) (by omega) 3 (p3 : Int) ⟨#[]⟩ (by decide) _ _ _ _ _ _ _ _
  · refine bodyPost_ret (v := agg8L 4 0 tx) (by simp [results, Tryz.results70, go_sem, agg8L, *]) rfl ?_
    exact gen_leafE hw3 hgl rfl hd3 (by omega) (by omega) 4 0 tx HS3 _ _ _ _ _ _ _ _
  · refine bodyPost_ret (v := agg8L 5 0 tx) (by simp [results, Tryz.results70, go_sem, agg8L, *]) rfl ?_
    exact gen_leafE hw3 hgl rfl hd3 (by omega) (by omega) 5 0 tx HS3 _ _ _ _ _ _ _ _
  · refine bodyPost_ret (v := agg8L 5 0 tx) (by simp [results, Tryz.results70, go_sem, agg8L, *]) rfl ?_
    exact gen_leafE hw3 hgl rfl hd3 (by omega) (by omega) 5 0 tx HS3 _ _ _ _ _ _ _ _
  · refine bodyPost_ret (v := agg8L 16 0 ⟨#[]⟩) (by simp [results, Tryz.results70, go_sem, agg8L, *]) rfl ?_
    exact gen_leafE hw2 hgl rfl hd2 (by omega) (by omega) 16 0 ⟨#[]⟩ (by decide) _ _ _ _ _ _ _ _
  · refine bodyPost_ret (v := agg8L 2 0 ⟨#[]⟩) (by simp [results, Tryz.results70, go_sem, agg8L, *]) rfl ?_
    exact gen_leafE hw3 hgl rfl hd3 (by omega) (by omega) 2 0 ⟨#[]⟩ (by decide) _ _ _ _ _ _ _ _
  · refine bodyPost_ret (v := agg8L 2 1 ⟨#[]⟩) (by simp [results, Tryz.results70, go_sem, agg8L, *]) rfl ?_
    exact gen_leafE hw3 hgl rfl hd3 (by omega) (by omega) 2 1 ⟨#[]⟩ (by decide) _ _ _ _ _ _ _ _
  · refine bodyPost_ret (v := agg8L 2 (-1) ⟨#[]⟩) (by simp [results, Tryz.results70, go_sem, agg8L, *]) rfl ?_
    exact gen_leafE hw3 hgl rfl hd3 (by omega) (by omega) 2 (-1) ⟨#[]⟩ (by decide) _ _ _ _ _ _ _ _
  · refine bodyPost_ret (v := agg8L 2 2 ⟨#[]⟩) (by simp [results, Tryz.results70, go_sem, agg8L, *]) rfl ?_
    exact gen_leafE hw3 hgl rfl hd3 (by omega) (by omega) 2 2 ⟨#[]⟩ (by decide) _ _ _ _ _ _ _ _
  · refine bodyPost_ret (v := agg8L 2 5 ⟨#[]⟩) (by simp [results, Tryz.results70, go_sem, agg8L, *]) rfl ?_
    exact gen_leafE hw3 hgl rfl hd3 (by omega) (by omega) 2 5 ⟨#[]⟩ (by decide) _ _ _ _ _ _ _ _
  · refine bodyPost_ret (v := agg8L 2 9223372036854775807 ⟨#[]⟩) (by simp [results, Tryz.results70, go_sem, agg8L, *]) rfl ?_
    exact gen_leafE hw3 hgl rfl hd3 (by omega) (by omega) 2 9223372036854775807 ⟨#[]⟩ (by decide) _ _ _ _ _ _ _ _
  · refine bodyPost_ret (v := agg8L 2 (-9223372036854775808) ⟨#[]⟩) (by simp [results, Tryz.results70, go_sem, agg8L, *]) rfl ?_
    exact gen_leafE hw3 hgl rfl hd3 (by omega) (by omega) 2 (-9223372036854775808) ⟨#[]⟩ (by decide) _ _ _ _ _ _ _ _
end Go.Proofs.YtiinghgfojicdaaGreat
namespace Go.Proofs.YtiinghgfojicdaaGreat
open Go.RowKit Go.RowG Go.FRow Go.GMem
set_option linter.unusedVariables false
attribute [local go_sem ↓] Go.wp_at_zero Go.wp_at_succ
theorem smallX_snoc {p : Pt} {e : Ex} (he : e.small) : ∀ {x : X}, smallX x → smallX (x.snoc p e)
  | .nil, _ => ⟨he.1, he.2.1, he.2.2, trivial⟩
  | .cons _ _ _ _ r, ⟨h1, h2, h3, h4⟩ => ⟨h1, h2, h3, smallX_snoc he (x := r) h4⟩
abbrev noPt : Pt := ⟨0, 0, ⟨#[]⟩, .nil⟩
set_option maxRecDepth 100000 in
set_option maxHeartbeats 8000000 in
theorem all_says (g : Nat) (A : Option Addr) (n c : Nat) (b : Bool) (w0 : World) (dq : Int) (R N : Nat)
    (hIH : ∀ (k : Nat) (W : World), Rolled g w0 W → Dice W g A n c k b → k + R ≤ 100000 → Calls Tryz.prog 38 #[.pointer (some ⟨g, 0, none⟩), .int .i64 dq] W (ExGen g A n c k b R N W))
    (m : Nat) (hm : m ≤ 3) (k : Nat) (w : World) (hW : Rolled g w0 w) (hd : Dice w g A n c k b) (hk : k + m * R ≤ 100000) :
    Calls Tryz.prog 71 #[.pointer (some ⟨g, 0, none⟩), .int .i64 m, .int .i64 dq] w (AllGen g A n c k b R N m w) := by
  have hgl : g < w.heap.size := hd.lt
  have HI := Lib.hid hIH
  clear hIH
  go_enter Tryz.func71, Tryz.ntmps71
  go_wp2
  go_loopw [7, 9] (fun v i wr => ∃ (j : Nat) (acc : X) (xs : List Value) (k' : Nat), j ≤ m ∧ i = .int .i64 j ∧ acc.len = j ∧ Half (fun _ => False) 50 8 wr w.heap.size v j (encX false acc) xs ∧ smallX acc ∧ sizeX false acc ≤ j * N ∧ k' ≤ k + j * R ∧ Dice wr g A n c k' b ∧ Rolled g w wr) (fun _ i _ => m - (intOf i).toNat)
  case atStart => exact ⟨0, .nil, [], k, Nat.zero_le _, rfl, rfl, Half.nil _ _ _ _ _, trivial, by simp [sizeX], by omega, hd, Rolled.refl _ _⟩
  case round =>
    obtain ⟨j, acc, xs, k', hj, rfl, hlen, hhalf, hsm, hsz, hk', hdr, hR⟩ := hrel
    have hrs : w.heap.size ≤ wr.heap.size := hR.size
    obtain ⟨A5, c5, rfl, h51, h52, hrow⟩ := hhalf.row (by decide)
    by_cases hjm : j < m
    · have hjm' : (j : Int) < (m : Int) := by omega
      have hkk : k' + R ≤ 100000 := by
        have : j * R + R ≤ m * R := by
          have := Nat.mul_le_mul_right R (show j + 1 ≤ m by omega)
          rwa [Nat.succ_mul] at this
        omega
      have hcall := HI.out k' wr (hW.trans hR) hdr hkk
      go_wp2_with (first
        | (go_at_call 38
           (with_reducible refine hcall.mono ?_)
           rintro e w5 ⟨E5, q5, k5, rfl, hq5, hn5, hs5, hk5, hd5, hr5⟩
           have half5 := hhalf.rolled hr5 hgl (fun h => h)
           have hneg : some g ≠ (Value.slice A5 j c5).ownBlock := fun e => by have := (half5.own.lt _ e.symm).1; omega
           have hsw5 : wr.heap.size ≤ w5.heap.size := hr5.size
           clear hcall)
        | (at_builtin
           refine wpList_append_onez exprTy (by decide) w5 (eight E5 q5) 50 w5.heap.size rfl rfl (.tmp 11) (.tmp 15) rfl w.heap.size _ j xs rfl half5.own rfl rfl (by simp [Value.oneCell']) (by omega) (by omega) ?_
           intro v7 w7 hown7 hg7 hv7)
        | fail "none")
      go_roundw
      case measure => simp [intOf]; omega
      case rel =>
        have hlow := fun gg (hg : (Value.slice A5 j c5).ownBlock = some gg) => (hhalf.own.lt gg hg)
        have hcells : GCells w5 (fun b => ((fun _ => False) b ∨ w.heap.size ≤ b) ∧ b < w5.heap.size ∧ some b ≠ (Value.slice A5 j c5).ownBlock) (encE E5) (eight E5 q5) :=
          ex_half (S := fun _ => False) (hq5.mono fun b hb => Or.inr hb) (fun b h => h.elim) hrs hsw5 hlow
        refine ⟨j + 1, acc.snoc noPt E5, xs ++ eight E5 q5, k5, by omega, by go_num, by rw [X.snoc_len]; omega, ?_, smallX_snoc hs5 hsm, by rw [sizeX_snoc, Nat.succ_mul]; simp; omega, by rw [Nat.succ_mul]; omega, (hd5.alloc (.cells (eight E5 q5).toArray 50)).grown hg7 hneg, ((hR.trans hr5).alloc _).grown hg7 (fun gg hg => (hlow gg hg).1)⟩
        rw [encX_snoc_false]
        exact Half.snoc (o := .cells (eight E5 q5).toArray 50) half5 hcells hown7 hg7 hv7
    · obtain rfl : j = m := by omega
      have hjm' : ¬ ((j : Int) < (j : Int)) := by omega
      go_wp2
      go_ret
      exact ⟨acc, A5, c5, k', rfl, hlen, hrow.mono fun b hb => ⟨by rcases hb.1 with h | h; exact h.elim; exact h, hb.2⟩, h51, h52, hsz, hsm, hk', hdr, hR⟩
end Go.Proofs.YtiinghgfojicdaaGreat
namespace Go.Proofs.YtiinghgfojicdaaGreat
open Go.RowKit Go.RowG Go.FRow Go.GMem
set_option linter.unusedVariables false
attribute [local go_sem ↓] Go.wp_at_zero Go.wp_at_succ
set_option maxRecDepth 100000 in
set_option maxHeartbeats 8000000 in
theorem arms_says (g : Nat) (A : Option Addr) (n c : Nat) (b : Bool) (w0 : World) (hC : Rolls g A n c w0) (dq : Int) (R N : Nat)
    (hIH : ∀ (k : Nat) (W : World), Rolled g w0 W → Dice W g A n c k b → k + R ≤ 100000 → Calls Tryz.prog 38 #[.pointer (some ⟨g, 0, none⟩), .int .i64 dq] W (ExGen g A n c k b R N W))
    (k : Nat) (w : World) (hW : Rolled g w0 w) (hd : Dice w g A n c k b) (hk : k + (1 + 3 * (R + 14)) ≤ 100000) :
    Calls Tryz.prog 74 #[.pointer (some ⟨g, 0, none⟩), .int .i64 dq] w (ArmsGen g A n c k b R N w) := by
  have hgl : g < w.heap.size := hd.lt
  have hroll : Calls Tryz.prog 35 #[.pointer (some ⟨g, 0, none⟩), .int .i64 3] w (RollEnds g A n c k b 3 w) := hC.roll w b k 3 hW hd (by omega) (by omega) (by omega)
  have HI := Lib.hid hIH
  have HC := Lib.hid hC
  clear hIH hC
  go_enter Tryz.func74, Tryz.ntmps74
  go_wp2_with (first
    | (go_at_call 35
       (with_reducible refine hroll.mono ?_)
       rintro e w2 ⟨p, k2, hp, hk2, rfl, hd2, hr2, hz2⟩
       clear hroll)
    | fail "none")
  go_loopw [5, 9] (fun v i wr => ∃ (j : Nat) (acc : X) (xs : List Value) (k' : Nat), j ≤ p + 1 ∧ i = .int .i64 j ∧ acc.len = j ∧ Half (fun _ => False) 70 12 wr w.heap.size v j (encX true acc) xs ∧ smallX acc ∧ sizeX true acc ≤ j * (N + 15) ∧ k' ≤ k + 1 + j * (R + 14) ∧ Dice wr g A n c k' b ∧ Rolled g w wr) (fun _ i _ => p + 1 - (intOf i).toNat)
  case atStart => exact ⟨0, .nil, [], k2, Nat.zero_le _, rfl, rfl, Half.nil _ _ _ _ _, trivial, by simp [sizeX], by omega, hd2, hr2⟩
  case round =>
    obtain ⟨j, acc, xs, k', hj, rfl, hlen, hhalf, hsm, hsz, hk', hdr, hR⟩ := hrel
    have hrs : w.heap.size ≤ wr.heap.size := hR.size
    obtain ⟨A5, c5, rfl, h51, h52, hrow⟩ := hhalf.row (by decide)
    by_cases hjm : j < p + 1
    · have hjm' : (j : Int) < 1 + (p : Int) := by omega
      have hkk : k' + (R + 14) ≤ 100000 := by
        have : j * (R + 14) + (R + 14) ≤ 3 * (R + 14) := by
          have := Nat.mul_le_mul_right (R + 14) (show j + 1 ≤ 3 by omega)
          rwa [Nat.succ_mul] at this
        omega
      have e1 : rollsD 2 = 14 := rfl
      have e2 : nodesD 2 = 14 := rfl
      have hpat : Calls Tryz.prog 36 #[.pointer (some ⟨g, 0, none⟩), .int .i64 2] wr (GenEnds g A n c k' b (rollsD 2) (nodesD 2) wr) := pat_says g A n c b w0 HC.out 2 (by omega) k' wr (hW.trans hR) hdr (by rw [e1]; omega)
      rw [e1, e2] at hpat
      go_wp2_with (first
        | (go_at_call 36
           (with_reducible refine hpat.mono ?_)
           rintro e w5 ⟨kk, nn, tt, f, A6, c6, k5, rfl, hrow6, hc61, hc62, hn6, hkin6, hk5, hd5, hr5⟩
           have hcall := HI.out k5 w5 (hW.trans (hR.trans hr5)) hd5 (by omega)
           have half5 := hhalf.rolled hr5 hgl (fun h => h)
           have hsw5 : wr.heap.size ≤ w5.heap.size := hr5.size
           clear hpat)
        | (go_at_call 38
           (with_reducible refine hcall.mono ?_)
           rintro e w6 ⟨E6, q6, k6, rfl, hq6, hn7, hs6, hk6, hd6, hr6⟩
           have half6 := half5.rolled hr6 hgl (fun h => h)
           have hneg : some g ≠ (Value.slice A5 j c5).ownBlock := fun e => by have := (half6.own.lt _ e.symm).1; omega
           have hsw6 : w5.heap.size ≤ w6.heap.size := hr6.size
           clear hcall)
        | (at_builtin
           refine wpList_append_onez armTy (by decide) w6 (.int .i64 kk :: .int .i64 nn :: .string tt :: .slice A6 f.len c6 :: eight E6 q6) 70 w6.heap.size rfl rfl (.tmp 11) (.tmp 18) rfl w.heap.size _ j xs rfl half6.own rfl rfl (by simp [Value.oneCell']) (by omega) (by omega) ?_
           intro v7 w7 hown7 hg7 hv7)
        | fail "none")
      go_roundw
      case measure => simp [intOf]; omega
      case rel =>
        have hlow := fun gg (hg : (Value.slice A5 j c5).ownBlock = some gg) => (hhalf.own.lt gg hg)
        have hcells : GCells w6 (fun b => ((fun _ => False) b ∨ w.heap.size ≤ b) ∧ b < w6.heap.size ∧ some b ≠ (Value.slice A5 j c5).ownBlock) (cellsP ⟨kk, nn, tt, f⟩ (encE E6)) (.int .i64 kk :: .int .i64 nn :: .string tt :: .slice A6 f.len c6 :: eight E6 q6) :=
          ⟨_, rfl, rfl, _, rfl, rfl, _, rfl, rfl, A6, c6, _, rfl, hc61, hc62, GRow.keep hrow6 (fun b hb => ⟨Or.inr (by have := hb.1; omega), by have := hb.2; omega, fun e => by have := (hlow b e.symm).2; have := hb.1; omega⟩) (fun p hp => hr6.cell hp.2 (by have := hp.1; omega)),
            ex_half (S := fun _ => False) (hq6.mono fun b hb => Or.inr ⟨Nat.le_trans hsw5 hb.1, hb.2⟩) (fun b h => h.elim) hrs (by omega) hlow⟩
        refine ⟨j + 1, acc.snoc ⟨kk, nn, tt, f⟩ E6, xs ++ (.int .i64 kk :: .int .i64 nn :: .string tt :: .slice A6 f.len c6 :: eight E6 q6), k6, by omega, by go_num, by rw [X.snoc_len]; omega, ?_, smallX_snoc hs6 hsm, by rw [sizeX_snoc, Nat.succ_mul]; simp; omega, by rw [Nat.succ_mul]; omega, (hd6.alloc (.cells (.int .i64 kk :: .int .i64 nn :: .string tt :: .slice A6 f.len c6 :: eight E6 q6).toArray 70)).grown hg7 hneg, (((hR.trans hr5).trans hr6).alloc _).grown hg7 (fun gg hg => (hlow gg hg).1)⟩
        rw [encX_snoc_true]
        exact Half.snoc (o := .cells (.int .i64 kk :: .int .i64 nn :: .string tt :: .slice A6 f.len c6 :: eight E6 q6).toArray 70) half6 hcells hown7 hg7 hv7
    · obtain rfl : j = p + 1 := by omega
      have hjm' : ¬ ((p : Int) + 1 < 1 + (p : Int)) := by omega
      go_wp2
      go_ret
      have h3 : (p + 1) * (N + 15) ≤ 3 * (N + 15) := Nat.mul_le_mul_right _ (by omega)
      have h4 : (p + 1) * (R + 14) ≤ 3 * (R + 14) := Nat.mul_le_mul_right _ (by omega)
      exact ⟨acc, p + 1, A5, c5, k', rfl, hlen, hrow.mono fun b hb => ⟨by rcases hb.1 with h | h; exact h.elim; exact h, hb.2⟩, h51, h52, by omega, hsm, by omega, hdr, hR⟩
end Go.Proofs.YtiinghgfojicdaaGreat
