/- A part of the proof of FoldTwice: dice.expr: a way. No conditions. -/
import Derived.Test.YtiinghgfojicdaaGreatFoY
import Derived.Test.YtiinghgfojicdaaGreatFoJ
import Derived.Deep.RegionLaw
import Derived.Deep.RegionHeld3
set_option linter.unusedVariables false
set_option linter.unusedSimpArgs false
namespace Go.Proofs.YtiinghgfojicdaaGreat
open Go.RowKit Go.RowG Go.FRow Go.GMem
set_option linter.unusedVariables false
abbrev makers : List ByteArray := [⟨#[78]⟩, ⟨#[65]⟩, ⟨#[66]⟩, ⟨#[81]⟩]
theorem maker_at {s : ByteArray} (h : s ∈ makers) : ∃ i a : Nat, i < 4 ∧ a ≤ 2 ∧ idxB s makers 0 = (i : Int) ∧ ([.int .i64 0, .int .i64 1, .int .i64 2, .int .i64 1] : List Value)[i]? = some (.int .i64 (a : Int)) := by
  simp only [List.mem_cons, List.not_mem_nil, or_false] at h
  rcases h with rfl | rfl | rfl | rfl
  · exact ⟨0, 0, by decide, by decide, by decide +kernel, rfl⟩
  · exact ⟨1, 1, by decide, by decide, by decide +kernel, rfl⟩
  · exact ⟨2, 2, by decide, by decide, by decide +kernel, rfl⟩
  · exact ⟨3, 1, by decide, by decide, by decide +kernel, rfl⟩
theorem makers_row {W : World} {zs : Nat} (h : W.heap[zs]? = some (.cells #[.string ⟨#[78]⟩, .string ⟨#[65]⟩, .string ⟨#[66]⟩, .string ⟨#[81]⟩] 9 (0, 0))) : GRow W (lt W) (some ⟨zs, 0, none⟩) makers.length (encS makers) := fun _ =>
  ⟨zs, 0, [.string ⟨#[78]⟩, .string ⟨#[65]⟩, .string ⟨#[66]⟩, .string ⟨#[81]⟩], rfl, (Array.getElem?_eq_some_iff.1 h).1, ⟨_, rfl, rfl, _, rfl, rfl, _, rfl, rfl, _, rfl, rfl, rfl⟩, fun i u hu => by
    rw [Nat.zero_add]
    simp only [World.cell?, h]
    simpa using hu⟩
/-- The arities' block. -/
structure IR (w : World) (W : World) (zi : Nat) : Prop where
  heap : W.heap[zi]? = some (.cells #[.int .i64 0, .int .i64 1, .int .i64 2, .int .i64 1] 3 (0, 0))
  lo : w.heap.size < zi
theorem IR.new {w W : World} (hw : w.heap.size < W.heap.size) : IR w (W.alloc (.cells #[.int .i64 0, .int .i64 1, .int .i64 2, .int .i64 1] 3)) W.heap.size := ⟨heap_alloc_new W _, hw⟩
theorem IR.alloc {w W : World} {zi : Nat} (h : IR w W zi) (o : Obj) : IR w (W.alloc o) zi := ⟨(heap_alloc_old W o (Array.getElem?_eq_some_iff.1 h.heap).1).trans h.heap, h.lo⟩
theorem IR.drew {w W : World} {zi : Nat} (h : IR w W zi) : IR w W.drew zi := ⟨h.heap, h.lo⟩
theorem IR.rolled {w W W' : World} {zi g : Nat} (h : IR w W zi) (hr : Rolled g W W') (hg : g < w.heap.size) : IR w W' zi := ⟨(hr.block zi (Array.getElem?_eq_some_iff.1 h.heap).1 (by have := h.lo; omega)).trans h.heap, h.lo⟩
theorem IR.cell {w W : World} {zi i : Nat} {v : Value} (h : IR w W zi) (hi : ([.int .i64 0, .int .i64 1, .int .i64 2, .int .i64 1] : List Value)[i]? = some v) : W.cell? ⟨zi, i, none⟩ = some v := by
  simp only [World.cell?, h.heap]
  simpa using hi
theorem Mk.index {g n c k z : Nat} {A : Option Addr} {w0 w W : World} {K : Int} {b : Bool} {v1 v2 v3 v4 v5 v6 : Value} (h : Mk g A n c w0 w z K k b W v1 v2 v3 v4 v5 v6) {zs : Nat} (hz : W.heap[zs]? = some (.cells #[.string ⟨#[78]⟩, .string ⟨#[65]⟩, .string ⟨#[66]⟩, .string ⟨#[81]⟩] 9 (0, 0))) {s : ByteArray} {i : Nat} (hi : idxB s makers 0 = (i : Int)) : Calls Tryz.prog 73 #[.slice (some ⟨zs, 0, none⟩) 4 4, .string s] W (NumEnds (i : Int) W) := by
  have h := idxS_says makers s (some ⟨zs, 0, none⟩) 4 W (makers_row hz) (by decide)
  rw [hi] at h
  exact h
end Go.Proofs.YtiinghgfojicdaaGreat
namespace Go.Proofs.YtiinghgfojicdaaGreat
open Go.RowKit Go.RowG Go.FRow Go.GMem
set_option linter.unusedVariables false
attribute [local go_sem ↓] Go.wp_at_zero Go.wp_at_succ
set_option maxRecDepth 100000 in
set_option maxHeartbeats 8000000 in
theorem ex_make (g : Nat) (A : Option Addr) (n c : Nat) (w0 : World) (hC : Rolls1 g A n c w0) (dp dq : Int) (hge : 1 ≤ dp) (hdq : IntKind.i64.wrap (dp - 1) = dq) (R N : Nat) (hE : ExprAt g A n c w0 dq R N) (b : Bool) (k p k2 : Nat) (w : World) (hW : Rolled g w0 w) (hd : Dice w g A n c k b) (hk : k + (4 * R + 46) ≤ 100000) (hp : p < 25) (hk2 : k2 ≤ k + 1) (hK : kinds[p]? = some 12) 
    (hroll : Calls Tryz.prog 35 #[.pointer (some ⟨g, 0, none⟩), .int .i64 25] ((w.alloc (.cells #[.int .i64 0, .int .i64 0, .string ⟨#[]⟩, .slice none 0 0, .slice none 0 0, .slice none 0 0, .slice none 0 0, .int .i64 0] 50)).alloc (.cells #[.int .i64 8, .int .i64 8, .int .i64 8, .int .i64 7, .int .i64 6, .int .i64 6, .int .i64 9, .int .i64 9, .int .i64 10, .int .i64 11, .int .i64 12, .int .i64 12, .int .i64 13, .int .i64 14, .int .i64 15, .int .i64 17, .int .i64 18, .int .i64 19, .int .i64 20, .int .i64 20, .int .i64 21, .int .i64 22, .int .i64 23, .int .i64 24, .int .i64 25] 3)) (RollIs g A n c k2 b p ((w.alloc (.cells #[.int .i64 0, .int .i64 0, .string ⟨#[]⟩, .slice none 0 0, .slice none 0 0, .slice none 0 0, .slice none 0 0, .int .i64 0] 50)).alloc (.cells #[.int .i64 8, .int .i64 8, .int .i64 8, .int .i64 7, .int .i64 6, .int .i64 6, .int .i64 9, .int .i64 9, .int .i64 10, .int .i64 11, .int .i64 12, .int .i64 12, .int .i64 13, .int .i64 14, .int .i64 15, .int .i64 17, .int .i64 18, .int .i64 19, .int .i64 20, .int .i64 20, .int .i64 21, .int .i64 22, .int .i64 23, .int .i64 24, .int .i64 25] 3)))) :
    Calls Tryz.prog 38 #[.pointer (some ⟨g, 0, none⟩), .int .i64 dp] w (ExGen g A n c k b (4 * R + 46) (4 * N + 46) w) := by
  have hgl : g < w.heap.size := hd.lt
  have hdec : decide (dp < 1) = false := decide_eq_false (by omega)
  obtain ⟨W1, hW1⟩ : ∃ W1, W1 = ((w.alloc (.cells #[.int .i64 0, .int .i64 0, .string ⟨#[]⟩, .slice none 0 0, .slice none 0 0, .slice none 0 0, .slice none 0 0, .int .i64 0] 50)).alloc (.cells #[.int .i64 8, .int .i64 8, .int .i64 8, .int .i64 7, .int .i64 6, .int .i64 6, .int .i64 9, .int .i64 9, .int .i64 10, .int .i64 11, .int .i64 12, .int .i64 12, .int .i64 13, .int .i64 14, .int .i64 15, .int .i64 17, .int .i64 18, .int .i64 19, .int .i64 20, .int .i64 20, .int .i64 21, .int .i64 22, .int .i64 23, .int .i64 24, .int .i64 25] 3)) := ⟨_, rfl⟩
  have hR1 : Rolled g w W1 := by rw [hW1]; exact ((Rolled.refl _ _).alloc _).alloc _
  have ho1 : Own8 W1 w.heap.size 50 (.int .i64 0) (.int .i64 0) (.string ⟨#[]⟩) (.slice none 0 0) (.slice none 0 0) (.slice none 0 0) (.slice none 0 0) (.int .i64 0) := by
    rw [hW1]
    exact Own8.alloc (heap_alloc_new w _) _
  have hl1 : W1.heap[w.heap.size + 1]? = some (.cells (kinds.map (Value.int .i64)).toArray 3 (0, 0)) := by
    rw [hW1]
    have := heap_alloc_new (w.alloc (.cells #[.int .i64 0, .int .i64 0, .string ⟨#[]⟩, .slice none 0 0, .slice none 0 0, .slice none 0 0, .slice none 0 0, .int .i64 0] 50)) (.cells #[.int .i64 8, .int .i64 8, .int .i64 8, .int .i64 7, .int .i64 6, .int .i64 6, .int .i64 9, .int .i64 9, .int .i64 10, .int .i64 11, .int .i64 12, .int .i64 12, .int .i64 13, .int .i64 14, .int .i64 15, .int .i64 17, .int .i64 18, .int .i64 19, .int .i64 20, .int .i64 20, .int .i64 21, .int .i64 22, .int .i64 23, .int .i64 24, .int .i64 25] 3)
    have e : (w.alloc (.cells #[.int .i64 0, .int .i64 0, .string ⟨#[]⟩, .slice none 0 0, .slice none 0 0, .slice none 0 0, .slice none 0 0, .int .i64 0] 50)).heap.size = w.heap.size + 1 := by simp
    rw [e] at this
    exact this
  have hs1 : W1.heap.size = w.heap.size + 2 := by rw [hW1]; simp
  have HW1 := Lib.hid hW1
  have HD := Lib.hid hd
  have HE := Lib.hid hE
  have HC := Lib.hid hC
  have hKv : (kinds.map (Value.int .i64)).toArray.toList[p]? = some (.int .i64 12) := by
    show (kinds.map (Value.int .i64))[p]? = _
    rw [List.getElem?_map, hK]
    rfl
  have hp0 : (0 : Int) ≤ (p : Int) := Int.natCast_nonneg _
  have hp25 : (p : Int) < 25 := by omega
  clear hW1 hd hE hC
  go_enter Tryz.func38, Tryz.ntmps38
  go_upto_region 29 with (first
    | (go_at_call 35
       (with_reducible refine hroll.mono ?_)
       rintro e w2 ⟨rfl, hd2, hr2, hz2⟩
       rw [← HW1.out] at hr2 hz2
       have hcp : w2.cell? ⟨w.heap.size + 1, p, none⟩ = some (.int .i64 12) := by
         have h := World.news_of_block ((hr2.block (w.heap.size + 1) (by omega) (by omega)).trans hl1) p (.int .i64 12) hKv
         rw [add_at, Nat.zero_add] at h
         exact h
       have hca : w2.cell? ((⟨w.heap.size + 1, 0, none⟩ : Addr).add p) = some (.int .i64 12) := by rw [add_at, Nat.zero_add]; exact hcp
       have hR2 : Rolled g w w2 := hR1.trans hr2
       have ho2 := ho1.rolled hr2 (by omega)
       have M3 : Mk g A n c w0 w w2.heap.size 12 k2 b (w2.alloc (.cells #[.int .i64 12, .int .i64 0, .string ⟨#[]⟩, .slice none 0 0, .slice none 0 0, .slice none 0 0, .slice none 0 0, .int .i64 0] 50)) (.int .i64 0) (.string ⟨#[]⟩) (.slice none 0 0) (.slice none 0 0) (.slice none 0 0) (.slice none 0 0) :=
         ⟨hW, hgl, by omega, hR2.alloc _, hd2.alloc _, ho2.alloc _, heap_alloc_new w2 _⟩
       have hz3 := M3.hi
       have hzl3 := M3.zlt
       have hg3 := M3.lo
       obtain ⟨⟨r0, r1, r2, r3, r4, r5, r6, r7⟩, s0, s1, s2, s3, s4, s5, s6, s7⟩ := own_eight M3.res
       obtain ⟨⟨q0, q1, q2, q3, q4, q5, q6, q7⟩, f0, f1, f2, f3, f4, f5, f6, f7⟩ := own_eight M3.blk
       have of4 : ∀ u0 u1 u2 u3 : ByteArray, Calls Tryz.prog 37 #[.pointer (some ⟨g, 0, none⟩), .slice (some ⟨w2.heap.size + 1, 0, none⟩) 4 4] ((w2.alloc (.cells #[.int .i64 12, .int .i64 0, .string ⟨#[]⟩, .slice none 0 0, .slice none 0 0, .slice none 0 0, .slice none 0 0, .int .i64 0] 50)).alloc (.cells #[.string u0, .string u1, .string u2, .string u3] 9)) (OfEnds g A n c k2 b [u0, u1, u2, u3] ((w2.alloc (.cells #[.int .i64 12, .int .i64 0, .string ⟨#[]⟩, .slice none 0 0, .slice none 0 0, .slice none 0 0, .slice none 0 0, .int .i64 0] 50)).alloc (.cells #[.string u0, .string u1, .string u2, .string u3] 9))) := fun u0 u1 u2 u3 => by
         have h := M3.of HC.out [u0, u1, u2, u3] 4 (by omega) rfl (by omega) (by omega)
         rw [show (w2.alloc (.cells #[.int .i64 12, .int .i64 0, .string ⟨#[]⟩, .slice none 0 0, .slice none 0 0, .slice none 0 0, .slice none 0 0, .int .i64 0] 50)).heap.size = w2.heap.size + 1 by simp] at h
         exact h
       clear hroll hl1 hr2 hd2 hz2)
    | (go_at_call 37
       (with_reducible refine (of4 _ _ _ _).mono ?_)
       rintro e w4 ⟨tx, k4, htx, hk4, rfl, hd4, hr4, hz4⟩
       have M4 := (M3.alloc _).rolled hr4 hd4
       have HTX := few_of htx (by decide)
       obtain ⟨im, am, him, ham, hidx, hcel⟩ := maker_at htx
       clear r0 r1 r2 r3 r4 r5 r6 r7 s0 s1 s2 s3 s4 s5 s6 s7 q0 q1 q2 q3 q4 q5 q6 q7 f0 f1 f2 f3 f4 f5 f6 f7
       obtain ⟨⟨r0, r1, r2, r3, r4, r5, r6, r7⟩, s0, s1, s2, s3, s4, s5, s6, s7⟩ := own_eight M4.res
       obtain ⟨⟨q0, q1, q2, q3, q4, q5, q6, q7⟩, f0, f1, f2, f3, f4, f5, f6, f7⟩ := own_eight M4.blk
       clear htx hd4 hr4 hz4)
    | fail "none")
  have M8 := M4.set2 (.string tx)
  obtain ⟨W8, hW8⟩ : ∃ W8, W8 = w4.setCell ⟨w2.heap.size, 2, none⟩ (.string tx) := ⟨_, rfl⟩
  rw [← hW8]
  rw [← hW8] at M8
  clear hW8 r0 r1 r2 r3 r4 r5 r6 r7 s0 s1 s2 s3 s4 s5 s6 s7 q0 q1 q2 q3 q4 q5 q6 q7 f0 f1 f2 f3 f4 f5 f6 f7
  have hz8 := M8.zlt
  have hw8 : w.heap.size < W8.heap.size := by have := M8.hi; omega
  have t8 := (own_eight M8.blk).1.2.2.1
  have t81 := (own_eight (M8.alloc (.cells #[.int .i64 0, .int .i64 1, .int .i64 2, .int .i64 1] 3)).blk).1.2.2.1
  have t82 := (own_eight (M8.alloc (.cells #[.string ⟨#[78]⟩, .string ⟨#[65]⟩, .string ⟨#[66]⟩, .string ⟨#[81]⟩] 9)).blk).1.2.2.1
  have t812 := (own_eight ((M8.alloc (.cells #[.int .i64 0, .int .i64 1, .int .i64 2, .int .i64 1] 3)).alloc (.cells #[.string ⟨#[78]⟩, .string ⟨#[65]⟩, .string ⟨#[66]⟩, .string ⟨#[81]⟩] 9)).blk).1.2.2.1
  have t821 := (own_eight ((M8.alloc (.cells #[.string ⟨#[78]⟩, .string ⟨#[65]⟩, .string ⟨#[66]⟩, .string ⟨#[81]⟩] 9)).alloc (.cells #[.int .i64 0, .int .i64 1, .int .i64 2, .int .i64 1] 3)).blk).1.2.2.1
  have e1 : (W8.alloc (.cells #[.int .i64 0, .int .i64 1, .int .i64 2, .int .i64 1] 3)).heap.size = W8.heap.size + 1 := by simp
  have e2 : (W8.alloc (.cells #[.string ⟨#[78]⟩, .string ⟨#[65]⟩, .string ⟨#[66]⟩, .string ⟨#[81]⟩] 9)).heap.size = W8.heap.size + 1 := by simp
  have sA : ((W8.alloc (.cells #[.int .i64 0, .int .i64 1, .int .i64 2, .int .i64 1] 3)).alloc (.cells #[.string ⟨#[78]⟩, .string ⟨#[65]⟩, .string ⟨#[66]⟩, .string ⟨#[81]⟩] 9)).heap[W8.heap.size + 1]? = some (.cells #[.string ⟨#[78]⟩, .string ⟨#[65]⟩, .string ⟨#[66]⟩, .string ⟨#[81]⟩] 9 (0, 0)) := by
    have h := heap_alloc_new (W8.alloc (.cells #[.int .i64 0, .int .i64 1, .int .i64 2, .int .i64 1] 3)) (.cells #[.string ⟨#[78]⟩, .string ⟨#[65]⟩, .string ⟨#[66]⟩, .string ⟨#[81]⟩] 9)
    rw [e1] at h
    exact h
  have sB : ((W8.alloc (.cells #[.string ⟨#[78]⟩, .string ⟨#[65]⟩, .string ⟨#[66]⟩, .string ⟨#[81]⟩] 9)).alloc (.cells #[.int .i64 0, .int .i64 1, .int .i64 2, .int .i64 1] 3)).heap[W8.heap.size]? = some (.cells #[.string ⟨#[78]⟩, .string ⟨#[65]⟩, .string ⟨#[66]⟩, .string ⟨#[81]⟩] 9 (0, 0)) := (heap_alloc_old _ _ (by simp)).trans (heap_alloc_new W8 _)
  have sC : (W8.alloc (.cells #[.string ⟨#[78]⟩, .string ⟨#[65]⟩, .string ⟨#[66]⟩, .string ⟨#[81]⟩] 9)).heap[W8.heap.size]? = some (.cells #[.string ⟨#[78]⟩, .string ⟨#[65]⟩, .string ⟨#[66]⟩, .string ⟨#[81]⟩] 9 (0, 0)) := heap_alloc_new W8 _
  have xA : Calls Tryz.prog 73 #[.slice (some ⟨W8.heap.size + 1, 0, none⟩) 4 4, .string tx] (((W8.alloc (.cells #[.int .i64 0, .int .i64 1, .int .i64 2, .int .i64 1] 3)).alloc (.cells #[.string ⟨#[78]⟩, .string ⟨#[65]⟩, .string ⟨#[66]⟩, .string ⟨#[81]⟩] 9)).drew) (NumEnds (im : Int) (((W8.alloc (.cells #[.int .i64 0, .int .i64 1, .int .i64 2, .int .i64 1] 3)).alloc (.cells #[.string ⟨#[78]⟩, .string ⟨#[65]⟩, .string ⟨#[66]⟩, .string ⟨#[81]⟩] 9)).drew)) := (((M8.alloc _).alloc _).drew).index (zs := W8.heap.size + 1) sA hidx
  have xB : Calls Tryz.prog 73 #[.slice (some ⟨W8.heap.size, 0, none⟩) 4 4, .string tx] (((W8.alloc (.cells #[.string ⟨#[78]⟩, .string ⟨#[65]⟩, .string ⟨#[66]⟩, .string ⟨#[81]⟩] 9)).alloc (.cells #[.int .i64 0, .int .i64 1, .int .i64 2, .int .i64 1] 3)).drew) (NumEnds (im : Int) (((W8.alloc (.cells #[.string ⟨#[78]⟩, .string ⟨#[65]⟩, .string ⟨#[66]⟩, .string ⟨#[81]⟩] 9)).alloc (.cells #[.int .i64 0, .int .i64 1, .int .i64 2, .int .i64 1] 3)).drew)) := (((M8.alloc _).alloc _).drew).index (zs := W8.heap.size) sB hidx
  have xC : Calls Tryz.prog 73 #[.slice (some ⟨W8.heap.size, 0, none⟩) 4 4, .string tx] ((W8.alloc (.cells #[.string ⟨#[78]⟩, .string ⟨#[65]⟩, .string ⟨#[66]⟩, .string ⟨#[81]⟩] 9)).drew) (NumEnds (im : Int) ((W8.alloc (.cells #[.string ⟨#[78]⟩, .string ⟨#[65]⟩, .string ⟨#[66]⟩, .string ⟨#[81]⟩] 9)).drew)) := ((M8.alloc _).drew).index (zs := W8.heap.size) sC hidx
  have iA : IR w (((W8.alloc (.cells #[.int .i64 0, .int .i64 1, .int .i64 2, .int .i64 1] 3)).alloc (.cells #[.string ⟨#[78]⟩, .string ⟨#[65]⟩, .string ⟨#[66]⟩, .string ⟨#[81]⟩] 9)).drew) W8.heap.size := ((IR.new hw8).alloc _).drew
  have iB : IR w (((W8.alloc (.cells #[.string ⟨#[78]⟩, .string ⟨#[65]⟩, .string ⟨#[66]⟩, .string ⟨#[81]⟩] 9)).alloc (.cells #[.int .i64 0, .int .i64 1, .int .i64 2, .int .i64 1] 3)).drew) (W8.heap.size + 1) := by
    have h := IR.new (w := w) (W := W8.alloc (.cells #[.string ⟨#[78]⟩, .string ⟨#[65]⟩, .string ⟨#[66]⟩, .string ⟨#[81]⟩] 9)) (by simp; omega)
    rw [e2] at h
    exact h.drew
  have him0 : (0 : Int) ≤ (im : Int) := Int.natCast_nonneg _
  have him4 : (im : Int) < 4 := by omega
  clear sA sB sC e1 e2 hidx
  go_region_law (first
    | (go_simp
       go_at_call 73
       (with_reducible refine xA.mono ?_)
       rintro e w5 ⟨rfl, hb5⟩
       have M5 := (((M8.alloc _).alloc _).drew).below hb5
       have I5 := iA.rolled (Rolled.of_below (g := g) hb5) hg3
       have cc5 := I5.cell hcel
       have hs5 := M5.zlt
       have n12 : Calls Tryz.prog 35 #[.pointer (some ⟨g, 0, none⟩), .int .i64 9] w5 (RollEnds g A n c k4 b 9 w5) := M5.n HC.out 9 (by omega) (by omega) (by omega))
    | (go_simp
       go_at_call 73
       (with_reducible refine xB.mono ?_)
       rintro e w5 ⟨rfl, hb5⟩
       have M5 := (((M8.alloc _).alloc _).drew).below hb5
       have I5 := iB.rolled (Rolled.of_below (g := g) hb5) hg3
       have cc5 := I5.cell hcel
       have hs5 := M5.zlt
       have n12 : Calls Tryz.prog 35 #[.pointer (some ⟨g, 0, none⟩), .int .i64 9] w5 (RollEnds g A n c k4 b 9 w5) := M5.n HC.out 9 (by omega) (by omega) (by omega))
    | (go_simp
       go_at_call 73
       (with_reducible refine xC.mono ?_)
       rintro e w5 ⟨rfl, hb5⟩
       have M5 := ((M8.alloc _).drew).below hb5
       have hs5 := M5.zlt
       have hw5 : w.heap.size < w5.heap.size := by have := M5.hi; omega
       have I5b : IR w (w5.alloc (.cells #[.int .i64 0, .int .i64 1, .int .i64 2, .int .i64 1] 3)) w5.heap.size := IR.new hw5
       have cc5 := I5b.cell hcel
       have n3 : Calls Tryz.prog 35 #[.pointer (some ⟨g, 0, none⟩), .int .i64 9] (w5.alloc (.cells #[.int .i64 0, .int .i64 1, .int .i64 2, .int .i64 1] 3)) (RollEnds g A n c k4 b 9 (w5.alloc (.cells #[.int .i64 0, .int .i64 1, .int .i64 2, .int .i64 1] 3))) := (M5.alloc _).n HC.out 9 (by omega) (by omega) (by omega)
       have n4 : Calls Tryz.prog 35 #[.pointer (some ⟨g, 0, none⟩), .int .i64 9] w5 (RollEnds g A n c k4 b 9 w5) := M5.n HC.out 9 (by omega) (by omega) (by omega))
    | (go_simp
       go_at_call 35
       (with_reducible refine n12.mono ?_)
       rintro e w6 ⟨p6, k6, hp6, hk6, rfl, hd6, hr6, hz6⟩
       clear hz6
       have M6 := M5.rolled hr6 hd6
       have hs6 := M6.zlt
       have cc6 := (I5.rolled hr6 hg3).cell hcel
       obtain ⟨qq, hqq, hq1⟩ : ∃ q : Nat, (p6 : Int).tdiv 8 = (q : Int) ∧ q ≤ 1 := ⟨p6 / 8, by rw [Int.tdiv_eq_ediv_of_nonneg (by omega)]; rfl, by omega⟩
       have hwq : IntKind.i64.wrap (qq : Int) = (qq : Int) := IntWalk.i64_in _ (by omega)
       have hwm : IntKind.i64.wrap ((am : Int) + (qq : Int)) = (am : Int) + (qq : Int) := IntWalk.i64_in _ (by omega)
       have hpr : (am + qq) * R ≤ 3 * R := Nat.mul_le_mul_right _ (by omega)
       have hpn : (am + qq) * N ≤ 3 * N := Nat.mul_le_mul_right _ (by omega)
       have allm : Calls Tryz.prog 71 #[.pointer (some ⟨g, 0, none⟩), .int .i64 ((am : Int) + (qq : Int)), .int .i64 dq] w6 (AllGen g A n c k6 b R N (am + qq) w6) := by
         have := M6.all HE.out (am + qq) (by omega) (by omega)
         rw [show ((am : Int) + (qq : Int)) = ((am + qq : Nat) : Int) by omega]
         exact this)
    | (go_simp
       go_at_call 35
       (with_reducible refine n3.mono ?_)
       rintro e w6 ⟨p6, k6, hp6, hk6, rfl, hd6, hr6, hz6⟩
       clear hz6
       have M6 := (M5.alloc _).rolled hr6 hd6
       have hs6 := M6.zlt
       have cc6 := (I5b.rolled hr6 hg3).cell hcel
       obtain ⟨qq, hqq, hq1⟩ : ∃ q : Nat, (p6 : Int).tdiv 8 = (q : Int) ∧ q ≤ 1 := ⟨p6 / 8, by rw [Int.tdiv_eq_ediv_of_nonneg (by omega)]; rfl, by omega⟩
       have hwq : IntKind.i64.wrap (qq : Int) = (qq : Int) := IntWalk.i64_in _ (by omega)
       have hwm : IntKind.i64.wrap ((am : Int) + (qq : Int)) = (am : Int) + (qq : Int) := IntWalk.i64_in _ (by omega)
       have hpr : (am + qq) * R ≤ 3 * R := Nat.mul_le_mul_right _ (by omega)
       have hpn : (am + qq) * N ≤ 3 * N := Nat.mul_le_mul_right _ (by omega)
       have allm : Calls Tryz.prog 71 #[.pointer (some ⟨g, 0, none⟩), .int .i64 ((am : Int) + (qq : Int)), .int .i64 dq] w6 (AllGen g A n c k6 b R N (am + qq) w6) := by
         have := M6.all HE.out (am + qq) (by omega) (by omega)
         rw [show ((am : Int) + (qq : Int)) = ((am + qq : Nat) : Int) by omega]
         exact this)
    | (go_simp
       go_at_call 35
       (with_reducible refine n4.mono ?_)
       rintro e w6 ⟨p6, k6, hp6, hk6, rfl, hd6, hr6, hz6⟩
       clear hz6
       have M6 := M5.rolled hr6 hd6
       have hs6 := M6.zlt
       have cc6 := (IR.new (w := w) (W := w6) (by have := M6.hi; omega)).cell hcel
       obtain ⟨qq, hqq, hq1⟩ : ∃ q : Nat, (p6 : Int).tdiv 8 = (q : Int) ∧ q ≤ 1 := ⟨p6 / 8, by rw [Int.tdiv_eq_ediv_of_nonneg (by omega)]; rfl, by omega⟩
       have hwq : IntKind.i64.wrap (qq : Int) = (qq : Int) := IntWalk.i64_in _ (by omega)
       have hwm : IntKind.i64.wrap ((am : Int) + (qq : Int)) = (am : Int) + (qq : Int) := IntWalk.i64_in _ (by omega)
       have hpr : (am + qq) * R ≤ 3 * R := Nat.mul_le_mul_right _ (by omega)
       have hpn : (am + qq) * N ≤ 3 * N := Nat.mul_le_mul_right _ (by omega)
       have all4 : Calls Tryz.prog 71 #[.pointer (some ⟨g, 0, none⟩), .int .i64 ((am : Int) + (qq : Int)), .int .i64 dq] (w6.alloc (.cells #[.int .i64 0, .int .i64 1, .int .i64 2, .int .i64 1] 3)) (AllGen g A n c k6 b R N (am + qq) (w6.alloc (.cells #[.int .i64 0, .int .i64 1, .int .i64 2, .int .i64 1] 3))) := by
         have := (M6.alloc (.cells #[.int .i64 0, .int .i64 1, .int .i64 2, .int .i64 1] 3)).all HE.out (am + qq) (by omega) (by omega)
         rw [show ((am : Int) + (qq : Int)) = ((am + qq : Nat) : Int) by omega]
         exact this)
    | (go_simp
       go_at_call 71
       (with_reducible refine allm.mono ?_)
       rintro e w7 ⟨x7, A7, c7, k7, rfl, hl7, hg7, h71, h72, hn7, hs7, hk7, hd7, hr7⟩
       have M7 := M6.rolled hr7 hd7
       have row7 : RowM w w2.heap.size w7 A7 (am + qq) (encX false x7) := RowM.of hg7 M6.zlt M6.hi
       obtain ⟨⟨r0, r1, r2, r3, r4, r5, r6, r7⟩, s0, s1, s2, s3, s4, s5, s6, s7⟩ := own_eight M7.res
       obtain ⟨⟨q0, q1, q2, q3, q4, q5, q6, q7⟩, f0, f1, f2, f3, f4, f5, f6, f7⟩ := own_eight M7.blk)
    | (go_simp
       go_at_call 71
       (with_reducible refine all4.mono ?_)
       rintro e w7 ⟨x7, A7, c7, k7, rfl, hl7, hg7, h71, h72, hn7, hs7, hk7, hd7, hr7⟩
       have M7 := (M6.alloc (.cells #[.int .i64 0, .int .i64 1, .int .i64 2, .int .i64 1] 3)).rolled hr7 hd7
       have row7 : RowM w w2.heap.size w7 A7 (am + qq) (encX false x7) := RowM.of hg7 (M6.alloc (.cells #[.int .i64 0, .int .i64 1, .int .i64 2, .int .i64 1] 3)).zlt M6.hi
       obtain ⟨⟨r0, r1, r2, r3, r4, r5, r6, r7⟩, s0, s1, s2, s3, s4, s5, s6, s7⟩ := own_eight M7.res
       obtain ⟨⟨q0, q1, q2, q3, q4, q5, q6, q7⟩, f0, f1, f2, f3, f4, f5, f6, f7⟩ := own_eight M7.blk)
    | fail "none")
  all_goals
    go_wp2_with fail
    refine bodyPost_ret (v := .agg #[.int .i64 12, .int .i64 0, .string tx, .slice none 0 0, .slice none 0 0, .slice A7 (am + qq) c7, .slice none 0 0, .int .i64 0]) (by simp [results, Tryz.results38, go_sem, *]) rfl ?_
    exact (M7.set5 _).close_args (by omega) (row7.set 5 _) hl7 h71 h72 (by omega) hs7 12 0 tx HTX _ _ _ _ _ _ _ _
end Go.Proofs.YtiinghgfojicdaaGreat
