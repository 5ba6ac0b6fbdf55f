/- A part of the proof of FoldTwice: patterns of numbers. No conditions. -/
import Derived.Test.YtiinghgfojicdaaGreatFoA
import Derived.Deep.RegionWith
set_option linter.unusedVariables false
set_option linter.unusedSimpArgs false
namespace Go.Proofs.YtiinghgfojicdaaGreat
open Go.RowKit Go.RowG Go.FRow Go.GMem
set_option linter.unusedVariables false
attribute [local go_sem ↓] Go.wp_at_zero Go.wp_at_succ
theorem patTy : RowTy Tryz.prog 25 40 4 56 := RowTy.of Tryz.underlying25 (by kernel_rfl) (by decide)
theorem zero3 (w : World) : (zeroValue 3).run Tryz.prog w = .ok (.int .i64 0) w := by kernel_rfl
theorem key_str (s : ByteArray) (hs : s.size ≤ maxLen) : keyOf Tryz.prog 9 (.string s) = some (.string s.data.toList) := by simp [keyOf, mapKey, Tryz.underlying9, hs]
theorem own4_grownBy {w w' : World} {z : Nat} {e : TypeId} {v0 v1 v2 v3 : Value} {row : Nat} (h : Own4 w z e v0 v1 v2 v3) (hg : w.grownBy w' (some row)) (hz : z ≠ row) : Own4 w' z e v0 v1 v2 v3 := h.grown hg (by simpa using hz)
theorem few_size {s : ByteArray} (hs : s ∈ [(⟨#[78]⟩ : ByteArray), ⟨#[65]⟩, ⟨#[66]⟩, ⟨#[81]⟩]) : s.size ≤ maxLen := by
  simp only [List.mem_cons, List.not_mem_nil, or_false] at hs
  rcases hs with rfl | rfl | rfl | rfl <;> decide
theorem step_append_onez {P : Program} {t e : TypeId} {size bytes : Nat} (T : RowTy P t e size bytes) (hby : bytes ≤ 1000) {ops : Array Oper} {o : Oper} {a : Act} {K : Act → World → Prop} {Q : Exit → Act → World → Prop} {E : Prop} (w : World) (xs : List Value) (u : TypeId) (z : Nat) (hz : z = w.heap.size) (hgd : o.guard = none) (s x : Operand)
    (ho : o.op = .call { callee := .builtin .append, args := #[s, x], argTypes := #[t, t] })
    (base : Nat) (v : Value) (n : Nat) (X : List Value) (hs : a.eval s = v) (hown : w.ownsRow base e size v n X) (hx : a.eval x = .slice (some ⟨z, 0, none⟩) 1 1) (hl : xs.length = size)
    (h1 : ∀ u ∈ xs, u.oneCell' = true) (h63 : n + 1 ≤ 100000000) (hbase : base ≤ w.heap.size)
    (h : ∀ v' w', w'.ownsRow base e size v' (n + 1) (X ++ xs) → (w.alloc (.cells xs.toArray u)).grownBy w' v.ownBlock → (v'.ownBlock = v.ownBlock ∨ v'.ownBlock = some (w.heap.size + 1)) → K (a.put o.dst v') w') :
    if Region.wanted o (yielded ops a.tmps) = true then Oper.wp P o a (w.alloc (.cells xs.toArray u)) K Q else E := by
  have hw : Region.wanted o (yielded ops a.tmps) = true := by simp [Region.wanted, hgd]
  rw [if_pos hw]
  subst hz
  obtain ⟨v', w', hrun, h2, h3, h4⟩ := run_append_g T hby (w.alloc (.cells xs.toArray u)) o.type base v n X xs (hown.alloc _) (some ⟨w.heap.size, 0, none⟩) 1 1 (by simpa using hl) (fun _ => ⟨_, rfl, fun j y hy => World.news_of_block (heap_alloc_new w _) j y (by simpa using hy)⟩) h1 h63 (by simp; omega)
  unfold Oper.wp execOp
  simp only [ho, resolve, invoke, builtin, Sem.run_bind, Sem.run_pure, Result.andThen_ok, List.map_toArray, List.map_cons, List.map_nil, hs, hx, hrun]
  exact h v' w' h2 h3 (by simpa using h4)
/-- What pat's loop holds to. -/
structure PatLoop (g : Nat) (A : Option Addr) (n c k : Nat) (b : Bool) (R' N' : Nat) (W Wl : World) (z j : Nat) (t : ByteArray) (acc : F) (v : Value) (wr : World) : Prop where
  len : acc.len = j
  kin : Kin acc
  own : OwnG 40 4 wr Wl.heap.size v j (encF acc)
  nodes : acc.nodes ≤ j * (N' + 1)
  res : Own4 wr W.heap.size 40 (.int .i64 0) (.int .i64 0) (.string ⟨#[]⟩) (.slice none 0 0)
  blk : Own4 wr z 40 (.int .i64 6) (.int .i64 0) (.string t) v
  dice : ∃ k', k' ≤ k + 2 + j * R' ∧ Dice wr g A n c k' b
  roll : Rolled g W wr
  top : Wl.heap.size ≤ wr.heap.size
set_option maxRecDepth 100000 in
set_option maxHeartbeats 4000000 in
theorem pat_step (g : Nat) (A : Option Addr) (n c : Nat) (b : Bool) (w0 : World) (hC : Rolls g A n c w0) (dp dq : Int) (R' N' : Nat) (hdq : IntKind.i64.wrap (dp - 1) = dq)
    (hIH : 1 ≤ dp → ∀ (k : Nat) (W : World), Rolled g w0 W → Dice W g A n c k b → k + R' ≤ 100000 → Calls Tryz.prog 36 #[.pointer (some ⟨g, 0, none⟩), .int .i64 dq] W (GenEnds g A n c k b R' N' W))
    (k : Nat) (w : World) (hW : Rolled g w0 w) (hd : Dice w g A n c k b) (hk : k + (2 + 2 * R') ≤ 100000) :
    Calls Tryz.prog 36 #[.pointer (some ⟨g, 0, none⟩), .int .i64 dp] w (GenEnds g A n c k b (2 + 2 * R') (2 * (N' + 1)) w) := by
  have hgl : g < w.heap.size := hd.lt
  have hroll : ∀ o : Obj, Calls Tryz.prog 35 #[.pointer (some ⟨g, 0, none⟩), .int .i64 7] (w.alloc o) (RollEnds g A n c k b 7 (w.alloc o)) := fun o =>
    hC.roll _ b k 7 (hW.alloc o) (hd.alloc o) (by omega) (by omega) (by omega)
  have HC := Lib.hid hC
  have HI := Lib.hid hIH
  have hmm := @run_makeMap Tryz.prog
  clear hd hC hIH
  go_enter Tryz.func36, Tryz.ntmps36
  go_wp2_with (first
    | (go_at_call 35
       (with_reducible refine (hroll _).mono ?_)
       rintro e w2 ⟨p, k', hp, hk', rfl, hd2, hr2, hz2⟩
       have ho := Own4.rolled (z := w.heap.size) (e := 40) (v0 := .int .i64 0) (v1 := .int .i64 0) (v2 := .string ⟨#[]⟩) (v3 := .slice none 0 0) (heap_alloc_new w _) hr2 (by omega)
       have hw2 : Rolled g w w2 := (Rolled.of_below ((Below.refl _ _).alloc (Nat.le_refl _) _)).trans hr2
       obtain ⟨⟨o0, o1, o2, o3⟩, f0, f1, f2, f3⟩ := ho.cells
       have HZ := Lib.hid hz2
       have roll3 : Calls Tryz.prog 35 #[.pointer (some ⟨g, 0, none⟩), .int .i64 3] w2 (RollEnds g A n c k' b 3 w2) := HC.out.roll w2 b k' 3 (hW.trans hw2) hd2 (by omega) (by omega) (by omega)
       have roll2 : Calls Tryz.prog 35 #[.pointer (some ⟨g, 0, none⟩), .int .i64 2] w2 (RollEnds g A n c k' b 2 w2) := HC.out.roll w2 b k' 2 (hW.trans hw2) hd2 (by omega) (by omega) (by omega)
       have of3 : ∀ s0 s1 s2 : ByteArray, Calls Tryz.prog 37 #[.pointer (some ⟨g, 0, none⟩), .slice (some ⟨w2.heap.size, 0, none⟩) 3 3] (w2.alloc (.cells #[.string s0, .string s1, .string s2] 9)) (OfEnds g A n c k' b [s0, s1, s2] (w2.alloc (.cells #[.string s0, .string s1, .string s2] 9))) := fun s0 s1 s2 =>
         HC.out.of _ b k' 3 w2.heap.size [s0, s1, s2] ((hW.trans hw2).alloc _) (hd2.alloc _) (by omega) rfl (by omega) (by omega) (by simp) (by have := hw2.size; omega) (heap_alloc_new w2 _)
       have of4 : ∀ s0 s1 s2 s3 : ByteArray, Calls Tryz.prog 37 #[.pointer (some ⟨g, 0, none⟩), .slice (some ⟨w2.heap.size, 0, none⟩) 4 4] (w2.alloc (.cells #[.string s0, .string s1, .string s2, .string s3] 9)) (OfEnds g A n c k' b [s0, s1, s2, s3] (w2.alloc (.cells #[.string s0, .string s1, .string s2, .string s3] 9))) := fun s0 s1 s2 s3 =>
         HC.out.of _ b k' 4 w2.heap.size [s0, s1, s2, s3] ((hW.trans hw2).alloc _) (hd2.alloc _) (by omega) rfl (by omega) (by omega) (by simp) (by have := hw2.size; omega) (heap_alloc_new w2 _)
       clear hz2 hroll)
    | (go_at_call 37
       (with_reducible refine (of3 _ _ _).mono ?_)
       rintro e w3 ⟨s3, k3, hs3, hk3, rfl, hd3, hr3, hz3⟩
       have hw3 : Rolled g w w3 := (hw2.alloc _).trans hr3
       have ho3 := (ho.alloc _).rolled hr3 (by omega)
       obtain ⟨⟨q0, q1, q2, q3⟩, h0, h1, h2, h3⟩ := ho3.cells
       have HZ3 := Lib.hid hz3
       clear hz3)
    | (go_at_call 37
       (with_reducible refine (of4 _ _ _ _).mono ?_)
       rintro e w3 ⟨s3, k3, hs3, hk3, rfl, hd3, hr3, hz3⟩
       have hw3 : Rolled g w w3 := (hw2.alloc _).trans hr3
       have ho3 := (ho.alloc _).rolled hr3 (by omega)
       have HS3 := Lib.hid hs3
       have hm0 : ((w3.alloc (.cells #[.int .i64 6, .int .i64 0, .string s3, .slice none 0 0] 40)).alloc (.map #[] 0)).ownsMap Tryz.prog 9 (plainElem (H := Unit) Tryz.prog 3) (w3.heap.size + 1) 0 (.map []) := by
         have := World.ownsMap_made (H := Unit) (w3.alloc (.cells #[.int .i64 6, .int .i64 0, .string s3, .slice none 0 0] 40)) Tryz.prog 9 (plainElem Tryz.prog 3)
         simpa using this
       have hb0 : Own4 ((w3.alloc (.cells #[.int .i64 6, .int .i64 0, .string s3, .slice none 0 0] 40)).alloc (.map #[] 0)) w3.heap.size 40 (.int .i64 6) (.int .i64 0) (.string s3) (.slice none 0 0) := Own4.alloc (heap_alloc_new w3 _) _
       have hr0 : Rolled g w ((w3.alloc (.cells #[.int .i64 6, .int .i64 0, .string s3, .slice none 0 0] 40)).alloc (.map #[] 0)) := (hw3.alloc _).alloc _
       have hd0 : Dice ((w3.alloc (.cells #[.int .i64 6, .int .i64 0, .string s3, .slice none 0 0] 40)).alloc (.map #[] 0)) g A n c k3 b := (hd3.alloc _).alloc _
       have hq0 : Own4 ((w3.alloc (.cells #[.int .i64 6, .int .i64 0, .string s3, .slice none 0 0] 40)).alloc (.map #[] 0)) w.heap.size 40 _ _ _ _ := (ho3.alloc _).alloc _
       have hws : w.heap.size < w3.heap.size := ho3.lt
       have hg3 : g < w3.heap.size := hd3.lt
       have hsz := few_size hs3
       clear hz3 hs3 o0 o1 o2 o3 f0 f1 f2 f3)
    | ((with_reducible refine at_insert ?_); refine wpList_insert_const (H := Unit) _ 9 3 (Maps.string_keyed Tryz.underlying9) Tryz.underlying113 (plainElem Tryz.prog 3) (w3.heap.size + 1) 0 _ hm0 (by decide) _ (key_str ⟨#[78]⟩ (by decide)) _ _ (plainElem_int (a := 0) Tryz.underlying3 (by decide)) ?_ ?_
       focus rfl
       intro x1 hm1 hg1_
       have hb1 := own4_grownBy hb0 hg1_ (by omega)
       have hr1 := hr0.grown hg1_ (fun b hb => by injection hb with hb; omega)
       have hd1 := hd0.grown hg1_ (by simp; omega)
       have hq1 := own4_grownBy hq0 hg1_ (by omega)
       have hsz1_ := hg1_.size
       clear hm0 hb0 hr0 hd0 hq0)
    | ((with_reducible refine at_insert ?_); refine wpList_insert_const (H := Unit) _ 9 3 (Maps.string_keyed Tryz.underlying9) Tryz.underlying113 (plainElem Tryz.prog 3) (w3.heap.size + 1) 1 _ hm1 (by decide) _ (key_str ⟨#[65]⟩ (by decide)) _ _ (plainElem_int (a := 1) Tryz.underlying3 (by decide)) ?_ ?_
       focus rfl
       intro x2 hm2 hg2_
       have hb2 := own4_grownBy hb1 hg2_ (by omega)
       have hr2 := hr1.grown hg2_ (fun b hb => by injection hb with hb; omega)
       have hd2 := hd1.grown hg2_ (by simp; omega)
       have hq2 := own4_grownBy hq1 hg2_ (by omega)
       have hsz2_ := hg2_.size
       clear hm1 hb1 hr1 hd1 hq1)
    | ((with_reducible refine at_insert ?_); refine wpList_insert_const (H := Unit) _ 9 3 (Maps.string_keyed Tryz.underlying9) Tryz.underlying113 (plainElem Tryz.prog 3) (w3.heap.size + 1) 2 _ hm2 (by decide) _ (key_str ⟨#[66]⟩ (by decide)) _ _ (plainElem_int (a := 2) Tryz.underlying3 (by decide)) ?_ ?_
       focus rfl
       intro x3 hm3 hg3_
       have hb3 := own4_grownBy hb2 hg3_ (by omega)
       have hr3 := hr2.grown hg3_ (fun b hb => by injection hb with hb; omega)
       have hd3 := hd2.grown hg3_ (by simp; omega)
       have hq3 := own4_grownBy hq2 hg3_ (by omega)
       have hsz3_ := hg3_.size
       clear hm2 hb2 hr2 hd2 hq2)
    | ((with_reducible refine at_insert ?_); refine wpList_insert_const (H := Unit) _ 9 3 (Maps.string_keyed Tryz.underlying9) Tryz.underlying113 (plainElem Tryz.prog 3) (w3.heap.size + 1) 3 _ hm3 (by decide) _ (key_str ⟨#[81]⟩ (by decide)) _ _ (plainElem_int (a := 1) Tryz.underlying3 (by decide)) ?_ ?_
       focus rfl
       intro x4 hm4 hg4_
       have hb4 := own4_grownBy hb3 hg4_ (by omega)
       have hR4 := hr3.grown hg4_ (fun b hb => by injection hb with hb; omega)
       have hd4 := hd3.grown hg4_ (by simp; omega)
       have hq4 := own4_grownBy hq3 hg4_ (by omega)
       have hsz4_ := hg4_.size
       obtain ⟨⟨o0, o1, o2, o3⟩, f0, f1, f2, f3⟩ := hb4.cells
       clear hm3 hb3 hr3 hd3 hq3)
    | (at_lookup
       refine wpList_lookup_own_int _ rfl _ _ 113 rfl 9 3 .i64 (Maps.string_keyed Tryz.underlying9) Tryz.underlying113 Tryz.underlying3 (zero3 _) (w3.heap.size + 1) 4 _ rfl hm4 _ _ rfl (key_str s3 hsz) ?_
       intro cc hat hwc
       obtain ⟨mm, hmm2, rfl⟩ := arity_few HS3.out hat
       clear hat hwc hm4)
    | (go_at_call 35
       (with_reducible refine roll3.mono ?_)
       rintro e w3 ⟨p3, k3, hp3, hk3, rfl, hd3, hr3, hz3⟩
       have ho3 := ho.rolled hr3 (by omega)
       have hw3 : Rolled g w w3 := hw2.trans hr3
       obtain ⟨⟨q0, q1, q2, q3⟩, h0, h1, h2, h3⟩ := ho3.cells
       have HZ3 := Lib.hid hz3
       clear hz3)
    | (go_at_call 35
       (with_reducible refine roll2.mono ?_)
       rintro e w3 ⟨p3, k3, hp3, hk3, rfl, hd3, hr3, hz3⟩
       have ho3 := ho.rolled hr3 (by omega)
       have hw3 : Rolled g w w3 := hw2.trans hr3
       obtain ⟨⟨q0, q1, q2, q3⟩, h0, h1, h2, h3⟩ := ho3.cells
       have HZ3 := Lib.hid hz3
       clear hz3))
  · refine bodyPost_ret (v := agg4 1 0 ⟨#[]⟩ none 0 0) (by simp [results, Tryz.results36, go_sem, agg4, *]) rfl ?_
    exact gen_leaf hw2 hgl hd2 (by omega) 1 0 ⟨#[]⟩
  · refine bodyPost_ret (v := agg4 2 0 s3 none 0 0) (by simp [results, Tryz.results36, go_sem, agg4, *]) rfl ?_
    exact gen_leaf hw3 hgl hd3 (by omega) 2 _ s3
  · refine bodyPost_ret (v := agg4 2 0 s3 none 0 0) (by simp [results, Tryz.results36, go_sem, agg4, *]) rfl ?_
    exact gen_leaf hw3 hgl hd3 (by omega) 2 _ s3
  · refine bodyPost_ret (v := agg4 3 ((p3 : Int) - 1) ⟨#[]⟩ none 0 0) (by simp [results, Tryz.results36, go_sem, agg4, *]) rfl ?_
    exact gen_leaf hw3 hgl hd3 (by omega) 3 _ ⟨#[]⟩
  · refine bodyPost_ret (v := agg4 4 (p3 : Int) ⟨#[]⟩ none 0 0) (by simp [results, Tryz.results36, go_sem, agg4, *]) rfl ?_
    exact gen_leaf hw3 hgl hd3 (by omega) 4 _ ⟨#[]⟩
  · have hlt : dp < 1 := by assumption
    clear hmm roll3 roll2 of3 of4 HI
    go_loopw [43] (fun i wr => i = .int .i64 0 ∧ wr = x4.setCell ⟨w3.heap.size, 2, none⟩ (.string ⟨#[78]⟩)) (fun _ _ => 0)
    case atStart => exact ⟨rfl, rfl⟩
    case round =>
      obtain ⟨rfl, rfl⟩ := hrel
      have hQ : Own4 (x4.setCell ⟨w3.heap.size, 2, none⟩ (.string ⟨#[78]⟩)) w.heap.size 40 _ _ _ _ := hq4.setOther (by simp; omega) _
      obtain ⟨⟨y0, y1, y2, y3⟩, g0, g1, g2, g3⟩ := hQ.cells
      go_wp2
      refine bodyPost_ret (v := agg4 6 0 ⟨#[78]⟩ none 0 0) (by simp [results, Tryz.results36, go_sem, agg4, *]) rfl ?_
      exact gen_leaf (hR4.setCell (p := ⟨w3.heap.size, 2, none⟩) (by show w.heap.size ≤ w3.heap.size; omega) _) hgl (hd4.setCell (by simp; omega) _) (by omega) 6 0 ⟨#[78]⟩
  · have hge : 1 ≤ dp := by assumption
    have hih := HI.out hge
    clear hmm roll3 roll2 of3 of4
    have hk3' : k3 ≤ k + 2 := by omega
    have hxs : w3.heap.size < x4.heap.size := hb4.lt
    go_loopw [43] (fun i wr => ∃ (j : Nat) (acc : F) (v : Value), j ≤ mm ∧ i = .int .i64 j ∧ PatLoop g A n c k b R' N' w x4 w3.heap.size j s3 acc v wr) (fun i _ => mm - (intOf i).toNat)
    case atStart => exact ⟨0, .nil, .slice none 0 0, Nat.zero_le _, rfl, ⟨rfl, trivial, OwnG.nil _ _ _ _, Nat.zero_le _, hq4, hb4, ⟨k3, by omega, hd4⟩, hR4, Nat.le_refl _⟩⟩
    case round =>
      obtain ⟨j, acc, v, hj, rfl, hlen, hkin, hown, hnod, hQ, hZ, ⟨k4, hk4, hdr⟩, hR, htop⟩ := hrel
      have hrs := hR.size
      have hzl := hZ.lt
      have hql := hQ.lt
      clear o0 o1 o2 o3 f0 f1 f2 f3
      obtain ⟨⟨y0, y1, y2, y3⟩, g0, g1, g2, g3⟩ := hQ.cells
      obtain ⟨⟨z0, z1, z2, z3⟩, f0, f1, f2, f3⟩ := hZ.cells
      obtain ⟨A5, c5, rfl, h51, h52, hrow⟩ := hown.row (by decide)
      by_cases hjm : j < mm
      · have hjm' : (j : Int) < (mm : Int) := by omega
        have hkk : k4 + R' ≤ 100000 := by
          have : j = 0 ∨ j = 1 := by omega
          rcases this with rfl | rfl <;> omega
        have hcall := hih k4 wr.drew (hW.trans hR).drew hdr hkk
        go_wp2
        go_region_law (first
          | (refine step_append_onez patTy (by decide) w5 [.int .i64 kk, .int .i64 nn, .string tt, .slice A6 f.len c6] 40 w5.heap.size rfl rfl (.tmp 46) (.tmp 51) rfl x4.heap.size _ j xs (by simp [Act.eval]) hownr (by simp [Act.eval]) rfl (by simp [Value.oneCell']) (by omega) (by omega) ?_
             intro v7 w7 hown7 hg7 hv7
             obtain ⟨A7, c7, rfl, h71, h72, _⟩ := CellsAt.of_own hown7
             have hZ7 := (hZ5.alloc (.cells #[.int .i64 kk, .int .i64 nn, .string tt, .slice A6 f.len c6] 40)).grown hg7 hne0
             have hQ7 := (hQ5.alloc (.cells #[.int .i64 kk, .int .i64 nn, .string tt, .slice A6 f.len c6] 40)).grown hg7 hne1
             have hD7 := (hd5.alloc (.cells #[.int .i64 kk, .int .i64 nn, .string tt, .slice A6 f.len c6] 40)).grown hg7 hneg
             obtain ⟨⟨p0, p1, p2, p3⟩, q0, q1, q2, q3⟩ := hZ7.cells)
          | (go_simp
             go_at_call 36
             (with_reducible refine hcall.mono ?_)
             rintro e w5 ⟨kk, nn, tt, f, A6, c6, k5, rfl, hrow6, hc61, hc62, hn6, hkin6, hk5, hd5, hr5⟩
             have hZ5 := Own4.rolled (w := wr.drew) hZ hr5 (by omega)
             have hQ5 := Own4.rolled (w := wr.drew) hQ hr5 (by omega)
             obtain ⟨⟨r0, r1, r2, r3⟩, l0, l1, l2, l3⟩ := hZ5.cells
             obtain ⟨xs, hownr, hfc⟩ := OwnG.rolled (w := wr.drew) (hown.kept (Below.refl _ _).drew) hr5 (by omega)
             have hne0 : some w3.heap.size ≠ (Value.slice A5 j c5).ownBlock := fun e => by have := (hownr.lt _ e.symm).1; omega
             have hne1 : some w.heap.size ≠ (Value.slice A5 j c5).ownBlock := fun e => by have := (hownr.lt _ e.symm).1; omega
             have hneg : some g ≠ (Value.slice A5 j c5).ownBlock := fun e => by have := (hownr.lt _ e.symm).1; omega
             have hs5 : wr.heap.size ≤ w5.heap.size := hr5.size
             have hzl5 : w3.heap.size < w5.heap.size := by omega))
        all_goals
          go_wp2
          go_roundw
          case measure => simp [intOf]; omega
          case rel =>
            have hlow := fun gg (hg : (Value.slice A5 j c5).ownBlock = some gg) => (hownr.lt gg hg).1
            have hlt0 : ∀ gg, (Value.slice A5 j c5).ownBlock = some gg → gg < wr.heap.size := fun gg hg => (hown.low hg).2
            refine ⟨j + 1, acc.snoc kk nn tt f, _, by omega, by go_num, ⟨by rw [F.snoc_len]; omega, Kin.snoc hkin6.2 hkin6.1 hkin, ?_, ?_, hQ7.setOther (by simp; omega) _, hZ7.set3 _, ⟨k5, ?_, hD7.setCell (by simp; omega) _⟩, ?_, by have := hg7.size; simp [World.setCell] at this ⊢; omega⟩⟩
            · rw [encF_snoc]
              refine OwnG.setCell (OwnG.snoc (o := .cells #[.int .i64 kk, .int .i64 nn, .string tt, .slice A6 f.len c6] 40) hfc ?_ hown7 hg7 hv7) (by show w3.heap.size < _; omega) _
              refine ⟨_, rfl, rfl, _, rfl, rfl, _, rfl, rfl, A6, c6, _, rfl, hc61, hc62, ?_, rfl⟩
              exact GRow.mono hrow6 fun b hb => ⟨by have := hb.1; simp at this; omega, hb.2, fun e => by
                have := hlt0 b e.symm
                have := hb.1
                simp at this
                omega⟩
            · rw [F.snoc_nodes, Nat.succ_mul]; omega
            · rw [Nat.succ_mul]; omega
            · exact (((hR.drew.trans hr5).alloc _).grown hg7 (fun gg hg => by have := hlow gg hg; omega)).setCell (by show w.heap.size ≤ w3.heap.size; omega) _
      · obtain rfl : j = mm := by omega
        go_wp2
        refine bodyPost_ret (v := agg4 6 0 s3 A5 j c5) (by simp [results, Tryz.results36, go_sem, agg4, *]) rfl ?_
        refine ⟨6, 0, s3, acc, A5, c5, k4, by rw [hlen], ?_, by rw [hlen]; exact h51, h52, ?_, ⟨hkin, by decide⟩, ?_, fill4_dice (z := w.heap.size) hdr (by omega) _ _ _ _, fill4_rolled (z := w.heap.size) hR (Nat.le_refl _) _ _ _ _⟩
        · rw [hlen]
          refine hrow.keep (fun b hb => ⟨by have := hb.1; omega, by have := hb.2; simpa [World.setCell] using this⟩) fun p hp => World.cell?_of_block (fill4_far wr w.heap.size (.int .i64 6) (.int .i64 0) (.string s3) (.slice A5 j c5) (by have := hp.1; omega))
        · have : j = 0 ∨ j = 1 ∨ j = 2 := by omega
          rcases this with rfl | rfl | rfl <;> omega
        · have : j = 0 ∨ j = 1 ∨ j = 2 := by omega
          rcases this with rfl | rfl | rfl <;> omega
def rollsD : Nat → Nat
  | 0 => 2
  | d + 1 => 2 + 2 * rollsD d
def nodesD : Nat → Nat
  | 0 => 2
  | d + 1 => 2 * (nodesD d + 1)
theorem wrap_pred (d : Nat) (hd : d ≤ 1000) : IntKind.i64.wrap (((d + 1 : Nat) : Int) - 1) = (d : Int) := by
  rw [show (((d + 1 : Nat) : Int) - 1) = (d : Int) by omega]
  exact IntWalk.i64_in _ (by omega)
/-- A pattern of numbers, as deep as d. -/
theorem pat_says (g : Nat) (A : Option Addr) (n c : Nat) (b : Bool) (w0 : World) (hC : Rolls g A n c w0) : ∀ (d : Nat), d ≤ 1000 → ∀ (k : Nat) (w : World), Rolled g w0 w → Dice w g A n c k b → k + rollsD d ≤ 100000 →
    Calls Tryz.prog 36 #[.pointer (some ⟨g, 0, none⟩), .int .i64 (d : Nat)] w (GenEnds g A n c k b (rollsD d) (nodesD d) w)
  | 0, _, k, w, hW, hd, hk => pat_step g A n c b w0 hC 0 _ 0 0 rfl (fun h => absurd h (by omega)) k w hW hd (by simpa [rollsD] using hk)
  | d + 1, hd1, k, w, hW, hd, hk =>
    pat_step g A n c b w0 hC ((d + 1 : Nat) : Int) (d : Int) (rollsD d) (nodesD d) (wrap_pred d (by omega)) (fun _ k W h1 h2 h3 => pat_says g A n c b w0 hC d (by omega) k W h1 h2 h3) k w hW hd hk
end Go.Proofs.YtiinghgfojicdaaGreat
namespace Go.Proofs.YtiinghgfojicdaaGreat
open Go.RowKit Go.RowG Go.FRow Go.GMem
set_option linter.unusedVariables false
attribute [local go_sem ↓] Go.wp_at_zero Go.wp_at_succ
theorem Rolled.below {w w' : World} {o : Obj} (h : Rolled w.heap.size (w.alloc o) w') : Below w.heap.size w w' :=
  ⟨h.os, h.tape, h.output, by have := h.size; simp at this; omega, fun k hk => (h.block k (by simp; omega) (by omega)).trans (Below.heap_alloc w o k hk)⟩
theorem IntsAt.after {w w' : World} {A : Option Addr} {L : List Int} (h : IntsAt w w.heap.size A L) (hb : Below w.heap.size w w') : IntsAt w' w'.heap.size A L :=
  h.keep1 fun hn ad e => by
    obtain ⟨ad', e', hlt, _⟩ := h hn
    rw [e] at e'
    obtain rfl := Option.some.inj e'
    exact ⟨by have := hb.size; omega, hb.block _ hlt⟩
end Go.Proofs.YtiinghgfojicdaaGreat
namespace Go.Proofs.YtiinghgfojicdaaGreat
open Go.RowKit Go.RowG Go.FRow Go.GMem
set_option linter.unusedVariables false
attribute [local go_sem ↓] Go.wp_at_zero Go.wp_at_succ
theorem short_says (A : Option Addr) (n c : Nat) (w : World) : Calls Tryz.prog 9 #[.slice A n c] w fun e w' => e = .returned (.bool (decide ((n : Int) ≤ 300))) ∧ w' = w := by
  go_enter Tryz.func9, Tryz.ntmps9
  go_wp2
  go_ret
  exact ⟨rfl, rfl⟩
theorem fat_add {w : World} {S : Nat → Prop} : ∀ {f : F} {xs : List Value} {ad : Addr}, FRow.FCells w S f xs → (∀ j u, xs[j]? = some u → w.cell? (ad.add j) = some u) → FRow.FAt w S f ad
  | .nil, _, _, _, _ => trivial
  | .cons k n t a r, _, ad, ⟨R, c, ys, e, h1, h2, h3, h⟩, hc => by
    subst e
    refine ⟨by simpa [Addr.add] using hc 0 _ rfl, by simpa [Addr.add] using hc 1 _ rfl, by simpa [Addr.add] using hc 2 _ rfl, ⟨R, c, by simpa [Addr.add] using hc 3 _ rfl, h1, h2, h3⟩, ?_⟩
    refine fat_add h fun j u hu => ?_
    rw [add_plus, Nat.add_comm]
    exact hc (j + 4) u (by simpa using hu)
theorem TopAt.row {w w' : World} {B : Nat} {A : Option Addr} {f : F} (h : TopAt w B w' A f) (hB : B ≤ w.heap.size) (hb : Below w.heap.size w w') : RowAt w' w'.heap.size A f := fun hl => by
  obtain ⟨xs, h1, h2⟩ := h
  obtain ⟨ad, e, hlt, hc⟩ := h2 hl
  refine ⟨ad, e, hlt, fat_add (FRow.FCells.keep (fun b (hb' : b < B) => ?_) (fun p (hp : p.block < B) => hb.cell (by omega)) h1) hc⟩
  have := hb.size
  show b < w'.heap.size
  omega
end Go.Proofs.YtiinghgfojicdaaGreat
