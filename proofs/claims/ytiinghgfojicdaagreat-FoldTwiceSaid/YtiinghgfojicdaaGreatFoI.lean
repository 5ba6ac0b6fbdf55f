/- A part of the proof of FoldTwice: fold.Parts. No conditions. -/
import Derived.Deep.RegionLaw
import Derived.Test.YtiinghgfojicdaaGreatFoG
set_option linter.unusedVariables false
set_option linter.unusedSimpArgs false
namespace Go.Proofs.YtiinghgfojicdaaGreat
open Go.RowKit Go.RowG Go.FRow Go.GMem
set_option linter.unusedVariables false
set_option maxRecDepth 100000
attribute [local go_sem ↓] Go.wp_at_zero Go.wp_at_succ
/-- No head is great. -/
def smallX : X → Prop
  | .nil => True
  | .cons _ h args arms r => (h.ns.length ≤ 100 ∧ h.m ≤ 100 ∧ h.t.size ≤ 100) ∧ smallX args ∧ smallX arms ∧ smallX r
def Ex.small (e : Ex) : Prop := (e.h.ns.length ≤ 100 ∧ e.h.m ≤ 100 ∧ e.h.t.size ≤ 100) ∧ smallX e.args ∧ smallX e.arms
def FoldSaid (fr : Ex → Bool) (e : Ex) : Prop := ∀ (q : At) (w : World) (S : Nat → Prop), (∀ b, S b → b < w.heap.size) → EIs w S e q → e.size ≤ 100000 → e.small → Calls Tryz.prog 19 #[agg8 e q] w (ExEnds S (foldE fr e) w)
theorem strs_any {w w' : World} {S S' : Nat → Prop} : ∀ {L : List ByteArray} {xs : List Value}, GCells w S (encS L) xs → GCells w' S' (encS L) xs
  | [], _, h => h
  | _ :: l, _, ⟨ys, e, h1, h2⟩ => ⟨ys, e, h1, strs_any h2⟩
theorem typs_any {w w' : World} {S S' : Nat → Prop} : ∀ {m : Nat} {xs : List Value}, GCells w S (encY m) xs → GCells w' S' (encY m) xs
  | 0, _, h => h
  | m + 1, _, ⟨ys, e, h1, ys2, e2, h2, ys3, e3, h3, h4⟩ => ⟨ys, e, h1, ys2, e2, h2, ys3, e3, h3, typs_any h4⟩
/-- What the first loop of Parts holds to. -/
structure PLoop (fr : Ex → Bool) (S : Nat → Prop) (w W3 : World) (z : Nat) (a3 : Option Addr) (m j : Nat) (all r acc : X) (v0 v1 v2 v3 v4 v : Value) (xs : List Value) (wr : World) : Prop where
  half : Half S 50 8 wr W3.heap.size v j (encX false acc) xs
  roll : Rolled z W3 wr
  box : Own8 wr z 50 v0 v1 v2 v3 v4 v (.slice none 0 0) (.int .i64 0)
  len : acc.len = j
  all : acc.app (foldX fr r) = foldX fr all
  rest : XRest w S a3 m j r
  each : EachX (FoldSaid fr) r
  small : smallX r
  size : sizeX false r ≤ 100000
/-- What the second loop of Parts holds to. -/
structure PLoop2 (fr : Ex → Bool) (S : Nat → Prop) (w W5 : World) (z : Nat) (a4 : Option Addr) (m j : Nat) (all r acc : X) (v0 v1 v2 v3 v4 v5 v : Value) (xs : List Value) (wr : World) : Prop where
  half : Half S 70 12 wr W5.heap.size v j (encX true acc) xs
  roll : Rolled z W5 wr
  box : Own8 wr z 50 v0 v1 v2 v3 v4 v5 v (.int .i64 0)
  len : acc.len = j
  all : acc.app (foldX fr r) = foldX fr all
  rest : ARest w S a4 m j r
  each : EachX (FoldSaid fr) r
  small : smallX r
  size : sizeX true r ≤ 100000
theorem arm_half {S : Nat → Prop} {w5 : World} {p : Pt} {A : Option Addr} {c : Nat} {E5 : Ex} {q5 : At} {base b0 : Nat} {v : Value} (hp : GRow w5 S A p.a.len (encF p.a)) (hpl : p.a.len ≤ c ∧ c ≤ maxLen) (hq : EIs w5 (fun b => S b ∨ (b0 ≤ b ∧ b < w5.heap.size)) E5 q5) (hS : ∀ b, S b → b < base) (hb : base ≤ b0) (hs : b0 ≤ w5.heap.size) (hv : ∀ g, v.ownBlock = some g → base ≤ g ∧ g < b0) :
    GCells w5 (fun b => (S b ∨ base ≤ b) ∧ b < w5.heap.size ∧ some b ≠ v.ownBlock) (cellsP p (encE E5)) (.int .i64 p.k :: .int .i64 p.n :: .string p.t :: .slice A p.a.len c :: eight E5 q5) :=
  ⟨_, rfl, rfl, _, rfl, rfl, _, rfl, rfl, A, c, _, rfl, hpl.1, hpl.2, hp.mono fun b h => ⟨Or.inl h, by have := hS b h; omega, fun e => by have := (hv b e.symm).1; have := hS b h; omega⟩, ex_half hq hS hb hs hv⟩
set_option maxHeartbeats 8000000 in
theorem parts_says (fr : Ex → Bool) (e : Ex) (hA : EachX (FoldSaid fr) e.args) (hB : EachX (FoldSaid fr) e.arms) (q : At) (w : World) (S : Nat → Prop) (hS : ∀ b, S b → b < w.heap.size) (he : EIs w S e q) (hn : e.size ≤ 100000) (hsm : e.small) :
    Calls Tryz.prog 39 #[agg8 e q] w (ExEnds S ⟨e.h, foldX fr e.args, foldX fr e.arms⟩ w) := by
  obtain ⟨⟨hs1, hs2, hs3⟩, hsA, hsB⟩ := hsm
  obtain ⟨N, hN, hNl, hN1, hNc⟩ := cells_of_row he.r1 strs_nil0
  obtain ⟨Y, hY, hYl, hY1, hYc⟩ := cells_of_row he.r2 typs_nil
  rw [encS_len] at hNl
  rw [encY_len] at hYl
  have hrest := xrest he.r3
  have hrest2 := arest he.r4
  have hl1 := he.l1
  have hl2 := he.l2
  clear he
  obtain ⟨h, args, arms⟩ := e
  simp only at hrest hrest2 hsA hsB hA hB hN hNl hNc hY hYl hYc hs1 hs2 hl1 hl2 ⊢
  simp only [Ex.size] at hn
  obtain ⟨m, hm⟩ : ∃ m, m = args.len := ⟨_, rfl⟩
  obtain ⟨m2, hm2⟩ : ∃ m2, m2 = arms.len := ⟨_, rfl⟩
  have hml : m ≤ 100000 := by have := args.len_size false; omega
  have hml2 : m2 ≤ 100000 := by have := arms.len_size true; omega
  rw [← hm] at hrest
  rw [← hm2] at hrest2
  simp only [agg8, ← hm, ← hm2]
  obtain ⟨k, n, t, ns, ty⟩ := h
  obtain ⟨a1, c1, a2, c2, a3, c3, a4, c4⟩ := q
  simp only at hrest hrest2 hN hNl hNc hY hYl hYc hs1 hs2 hl1 hl2 ⊢
  obtain ⟨nl, hnl⟩ : ∃ nl, nl = ns.length := ⟨_, rfl⟩
  rw [← hnl] at hNl hNc hs1 hl1
  rw [← hnl]
  have HM := Lib.hid hm
  have HM2 := Lib.hid hm2
  have HNL := Lib.hid hnl
  clear hm hm2 hnl
  -- the box, the result, what comes out
  obtain ⟨W1, hW1⟩ : ∃ W1, W1 = ((w.alloc (.cells #[.int .i64 k, .int .i64 n, .string t, .slice a1 nl c1, .slice a2 ty c2, .slice a3 m c3, .slice a4 m2 c4, .int .i64 0] 50)).alloc (.cells #[.int .i64 0, .int .i64 0, .string ⟨#[]⟩, .slice none 0 0, .slice none 0 0, .slice none 0 0, .slice none 0 0, .int .i64 0] 50)).alloc (.cells #[.int .i64 k, .int .i64 n, .string t, .slice a1 nl c1, .slice a2 ty c2, .slice a3 m c3, .slice a4 m2 c4, .int .i64 0] 50) := ⟨_, rfl⟩
  have hb1 : Below w.heap.size w W1 := by rw [hW1]; exact (((Below.refl _ _).alloc (Nat.le_refl _) _).alloc (by simp) _).alloc (by simp; omega) _
  have hs1w : W1.heap.size = w.heap.size + 3 := by rw [hW1]; simp
  have hx1 : Own8 W1 w.heap.size 50 (.int .i64 k) (.int .i64 n) (.string t) (.slice a1 nl c1) (.slice a2 ty c2) (.slice a3 m c3) (.slice a4 m2 c4) (.int .i64 0) := by
    rw [hW1]
    exact Own8.alloc (Own8.alloc (heap_alloc_new w _) _) _
  have hr1 : Own8 W1 (w.heap.size + 1) 50 (.int .i64 0) (.int .i64 0) (.string ⟨#[]⟩) (.slice none 0 0) (.slice none 0 0) (.slice none 0 0) (.slice none 0 0) (.int .i64 0) := by
    rw [hW1]
    refine Own8.alloc ?_ _
    have := heap_alloc_new (w.alloc (.cells #[.int .i64 k, .int .i64 n, .string t, .slice a1 nl c1, .slice a2 ty c2, .slice a3 m c3, .slice a4 m2 c4, .int .i64 0] 50)) (.cells #[.int .i64 0, .int .i64 0, .string ⟨#[]⟩, .slice none 0 0, .slice none 0 0, .slice none 0 0, .slice none 0 0, .int .i64 0] 50)
    simpa [Own8] using this
  have hz1 : Own8 W1 (w.heap.size + 1 + 1) 50 (.int .i64 k) (.int .i64 n) (.string t) (.slice a1 nl c1) (.slice a2 ty c2) (.slice a3 m c3) (.slice a4 m2 c4) (.int .i64 0) := by
    rw [hW1]
    have := heap_alloc_new ((w.alloc (.cells #[.int .i64 k, .int .i64 n, .string t, .slice a1 nl c1, .slice a2 ty c2, .slice a3 m c3, .slice a4 m2 c4, .int .i64 0] 50)).alloc (.cells #[.int .i64 0, .int .i64 0, .string ⟨#[]⟩, .slice none 0 0, .slice none 0 0, .slice none 0 0, .slice none 0 0, .int .i64 0] 50)) (.cells #[.int .i64 k, .int .i64 n, .string t, .slice a1 nl c1, .slice a2 ty c2, .slice a3 m c3, .slice a4 m2 c4, .int .i64 0] 50)
    simpa [Own8] using this
  have HW1 := Lib.hid hW1
  have hNk : ∀ W : World, Below w.heap.size w W → 0 < nl → ∃ ad, a1 = some ad ∧ ∀ j u, N[j]? = some u → W.cell? (ad.add j) = some u := fun W hW hn => by
    obtain ⟨ad, e, hc⟩ := hNc hn
    exact ⟨ad, e, fun j u hu => (hW.cell (World.block_lt_of_cell? w _ (hc j u hu))).trans (hc j u hu)⟩
  have hYk : ∀ W : World, Below w.heap.size w W → 0 < ty → ∃ ad, a2 = some ad ∧ ∀ j u, Y[j]? = some u → W.cell? (ad.add j) = some u := fun W hW hn => by
    obtain ⟨ad, e, hc⟩ := hYc hn
    exact ⟨ad, e, fun j u hu => (hW.cell (World.block_lt_of_cell? w _ (hc j u hu))).trans (hc j u hu)⟩
  have HNK := Lib.hid hNk
  have HYK := Lib.hid hYk
  have HX1 := Lib.hid hx1
  have HR1 := Lib.hid hr1
  have HZ1 := Lib.hid hz1
  clear hNk hYk hNc hYc hW1 hx1 hr1 hz1
  go_enter Tryz.func39, Tryz.ntmps39
  go_wp2_with (first
    | (at_builtin
       rw [← HW1.out]
       refine wpList_append_g strTy (by decide) W1 rfl (.const (.slice none 0 0)) (.tmp 10) rfl W1.heap.size (.slice none 0 0) 0 [] N rfl (World.ownsRow_nil _ _ _ _) a1 nl c1 rfl (by omega) (fun hn => HNK.out W1 hb1 hn) hN1 (by omega) (Nat.le_refl _) ?_
       intro v2 w2 hown2 hg2 hv2
       rw [Nat.zero_add, List.nil_append] at hown2
       have hown2' := hown2
       obtain ⟨A2, d2, rfl, h21, h22, h23⟩ := CellsAt.of_own hown2
       have hz2 := HZ1.out.grown hg2 (by simp [Value.ownBlock])
       have hx2 := HX1.out.grown hg2 (by simp [Value.ownBlock])
       have hr2 := HR1.out.grown hg2 (by simp [Value.ownBlock])
       have hb2 : Below w.heap.size w w2 := hb1.grown hg2 (by omega) (fun k hk => by simp [Value.ownBlock] at hk)
       have hs2w : W1.heap.size ≤ w2.heap.size := hg2.size
       obtain ⟨⟨z0, z1, z2, z3, z4, z5, z6, z7⟩, y0, y1, y2, y3, y4, y5, y6, y7⟩ := own_eight hz2
       have hx3 := Own8.other hx2 (p := ⟨w.heap.size + 1 + 1, 3, none⟩) (by simp; omega) (.slice A2 nl d2)
       have hr3 := Own8.other hr2 (p := ⟨w.heap.size + 1 + 1, 3, none⟩) (by simp) (.slice A2 nl d2)
       have hz3 := Own8.set3 hz2 (.slice A2 nl d2)
       obtain ⟨x0, x1, x2, x3, x4, x5, x6, x7⟩ := eight_at hx3
       have hb3 : Below w.heap.size w (w2.setCell ⟨w.heap.size + 1 + 1, 3, none⟩ (.slice A2 nl d2)) := hb2.setCell (p := ⟨w.heap.size + 1 + 1, 3, none⟩) (by show w.heap.size ≤ w.heap.size + 1 + 1; omega) _)
    | (at_builtin
       refine wpList_append_g typTy (by decide) (w2.setCell ⟨w.heap.size + 1 + 1, 3, none⟩ (.slice A2 nl d2)) rfl (.const (.slice none 0 0)) (.tmp 14) rfl w2.heap.size (.slice none 0 0) 0 [] Y rfl (World.ownsRow_nil _ _ _ _) a2 ty c2 rfl (by omega) (fun hn => HYK.out _ hb3 hn) hY1 (by omega) (by simp [World.setCell]) ?_
       intro v4 w4 hown4 hg4 hv4
       rw [Nat.zero_add, List.nil_append] at hown4
       have hown4' := hown4
       obtain ⟨A4, d4, rfl, h41, h42, h43⟩ := CellsAt.of_own hown4
       clear z0 z1 z2 z3 z4 z5 z6 z7 y0 y1 y2 y3 y4 y5 y6 y7 x0 x1 x2 x3 x4 x5 x6 x7
       have hz4 := hz3.grown hg4 (by simp [Value.ownBlock])
       have hx4 := hx3.grown hg4 (by simp [Value.ownBlock])
       have hr4 := hr3.grown hg4 (by simp [Value.ownBlock])
       have hb4 : Below w.heap.size w w4 := hb3.grown hg4 (by have := hb3.size; omega) (fun k hk => by simp [Value.ownBlock] at hk)
       obtain ⟨⟨z0, z1, z2, z3, z4, z5, z6, z7⟩, y0, y1, y2, y3, y4, y5, y6, y7⟩ := own_eight hz4
       obtain ⟨x0, x1, x2, x3, x4, x5, x6, x7⟩ := eight_at hx4)
    | fail "none")
  have hN2 : ∀ W : World, Rolled (w.heap.size + 1 + 1) w4 W → GRow W (fun b => (S b ∨ w.heap.size + 3 ≤ b) ∧ b < W.heap.size) A2 nl (encS ns) := fun W hW hn => by
    obtain ⟨b, o, e, hlt, hc⟩ := h23 (by omega)
    have hlo := (hown2'.lt b (by rw [e]; rfl)).1
    refine ⟨b, o, N, e, ⟨Or.inr (by omega), by have := hW.size; have := hg4.size; simp [World.setCell] at this; omega⟩, strs_any hN, fun i u hu => ?_⟩
    have h1 : w4.cell? ⟨b, o + i, none⟩ = w2.cell? ⟨b, o + i, none⟩ := World.cell?_of_block ((hg4.block b (by simp [World.setCell]; omega) (by simp [Value.ownBlock])).trans (Below.heap_setCell _ _ _ _ (by show b ≠ w.heap.size + 1 + 1; omega)))
    exact ((hW.cell (p := ⟨b, o + i, none⟩) (by have := hg4.size; simp [World.setCell] at this; show b < _; omega) (by show b ≠ _; omega)).trans h1).trans (hc i u hu)
  have hY2 : ∀ W : World, Rolled (w.heap.size + 1 + 1) w4 W → GRow W (fun b => (S b ∨ w.heap.size + 3 ≤ b) ∧ b < W.heap.size) A4 ty (encY ty) := fun W hW hn => by
    obtain ⟨b, o, e, hlt, hc⟩ := h43 (by omega)
    have hlo := (hown4'.lt b (by rw [e]; rfl)).1
    refine ⟨b, o, Y, e, ⟨Or.inr (by omega), by have := hW.size; omega⟩, typs_any hY, fun i u hu => ?_⟩
    exact (hW.cell (p := ⟨b, o + i, none⟩) hlt (by show b ≠ _; omega)).trans (hc i u hu)
  obtain ⟨W3, hW3⟩ : ∃ W3, W3 = ((w4.setCell ⟨w.heap.size + 1 + 1, 4, none⟩ (.slice A4 ty d4)).setCell ⟨w.heap.size + 1 + 1, 5, none⟩ (.slice none 0 0)).setCell ⟨w.heap.size + 1 + 1, 6, none⟩ (.slice none 0 0) := ⟨_, rfl⟩
  have hR43 : Rolled (w.heap.size + 1 + 1) w4 W3 := by
    rw [hW3]
    refine ⟨rfl, rfl, rfl, by simp [World.setCell], fun b hb hne => ?_⟩
    rw [Below.heap_setCell _ _ _ _ hne, Below.heap_setCell _ _ _ _ hne, Below.heap_setCell _ _ _ _ hne]
  have hzW : Own8 W3 (w.heap.size + 1 + 1) 50 (.int .i64 k) (.int .i64 n) (.string t) (.slice A2 nl d2) (.slice A4 ty d4) (.slice none 0 0) (.slice none 0 0) (.int .i64 0) := by
    rw [hW3]
    exact Own8.set6 (Own8.set5 (Own8.set4 hz4 _) _) _
  have hxW := Own8.rolled hx4 hR43 (by omega)
  have hrW := Own8.rolled hr4 hR43 (by omega)
  have hsW : w.heap.size + 3 ≤ W3.heap.size := by have := hR43.size; have := hg4.size; simp [World.setCell] at this; omega
  have hbW : Below w.heap.size w W3 := by
    rw [hW3]
    exact ((hb4.setCell (p := ⟨w.heap.size + 1 + 1, 4, none⟩) (by show w.heap.size ≤ w.heap.size + 1 + 1; omega) _).setCell (p := ⟨w.heap.size + 1 + 1, 5, none⟩) (by show w.heap.size ≤ w.heap.size + 1 + 1; omega) _).setCell (p := ⟨w.heap.size + 1 + 1, 6, none⟩) (by show w.heap.size ≤ w.heap.size + 1 + 1; omega) _
  have HN2 := Lib.hid hN2
  have HY2 := Lib.hid hY2
  have HXW := Lib.hid hxW
  have HRW := Lib.hid hrW
  have HW3 := Lib.hid hW3
  clear hN2 hY2 hxW hrW h23 h43 hown2 hown2' hown4 hown4' hg2 hg4 hv2 hv4 hz2 hx2 hr2 hz3 hx3 hr3 hx4 hr4 hz4 z0 z1 z2 z3 z4 z5 z6 z7 y0 y1 y2 y3 y4 y5 y6 y7 x0 x1 x2 x3 x4 x5 x6 x7 hW3
  go_loopw [22] (fun i wr => ∃ (j : Nat) (r acc : X) (v : Value) (xs : List Value), j ≤ m ∧ i = .int .i64 j ∧ PLoop fr S w W3 (w.heap.size + 1 + 1) a3 m j args r acc (.int .i64 k) (.int .i64 n) (.string t) (.slice A2 nl d2) (.slice A4 ty d4) v xs wr) (fun i _ => m - (intOf i).toNat)
  case atStart =>
    rw [← HW3.out]
    exact ⟨0, args, .nil, .slice none 0 0, [], Nat.zero_le _, rfl, ⟨Half.nil _ _ _ _ _, Rolled.refl _ _, hzW, rfl, rfl, hrest, hA, hsA, by omega⟩⟩
  case round =>
    obtain ⟨j, r, acc, v, xs, hj, rfl, hhalf, hroll, hbox, hlen, hall, hre, hq, hsmr, hszr⟩ := hrel
    have hrs := hroll.size
    have hbwr : Below w.heap.size w wr := ⟨hroll.os.trans hbW.os, hroll.tape.trans hbW.tape, hroll.output.trans hbW.output, Nat.le_trans hbW.size hrs, fun b hb => (hroll.block b (Nat.lt_of_lt_of_le hb hbW.size) (by omega)).trans (hbW.block b hb)⟩
    cases r with
    | nil =>
      obtain rfl : m = j := by have := hre.1; simp only [X.len] at this; omega
      have hacc : acc = foldX fr args := by rw [← hall, foldX, X.app_nil]
      subst hacc
      obtain ⟨AV, cV, rfl, hv1, hv2, hvrow⟩ := hhalf.row (by decide)
      have hxr := Own8.rolled HXW.out hroll (by omega)
      have hrr := Own8.rolled HRW.out hroll (by omega)
      obtain ⟨b0, b1, b2, b3, b4, b5, b6, b7⟩ := eight_at hxr
      obtain ⟨W5, hW5⟩ : ∃ W5, W5 = wr := ⟨_, rfl⟩
      rw [← hW5] at hhalf hroll hbox hrs hbwr hvrow hxr hrr
      have HW5 := Lib.hid hW5
      have HVR := Lib.hid hvrow
      have HRR := Lib.hid hrr
      clear hvrow hall hq hsmr hszr hre hhalf hxr hrr hW5
      go_wp2
      go_loopw [37] (fun i wr => ∃ (j : Nat) (r acc : X) (v : Value) (xs : List Value), j ≤ m2 ∧ i = .int .i64 j ∧ PLoop2 fr S w W5 (w.heap.size + 1 + 1) a4 m2 j arms r acc (.int .i64 k) (.int .i64 n) (.string t) (.slice A2 nl d2) (.slice A4 ty d4) (.slice AV m cV) v xs wr) (fun i _ => m2 - (intOf i).toNat)
      case atStart =>
        rw [← HW5.out]
        exact ⟨0, arms, .nil, .slice none 0 0, [], Nat.zero_le _, rfl, ⟨Half.nil _ _ _ _ _, Rolled.refl _ _, hbox, rfl, rfl, hrest2, hB, hsB, by omega⟩⟩
      case round =>
        obtain ⟨i2, r2, acc2, v, xs2, hj2, rfl, hhalf, hroll2, hbox2, hlen2, hall2, hre2, hq2, hsmr2, hszr2⟩ := hrel
        have hrs2 := hroll2.size
        have hbwr2 : Below w.heap.size w wr := ⟨hroll2.os.trans hbwr.os, hroll2.tape.trans hbwr.tape, hroll2.output.trans hbwr.output, Nat.le_trans hbwr.size hrs2, fun b hb => (hroll2.block b (Nat.lt_of_lt_of_le hb hbwr.size) (by omega)).trans (hbwr.block b hb)⟩
        cases r2 with
        | nil =>
          obtain rfl : m2 = i2 := by have := hre2.1; simp only [X.len] at this; omega
          have hacc2 : acc2 = foldX fr arms := by rw [← hall2, foldX, X.app_nil]
          subst hacc2
          obtain ⟨AW, cW, rfl, hw1, hw2, hwrow⟩ := hhalf.row (by decide)
          have hrr2 := Own8.rolled HRR.out hroll2 (by omega)
          obtain ⟨z0, z1, z2, z3, z4, z5, z6, z7⟩ := eight_at hbox2
          obtain ⟨⟨t0, t1, t2, t3, t4, t5, t6, t7⟩, y0, y1, y2, y3, y4, y5, y6, y7⟩ := own_eight hrr2
          have HWR := Lib.hid hwrow
          clear hwrow hall2 hq2 hsmr2 hszr2 hre2 hhalf hrr2 hbox2 b0 b1 b2 b3 b4 b5 b6 b7
          go_wp2
          refine bodyPost_ret (v := .agg #[.int .i64 k, .int .i64 n, .string t, .slice A2 nl d2, .slice A4 ty d4, .slice AV m cV, .slice AW m2 cW, .int .i64 0]) (by simp [results, Tryz.results39, go_sem, *]) rfl ?_
          have hsz : W5.heap.size ≤ wr.heap.size := hrs2
          have hfs : ∀ v0 v1 v2 v3 v4 v5 v6 v7 : Value, ((((((((wr.setCell ⟨w.heap.size + 1, 0, none⟩ v0).setCell ⟨w.heap.size + 1, 1, none⟩ v1).setCell ⟨w.heap.size + 1, 2, none⟩ v2).setCell ⟨w.heap.size + 1, 3, none⟩ v3).setCell ⟨w.heap.size + 1, 4, none⟩ v4).setCell ⟨w.heap.size + 1, 5, none⟩ v5).setCell ⟨w.heap.size + 1, 6, none⟩ v6).setCell ⟨w.heap.size + 1, 7, none⟩ v7).heap.size = wr.heap.size := fun _ _ _ _ _ _ _ _ => by simp [World.setCell]
          refine ⟨⟨A2, d2, A4, d4, AV, cV, AW, cW⟩, ?_, ⟨?_, ?_, ?_, ?_, ?_, ?_, ?_, ?_⟩, fill8_below hbwr2 (by omega) _ _ _ _ _ _ _ _⟩
          · simp only [agg8, foldX_len]
            rw [HNL.out, HM.out, HM2.out]
          · simp only
            rw [← HNL.out]
            refine (HN2.out wr (hR43.trans (hroll.trans hroll2))).keep (fun b hb => ?_) (fun p hp => World.cell?_of_block (fill8_far _ _ _ _ _ _ _ _ _ _ ?_))
            · rw [hfs]
              exact hb.1.imp_right fun h => ⟨by omega, hb.2⟩
            · rcases hp.1 with h | h
              · have := hS _ h; omega
              · omega
          · simp only
            refine (HY2.out wr (hR43.trans (hroll.trans hroll2))).keep (fun b hb => ?_) (fun p hp => World.cell?_of_block (fill8_far _ _ _ _ _ _ _ _ _ _ ?_))
            · rw [hfs]
              exact hb.1.imp_right fun h => ⟨by omega, hb.2⟩
            · rcases hp.1 with h | h
              · have := hS _ h; omega
              · omega
          · simp only [foldX_len]
            rw [← HM.out]
            refine HVR.out.keep (fun b hb => ?_) (fun p hp => (World.cell?_of_block (fill8_far _ _ _ _ _ _ _ _ _ _ ?_)).trans (hroll2.cell hp.2 ?_))
            · rw [hfs]
              exact hb.1.imp_right fun h => ⟨by omega, by have := hb.2; omega⟩
            · rcases hp.1 with h | h
              · have := hS _ h; omega
              · omega
            · rcases hp.1 with h | h
              · have := hS _ h; omega
              · omega
          · simp only [foldX_len]
            rw [← HM2.out]
            refine HWR.out.keep (fun b hb => ?_) (fun p hp => World.cell?_of_block (fill8_far _ _ _ _ _ _ _ _ _ _ ?_))
            · rw [hfs]
              exact hb.1.imp_right fun h => ⟨by omega, hb.2⟩
            · rcases hp.1 with h | h
              · have := hS _ h; omega
              · have := hbwr.size; omega
          · simp only
            rw [← HNL.out]
            exact ⟨h21, h22⟩
          · exact ⟨h41, h42⟩
          · simp only [foldX_len]
            rw [← HM.out]
            exact ⟨hv1, hv2⟩
          · simp only [foldX_len]
            rw [← HM2.out]
            exact ⟨hw1, hw2⟩
        | cons p h' ar' am' r' =>
          have hlt : i2 < m2 := by have := hre2.1; simp only [X.len] at this; omega
          obtain ⟨ad, q', PA, pc, rfl, hab, hc4, hpg, hpl1, hpl2, hc8, hei, hre'⟩ := hre2.step
          obtain ⟨hq1, hq2⟩ := hq2
          obtain ⟨hsm1, hsm2, hsm3, hsm4⟩ := hsmr2
          simp only [sizeX, if_true] at hszr2
          have hab' : (ad.add (i2 * 12)).block < w.heap.size := by rw [add_block]; exact hS _ hab
          have hd8 := hc8.keep (w' := wr) fun p hp => hbwr2.cell (by rw [hp]; exact hab')
          have hd4 := hc4.keep (w' := wr) fun p hp => hbwr2.cell (by rw [hp]; exact hab')
          obtain ⟨E5, hE5⟩ : ∃ E5, E5 = foldE fr ⟨h', ar', am'⟩ := ⟨_, rfl⟩
          have hall' : (acc2.snoc p E5).app (foldX fr r') = foldX fr arms := by
            rw [← hall2, foldX_cons, ← hE5, X.snoc, X.app_assoc]
            rfl
          have hcall : ∀ W : World, Below w.heap.size w W → Calls Tryz.prog 19 #[agg8 ⟨h', ar', am'⟩ q'] W (ExEnds S E5 W) := fun W hW => by
            rw [hE5]
            exact hq1 q' W S (fun b hb => Nat.lt_of_lt_of_le (hS b hb) hW.size) (hei.keep (fun _ h => h) fun p hp => hW.cell (hS _ hp)) (by simp only [Ex.size]; omega) ⟨hsm1, hsm2, hsm3⟩
          have hszr' : sizeX true r' ≤ 100000 := by omega
          have HPG := Lib.hid hpg
          have HP := Lib.hid (show p = p from rfl)
          obtain ⟨pk, pn, pt, pa⟩ := p
          obtain ⟨k', n', t', ns', m'⟩ := h'
          obtain ⟨x1, d1, x2, d2', x3, d3, x4, d4'⟩ := q'
          simp only [cells8, cells4, agg8] at hd8 hd4 hcall hpl1
          obtain ⟨f0, f1, f2, f3, f4, f5, f6, f7⟩ := hd8
          obtain ⟨e0, e1, e2, e3⟩ := hd4
          obtain ⟨l1, hl1'⟩ : ∃ l, l = ns'.length := ⟨_, rfl⟩
          obtain ⟨l2, hl2'⟩ : ∃ l, l = ar'.len := ⟨_, rfl⟩
          obtain ⟨l3, hl3'⟩ : ∃ l, l = am'.len := ⟨_, rfl⟩
          obtain ⟨pl, hpl'⟩ : ∃ l, l = pa.len := ⟨_, rfl⟩
          rw [← hl1', ← hl2', ← hl3'] at hcall
          rw [← hl1'] at f3
          rw [← hl2'] at f5
          rw [← hl3'] at f6
          rw [← hpl'] at e3 hpl1
          have HALL := Lib.hid hall'
          have HPL := Lib.hid hpl'
          clear hl1' hl2' hl3' hpl' hq1 hei hc8 hc4 hall2 hall' hE5 hpg HP
          have hjm' : (i2 : Int) < (m2 : Int) := by omega
          have hj0 : (0 : Int) ≤ (i2 : Int) := Int.natCast_nonneg _
          obtain ⟨AW, cW, rfl, hw1, hw2, hwrow⟩ := hhalf.row (by decide)
          obtain ⟨wa, hwa⟩ : ∃ wa, wa = wr.alloc (.cells #[.int .i64 pk, .int .i64 pn, .string pt, .slice PA pl pc, .int .i64 k', .int .i64 n', .string t', .slice x1 l1 d1, .slice x2 m' d2', .slice x3 l2 d3, .slice x4 l3 d4', .int .i64 0] 70) := ⟨_, rfl⟩
          have hca : wa.heap[wr.heap.size]? = some (.cells #[.int .i64 pk, .int .i64 pn, .string pt, .slice PA pl pc, .int .i64 k', .int .i64 n', .string t', .slice x1 l1 d1, .slice x2 m' d2', .slice x3 l2 d3, .slice x4 l3 d4', .int .i64 0] 70 (0, 0)) := by rw [hwa]; exact heap_alloc_new wr _
          have hba : Below wr.heap.size wr wa := by rw [hwa]; exact (Below.refl _ _).alloc (Nat.le_refl _) _
          have hsa : wa.heap.size = wr.heap.size + 1 := by rw [hwa]; simp
          have hboxa := hbox2.keep hba
          have hbwa : Below w.heap.size w wa := hbwr2.trans (hba.mono hbwr2.size)
          have hc0 := hcall wa.drew hbwa.drew
          obtain ⟨⟨z0, z1, z2, z3, z4, z5, z6, z7⟩, y0, y1, y2, y3, y4, y5, y6, y7⟩ := own_eight hboxa
          obtain ⟨g0, g1, g2, g3, g4, g5, g6, g7, g8, g9, g10, g11⟩ := twelve_at hca
          have HWA := Lib.hid hwa
          clear hcall hwa b0 b1 b2 b3 b4 b5 b6 b7
          go_wp2
          rw [← HWA.out]
          go_region_law (first
            | (refine step_append_onez armTy (by decide) w5 [.int .i64 pk, .int .i64 pn, .string pt, .slice PA pl pc, .int .i64 E5.h.k, .int .i64 E5.h.n, .string E5.h.t, .slice q5.a1 E5.h.ns.length q5.c1, .slice q5.a2 E5.h.m q5.c2, .slice q5.a3 E5.args.len q5.c3, .slice q5.a4 E5.arms.len q5.c4, .int .i64 0] 70 w5.heap.size rfl rfl (.tmp 42) (.tmp 49) rfl W5.heap.size _ i2 xs2 (by simp [Act.eval]) half5.own (by simp [Act.eval]) rfl (by simp [Value.oneCell']) (by omega) (by omega) ?_
               intro v7 w7 hown7 hg7 hv7
               obtain ⟨A7, c7, rfl, h71, h72, _⟩ := CellsAt.of_own hown7
               have hZ7 := (hZ5.alloc (.cells #[.int .i64 pk, .int .i64 pn, .string pt, .slice PA pl pc, .int .i64 E5.h.k, .int .i64 E5.h.n, .string E5.h.t, .slice q5.a1 E5.h.ns.length q5.c1, .slice q5.a2 E5.h.m q5.c2, .slice q5.a3 E5.args.len q5.c3, .slice q5.a4 E5.arms.len q5.c4, .int .i64 0] 70)).grown hg7 hne0
               obtain ⟨⟨z0, z1, z2, z3, z4, z5, z6, z7⟩, y0, y1, y2, y3, y4, y5, y6, y7⟩ := own_eight hZ7)
            | (go_simp
               go_at_call 19
               (with_reducible refine hc0.mono ?_)
               rintro e w5 ⟨q5, rfl, hq5, hb5⟩
               have hb5a : Below wa.heap.size wa w5 := (Below.refl _ _).drew.trans hb5
               have hZ5 := hboxa.keep hb5a
               have hC5 := (hb5a.block wr.heap.size (by omega)).trans hca
               have half5 := (hhalf.kept hba).kept hb5a
               have hne0 : some (w.heap.size + 1 + 1) ≠ (Value.slice AW i2 cW).ownBlock := fun e => by have := (hhalf.own.lt _ e.symm).1; omega
               have hs5 : wa.heap.size ≤ w5.heap.size := hb5a.size
               have hzl5 : w.heap.size + 1 + 1 < w5.heap.size := hZ5.lt
               have hzc5 : wr.heap.size < w5.heap.size := by omega
               obtain ⟨ga, gb⟩ := alloc_cell hzl5
               obtain ⟨gc, gd⟩ := alloc_cell hzc5
               obtain ⟨t0, t1, t2, t3, t4, t5, t6, t7, t8, t9, t10, t11⟩ := twelve_at hC5
               obtain ⟨⟨u0, u1, u2, u3, u4, u5, u6, u7⟩, o0, o1, o2, o3, o4, o5, o6, o7⟩ := own_eight hZ5)
            | fail "none")
          all_goals
            go_wp2
            go_roundw
            case measure => simp [intOf]; omega
            case rel =>
              have hlow := fun gg (hg : (Value.slice AW i2 cW).ownBlock = some gg) => (half5.own.lt gg hg).1
              have hlt0 : ∀ gg, (Value.slice AW i2 cW).ownBlock = some gg → W5.heap.size ≤ gg ∧ gg < wa.heap.size := fun gg hg => ⟨hlow gg hg, by have := (hhalf.own.lt gg hg).2; omega⟩
              have hpg5 : GRow w5 S PA pa.len (encF pa) := HPG.out.keep (fun _ h => h) fun p hp => (hbwa.trans (hb5a.mono hbwa.size)).cell (hS _ hp)
              have hh := arm_half (p := ⟨pk, pn, pt, pa⟩) (v := .slice AW i2 cW) (base := W5.heap.size) hpg5 (by rw [← HPL.out]; exact ⟨hpl1, hpl2⟩) hq5 (fun b hb => by have := hS b hb; have := hbwr.size; omega) (by show W5.heap.size ≤ wa.heap.size; omega) hs5 hlt0
              rw [← HPL.out] at hh
              have half7 := Half.snoc (o := .cells #[.int .i64 pk, .int .i64 pn, .string pt, .slice PA pl pc, .int .i64 E5.h.k, .int .i64 E5.h.n, .string E5.h.t, .slice q5.a1 E5.h.ns.length q5.c1, .slice q5.a2 E5.h.m q5.c2, .slice q5.a3 E5.args.len q5.c3, .slice q5.a4 E5.arms.len q5.c4, .int .i64 0] 70) half5 hh hown7 hg7 hv7
              have hroll7 : Rolled (w.heap.size + 1 + 1) W5 w7 := (((hroll2.trans (Rolled.of_below hba)).trans (Rolled.of_below hb5a)).alloc _).grown hg7 hlow
              refine ⟨i2 + 1, r', acc2.snoc ⟨pk, pn, pt, pa⟩ E5, _, xs2 ++ (.int .i64 pk :: .int .i64 pn :: .string pt :: .slice PA pl pc :: eight E5 q5), by omega, by go_num, ⟨?_, hroll7.trans (Rolled.setz _ _ _ _), Own8.set6 hZ7 _, by rw [X.snoc_len]; omega, HALL.out, hre', hq2, hsm4, hszr'⟩⟩
              rw [encX_snoc_true]
              exact half7.rolled (Rolled.setz _ _ _ _) (by have := hbwr.size; omega) (fun h => by have := hS _ h; omega)
    | cons p h' ar' am' r' =>
      have hlt : j < m := by have := hre.1; simp only [X.len] at this; omega
      obtain ⟨ad, q', rfl, hab, hc8, hei, hre'⟩ := hre.step
      obtain ⟨hq1, hq2⟩ := hq
      obtain ⟨hsm1, hsm2, hsm3, hsm4⟩ := hsmr
      simp only [sizeX, Bool.false_eq_true, if_false] at hszr
      have hab' : (ad.add (j * 8)).block < w.heap.size := by rw [add_block]; exact hS _ hab
      have hd8 := hc8.keep (w' := wr) fun p hp => hbwr.cell (by rw [hp]; exact hab')
      obtain ⟨E5, hE5⟩ : ∃ E5, E5 = foldE fr ⟨h', ar', am'⟩ := ⟨_, rfl⟩
      have hall' : (acc.snoc p E5).app (foldX fr r') = foldX fr args := by
        rw [← hall, foldX_cons, ← hE5, X.snoc, X.app_assoc]
        rfl
      have hcall : ∀ W : World, Below w.heap.size w W → Calls Tryz.prog 19 #[agg8 ⟨h', ar', am'⟩ q'] W (ExEnds S E5 W) := fun W hW => by
        rw [hE5]
        exact hq1 q' W S (fun b hb => Nat.lt_of_lt_of_le (hS b hb) hW.size) (hei.keep (fun _ h => h) fun p hp => hW.cell (hS _ hp)) (by simp only [Ex.size]; omega) ⟨hsm1, hsm2, hsm3⟩
      have hszr' : sizeX false r' ≤ 100000 := by omega
      obtain ⟨k', n', t', ns', m'⟩ := h'
      obtain ⟨x1, d1, x2, d2', x3, d3, x4, d4'⟩ := q'
      simp only [cells8, agg8] at hd8 hcall
      obtain ⟨f0, f1, f2, f3, f4, f5, f6, f7⟩ := hd8
      obtain ⟨l1, hl1'⟩ : ∃ l, l = ns'.length := ⟨_, rfl⟩
      obtain ⟨l2, hl2'⟩ : ∃ l, l = ar'.len := ⟨_, rfl⟩
      obtain ⟨l3, hl3'⟩ : ∃ l, l = am'.len := ⟨_, rfl⟩
      rw [← hl1', ← hl2', ← hl3'] at hcall
      rw [← hl1'] at f3
      rw [← hl2'] at f5
      rw [← hl3'] at f6
      have HALL := Lib.hid hall'
      clear hl1' hl2' hl3' hq1 hei hc8 hall hall' hE5
      have hjm' : (j : Int) < (m : Int) := by omega
      have hj0 : (0 : Int) ≤ (j : Int) := Int.natCast_nonneg _
      obtain ⟨AV, cV, rfl, hv1, hv2, hvrow⟩ := hhalf.row (by decide)
      obtain ⟨wa, hwa⟩ : ∃ wa, wa = wr.alloc (.cells #[.int .i64 k', .int .i64 n', .string t', .slice x1 l1 d1, .slice x2 m' d2', .slice x3 l2 d3, .slice x4 l3 d4', .int .i64 0] 50) := ⟨_, rfl⟩
      have hca : Own8 wa wr.heap.size 50 (.int .i64 k') (.int .i64 n') (.string t') (.slice x1 l1 d1) (.slice x2 m' d2') (.slice x3 l2 d3) (.slice x4 l3 d4') (.int .i64 0) := by rw [hwa]; exact heap_alloc_new wr _
      have hba : Below wr.heap.size wr wa := by rw [hwa]; exact (Below.refl _ _).alloc (Nat.le_refl _) _
      have hsa : wa.heap.size = wr.heap.size + 1 := by rw [hwa]; simp
      have hboxa := hbox.keep hba
      have hbwa : Below w.heap.size w wa := hbwr.trans (hba.mono hbwr.size)
      have hc0 := hcall wa.drew hbwa.drew
      obtain ⟨⟨z0, z1, z2, z3, z4, z5, z6, z7⟩, y0, y1, y2, y3, y4, y5, y6, y7⟩ := own_eight hboxa
      obtain ⟨g0, g1, g2, g3, g4, g5, g6, g7⟩ := eight_at hca
      have HWA := Lib.hid hwa
      clear hcall hwa
      go_wp2
      rw [← HWA.out]
      go_region_law (first
        | (refine step_append_onez exprTy (by decide) w5 [.int .i64 E5.h.k, .int .i64 E5.h.n, .string E5.h.t, .slice q5.a1 E5.h.ns.length q5.c1, .slice q5.a2 E5.h.m q5.c2, .slice q5.a3 E5.args.len q5.c3, .slice q5.a4 E5.arms.len q5.c4, .int .i64 0] 50 w5.heap.size rfl rfl (.tmp 27) (.tmp 30) rfl W3.heap.size _ j xs (by simp [Act.eval]) half5.own (by simp [Act.eval]) rfl (by simp [Value.oneCell']) (by omega) (by omega) ?_
           intro v7 w7 hown7 hg7 hv7
           obtain ⟨A7, c7, rfl, h71, h72, _⟩ := CellsAt.of_own hown7
           have hZ7 := (hZ5.alloc (.cells #[.int .i64 E5.h.k, .int .i64 E5.h.n, .string E5.h.t, .slice q5.a1 E5.h.ns.length q5.c1, .slice q5.a2 E5.h.m q5.c2, .slice q5.a3 E5.args.len q5.c3, .slice q5.a4 E5.arms.len q5.c4, .int .i64 0] 50)).grown hg7 hne0
           obtain ⟨⟨z0, z1, z2, z3, z4, z5, z6, z7⟩, y0, y1, y2, y3, y4, y5, y6, y7⟩ := own_eight hZ7)
        | (go_simp
           go_at_call 19
           (with_reducible refine hc0.mono ?_)
           rintro e w5 ⟨q5, rfl, hq5, hb5⟩
           have hb5a : Below wa.heap.size wa w5 := (Below.refl _ _).drew.trans hb5
           have hZ5 := hboxa.keep hb5a
           have half5 := (hhalf.kept hba).kept hb5a
           have hne0 : some (w.heap.size + 1 + 1) ≠ (Value.slice AV j cV).ownBlock := fun e => by have := (hhalf.own.lt _ e.symm).1; omega
           have hs5 : wa.heap.size ≤ w5.heap.size := hb5a.size
           have hzl5 : w.heap.size + 1 + 1 < w5.heap.size := hZ5.lt
           obtain ⟨ga, gb⟩ := alloc_cell hzl5
           obtain ⟨⟨i0, i1, i2, i3, i4, i5, i6, i7⟩, o0, o1, o2, o3, o4, o5, o6, o7⟩ := own_eight hZ5)
        | fail "none")
      all_goals
        go_wp2
        go_roundw
        case measure => simp [intOf]; omega
        case rel =>
          have hlow := fun gg (hg : (Value.slice AV j cV).ownBlock = some gg) => (half5.own.lt gg hg).1
          have hlt0 : ∀ gg, (Value.slice AV j cV).ownBlock = some gg → W3.heap.size ≤ gg ∧ gg < wa.heap.size := fun gg hg => ⟨hlow gg hg, by have := (hhalf.own.lt gg hg).2; omega⟩
          have hh := ex_half (v := .slice AV j cV) (base := W3.heap.size) hq5 (fun b hb => by have := hS b hb; omega) (by show W3.heap.size ≤ wa.heap.size; omega) hs5 hlt0
          have half7 := Half.snoc (o := .cells #[.int .i64 E5.h.k, .int .i64 E5.h.n, .string E5.h.t, .slice q5.a1 E5.h.ns.length q5.c1, .slice q5.a2 E5.h.m q5.c2, .slice q5.a3 E5.args.len q5.c3, .slice q5.a4 E5.arms.len q5.c4, .int .i64 0] 50) half5 hh hown7 hg7 hv7
          have hroll7 : Rolled (w.heap.size + 1 + 1) W3 w7 := (((hroll.trans (Rolled.of_below hba)).trans (Rolled.of_below hb5a)).alloc _).grown hg7 hlow
          refine ⟨j + 1, r', acc.snoc p E5, _, xs ++ eight E5 q5, by omega, by go_num, ⟨?_, hroll7.trans (Rolled.setz _ _ _ _), Own8.set5 hZ7 _, by rw [X.snoc_len]; omega, HALL.out, hre', hq2, hsm4, hszr'⟩⟩
          rw [encX_snoc_false]
          exact half7.rolled (Rolled.setz _ _ _ _) (by omega) (fun h => by have := hS _ h; omega)
end Go.Proofs.YtiinghgfojicdaaGreat
