/- A part of the proof of FoldTwice: tree.SameExpr; folding as a plain function. No conditions. -/
import Derived.Test.YtiinghgfojicdaaGreatFoE
import Derived.Test.YtiinghgfojicdaaGreatFoC
set_option linter.unusedVariables false
set_option linter.unusedSimpArgs false
namespace Go.Proofs.YtiinghgfojicdaaGreat
open Go.RowKit Go.RowG Go.FRow Go.GMem
set_option linter.unusedVariables false
set_option maxRecDepth 100000
attribute [local go_sem ↓] Go.wp_at_zero Go.wp_at_succ
/-- No head has many names or types. -/
def fitX : X → Prop
  | .nil => True
  | .cons _ h args arms r => (h.ns.length ≤ 100 ∧ h.m ≤ 100) ∧ fitX args ∧ fitX arms ∧ fitX r
def Ex.fit (e : Ex) : Prop := (e.h.ns.length ≤ 100 ∧ e.h.m ≤ 100) ∧ fitX e.args ∧ fitX e.arms
def SameExSaid (e : Ex) : Prop := ∀ (q q' : At) (w : World), EIs w (lt w) e q → EIs w (lt w) e q' → e.size ≤ 100000 → e.fit → Calls Tryz.prog 20 #[agg8 e q, agg8 e q'] w (SameEnds w)
set_option maxHeartbeats 4000000 in
theorem eqX_says (x : X) (hQ : EachX SameExSaid x) (A A' : Option Addr) (c c' : Nat) (w : World) (h : GRow w (lt w) A x.len (encX false x)) (h' : GRow w (lt w) A' x.len (encX false x)) (hn : sizeX false x ≤ 100000) (hf : fitX x) :
    Calls Tryz.prog 47 #[.slice A x.len c, .slice A' x.len c', .func (.func 20) #[] #[]] w (SameEnds w) := by
  have hrest := xrest h
  have hrest' := xrest h'
  obtain ⟨m, hm⟩ : ∃ m, m = x.len := ⟨_, rfl⟩
  have hml : m ≤ 100000 := by have := x.len_size false; omega
  rw [← hm] at hrest hrest'
  rw [← hm]
  clear hm h h'
  go_enter Tryz.func47, Tryz.ntmps47
  go_wp2
  go_loopw [17] (fun i wr => ∃ (j : Nat) (r : X), j ≤ m ∧ i = .int .i64 j ∧ sizeX false r ≤ 100000 ∧ fitX r ∧ EachX SameExSaid r ∧ XRest w (lt w) A m j r ∧ XRest w (lt w) A' m j r ∧ Below w.heap.size w wr) (fun i _ => m - (intOf i).toNat)
  case atStart => exact ⟨0, x, Nat.zero_le _, rfl, hn, hf, hQ, hrest, hrest', Below.refl _ _⟩
  case round =>
    obtain ⟨j, r, hj, rfl, hno, hfi, hq, hre, hre2, hb⟩ := hrel
    cases r with
    | nil =>
      obtain rfl : j = m := by have := hre.1; simp only [X.len] at this; omega
      clear hno
      go_wp2
      go_ret
      exact ⟨rfl, hb⟩
    | cons p hd ar am r' =>
      have hlt : j < m := by have := hre.1; simp only [X.len] at this; omega
      obtain ⟨ad, q, rfl, hab, hc8, hei, hre'⟩ := hre.step
      obtain ⟨ad2, q2, rfl, hab2, hc82, hei2, hre2'⟩ := hre2.step
      obtain ⟨hq1, hq2⟩ := hq
      obtain ⟨hf1, hf2, hf3, hf4⟩ := hfi
      simp only [sizeX, Bool.false_eq_true, if_false] at hno
      have hab' : (ad.add (j * 8)).block < w.heap.size := by rw [add_block]; exact hab
      have hab2' : (ad2.add (j * 8)).block < w.heap.size := by rw [add_block]; exact hab2
      have hd8 := hc8.keep (w' := wr) fun p hp => hb.cell (by rw [hp]; exact hab')
      have he8 := hc82.keep (w' := wr) fun p hp => hb.cell (by rw [hp]; exact hab2')
      have hbs := hb.size
      have gg := fun (o : Obj) => he8.keep (w' := wr.alloc o) fun p hp => World.cell?_alloc_lt wr o p (by rw [hp]; omega)
      have hcall : ∀ W : World, Below w.heap.size w W → Calls Tryz.prog 20 #[agg8 ⟨hd, ar, am⟩ q, agg8 ⟨hd, ar, am⟩ q2] W (SameEnds W) := fun W hW =>
        hq1 q q2 W (hei.below hW) (hei2.below hW) (by simp only [Ex.size]; omega) ⟨hf1, hf2, hf3⟩
      have hno' : sizeX false r' ≤ 100000 := by omega
      obtain ⟨k', n', t', ns', m'⟩ := hd
      obtain ⟨x1, d1, x2, d2, x3, d3, x4, d4⟩ := q
      obtain ⟨z1, e1, z2, e2, z3, e3, z4, e4⟩ := q2
      simp only [cells8, agg8] at hd8 he8 gg hcall
      obtain ⟨l1, hl1⟩ : ∃ l, l = ns'.length := ⟨_, rfl⟩
      obtain ⟨l2, hl2⟩ : ∃ l, l = ar.len := ⟨_, rfl⟩
      obtain ⟨l3, hl3⟩ : ∃ l, l = am.len := ⟨_, rfl⟩
      rw [← hl1, ← hl2, ← hl3] at hcall hd8 he8
      simp only [← hl1, ← hl2, ← hl3] at gg
      obtain ⟨f0, f1, f2, f3, f4, f5, f6, f7⟩ := hd8
      obtain ⟨u0, u1, u2, u3, u4, u5, u6, u7⟩ := he8
      have g0 := fun o => (gg o).1
      have g1 := fun o => (gg o).2.1
      have g2 := fun o => (gg o).2.2.1
      have g3 := fun o => (gg o).2.2.2.1
      have g4 := fun o => (gg o).2.2.2.2.1
      have g5 := fun o => (gg o).2.2.2.2.2.1
      have g6 := fun o => (gg o).2.2.2.2.2.2.1
      have g7 := fun o => (gg o).2.2.2.2.2.2.2
      clear hl1 hl2 hl3 hq1 hei hei2 hc8 hc82 gg hno
      go_wp2_with (first
        | (go_at_call 20; (with_reducible refine (hcall _ ((hb.alloc hbs _).alloc (by simp; omega) _)).mono ?_); rintro e w2 ⟨rfl, hb2⟩)
        | fail "none")
      go_roundw
      case rel => exact ⟨j + 1, r', by omega, by go_num, hno', hf4, hq2, hre', hre2', ((hb.alloc hbs _).alloc (by simp; omega) _).trans (hb2.mono (by simp; omega))⟩
      case measure => simp [intOf]; omega
/-- An arm as a value. -/
abbrev agg12 (p : Pt) (A : Option Addr) (c : Nat) (e : Ex) (q : At) : Value := .agg #[.int .i64 p.k, .int .i64 p.n, .string p.t, .slice A p.a.len c, .int .i64 e.h.k, .int .i64 e.h.n, .string e.h.t, .slice q.a1 e.h.ns.length q.c1, .slice q.a2 e.h.m q.c2, .slice q.a3 e.args.len q.c3, .slice q.a4 e.arms.len q.c4, .int .i64 0]
set_option maxHeartbeats 4000000 in
theorem sameArm_says (p : Pt) (e : Ex) (hQ : SameExSaid e) (A A' : Option Addr) (c c' : Nat) (q q' : At) (w : World) (hp : GRow w (lt w) A p.a.len (encF p.a)) (hp' : GRow w (lt w) A' p.a.len (encF p.a)) (hpn : p.a.nodes ≤ 100000) (he : EIs w (lt w) e q) (he' : EIs w (lt w) e q') (hn : e.size ≤ 100000) (hf : e.fit) :
    Calls Tryz.prog 49 #[agg12 p A c e q, agg12 p A' c' e q'] w (SameEnds w) := by
  have hcall : ∀ W : World, Below w.heap.size w W → Calls Tryz.prog 20 #[agg8 e q, agg8 e q'] W (SameEnds W) := fun W hW => hQ q q' W (he.below hW) (he'.below hW) hn hf
  have hcallp : ∀ W : World, Below w.heap.size w W → Calls Tryz.prog 76 #[agg4 p.k p.n p.t A p.a.len c, agg4 p.k p.n p.t A' p.a.len c'] W (SameEnds W) := fun W hW =>
    samePat_head p.k p.n p.t p.a (samePat_all p.a) A A' c c' W ((row_of hp).keep (fun b h => Nat.lt_of_lt_of_le h hW.size) fun p hp => hW.cell hp) ((row_of hp').keep (fun b h => Nat.lt_of_lt_of_le h hW.size) fun p hp => hW.cell hp) hpn
  obtain ⟨pk, pn, pt, pa⟩ := p
  obtain ⟨⟨k', n', t', ns', m'⟩, ar, am⟩ := e
  obtain ⟨x1, d1, x2, d2, x3, d3, x4, d4⟩ := q
  obtain ⟨z1, e1, z2, e2, z3, e3, z4, e4⟩ := q'
  simp only [agg8, agg12] at hcall hcallp ⊢
  obtain ⟨l1, hl1⟩ : ∃ l, l = ns'.length := ⟨_, rfl⟩
  obtain ⟨l2, hl2⟩ : ∃ l, l = ar.len := ⟨_, rfl⟩
  obtain ⟨l3, hl3⟩ : ∃ l, l = am.len := ⟨_, rfl⟩
  obtain ⟨l4, hl4⟩ : ∃ l, l = pa.len := ⟨_, rfl⟩
  rw [← hl1, ← hl2, ← hl3] at hcall
  rw [← hl4] at hcallp
  rw [← hl1, ← hl2, ← hl3, ← hl4]
  clear hl1 hl2 hl3 hl4 he he' hp hp' hQ hf hn hpn
  have hW1 : Below w.heap.size w ((w.alloc (.cells #[.int .i64 pk, .int .i64 pn, .string pt, .slice A l4 c, .int .i64 k', .int .i64 n', .string t', .slice x1 l1 d1, .slice x2 m' d2, .slice x3 l2 d3, .slice x4 l3 d4, .int .i64 0] 70)).alloc (.cells #[.int .i64 pk, .int .i64 pn, .string pt, .slice A' l4 c', .int .i64 k', .int .i64 n', .string t', .slice z1 l1 e1, .slice z2 m' e2, .slice z3 l2 e3, .slice z4 l3 e4, .int .i64 0] 70)) := ((Below.refl _ _).alloc (Nat.le_refl _) _).alloc (by simp) _
  have hZ1 := (heap_alloc_old (w.alloc (.cells #[.int .i64 pk, .int .i64 pn, .string pt, .slice A l4 c, .int .i64 k', .int .i64 n', .string t', .slice x1 l1 d1, .slice x2 m' d2, .slice x3 l2 d3, .slice x4 l3 d4, .int .i64 0] 70)) (.cells #[.int .i64 pk, .int .i64 pn, .string pt, .slice A' l4 c', .int .i64 k', .int .i64 n', .string t', .slice z1 l1 e1, .slice z2 m' e2, .slice z3 l2 e3, .slice z4 l3 e4, .int .i64 0] 70) (by simp)).trans (heap_alloc_new w _)
  have hZ2 := heap_alloc_new (w.alloc (.cells #[.int .i64 pk, .int .i64 pn, .string pt, .slice A l4 c, .int .i64 k', .int .i64 n', .string t', .slice x1 l1 d1, .slice x2 m' d2, .slice x3 l2 d3, .slice x4 l3 d4, .int .i64 0] 70)) (.cells #[.int .i64 pk, .int .i64 pn, .string pt, .slice A' l4 c', .int .i64 k', .int .i64 n', .string t', .slice z1 l1 e1, .slice z2 m' e2, .slice z3 l2 e3, .slice z4 l3 e4, .int .i64 0] 70)
  have es : (w.alloc (.cells #[.int .i64 pk, .int .i64 pn, .string pt, .slice A l4 c, .int .i64 k', .int .i64 n', .string t', .slice x1 l1 d1, .slice x2 m' d2, .slice x3 l2 d3, .slice x4 l3 d4, .int .i64 0] 70)).heap.size = w.heap.size + 1 := by simp
  rw [es] at hZ2
  have HC := Lib.hid hcall
  have HW := Lib.hid hW1
  have HZ1 := Lib.hid hZ1
  have HZ2 := Lib.hid hZ2
  have hcp := hcallp _ hW1
  clear hcall hcallp hW1 hZ1 hZ2 es
  go_enter Tryz.func49, Tryz.ntmps49
  go_wp2_with (first
    | (go_at_call 76
       (with_reducible refine hcp.mono ?_)
       rintro e w2 ⟨rfl, hb2⟩
       have hW2 := HW.out.trans (hb2.mono HW.out.size)
       obtain ⟨u0, u1, u2, u3, u4, u5, u6, u7, u8, u9, u10, u11⟩ := twelve_at ((hb2.block w.heap.size (by simp; omega)).trans HZ1.out)
       obtain ⟨v0, v1, v2, v3, v4, v5, v6, v7, v8, v9, v10, v11⟩ := twelve_at ((hb2.block (w.heap.size + 1) (by simp)).trans HZ2.out)
       have hcs := HC.out w2 hW2
       clear hcp)
    | (go_at_call 20
       (with_reducible refine hcs.mono ?_)
       rintro e w3 ⟨rfl, hb3⟩
       have hW3 := hW2.trans (hb3.mono hW2.size))
    | fail "none")
  go_ret
  exact ⟨rfl, hW3⟩
set_option maxHeartbeats 4000000 in
theorem eqA_says (x : X) (hQ : EachX SameExSaid x) (A A' : Option Addr) (c c' : Nat) (w : World) (h : GRow w (lt w) A x.len (encX true x)) (h' : GRow w (lt w) A' x.len (encX true x)) (hn : sizeX true x ≤ 100000) (hf : fitX x) :
    Calls Tryz.prog 48 #[.slice A x.len c, .slice A' x.len c', .func (.func 49) #[] #[]] w (SameEnds w) := by
  have hrest := arest h
  have hrest' := arest h'
  obtain ⟨m, hm⟩ : ∃ m, m = x.len := ⟨_, rfl⟩
  have hml : m ≤ 100000 := by have := x.len_size true; omega
  rw [← hm] at hrest hrest'
  rw [← hm]
  clear hm h h'
  go_enter Tryz.func48, Tryz.ntmps48
  go_wp2
  go_loopw [17] (fun i wr => ∃ (j : Nat) (r : X), j ≤ m ∧ i = .int .i64 j ∧ sizeX true r ≤ 100000 ∧ fitX r ∧ EachX SameExSaid r ∧ ARest w (lt w) A m j r ∧ ARest w (lt w) A' m j r ∧ Below w.heap.size w wr) (fun i _ => m - (intOf i).toNat)
  case atStart => exact ⟨0, x, Nat.zero_le _, rfl, hn, hf, hQ, hrest, hrest', Below.refl _ _⟩
  case round =>
    obtain ⟨j, r, hj, rfl, hno, hfi, hq, hre, hre2, hb⟩ := hrel
    cases r with
    | nil =>
      obtain rfl : j = m := by have := hre.1; simp only [X.len] at this; omega
      clear hno
      go_wp2
      go_ret
      exact ⟨rfl, hb⟩
    | cons p hd ar am r' =>
      have hlt : j < m := by have := hre.1; simp only [X.len] at this; omega
      obtain ⟨ad, q, PA, pc, rfl, hab, hc4, hpg, hpl, hpm, hc8, hei, hre'⟩ := hre.step
      obtain ⟨ad2, q2, PA2, pc2, rfl, hab2, hc42, hpg2, hpl2, hpm2, hc82, hei2, hre2'⟩ := hre2.step
      obtain ⟨hq1, hq2⟩ := hq
      obtain ⟨hf1, hf2, hf3, hf4⟩ := hfi
      simp only [sizeX, if_true] at hno
      have hab' : (ad.add (j * 12)).block < w.heap.size := by rw [add_block]; exact hab
      have hab2' : (ad2.add (j * 12)).block < w.heap.size := by rw [add_block]; exact hab2
      have hd8 := hc8.keep (w' := wr) fun p hp => hb.cell (by rw [hp]; exact hab')
      have he8 := hc82.keep (w' := wr) fun p hp => hb.cell (by rw [hp]; exact hab2')
      have hd4 := hc4.keep (w' := wr) fun p hp => hb.cell (by rw [hp]; exact hab')
      have he4 := hc42.keep (w' := wr) fun p hp => hb.cell (by rw [hp]; exact hab2')
      have hbs := hb.size
      have gg4 := fun (o : Obj) => he4.keep (w' := wr.alloc o) fun p hp => World.cell?_alloc_lt wr o p (by rw [hp]; omega)
      have gg := fun (o : Obj) => he8.keep (w' := wr.alloc o) fun p hp => World.cell?_alloc_lt wr o p (by rw [hp]; show (ad2.add (j * 12)).block < _; omega)
      have hcall : ∀ W : World, Below w.heap.size w W → Calls Tryz.prog 49 #[agg12 p PA pc ⟨hd, ar, am⟩ q, agg12 p PA2 pc2 ⟨hd, ar, am⟩ q2] W (SameEnds W) := fun W hW =>
        sameArm_says p ⟨hd, ar, am⟩ hq1 PA PA2 pc pc2 q q2 W (hpg.below hW) (hpg2.below hW) (by omega) (hei.below hW) (hei2.below hW) (by simp only [Ex.size]; omega) ⟨hf1, hf2, hf3⟩
      have hno' : sizeX true r' ≤ 100000 := by omega
      obtain ⟨pk, pn, pt, pa⟩ := p
      obtain ⟨k', n', t', ns', m'⟩ := hd
      obtain ⟨x1, d1, x2, d2, x3, d3, x4, d4⟩ := q
      obtain ⟨z1, e1, z2, e2, z3, e3, z4, e4⟩ := q2
      simp only [cells8, cells4, agg12] at hd8 he8 gg hd4 he4 gg4 hcall
      obtain ⟨l1, hl1⟩ : ∃ l, l = ns'.length := ⟨_, rfl⟩
      obtain ⟨l2, hl2⟩ : ∃ l, l = ar.len := ⟨_, rfl⟩
      obtain ⟨l3, hl3⟩ : ∃ l, l = am.len := ⟨_, rfl⟩
      obtain ⟨l4, hl4⟩ : ∃ l, l = pa.len := ⟨_, rfl⟩
      rw [← hl1, ← hl2, ← hl3] at hcall hd8 he8
      rw [← hl4] at hcall hd4 he4
      simp only [← hl4] at gg4
      simp only [← hl1, ← hl2, ← hl3] at gg
      obtain ⟨f0, f1, f2, f3, f4, f5, f6, f7⟩ := hd8
      obtain ⟨u0, u1, u2, u3, u4, u5, u6, u7⟩ := he8
      obtain ⟨i0, i1, i2, i3⟩ := hd4
      obtain ⟨o0, o1, o2, o3⟩ := he4
      have q0 := fun o => (gg4 o).1
      have q1 := fun o => (gg4 o).2.1
      have q2 := fun o => (gg4 o).2.2.1
      have q3 := fun o => (gg4 o).2.2.2
      have g0 := fun o => (gg o).1
      have g1 := fun o => (gg o).2.1
      have g2 := fun o => (gg o).2.2.1
      have g3 := fun o => (gg o).2.2.2.1
      have g4 := fun o => (gg o).2.2.2.2.1
      have g5 := fun o => (gg o).2.2.2.2.2.1
      have g6 := fun o => (gg o).2.2.2.2.2.2.1
      have g7 := fun o => (gg o).2.2.2.2.2.2.2
      clear hl1 hl2 hl3 hl4 hq1 hei hei2 hc8 hc82 hc4 hc42 gg gg4 hno hpg hpg2
      go_wp2_with (first
        | (go_at_call 49; (with_reducible refine (hcall _ ((hb.alloc hbs _).alloc (by simp; omega) _)).mono ?_); rintro e w2 ⟨rfl, hb2⟩)
        | fail "none")
      go_roundw
      case rel => exact ⟨j + 1, r', by omega, by go_num, hno', hf4, hq2, hre', hre2', ((hb.alloc hbs _).alloc (by simp; omega) _).trans (hb2.mono (by simp; omega))⟩
      case measure => simp [intOf]; omega
set_option maxHeartbeats 4000000 in
theorem sameEx_head (e : Ex) (hA : EachX SameExSaid e.args) (hB : EachX SameExSaid e.arms) : SameExSaid e := by
  intro q q' w he he' hn hf
  obtain ⟨hf1, hf2, hf3⟩ := hf
  simp only [Ex.size] at hn
  have hS : ∀ W : World, Below w.heap.size w W → Calls Tryz.prog 44 #[.slice q.a1 e.h.ns.length q.c1, .slice q'.a1 e.h.ns.length q'.c1] W (SameEnds W) := fun W hW => eqS_says e.h.ns q.a1 q'.a1 q.c1 q'.c1 W (he.r1.below hW) (he'.r1.below hW) (by omega)
  have hY : ∀ W : World, Below w.heap.size w W → Calls Tryz.prog 45 #[.slice q.a2 e.h.m q.c2, .slice q'.a2 e.h.m q'.c2, .func (.func 46) #[] #[]] W (SameEnds W) := fun W hW => eqY_says e.h.m q.a2 q'.a2 q.c2 q'.c2 W (he.r2.below hW) (he'.r2.below hW) (by omega)
  have hX : ∀ W : World, Below w.heap.size w W → Calls Tryz.prog 47 #[.slice q.a3 e.args.len q.c3, .slice q'.a3 e.args.len q'.c3, .func (.func 20) #[] #[]] W (SameEnds W) := fun W hW => eqX_says e.args hA q.a3 q'.a3 q.c3 q'.c3 W (he.r3.below hW) (he'.r3.below hW) (by omega) hf2
  have hM : ∀ W : World, Below w.heap.size w W → Calls Tryz.prog 48 #[.slice q.a4 e.arms.len q.c4, .slice q'.a4 e.arms.len q'.c4, .func (.func 49) #[] #[]] W (SameEnds W) := fun W hW => eqA_says e.arms hB q.a4 q'.a4 q.c4 q'.c4 W (he.r4.below hW) (he'.r4.below hW) (by omega) hf3
  obtain ⟨⟨k', n', t', ns', m'⟩, ar, am⟩ := e
  obtain ⟨x1, d1, x2, d2, x3, d3, x4, d4⟩ := q
  obtain ⟨z1, e1, z2, e2, z3, e3, z4, e4⟩ := q'
  simp only [agg8] at hS hY hX hM ⊢
  obtain ⟨l1, hl1⟩ : ∃ l, l = ns'.length := ⟨_, rfl⟩
  obtain ⟨l2, hl2⟩ : ∃ l, l = ar.len := ⟨_, rfl⟩
  obtain ⟨l3, hl3⟩ : ∃ l, l = am.len := ⟨_, rfl⟩
  rw [← hl1] at hS
  rw [← hl2] at hX
  rw [← hl3] at hM
  rw [← hl1, ← hl2, ← hl3]
  clear hl1 hl2 hl3 he he' hA hB hf1 hf2 hf3 hn
  have hW1 : Below w.heap.size w ((w.alloc (.cells #[.int .i64 k', .int .i64 n', .string t', .slice x1 l1 d1, .slice x2 m' d2, .slice x3 l2 d3, .slice x4 l3 d4, .int .i64 0] 50)).alloc (.cells #[.int .i64 k', .int .i64 n', .string t', .slice z1 l1 e1, .slice z2 m' e2, .slice z3 l2 e3, .slice z4 l3 e4, .int .i64 0] 50)) := ((Below.refl _ _).alloc (Nat.le_refl _) _).alloc (by simp) _
  have hZ1 := (heap_alloc_old (w.alloc (.cells #[.int .i64 k', .int .i64 n', .string t', .slice x1 l1 d1, .slice x2 m' d2, .slice x3 l2 d3, .slice x4 l3 d4, .int .i64 0] 50)) (.cells #[.int .i64 k', .int .i64 n', .string t', .slice z1 l1 e1, .slice z2 m' e2, .slice z3 l2 e3, .slice z4 l3 e4, .int .i64 0] 50) (by simp)).trans (heap_alloc_new w _)
  have hZ2 := heap_alloc_new (w.alloc (.cells #[.int .i64 k', .int .i64 n', .string t', .slice x1 l1 d1, .slice x2 m' d2, .slice x3 l2 d3, .slice x4 l3 d4, .int .i64 0] 50)) (.cells #[.int .i64 k', .int .i64 n', .string t', .slice z1 l1 e1, .slice z2 m' e2, .slice z3 l2 e3, .slice z4 l3 e4, .int .i64 0] 50)
  have es : (w.alloc (.cells #[.int .i64 k', .int .i64 n', .string t', .slice x1 l1 d1, .slice x2 m' d2, .slice x3 l2 d3, .slice x4 l3 d4, .int .i64 0] 50)).heap.size = w.heap.size + 1 := by simp
  rw [es] at hZ2
  have HY := Lib.hid hY
  have HX := Lib.hid hX
  have HM := Lib.hid hM
  have HW := Lib.hid hW1
  have HZ1 := Lib.hid hZ1
  have HZ2 := Lib.hid hZ2
  have hc1 := hS _ hW1
  clear hS hY hX hM hW1 hZ1 hZ2 es
  go_enter Tryz.func20, Tryz.ntmps20
  go_wp2_with (first
    | (go_at_call 44
       (with_reducible refine hc1.mono ?_)
       rintro e w2 ⟨rfl, hb2⟩
       have hW2 := HW.out.trans (hb2.mono HW.out.size)
       have hA2 := (hb2.block w.heap.size (by simp; omega)).trans HZ1.out
       have hB2 := (hb2.block (w.heap.size + 1) (by simp)).trans HZ2.out
       obtain ⟨u0, u1, u2, u3, u4, u5, u6, u7⟩ := eight_at hA2
       obtain ⟨v0, v1, v2, v3, v4, v5, v6, v7⟩ := eight_at hB2
       have hl2 : w.heap.size + 1 < w2.heap.size := (Array.getElem?_eq_some_iff.1 hB2).1
       have hc2 := HY.out w2 hW2
       clear hc1)
    | (go_at_call 45
       (with_reducible refine hc2.mono ?_)
       rintro e w3 ⟨rfl, hb3⟩
       have hW3 := hW2.trans (hb3.mono hW2.size)
       have hA3 := (hb3.block w.heap.size (by omega)).trans hA2
       have hB3 := (hb3.block (w.heap.size + 1) (by omega)).trans hB2
       clear u0 u1 u2 u3 u4 u5 u6 u7 v0 v1 v2 v3 v4 v5 v6 v7
       obtain ⟨u0, u1, u2, u3, u4, u5, u6, u7⟩ := eight_at hA3
       obtain ⟨v0, v1, v2, v3, v4, v5, v6, v7⟩ := eight_at hB3
       have hl3 : w.heap.size + 1 < w3.heap.size := (Array.getElem?_eq_some_iff.1 hB3).1
       have hc3 := HX.out w3 hW3
       clear hc2)
    | (go_at_call 47
       (with_reducible refine hc3.mono ?_)
       rintro e w4 ⟨rfl, hb4⟩
       have hW4 := hW3.trans (hb4.mono hW3.size)
       have hA4 := (hb4.block w.heap.size (by omega)).trans hA3
       have hB4 := (hb4.block (w.heap.size + 1) (by omega)).trans hB3
       clear u0 u1 u2 u3 u4 u5 u6 u7 v0 v1 v2 v3 v4 v5 v6 v7
       obtain ⟨u0, u1, u2, u3, u4, u5, u6, u7⟩ := eight_at hA4
       obtain ⟨v0, v1, v2, v3, v4, v5, v6, v7⟩ := eight_at hB4
       have hc4 := HM.out w4 hW4
       clear hc3)
    | (go_at_call 48
       (with_reducible refine hc4.mono ?_)
       rintro e w5 ⟨rfl, hb5⟩
       have hW5 := hW4.trans (hb5.mono hW4.size))
    | fail "none")
  go_ret
  exact ⟨rfl, hW5⟩
theorem sameEx_says (e : Ex) : SameExSaid e := each_ex sameEx_head e
end Go.Proofs.YtiinghgfojicdaaGreat
namespace Go.Proofs.YtiinghgfojicdaaGreat
open Go.RowKit Go.RowG Go.FRow Go.GMem
set_option linter.unusedVariables false
set_option maxRecDepth 100000
attribute [local go_sem ↓] Go.wp_at_zero Go.wp_at_succ
/-- Is it a literal? -/
def litH (k n : Int) : Bool := (k == 2) || ((k == 3) && ((n == 0) || (n == 1))) || (k == 4)
theorem literal_says (k n : Int) (t : ByteArray) (a1 a2 a3 a4 : Option Addr) (l1 l2 l3 l4 c1 c2 c3 c4 : Nat) (w : World) :
    Calls Tryz.prog 40 #[.agg #[.int .i64 k, .int .i64 n, .string t, .slice a1 l1 c1, .slice a2 l2 c2, .slice a3 l3 c3, .slice a4 l4 c4, .int .i64 0]] w (BoolEnds (litH k n) w) := by
  have hcases : k = 2 ∨ (k = 3 ∧ n = 0) ∨ (k = 3 ∧ n = 1) ∨ (k = 3 ∧ (n == 0) = false ∧ (n == 1) = false) ∨ k = 4 ∨ ((k == 2) = false ∧ (k == 3) = false ∧ (k == 4) = false) := by
    simp only [beq_eq_false_iff_ne]
    omega
  rcases hcases with rfl | ⟨rfl, rfl⟩ | ⟨rfl, rfl⟩ | ⟨rfl, h1, h2⟩ | rfl | ⟨h1, h2, h3⟩
  all_goals
    go_enter Tryz.func40, Tryz.ntmps40
    go_wp2
    go_ret
    exact ⟨by simp [litH, *], (Below.refl _ _).alloc (Nat.le_refl _) _⟩
/-- An expression without parts. -/
abbrev leafE (k n : Int) (t : ByteArray) : Ex := ⟨⟨k, n, t, [], 0⟩, .nil, .nil⟩
abbrev at0 : At := ⟨none, 0, none, 0, none, 0, none, 0⟩
abbrev agg8L (k n : Int) (t : ByteArray) : Value := .agg #[.int .i64 k, .int .i64 n, .string t, .slice none 0 0, .slice none 0 0, .slice none 0 0, .slice none 0 0, .int .i64 0]
theorem leaf_eis (w : World) (S : Nat → Prop) (k n : Int) (t : ByteArray) : EIs w S (leafE k n t) at0 :=
  ⟨GRow.nil _ _ _ _, GRow.nil _ _ _ _, GRow.nil _ _ _ _, GRow.nil _ _ _ _, ⟨Nat.le_refl _, by decide⟩, ⟨Nat.le_refl _, by decide⟩, ⟨Nat.le_refl _, by decide⟩, ⟨Nat.le_refl _, by decide⟩⟩
/-- What hands back an expression: it lies within S, or was made since. -/
def ExEnds (S : Nat → Prop) (e : Ex) (w : World) (en : Ending) (w' : World) : Prop := ∃ q, en = .returned (agg8 e q) ∧ EIs w' (fun b => S b ∨ (w.heap.size ≤ b ∧ b < w'.heap.size)) e q ∧ Below w.heap.size w w'
theorem leaf_ends {S : Nat → Prop} {k n : Int} {t : ByteArray} {w w' : World} (h : Below w.heap.size w w') : ExEnds S (leafE k n t) w (.returned (agg8L k n t)) w' := ⟨at0, rfl, leaf_eis _ _ _ _ _, h⟩
def truthE (b : Bool) : Ex := if b = true then leafE 3 1 ⟨#[]⟩ else leafE 3 0 ⟨#[]⟩
theorem fill8_below {w0 w : World} {B z : Nat} (h : Below B w0 w) (hz : B ≤ z) (v0 v1 v2 v3 v4 v5 v6 v7 : Value) : Below B w0 ((((((((w.setCell ⟨z, 0, none⟩ v0).setCell ⟨z, 1, none⟩ v1).setCell ⟨z, 2, none⟩ v2).setCell ⟨z, 3, none⟩ v3).setCell ⟨z, 4, none⟩ v4).setCell ⟨z, 5, none⟩ v5).setCell ⟨z, 6, none⟩ v6).setCell ⟨z, 7, none⟩ v7) :=
  (((((((h.setCell (p := ⟨z, 0, none⟩) hz v0).setCell (p := ⟨z, 1, none⟩) hz v1).setCell (p := ⟨z, 2, none⟩) hz v2).setCell (p := ⟨z, 3, none⟩) hz v3).setCell (p := ⟨z, 4, none⟩) hz v4).setCell (p := ⟨z, 5, none⟩) hz v5).setCell (p := ⟨z, 6, none⟩) hz v6).setCell (p := ⟨z, 7, none⟩) hz v7
theorem truth_says (b : Bool) (w : World) (S : Nat → Prop) : Calls Tryz.prog 42 #[.bool b] w (ExEnds S (truthE b) w) := by
  cases b with
  | true =>
    go_enter Tryz.func42, Tryz.ntmps42
    go_wp2
    refine bodyPost_ret (v := agg8L 3 1 ⟨#[]⟩) (by simp [results, Tryz.results42, go_sem, *]) rfl ?_
    exact leaf_ends ((Below.refl _ _).alloc (Nat.le_refl _) _)
  | false =>
    go_enter Tryz.func42, Tryz.ntmps42
    go_wp2
    refine bodyPost_ret (v := agg8L 3 0 ⟨#[]⟩) (by simp [results, Tryz.results42, go_sem, *]) rfl ?_
    exact leaf_ends ((Below.refl _ _).alloc (Nat.le_refl _) _)
/-- What fold.two makes of an operation of two literals. -/
def twoF (e : Ex) (a b : Hd) : Ex :=
  if e.h.t.toList = [61] then truthE ((a.n == b.n) && (a.t.toList == b.t.toList))
  else if a.k = 4 ∧ e.h.t.toList = [94] ∧ a.t.size + b.t.size ≤ 64 then leafE 4 0 (a.t ++ b.t)
  else if a.k ≠ 2 then e
  else if e.h.t.toList = [43] then leafE 2 (wrap64 (a.n + b.n)) ⟨#[]⟩
  else if e.h.t.toList = [45] then leafE 2 (wrap64 (a.n - b.n)) ⟨#[]⟩
  else if e.h.t.toList = [42] then leafE 2 (wrap64 (a.n * b.n)) ⟨#[]⟩
  else if e.h.t.toList = [60] then truthE (decide (a.n < b.n))
  else if e.h.t.toList = [47] then (if b.n = 0 then e else leafE 2 (wrap64 (a.n.tdiv b.n)) ⟨#[]⟩)
  else if e.h.t.toList = [37] then (if b.n = 0 then e else leafE 2 (a.n.tmod b.n) ⟨#[]⟩)
  else e
end Go.Proofs.YtiinghgfojicdaaGreat
namespace Go.Proofs.YtiinghgfojicdaaGreat
open Go.RowKit Go.RowG Go.FRow Go.GMem
set_option linter.unusedVariables false
def nthX : X → Nat → Option Ex
  | .nil, _ => none
  | .cons _ h a b _, 0 => some ⟨h, a, b⟩
  | .cons _ _ _ _ r, i + 1 => nthX r i
theorem nthX_lt : ∀ {x : X} {i : Nat}, i < x.len → ∃ e, nthX x i = some e
  | .nil, _, h => by simp [X.len] at h
  | .cons _ h a b _, 0, _ => ⟨_, rfl⟩
  | .cons _ _ _ _ r, i + 1, h => nthX_lt (x := r) (by simp only [X.len] at h; omega)
/-- The k-th, or something. -/
def atX (x : X) (i : Nat) : Ex := (nthX x i).getD (leafE 0 0 ⟨#[]⟩)
/-- What a decided condition leaves: the branch taken, the branch left out. -/
def ifNum (n : Int) : Nat := if n = 0 then 2 else 1
def offNum (n : Int) : Nat := if n = 0 then 1 else 2
/-- What is made of an expression whose parts are folded. free: does it hold no free name? -/
def fold1 (free : Ex → Bool) (e : Ex) : Ex :=
  if e.h.k = 7 ∧ 3 ≤ e.args.len ∧ (atX e.args 0).h.k = 3 ∧ litH (atX e.args 0).h.k (atX e.args 0).h.n = true ∧ free (atX e.args (offNum (atX e.args 0).h.n)) = true then atX e.args (ifNum (atX e.args 0).h.n)
  else if e.h.k = 8 ∧ e.args.len = 1 ∧ e.h.t.toList = [110, 111, 116] ∧ (atX e.args 0).h.k = 3 ∧ litH (atX e.args 0).h.k (atX e.args 0).h.n = true then truthE ((atX e.args 0).h.n == 0)
  else if e.h.k = 8 ∧ e.args.len = 2 ∧ litH (atX e.args 0).h.k (atX e.args 0).h.n = true ∧ (atX e.args 0).h.k = (atX e.args 1).h.k ∧ litH (atX e.args 1).h.k (atX e.args 1).h.n = true then twoF e (atX e.args 0).h (atX e.args 1).h
  else e
def foldX (free : Ex → Bool) : X → X
  | .nil => .nil
  | .cons p h a b r => .cons p (fold1 free ⟨h, foldX free a, foldX free b⟩).h (fold1 free ⟨h, foldX free a, foldX free b⟩).args (fold1 free ⟨h, foldX free a, foldX free b⟩).arms (foldX free r)
def foldE (free : Ex → Bool) (e : Ex) : Ex := fold1 free ⟨e.h, foldX free e.args, foldX free e.arms⟩
theorem foldX_cons (free : Ex → Bool) (p : Pt) (h : Hd) (a b r : X) : foldX free (.cons p h a b r) = .cons p (foldE free ⟨h, a, b⟩).h (foldE free ⟨h, a, b⟩).args (foldE free ⟨h, a, b⟩).arms (foldX free r) := rfl
theorem foldX_len (free : Ex → Bool) : ∀ x : X, (foldX free x).len = x.len
  | .nil => rfl
  | .cons _ _ _ _ r => by simp only [foldX, X.len, foldX_len free r]
/-- Folded, it stays. -/
def Done (free : Ex → Bool) (e : Ex) : Prop := foldE free e = e
theorem done_leaf (free : Ex → Bool) {k n : Int} {t : ByteArray} (h7 : k ≠ 7) (h8 : k ≠ 8) : Done free (leafE k n t) := by simp [Done, foldE, foldX, fold1, h7, h8]
theorem done_truth (free : Ex → Bool) (b : Bool) : Done free (truthE b) := by
  cases b <;> exact done_leaf free (by decide) (by decide)
theorem two_done (free : Ex → Bool) (e : Ex) (a b : Hd) : twoF e a b = e ∨ Done free (twoF e a b) := by
  unfold twoF
  repeat' split
  all_goals first
    | exact Or.inl rfl
    | exact Or.inr (done_truth free _)
    | exact Or.inr (done_leaf free (by decide) (by decide))
theorem fold1_cases (free : Ex → Bool) (e : Ex) : (∃ i, 3 ≤ e.args.len ∧ i < 3 ∧ fold1 free e = atX e.args i) ∨ fold1 free e = e ∨ Done free (fold1 free e) := by
  unfold fold1
  split
  · rename_i h
    exact Or.inl ⟨_, h.2.1, by unfold ifNum; split <;> omega, rfl⟩
  · split
    · exact Or.inr (Or.inr (done_truth free _))
    · split
      · exact Or.inr (two_done free e _ _)
      · exact Or.inr (Or.inl rfl)
theorem atX_some {x : X} {i : Nat} (h : i < x.len) : nthX x i = some (atX x i) := by
  obtain ⟨e, he⟩ := nthX_lt h
  simp [atX, he]
/-- Each element of a folded row is done. -/
theorem done_at (free : Ex → Bool) : ∀ {x : X} {i : Nat} {e : Ex}, foldX free x = x → nthX x i = some e → Done free e
  | .nil, _, _, _, h => by simp [nthX] at h
  | .cons p h a b r, 0, e, hf, hh => by
    simp only [nthX, Option.some.injEq] at hh
    subst hh
    rw [foldX_cons] at hf
    injection hf with _ h1 h2 h3 _
    show foldE free ⟨h, a, b⟩ = ⟨h, a, b⟩
    cases hE : foldE free ⟨h, a, b⟩ with
    | mk h' a' b' =>
      rw [hE] at h1 h2 h3
      simp only at h1 h2 h3
      rw [h1, h2, h3]
  | .cons p h a b r, i + 1, e, hf, hh => by
    rw [foldX_cons] at hf
    injection hf with _ _ _ _ h4
    exact done_at free h4 hh
theorem fold1_done (free : Ex → Bool) (e : Ex) (ha : foldX free e.args = e.args) (hb : foldX free e.arms = e.arms) : Done free (fold1 free e) := by
  rcases fold1_cases free e with ⟨i, h3, hi, h⟩ | h | h
  · rw [h]
    exact done_at free ha (atX_some (by omega))
  · rw [h]
    show fold1 free ⟨e.h, foldX free e.args, foldX free e.arms⟩ = e
    rw [ha, hb]
    exact h
  · exact h
theorem foldX_twice (free : Ex → Bool) : ∀ x : X, foldX free (foldX free x) = foldX free x
  | .nil => rfl
  | .cons p h a b r => by
    have h1 : Done free (foldE free ⟨h, a, b⟩) := fold1_done free ⟨h, foldX free a, foldX free b⟩ (foldX_twice free a) (foldX_twice free b)
    rw [foldX_cons, foldX_cons, foldX_twice free r]
    have h2 : foldE free ⟨(foldE free ⟨h, a, b⟩).h, (foldE free ⟨h, a, b⟩).args, (foldE free ⟨h, a, b⟩).arms⟩ = foldE free ⟨h, a, b⟩ := h1
    rw [h2]
theorem foldE_twice (free : Ex → Bool) (e : Ex) : foldE free (foldE free e) = foldE free e :=
  fold1_done free ⟨e.h, foldX free e.args, foldX free e.arms⟩ (foldX_twice free _) (foldX_twice free _)
theorem size_at : ∀ {x : X} {i : Nat} {e : Ex}, nthX x i = some e → e.size ≤ sizeX false x
  | .nil, _, _, h => by simp [nthX] at h
  | .cons p h a b r, 0, e, hh => by
    simp only [nthX, Option.some.injEq] at hh
    subst hh
    simp only [Ex.size, sizeX]
    omega
  | .cons p h a b r, i + 1, e, hh => by
    have := size_at (x := r) hh
    simp only [sizeX]
    omega
theorem truth_size (b : Bool) : (truthE b).size = 1 := by cases b <;> rfl
theorem size_pos (e : Ex) : 1 ≤ e.size := by simp only [Ex.size]; omega
theorem two_size (e : Ex) (a b : Hd) : (twoF e a b).size ≤ e.size := by
  have h := size_pos e
  unfold twoF
  repeat' split
  all_goals first
    | exact Nat.le_refl _
    | (rw [truth_size]; exact h)
    | exact h
theorem fold1_size (free : Ex → Bool) (e : Ex) : (fold1 free e).size ≤ e.size := by
  have h := size_pos e
  unfold fold1
  split
  · rename_i hc
    have h1 := size_at (atX_some (x := e.args) (i := ifNum (atX e.args 0).h.n) (by have := hc.2.1; unfold ifNum; split <;> omega))
    simp only [Ex.size] at h1 ⊢
    omega
  · split
    · rw [truth_size]
      exact h
    · split
      · exact two_size _ _ _
      · exact Nat.le_refl _
theorem foldX_size (free : Ex → Bool) : ∀ (b : Bool) (x : X), sizeX b (foldX free x) ≤ sizeX b x
  | _, .nil => Nat.le_refl _
  | b, .cons p h ar am r => by
    have h1 := foldX_size free false ar
    have h2 := foldX_size free true am
    have h3 := foldX_size free b r
    have h4 := fold1_size free ⟨h, foldX free ar, foldX free am⟩
    simp only [Ex.size] at h4
    simp only [foldX, sizeX]
    omega
theorem foldE_size (free : Ex → Bool) (e : Ex) : (foldE free e).size ≤ e.size := by
  have h1 := foldX_size free false e.args
  have h2 := foldX_size free true e.arms
  have h4 := fold1_size free ⟨e.h, foldX free e.args, foldX free e.arms⟩
  simp only [Ex.size] at h4
  simp only [foldE, Ex.size]
  omega
end Go.Proofs.YtiinghgfojicdaaGreat
