/- A part of the proof of FoldTwice: tree.Free. No conditions. -/
import Derived.Deep.RegionLaw
import Derived.Test.YtiinghgfojicdaaGreatFoJ
set_option linter.unusedVariables false
set_option linter.unusedSimpArgs false
namespace Go.Proofs.YtiinghgfojicdaaGreat
open Go.RowKit Go.RowG Go.FRow Go.GMem
set_option linter.unusedVariables false
set_option maxRecDepth 100000
attribute [local go_sem ↓] Go.wp_at_zero Go.wp_at_succ
theorem free_call {base : Nat} {W1 W : World} {v u : Value} {L' WL' : List ByteArray} {xs' : List Value} {e' : Ex} {q' : At} {WA' : Option Addr} {wc' : Nat} (hF : FreeSaid e') (h : FS base W1 W v L' u xs') (hbase : base ≤ W1.heap.size) (he : EIs W1 (farV W1 v) e' q') (hW : GRow W (farV W u) WA' WL'.length (encS WL')) (h0 : WA' = none → WL'.length = 0 ∧ wc' = 0)
    (hn : e'.size ≤ 100000) (hs : e'.small) (h1 : WL'.length + 100 * e'.size ≤ 20000000) (h2 : L'.length + e'.size ≤ 20000000) : Calls Tryz.prog 75 #[agg8 e' q', .slice WA' WL'.length wc', u] W (FreeEnds base (free1 e' WL' L') u W) :=
  hF q' W base WL' L' WA' wc' u xs' (Nat.le_trans hbase h.grown.size) h.own h.str (he.keep h.sets fun p hp => h.cell hp) hW h0 hn hs h1 h2
theorem has_out {base : Nat} {W1 W : World} {v u : Value} {L : List ByteArray} {xs : List Value} (h : FS base W1 W v L u xs) (t : ByteArray) (hn : L.length ≤ 50000000) : Calls Tryz.prog 103 #[u, .string t] W (BoolEnds (hasB t L) W) := by
  obtain ⟨A, c, rfl, _, _, hg⟩ := strs_row h.own h.str
  exact containsS_says L t A c W hg hn
theorem FS.snoc {base : Nat} {w W W' : World} {v u u' : Value} {L : List ByteArray} {xs : List Value} {t : ByteArray} {o : Obj} {n : Nat} (h : FS base w W v L u xs) (hn : n = L.length) (hown : W'.ownsRow base 9 1 u' (n + 1) (xs ++ [.string t])) (hg : (W.alloc o).grownBy W' u.ownBlock) (hu : u'.ownBlock = u.ownBlock ∨ u'.ownBlock = some (W.heap.size + 1)) : FS base w W' v (L ++ [t]) u' (xs ++ [.string t]) := by
  subst hn
  have hsz := hg.size
  simp at hsz
  have h1 := h.grown.size
  refine ⟨by rw [List.length_append]; exact hown, ?_, ⟨hg.os.trans h.grown.os, hg.tape.trans h.grown.tape, hg.output.trans h.grown.output, by omega, fun k hk hne => ?_⟩, ?_⟩
  · rw [encS_app]
    exact GCells.app (strs_all h.str) ⟨[], rfl, rfl, rfl⟩
  · have h2 := h.sets k ⟨hk, hne⟩
    exact ((hg.block k (by simp; omega) h2.2).trans (heap_alloc_old _ _ (by omega))).trans (h.grown.block k hk hne)
  · rcases hu with h2 | h2
    · rcases h.new with h3 | h3
      · exact Or.inl (h2.trans h3)
      · exact Or.inr fun b hb => h3 b (h2 ▸ hb)
    · exact Or.inr fun b hb => by rw [h2] at hb; injection hb with hb; omega
theorem inner_row {w7 : World} {base n : Nat} {v7 u : Value} {WL' : List ByteArray} {xs7 : List Value} {w' : World} {S : Nat → Prop} (hown : w7.ownsRow base 9 1 v7 n xs7) (hn : n = WL'.length) (hg : GCells w' S (encS WL') xs7) (hu : ∀ b, u.ownBlock = some b → b < base) :
    ∃ A7 c7, v7 = .slice A7 n c7 ∧ GRow w7 (farV w7 u) A7 WL'.length (encS WL') ∧ (A7 = none → WL'.length = 0 ∧ c7 = 0) := by
  subst hn
  have hlo := fun b hb => hown.lt b hb
  obtain ⟨A, c, rfl, h1, h2, h3⟩ := CellsAt.of_own hown
  refine ⟨A, c, rfl, fun hl => ?_, fun e => ?_⟩
  · obtain ⟨b, o, rfl, hlt, hc⟩ := h3 (by rw [hown.1]; omega)
    exact ⟨b, o, xs7, rfl, ⟨hlt, fun e => by have := (hlo b rfl).1; have := hu b e.symm; omega⟩, strs_all hg, hc⟩
  · subst e
    rcases hown.2 with ⟨h4, _⟩ | ⟨g, cap, cur, h4, _⟩
    · injection h4 with _ h5 h6
      exact ⟨h5, h6⟩
    · cases h4
theorem row_strs {w : World} {S : Nat → Prop} {A : Option Addr} {n : Nat} {L : List ByteArray} (h : GRow w S A n (encS L)) (hn : n = L.length) : ∃ N, GCells w S (encS L) N ∧ N.length = n ∧ (∀ u ∈ N, u.oneCell' = true) ∧ (0 < n → ∃ b o, A = some ⟨b, o, none⟩ ∧ S b ∧ ∀ i u, N[i]? = some u → w.cell? ⟨b, o + i, none⟩ = some u) := by
  subst hn
  by_cases h0 : L.length = 0
  · have e := List.eq_nil_of_length_eq_zero h0
    subst e
    exact ⟨[], rfl, rfl, by simp, fun h => absurd h (by simp)⟩
  · obtain ⟨b, o, zs, e, hb, hz, hc⟩ := h (by omega)
    exact ⟨zs, hz, by rw [hz.length, encS_len], hz.one, fun _ => ⟨b, o, e, hb, hc⟩⟩
theorem freeX_stop (x : X) (lim : Nat) (inn : Nat → Pt → List ByteArray) (i : Nat) (out : List ByteArray) (h : lim ≤ i) : freeX x lim inn i out = out := by
  cases x with
  | nil => rfl
  | cons p h' a b r => rw [freeX_cons, if_neg (by omega)]
theorem bound1_len (k : Int) (t : ByteArray) (a : F) : (bound1 k t a).length ≤ 1 + a.nodes := by
  have := boundF_len a
  unfold bound1
  split
  · simp
  · split
    · omega
    · simp
theorem owns_low {w : World} {base base' : Nat} {e : TypeId} {size : Nat} {v : Value} {n : Nat} {xs : List Value} (h : w.ownsRow base e size v n xs) (hb : base' ≤ base) : w.ownsRow base' e size v n xs :=
  ⟨h.1, h.2.imp_right fun ⟨g, cap, cur, e, hg, h⟩ => ⟨g, cap, cur, e, Nat.le_trans hb hg, h⟩⟩
set_option maxHeartbeats 8000000 in
theorem free_head (e : Ex) (hA : EachX FreeSaid e.args) (hB : EachX FreeSaid e.arms) : FreeSaid e := by
  intro q w base WL L WA wc v xs hbase hown hstr he hW h0 hn hsm hwl hll
  have hvlt : ∀ b, v.ownBlock = some b → b < w.heap.size := fun b hb => (hown.lt b hb).2
  obtain ⟨AV, cV, rfl, hv1, hv2, _⟩ := strs_row hown hstr
  obtain ⟨v, hv⟩ : ∃ v : Value, v = .slice AV L.length cV := ⟨_, rfl⟩
  obtain ⟨⟨hs1, hs2, hs3⟩, hsA, hsB⟩ := hsm
  obtain ⟨h, args, arms⟩ := e
  simp only [Ex.size] at hn hwl hll hsA hsB hA hB hs1 hs2 hs3 ⊢
  obtain ⟨m, hm⟩ : ∃ m, m = args.len := ⟨_, rfl⟩
  obtain ⟨m2, hm2⟩ : ∃ m2, m2 = arms.len := ⟨_, rfl⟩
  have hml : m ≤ 100000 := by have := args.len_size false; omega
  have hml2 : m2 ≤ 100000 := by have := arms.len_size true; omega
  obtain ⟨res, hres⟩ : ∃ res, res = free1 ⟨h, args, arms⟩ WL L := ⟨_, rfl⟩
  rw [← hres]
  obtain ⟨nl, hnl⟩ : ∃ nl, nl = h.ns.length := ⟨_, rfl⟩
  obtain ⟨ll, hl⟩ : ∃ ll, ll = L.length := ⟨_, rfl⟩
  obtain ⟨wl, hwl'⟩ : ∃ wl, wl = WL.length := ⟨_, rfl⟩
  obtain ⟨W1, hW1⟩ : ∃ W1, W1 = w.alloc (.cells #[.int .i64 h.k, .int .i64 h.n, .string h.t, .slice q.a1 nl q.c1, .slice q.a2 h.m q.c2, .slice q.a3 m q.c3, .slice q.a4 m2 q.c4, .int .i64 0] 50) := ⟨_, rfl⟩
  have hb1 : Below w.heap.size w W1 := by rw [hW1]; exact (Below.refl _ _).alloc (Nat.le_refl _) _
  have hs1w : W1.heap.size = w.heap.size + 1 := by rw [hW1]; simp
  have hx1 : Own8 W1 w.heap.size 50 (.int .i64 h.k) (.int .i64 h.n) (.string h.t) (.slice q.a1 nl q.c1) (.slice q.a2 h.m q.c2) (.slice q.a3 m q.c3) (.slice q.a4 m2 q.c4) (.int .i64 0) := by rw [hW1]; exact heap_alloc_new w _
  rw [← hv] at hown he hW hvlt ⊢
  have hfar : ∀ b, farV w v b → farV W1 v b := fun b hb => ⟨by have := hb.1; omega, hb.2⟩
  have he1 : EIs W1 (farV W1 v) ⟨h, args, arms⟩ q := he.keep hfar fun p hp => hb1.cell hp.1
  have hW1r : GRow W1 (farV W1 v) WA WL.length (encS WL) := hW.keep hfar fun p hp => hb1.cell hp.1
  have hF1 : FS base W1 W1 v L v xs := FS.first (hown.kept ⟨hb1.os, hb1.tape, hb1.output, hb1.size, fun k hk _ => hb1.block k hk⟩ (Classical.em _)) (strs_all hstr)
  have hfin : ∀ (W : World) (L' : List ByteArray) (u : Value) (ys : List Value), FS base W1 W v L' u ys → L' = res → FreeEnds base res v w (.returned u) W := fun W L' u ys hF hL => by
    rw [← hL]
    exact ⟨u, ys, rfl, ((FS.first hown hstr).kept hb1).trans hF⟩
  have hrest := xrest he1.r3
  have hrest2 := arest he1.r4
  simp only at hrest hrest2
  rw [← hm] at hrest
  rw [← hm2] at hrest2
  have hbox : ∀ (W : World) (L' : List ByteArray) (u : Value) (ys : List Value), FS base W1 W v L' u ys → Own8 W w.heap.size 50 (.int .i64 h.k) (.int .i64 h.n) (.string h.t) (.slice q.a1 nl q.c1) (.slice q.a2 h.m q.c2) (.slice q.a3 m q.c3) (.slice q.a4 m2 q.c4) (.int .i64 0) := fun W L' u ys hF => hx1.grown hF.grown (fun e => by have := hvlt _ e.symm; omega)
  have hnl1 := he1.r1
  have hcap : m ≤ q.c3 := by rw [hm]; exact he1.l3.1
  have HBOX := Lib.hid hbox
  have HFIN := Lib.hid hfin
  have HW1R := Lib.hid hW1r
  have HNL1 := Lib.hid hnl1
  have HSTR := Lib.hid hstr
  have hbase1 : base ≤ W1.heap.size := by omega
  obtain ⟨nd, hnd⟩ : ∃ nd, nd = needsE h.k h.n m := ⟨_, rfl⟩
  have hneeds := needs_says h.k h.n h.t q.a1 q.a2 q.a3 q.a4 nl h.m m m2 q.c1 q.c2 q.c3 q.c4 W1
  rw [← hnd] at hneeds
  have hres' := hres
  unfold free1 at hres'
  simp only [← hm, ← hm2] at hres'
  simp only [← hnd] at hres'
  have HM := Lib.hid hm
  have HM2 := Lib.hid hm2
  have HNLL := Lib.hid hnl
  have HL := Lib.hid hl
  have HWL := Lib.hid hwl'
  have HND := Lib.hid hnd
  simp only [agg8, ← hm, ← hm2, ← hnl, ← hwl']
  rw [← hwl'] at hwl
  rw [← hl] at hll hv1
  obtain ⟨k, n, t, ns, ty⟩ := h
  obtain ⟨a1, c1, a2, c2, a3, c3, a4, c4⟩ := q
  simp only at *
  have HW1 := Lib.hid hW1
  rw [hW1] at hneeds
  obtain ⟨x0, x1, x2, x3, x4, x5, x6, x7⟩ := eight_at hx1
  have HX1 := Lib.hid hx1
  have HV := Lib.hid hv
  clear hW1 hx1 hm hm2 hnl hl hwl' hres hbox hfin he he1 hW hW1r hnl1 hown hstr hfar hnd hv
  by_cases hneg : nd < 0
  · rw [if_pos hneg] at hres'
    have hd : decide (nd < 0) = true := decide_eq_true hneg
    go_enter Tryz.func75, Tryz.ntmps75
    go_wp2_with (first
      | (go_at_call 102; (with_reducible refine hneeds.mono ?_); rintro e w2 ⟨rfl, hb2⟩
         rw [← HW1.out] at hb2)
      | fail "none")
    go_ret
    exact HFIN.out w2 L v xs (hF1.kept hb2) hres'.symm
  · rw [if_neg hneg] at hres'
    have hd : decide (nd < 0) = false := decide_eq_false hneg
    by_cases hk5 : k = 5
    · subst hk5
      rw [if_pos rfl] at hres'
      have hcw : ∀ W : World, Below W1.heap.size W1 W → Calls Tryz.prog 103 #[.slice WA wl wc, .string t] W (BoolEnds (hasB t WL) W) := fun W hW => by
        rw [HWL.out]
        exact containsS_says WL t WA wc W (HW1R.out.keep (fun b h => Nat.lt_of_lt_of_le h.1 hW.size) fun p hp => hW.cell hp.1) (by rw [← HWL.out]; omega)
      have HCW := Lib.hid hcw
      clear hcw
      cases hw1 : hasB t WL with
      | true =>
        have HC2 := HCW.out
        rw [hw1] at hres' HC2
        simp only [Bool.true_eq_false, false_and, if_false] at hres'
        have HR := Lib.hid hres'
        clear hres' hw1
        go_enter Tryz.func75, Tryz.ntmps75
        go_wp2_with (first
          | (go_at_call 102; (with_reducible refine hneeds.mono ?_); rintro e w2 ⟨rfl, hb2⟩
             rw [← HW1.out] at hb2
             have hF2 := hF1.kept hb2
             obtain ⟨z0, z1, z2, z3, z4, z5, z6, z7⟩ := eight_at (HBOX.out w2 L v xs hF2)
             clear x0 x1 x2 x3 x4 x5 x6 x7)
          | (go_at_call 103; (with_reducible refine (HC2 _ hb2).mono ?_); rintro e w3 ⟨rfl, hb3⟩)
          | fail "none")
        go_ret
        exact HFIN.out w3 L v xs (hF2.kept hb3) HR.out.symm
      | false =>
        have HC2 := HCW.out
        rw [hw1] at hres' HC2
        simp only [true_and] at hres'
        cases hw2 : hasB t L with
        | true =>
          rw [hw2] at hres'
          simp only [Bool.true_eq_false, if_false] at hres'
          have HR := Lib.hid hres'
          have HW2 := Lib.hid hw2
          clear hres' hw1 hw2
          go_enter Tryz.func75, Tryz.ntmps75
          go_wp2_with (first
            | (go_at_call 102; (with_reducible refine hneeds.mono ?_); rintro e w2 ⟨rfl, hb2⟩
               rw [← HW1.out] at hb2
               have hF2 := hF1.kept hb2
               obtain ⟨z0, z1, z2, z3, z4, z5, z6, z7⟩ := eight_at (HBOX.out w2 L v xs hF2)
               clear x0 x1 x2 x3 x4 x5 x6 x7)
            | (go_at_call 103; (with_reducible refine (HC2 _ hb2).mono ?_); rintro e w3 ⟨rfl, hb3⟩
               have hF3 := hF2.kept hb3
               have hc3 := has_out hF3 t (by rw [← HL.out]; omega)
               rw [HW2.out] at hc3
               clear z0 z1 z2 z3 z4 z5 z6 z7
               obtain ⟨z0, z1, z2, z3, z4, z5, z6, z7⟩ := eight_at (HBOX.out w3 L v xs hF3))
            | (go_at_call 103; (with_reducible refine hc3.mono ?_); rintro e w4 ⟨rfl, hb4⟩)
            | fail "none")
          go_ret
          exact HFIN.out w4 L v xs (hF3.kept hb4) HR.out.symm
        | false =>
          rw [hw2] at hres'
          simp only [if_true] at hres'
          have HR := Lib.hid hres'
          have HW2 := Lib.hid hw2
          clear hres' hw1 hw2
          go_enter Tryz.func75, Tryz.ntmps75
          go_wp2_with (first
            | (go_at_call 102; (with_reducible refine hneeds.mono ?_); rintro e w2 ⟨rfl, hb2⟩
               rw [← HW1.out] at hb2
               have hF2 := hF1.kept hb2
               obtain ⟨z0, z1, z2, z3, z4, z5, z6, z7⟩ := eight_at (HBOX.out w2 L v xs hF2)
               clear x0 x1 x2 x3 x4 x5 x6 x7)
            | (go_at_call 103; (with_reducible refine (HC2 _ hb2).mono ?_); rintro e w3 ⟨rfl, hb3⟩
               have hF3 := hF2.kept hb3
               have hc3 := has_out hF3 t (by rw [← HL.out]; omega)
               rw [HW2.out] at hc3
               clear z0 z1 z2 z3 z4 z5 z6 z7
               obtain ⟨z0, z1, z2, z3, z4, z5, z6, z7⟩ := eight_at (HBOX.out w3 L v xs hF3))
            | (go_at_call 103; (with_reducible refine hc3.mono ?_); rintro e w4 ⟨rfl, hb4⟩
               have hF4 := hF3.kept hb4
               have hown4 := hF4.own
               rw [← HL.out] at hown4
               have hs4 : base ≤ w4.heap.size := by have := hF4.grown.size; omega
               clear z0 z1 z2 z3 z4 z5 z6 z7
               obtain ⟨z0, z1, z2, z3, z4, z5, z6, z7⟩ := eight_at (HBOX.out w4 L v xs hF4))
            | (at_builtin
               refine wpList_append_onez strTy (by decide) w4 [.string t] 9 w4.heap.size rfl rfl (.tmp 37) (.tmp 40) rfl base _ ll xs rfl hown4 rfl rfl (by simp [Value.oneCell']) (by omega) (by omega) ?_
               intro v7 w7 hown7 hg7 hv7)
            | fail "none")
          go_ret
          exact HFIN.out w7 _ v7 _ (hF4.snoc HL.out hown7 hg7 hv7) HR.out.symm
    · rw [if_neg hk5] at hres'
      have hk5' : (k == 5) = false := by simpa using hk5
      by_cases hlt : (m : Int) < nd
      · rw [if_pos hlt] at hres'
        have hd2 : decide ((m : Int) < nd) = true := decide_eq_true hlt
        have HR := Lib.hid hres'
        clear hres'
        go_enter Tryz.func75, Tryz.ntmps75
        go_wp2_with (first
          | (go_at_call 102; (with_reducible refine hneeds.mono ?_); rintro e w2 ⟨rfl, hb2⟩
             rw [← HW1.out] at hb2
             have hF2 := hF1.kept hb2
             obtain ⟨z0, z1, z2, z3, z4, z5, z6, z7⟩ := eight_at (HBOX.out w2 L v xs hF2)
             clear x0 x1 x2 x3 x4 x5 x6 x7)
          | fail "none")
        go_loopw [2, 52] (fun o i wr => ∃ (j : Nat) (r : X) (L' : List ByteArray) (ys : List Value), j ≤ m ∧ i = .int .i64 j ∧ FS base W1 wr v L' o ys ∧ freeX r m (fun _ _ => WL) j L' = res ∧ XRest W1 (farV W1 v) a3 m j r ∧ EachX FreeSaid r ∧ smallX r ∧ sizeX false r ≤ 100000 ∧ wl + 100 * sizeX false r ≤ 20000000 ∧ L'.length + sizeX false r ≤ 20000000) (fun _ i _ => m - (intOf i).toNat)
        case atStart => exact ⟨0, args, L, xs, Nat.zero_le _, rfl, hF2, HR.out.symm, hrest, hA, hsA, by omega, by omega, by rw [← HL.out]; omega⟩
        case round =>
          obtain ⟨j, r, L', ys, hj, rfl, hF, hre', hre, hq, hsr, hsz, hsz2, hsz3⟩ := hrel
          cases r with
          | nil =>
            obtain rfl : j = m := by have := hre.1; simp only [X.len] at this; omega
            simp only [freeX] at hre'
            clear z0 z1 z2 z3 z4 z5 z6 z7
            go_wp2
            go_ret
            exact HFIN.out wr L' _ ys hF hre'
          | cons p h' ar' am' r' =>
            have hltm : j < m := by have := hre.1; simp only [X.len] at this; omega
            rw [freeX_cons, if_pos hltm] at hre'
            obtain ⟨ad, q', rfl, hab, hc8, hei, hre2⟩ := hre.step
            obtain ⟨hq1, hq2⟩ := hq
            obtain ⟨hsm1, hsm2, hsm3, hsm4⟩ := hsr
            simp only [sizeX, Bool.false_eq_true, if_false] at hsz hsz2 hsz3
            have hab' : farV W1 v (ad.add (j * 8)).block := by rw [add_block]; exact hab
            have hd8 := hc8.keep (w' := wr) fun p hp => hF.cell (by rw [hp]; exact hab')
            have hfl := free1_len ⟨h', ar', am'⟩ WL L'
            simp only [Ex.size] at hfl
            obtain ⟨wa, hwa⟩ : ∃ wa, wa = wr.alloc (.cells (eight ⟨h', ar', am'⟩ q').toArray 50) := ⟨_, rfl⟩
            have hFa : FS base W1 wa v L' u2 ys := by rw [hwa]; exact hF.kept ((Below.refl _ _).alloc (Nat.le_refl _) _)
            have hcall := free_call (WL' := WL) (WA' := WA) (wc' := wc) hq1 hFa hbase1 hei (HW1R.out.keep hFa.sets fun p hp => hFa.cell hp) h0 (by simp only [Ex.size]; omega) ⟨hsm1, hsm2, hsm3⟩ (by simp only [Ex.size]; rw [← HWL.out]; omega) (by simp only [Ex.size]; omega)
            obtain ⟨L2, hL2⟩ : ∃ L2, L2 = free1 ⟨h', ar', am'⟩ WL L' := ⟨_, rfl⟩
            rw [← hL2] at hcall hre' hfl
            rw [← HWL.out] at hcall
            obtain ⟨k', n', t', ns', m'⟩ := h'
            obtain ⟨y1, d1, y2, d2', y3, d3, y4, d4'⟩ := q'
            simp only [cells8, agg8, eight] at hd8 hcall hwa
            obtain ⟨f0, f1, f2, f3, f4, f5, f6, f7⟩ := hd8
            obtain ⟨l1, hl1'⟩ : ∃ l, l = ns'.length := ⟨_, rfl⟩
            obtain ⟨l2, hl2'⟩ : ∃ l, l = ar'.len := ⟨_, rfl⟩
            obtain ⟨l3, hl3'⟩ : ∃ l, l = am'.len := ⟨_, rfl⟩
            rw [← hl1', ← hl2', ← hl3'] at hcall hwa
            rw [← hl1'] at f3
            rw [← hl2'] at f5
            rw [← hl3'] at f6
            have HRE := Lib.hid hre'
            have hjm' : (j : Int) < (m : Int) := by omega
            have hj0 : (0 : Int) ≤ (j : Int) := Int.natCast_nonneg _
            rw [hwa] at hcall
            have HWA := Lib.hid hwa
            clear hl1' hl2' hl3' hq1 hei hc8 hre' hL2 hwa z0 z1 z2 z3 z4 z5 z6 z7
            go_wp2_with (first
              | (go_at_call 75
                 (with_reducible refine hcall.mono ?_)
                 rintro e w5 ⟨u5, ys5, rfl, hF5⟩
                 rw [← HWA.out] at hF5)
              | fail "none")
            go_roundw
            case measure => simp [intOf]; omega
            case rel => exact ⟨j + 1, r', L2, ys5, by omega, by go_num, hFa.trans hF5, HRE.out, hre2, hq2, hsm4, by omega, by omega, by omega⟩
      · rw [if_neg hlt] at hres'
        have hd2 : decide ((m : Int) < nd) = false := decide_eq_false hlt
        obtain ⟨nn, rfl⟩ : ∃ nn : Nat, nd = (nn : Int) := ⟨nd.toNat, by omega⟩
        simp only [Int.toNat_natCast] at hres'
        obtain ⟨resB, hresB⟩ : ∃ resB, resB = freeX args nn (fun j _ => innerE ⟨k, n, t, ns, ty⟩ WL j) 0 L := ⟨_, rfl⟩
        rw [← hresB] at hres'
        have HR := Lib.hid hres'
        have HRB := Lib.hid hresB
        have hnm : nn ≤ m := by omega
        have hn0 : (0 : Int) ≤ (nn : Int) := Int.natCast_nonneg _
        have hnc : (nn : Int) ≤ (c3 : Int) := by omega
        have hd3 : decide (m < nn) = false := decide_eq_false (by omega)
        clear hres' hresB
        go_enter Tryz.func75, Tryz.ntmps75
        go_wp2_with (first
          | (go_at_call 102; (with_reducible refine hneeds.mono ?_); rintro e w2 ⟨rfl, hb2⟩
             rw [← HW1.out] at hb2
             have hF2 := hF1.kept hb2
             obtain ⟨z0, z1, z2, z3, z4, z5, z6, z7⟩ := eight_at (HBOX.out w2 L v xs hF2)
             clear x0 x1 x2 x3 x4 x5 x6 x7)
          | fail "none")
        go_loopw [2, 67] (fun o i wr => ∃ (j : Nat) (r : X) (L' : List ByteArray) (ys : List Value), j ≤ nn ∧ i = .int .i64 j ∧ FS base W1 wr v L' o ys ∧ freeX r nn (fun j _ => innerE ⟨k, n, t, ns, ty⟩ WL j) j L' = resB ∧ XRest W1 (farV W1 v) a3 m j r ∧ EachX FreeSaid r ∧ smallX r ∧ sizeX false r ≤ 100000 ∧ wl + 100 * (1 + sizeX false r) ≤ 20000000 ∧ L'.length + sizeX false r ≤ 20000000) (fun _ i _ => nn - (intOf i).toNat)
        case atStart => exact ⟨0, args, L, xs, Nat.zero_le _, rfl, hF2, HRB.out.symm, hrest, hA, hsA, by omega, by omega, by rw [← HL.out]; omega⟩
        case round =>
          obtain ⟨j, r, L', ys, hj, rfl, hF, hre', hre, hq, hsr, hsz, hsz2, hsz3⟩ := hrel
          by_cases hjn : j < nn
          · cases r with
            | nil => exact absurd hre.1 (by simp only [X.len]; omega)
            | cons p h' ar' am' r' =>
              have hltm : j < m := by have := hre.1; simp only [X.len] at this; omega
              rw [freeX_cons, if_pos hjn] at hre'
              obtain ⟨ad, q', rfl, hab, hc8, hei, hre2⟩ := hre.step
              obtain ⟨hq1, hq2⟩ := hq
              obtain ⟨hsm1, hsm2, hsm3, hsm4⟩ := hsr
              simp only [sizeX, Bool.false_eq_true, if_false] at hsz hsz2 hsz3
              have hab' : farV W1 v (ad.add (j * 8)).block := by rw [add_block]; exact hab
              have hd8 := hc8.keep (w' := wr) fun p hp => hF.cell (by rw [hp]; exact hab')
              have hfl := free1_len ⟨h', ar', am'⟩ (innerE ⟨k, n, t, ns, ty⟩ WL j) L'
              simp only [Ex.size] at hfl
              obtain ⟨wa, hwa⟩ : ∃ wa, wa = wr.alloc (.cells (eight ⟨h', ar', am'⟩ q').toArray 50) := ⟨_, rfl⟩
              have hba : Below wr.heap.size wr wa := by rw [hwa]; exact (Below.refl _ _).alloc (Nat.le_refl _) _
              have hsa : wa.heap.size = wr.heap.size + 1 := by rw [hwa]; simp
              have hca : wa.heap[wr.heap.size]? = some (.cells (eight ⟨h', ar', am'⟩ q').toArray 50 (0, 0)) := by rw [hwa]; exact heap_alloc_new wr _
              have hFa : FS base W1 wa v L' u2 ys := hF.kept hba
              have hcall0 := fun (W : World) (WL' : List ByteArray) (WA' : Option Addr) (wc' : Nat) (hW : FS base W1 W v L' u2 ys) (hg : GRow W (farV W u2) WA' WL'.length (encS WL')) (h0' : WA' = none → WL'.length = 0 ∧ wc' = 0) (hl : WL'.length ≤ wl + 100) =>
                free_call (WL' := WL') (WA' := WA') (wc' := wc') hq1 hW hbase1 hei hg h0' (by simp only [Ex.size]; omega) ⟨hsm1, hsm2, hsm3⟩ (by simp only [Ex.size]; omega) (by simp only [Ex.size]; omega)
              have hult : ∀ b, u2.ownBlock = some b → b < wr.heap.size := fun b hb => (hF.own.lt b hb).2
              have HC0 := Lib.hid hcall0
              have hsz' : sizeX false r' ≤ 100000 := by omega
              have hsz2' : wl + 100 * (1 + sizeX false r') ≤ 20000000 := by omega
              obtain ⟨L2, hL2⟩ : ∃ L2, L2 = free1 ⟨h', ar', am'⟩ (innerE ⟨k, n, t, ns, ty⟩ WL j) L' := ⟨_, rfl⟩
              rw [← hL2] at hre' hfl
              have hsz3' : L2.length + sizeX false r' ≤ 20000000 := by omega
              have HL2 := Lib.hid hL2
              obtain ⟨k', n', t', ns', m'⟩ := h'
              obtain ⟨y1, d1, y2, d2', y3, d3, y4, d4'⟩ := q'
              simp only [cells8, eight] at hd8 hwa hca
              obtain ⟨f0, f1, f2, f3, f4, f5, f6, f7⟩ := hd8
              have HRE := Lib.hid hre'
              have hjm' : (j : Int) < (nn : Int) := by omega
              have hj0 : (0 : Int) ≤ (j : Int) := Int.natCast_nonneg _
              have HWA := Lib.hid hwa
              obtain ⟨i0, i1, i2, i3, i4, i5, i6, i7⟩ := eight_at hca
              have hxr := HBOX.out wr L' u2 ys hF
              obtain ⟨z0, z1, z2, z3, z4, z5, z6, z7⟩ := eight_at hxr
              clear hq1 hei hc8 hre' hL2 hwa hcall0 hsz hsz2 hsz3 hfl
              by_cases hin : k = 6 ∧ j = 1
              · obtain ⟨hk6, hj1⟩ := hin
                have hi : innerE ⟨k, n, t, ns, ty⟩ WL j = WL ++ [t] := by unfold innerE; rw [if_pos ⟨hk6, hj1⟩]
                have h6 : (k == 6) = true := by simpa using hk6
                have h1 : ((j : Int) == 1) = true := by simp; omega
                have hk10' : (k == 10) = false := by simp; omega
                have e2 := HL2.out
                rw [hi] at e2
                have hWa : ∀ W : World, Below wa.heap.size wa W → GRow W (lt W) WA WL.length (encS WL) := fun W hW => HW1R.out.keep (fun b hb => (((hFa.kept hW).sets b hb)).1) fun p hp => (hFa.kept hW).cell hp
                have hcl : ∀ W : World, Below wa.heap.size wa W → Calls Tryz.prog 104 #[.slice WA wl wc] W (CloneEnds 9 1 wl (encS WL) W) := fun W hW => by
                  have := cloneS_says WL WA wc W (hWa W hW) h0 (by rw [← HWL.out]; omega)
                  rwa [← HWL.out] at this
                have hcl0 := hcl wa.drew (Below.refl _ _).drew
                have hcl1 := hcl (wa.alloc (.cells #[.string t] 9)).drew ((Below.refl _ _).alloc (Nat.le_refl _) _).drew
                have hxa := HBOX.out wa L' u2 ys hFa
                have huwa : ∀ b, u2.ownBlock = some b → b < wa.heap.size := fun b hb => by have := hult b hb; omega
                have hLen1 : wl + 1 = (WL ++ [t]).length := by rw [HWL.out]; simp
                have HLEN1 := Lib.hid hLen1
                have HXA := Lib.hid hxa
                have HCA := Lib.hid hca
                clear z0 z1 z2 z3 z4 z5 z6 z7 i0 i1 i2 i3 i4 i5 i6 i7 hk6 hj1 hi hcl hWa hLen1
                obtain ⟨z0, z1, z2, z3, z4, z5, z6, z7⟩ := eight_at hxa
                rw [HWA.out] at hxa
                have hxb := eight_at hxa
                obtain ⟨i0, i1, i2, i3, i4, i5, i6, i7⟩ := hxb
                clear hxa hca
                go_wp2
                rw [← HWA.out]
                clear i0 i1 i2 i3 i4 i5 i6 i7
                go_region_law (first
                  | (refine step_append_g strTy (by decide) (w5.alloc (.cells #[.string t] 9)) rfl (.tmp 81) (.tmp 84) rfl wa.heap.size v5 wl xs5 [.string t] (by simp [Act.eval]) (hown5.alloc _) (some ⟨w5.heap.size, 0, none⟩) 1 1 (by simp [Act.eval]) rfl (fun _ => ⟨_, rfl, fun i u hu => World.news_of_block (heap_alloc_new w5 _) i u (by simpa using hu)⟩) (by simp [Value.oneCell']) (by omega) (by have := hb5a.size; simp; omega) ?_
                     intro v7 w7 hown7 hg7 hv7
                     have hb7 : Below wa.heap.size wa w7 := (hb5a.alloc hb5a.size _).grown hg7 (by have := hb5a.size; simp; omega) (fun b hb => (hown5.lt b hb).1)
                     have hF7 := hFa.kept hb7
                     obtain ⟨A7, c7, rfl, hg7r, h07⟩ := inner_row hown7 HLEN1.out (by rw [encS_app]; exact GCells.app (strs_all hgc5) (show GCells w5 (fun _ => True) (encS [t]) [.string t] from ⟨[], rfl, rfl, rfl⟩)) huwa
                     have hcall := HC0.out w7 (WL ++ [t]) A7 c7 hF7 hg7r h07 (by rw [← HLEN1.out]; omega)
                     rw [← e2, ← HLEN1.out] at hcall
                     have hx7 := HXA.out.keep hb7
                     have hc7 := (hb7.block wr.heap.size (by omega)).trans HCA.out
                     obtain ⟨r0, r1, r2, r3, r4, r5, r6, r7⟩ := eight_at hx7
                     obtain ⟨i0, i1, i2, i3, i4, i5, i6, i7⟩ := eight_at hc7)
                  | (refine step_append_g strTy (by decide) w5 rfl (.tmp 81) (.tmp 84) rfl wa.heap.size v5 wl xs5 [.string t] (by simp [Act.eval]) hown5 (some ⟨wa.heap.size, 0, none⟩) 1 1 (by simp [Act.eval]) rfl (fun _ => ⟨_, rfl, fun i u hu => World.news_of_block ((hb5'.block wa.heap.size (by simp)).trans (heap_alloc_new wa _)) i u (by simpa using hu)⟩) (by simp [Value.oneCell']) (by omega) hb5a.size ?_
                     intro v7 w7 hown7 hg7 hv7
                     have hb7 : Below wa.heap.size wa w7 := hb5a.grown hg7 hb5a.size (fun b hb => (hown5.lt b hb).1)
                     have hF7 := hFa.kept hb7
                     obtain ⟨A7, c7, rfl, hg7r, h07⟩ := inner_row hown7 HLEN1.out (by rw [encS_app]; exact GCells.app (strs_all hgc5) (show GCells w5 (fun _ => True) (encS [t]) [.string t] from ⟨[], rfl, rfl, rfl⟩)) huwa
                     have hcall := HC0.out w7 (WL ++ [t]) A7 c7 hF7 hg7r h07 (by rw [← HLEN1.out]; omega)
                     rw [← e2, ← HLEN1.out] at hcall
                     have hx7 := HXA.out.keep hb7
                     have hc7 := (hb7.block wr.heap.size (by omega)).trans HCA.out
                     obtain ⟨r0, r1, r2, r3, r4, r5, r6, r7⟩ := eight_at hx7
                     obtain ⟨i0, i1, i2, i3, i4, i5, i6, i7⟩ := eight_at hc7)
                  | (go_simp
                     go_at_call 104
                     (with_reducible refine hcl0.mono ?_)
                     rintro e w5 ⟨v5, rfl, ⟨xs5, hown5, hgc5⟩, hb5⟩
                     have hb5a : Below wa.heap.size wa w5 := (Below.refl _ _).drew.trans hb5
                     obtain ⟨r0, r1, r2, r3, r4, r5, r6, r7⟩ := eight_at (HXA.out.keep hb5a))
                  | (go_simp
                     go_at_call 104
                     (with_reducible refine hcl1.mono ?_)
                     rintro e w5 ⟨v5, rfl, ⟨xs5, hown5', hgc5⟩, hb5'⟩
                     have hown5 : w5.ownsRow wa.heap.size 9 1 v5 wl xs5 := by
                       refine ⟨hown5'.1, hown5'.2.imp_right fun ⟨g, cap, cur, e, hg, h⟩ => ⟨g, cap, cur, e, ?_, h⟩⟩
                       have h3 : (wa.alloc (.cells #[.string t] 9)).drew.heap.size ≤ g := hg
                       have h4 : (wa.alloc (.cells #[.string t] 9)).drew.heap.size = wa.heap.size + 1 := by show (wa.heap.push _).size = _; simp
                       omega
                     have hb5a : Below wa.heap.size wa w5 := ((Below.refl _ _).alloc (Nat.le_refl _) _).drew.trans (hb5'.mono (by show wa.heap.size ≤ (wa.heap.push _).size; simp))
                     obtain ⟨r0, r1, r2, r3, r4, r5, r6, r7⟩ := eight_at (HXA.out.keep hb5a))
                  | fail "none")
                all_goals
                  go_wp2_with (first
                    | (go_at_call 75
                       (with_reducible refine hcall.mono ?_)
                       rintro e w9 ⟨u9, ys9, rfl, hF9⟩)
                    | fail "none")
                  go_roundw
                  case measure => simp [intOf]; omega
                  case rel => exact ⟨j + 1, r', L2, ys9, by omega, by go_num, hF7.trans hF9, HRE.out, hre2, hq2, hsm4, hsz', hsz2', hsz3'⟩
              · by_cases hk10 : k = 10
                · have hi : innerE ⟨k, n, t, ns, ty⟩ WL j = WL ++ ns := by unfold innerE; rw [if_neg hin, if_pos hk10]
                  have h6 : (k == 6) = false := by simp; omega
                  have hk10' : (k == 10) = true := by simpa using hk10
                  have e2 := HL2.out
                  rw [hi] at e2
                  obtain ⟨N, hN, hNl, hN1, hNc⟩ := row_strs HNL1.out rfl
                  rw [← HNLL.out] at hNl hNc
                  have hWa : ∀ W : World, Below wa.heap.size wa W → GRow W (lt W) WA WL.length (encS WL) := fun W hW => HW1R.out.keep (fun b hb => (((hFa.kept hW).sets b hb)).1) fun p hp => (hFa.kept hW).cell hp
                  have hcl : ∀ W : World, Below wa.heap.size wa W → Calls Tryz.prog 104 #[.slice WA wl wc] W (CloneEnds 9 1 wl (encS WL) W) := fun W hW => by
                    have := cloneS_says WL WA wc W (hWa W hW) h0 (by rw [← HWL.out]; omega)
                    rwa [← HWL.out] at this
                  have hcl0 := hcl wa.drew (Below.refl _ _).drew
                  have hxa := HBOX.out wa L' u2 ys hFa
                  have huwa : ∀ b, u2.ownBlock = some b → b < wa.heap.size := fun b hb => by have := hult b hb; omega
                  have hLen1 : wl + nl = (WL ++ ns).length := by rw [HWL.out, HNLL.out]; simp
                  have hnl100 : nl ≤ 100 := by rw [HNLL.out]; exact hs1
                  have HLEN1 := Lib.hid hLen1
                  have HNC := Lib.hid hNc
                  have HXA := Lib.hid hxa
                  have HCA := Lib.hid hca
                  clear z0 z1 z2 z3 z4 z5 z6 z7 i0 i1 i2 i3 i4 i5 i6 i7 hi hcl hWa hLen1 hin hk10 hNc
                  obtain ⟨z0, z1, z2, z3, z4, z5, z6, z7⟩ := eight_at hxa
                  rw [HWA.out] at hxa
                  have hxb := eight_at hxa
                  obtain ⟨i0, i1, i2, i3, i4, i5, i6, i7⟩ := hxb
                  clear hxa hca
                  go_wp2
                  rw [← HWA.out]
                  clear i0 i1 i2 i3 i4 i5 i6 i7
                  go_region_law (first
                    | (refine step_append_g strTy (by decide) w5 rfl (.tmp 90) (.tmp 92) rfl wa.heap.size v5 wl xs5 N (by simp [Act.eval]) hown5 a1 nl c1 (by simp [Act.eval]) (by omega) (fun hn => ?_) hN1 (by omega) hb5a.size ?_
                       focus
                         obtain ⟨b, o, e, hb, hc⟩ := HNC.out hn
                         exact ⟨_, e, fun i u hu => by rw [add_at]; exact ((hFa.kept hb5a).cell (p := ⟨b, o + i, none⟩) hb).trans (hc i u hu)⟩
                       intro v7 w7 hown7 hg7 hv7
                       have hb7 : Below wa.heap.size wa w7 := hb5a.grown hg7 hb5a.size (fun b hb => (hown5.lt b hb).1)
                       have hF7 := hFa.kept hb7
                       obtain ⟨A7, c7, rfl, hg7r, h07⟩ := inner_row hown7 HLEN1.out (by rw [encS_app]; exact GCells.app (show GCells w5 (fun _ => True) (encS WL) xs5 from strs_all hgc5) (strs_all hN)) huwa
                       have hcall := HC0.out w7 (WL ++ ns) A7 c7 hF7 hg7r h07 (by rw [← HLEN1.out]; omega)
                       rw [← e2, ← HLEN1.out] at hcall
                       have hx7 := HXA.out.keep hb7
                       have hc7 := (hb7.block wr.heap.size (by omega)).trans HCA.out
                       obtain ⟨r0, r1, r2, r3, r4, r5, r6, r7⟩ := eight_at hx7
                       obtain ⟨i0, i1, i2, i3, i4, i5, i6, i7⟩ := eight_at hc7)
                    | (go_simp
                       go_at_call 104
                       (with_reducible refine hcl0.mono ?_)
                       rintro e w5 ⟨v5, rfl, ⟨xs5, hown5, hgc5⟩, hb5⟩
                       have hb5a : Below wa.heap.size wa w5 := (Below.refl _ _).drew.trans hb5
                       obtain ⟨r0, r1, r2, r3, r4, r5, r6, r7⟩ := eight_at (HXA.out.keep hb5a))
                    | fail "none")
                  all_goals
                    go_wp2_with (first
                      | (go_at_call 75
                         (with_reducible refine hcall.mono ?_)
                         rintro e w9 ⟨u9, ys9, rfl, hF9⟩)
                      | fail "none")
                    go_roundw
                    case measure => simp [intOf]; omega
                    case rel => exact ⟨j + 1, r', L2, ys9, by omega, by go_num, hF7.trans hF9, HRE.out, hre2, hq2, hsm4, hsz', hsz2', hsz3'⟩
                · have hi : innerE ⟨k, n, t, ns, ty⟩ WL j = WL := by unfold innerE; rw [if_neg hin, if_neg hk10]
                  have hcall := HC0.out wa WL WA wc hFa (HW1R.out.keep hFa.sets fun p hp => hFa.cell hp) h0 (by rw [← HWL.out]; omega)
                  have e2 := HL2.out
                  rw [hi] at e2
                  rw [← e2, ← HWL.out, HWA.out] at hcall
                  have hk10' : (k == 10) = false := by simpa using hk10
                  have hin' : (k == 6) = false ∨ ((k == 6) = true ∧ ((j : Int) == 1) = false) := by
                    by_cases h6 : k = 6
                    · exact Or.inr ⟨by simpa using h6, by simp; intro e; exact hin ⟨h6, by omega⟩⟩
                    · exact Or.inl (by simpa using h6)
                  have hxa := HBOX.out wa L' u2 ys hFa
                  rw [HWA.out] at hxa hca
                  clear z0 z1 z2 z3 z4 z5 z6 z7 i0 i1 i2 i3 i4 i5 i6 i7 hin hk10 hi e2
                  obtain ⟨z0, z1, z2, z3, z4, z5, z6, z7⟩ := eight_at hxa
                  clear hxa hca
                  rcases hin' with h6 | ⟨h6, h1⟩
                  all_goals
                    go_wp2_with (first
                      | (go_at_call 75
                         (with_reducible refine hcall.mono ?_)
                         rintro e w9 ⟨u9, ys9, rfl, hF9⟩
                         rw [← HWA.out] at hF9)
                      | fail "none")
                    go_roundw
                    case measure => simp [intOf]; omega
                    case rel => exact ⟨j + 1, r', L2, ys9, by omega, by go_num, hFa.trans hF9, HRE.out, hre2, hq2, hsm4, hsz', hsz2', hsz3'⟩
          · have hjn' : j = nn := by omega
            subst hjn'
            rw [freeX_stop _ _ _ _ _ (Nat.le_refl _)] at hre'
            obtain ⟨z0, z1, z2, z3, z4, z5, z6, z7⟩ := eight_at (HBOX.out wr L' u2 ys hF)
            by_cases hk13 : k = 13 ∨ k = 18
            · have hR := HR.out
              rw [if_pos hk13] at hR
              have HR2 := Lib.hid hR
              clear hR
              have hkk : (k == 13) = true ∨ ((k == 13) = false ∧ (k == 18) = true) := by
                rcases hk13 with h | h
                · exact Or.inl (by simpa using h)
                · exact Or.inr ⟨by simp; omega, by simpa using h⟩
              have hLl : L'.length ≤ ll + sizeX false args := by
                rw [hre', HRB.out, HL.out]
                exact freeX_len args false _ _ 0 L
              subst hre'
              clear hk13 hsr hq hre hrest
              rcases hkk with h13 | ⟨h13, h18⟩
              all_goals
                go_wp2
                go_loopw [2, 110] (fun o i wr => ∃ (j : Nat) (r : X) (L' : List ByteArray) (ys : List Value), j ≤ m2 ∧ i = .int .i64 j ∧ FS base W1 wr v L' o ys ∧ freeX r m2 (fun _ q => WL ++ bound1 q.k q.t q.a) j L' = res ∧ ARest W1 (farV W1 v) a4 m2 j r ∧ EachX FreeSaid r ∧ smallX r ∧ sizeX true r ≤ 100000 ∧ wl + 100 * sizeX true r ≤ 20000000 ∧ L'.length + sizeX true r ≤ 20000000) (fun _ i _ => m2 - (intOf i).toNat)
                case atStart => exact ⟨0, arms, L', ys, Nat.zero_le _, rfl, hF, HR2.out.symm, hrest2, hB, hsB, by omega, by omega, by omega⟩
                case round =>
                  obtain ⟨i2, r2, L2', ys2, hj2, rfl, hF3, hre3, hre4, hq4, hsr4, hsz4, hsz5, hsz6⟩ := hrel
                  cases r2 with
                  | nil =>
                    obtain rfl : i2 = m2 := by have := hre4.1; simp only [X.len] at this; omega
                    simp only [freeX] at hre3
                    clear z0 z1 z2 z3 z4 z5 z6 z7
                    go_wp2
                    go_ret
                    exact HFIN.out wr L2' u2 ys2 hF3 hre3
                  | cons p h' ar' am' r' =>
                    have hltm : i2 < m2 := by have := hre4.1; simp only [X.len] at this; omega
                    rw [freeX_cons, if_pos hltm] at hre3
                    obtain ⟨ad, q', PA, pc, rfl, hab, hc4, hpg, hpl1, hpl2, hc8, hei, hre5⟩ := hre4.step
                    obtain ⟨hq1, hq2⟩ := hq4
                    obtain ⟨hsm1, hsm2, hsm3, hsm4⟩ := hsr4
                    simp only [sizeX, if_true] at hsz4 hsz5 hsz6
                    have hab' : farV W1 v (ad.add (i2 * 12)).block := by rw [add_block]; exact hab
                    have hd8 := hc8.keep (w' := wr) fun p hp => hF3.cell (by rw [hp]; exact hab')
                    have hd4 := hc4.keep (w' := wr) fun p hp => hF3.cell (by rw [hp]; exact hab')
                    have hfl := free1_len ⟨h', ar', am'⟩ (WL ++ bound1 p.k p.t p.a) L2'
                    simp only [Ex.size] at hfl
                    have hbl := bound1_len p.k p.t p.a
                    obtain ⟨pk, pn, pt, pa⟩ := p
                    obtain ⟨k', n', t', ns', m'⟩ := h'
                    obtain ⟨y1, d1, y2, d2', y3, d3, y4, d4'⟩ := q'
                    simp only [cells8, cells4] at hd8 hd4 hpl1 hpg hbl hfl hre3 hsz4 hsz5 hsz6
                    obtain ⟨f0, f1, f2, f3, f4, f5, f6, f7⟩ := hd8
                    obtain ⟨e0, e1, e2, e3⟩ := hd4
                    obtain ⟨wa, hwa⟩ : ∃ wa, wa = wr.alloc (.cells #[.int .i64 pk, .int .i64 pn, .string pt, .slice PA pa.len pc, .int .i64 k', .int .i64 n', .string t', .slice y1 ns'.length d1, .slice y2 m' d2', .slice y3 ar'.len d3, .slice y4 am'.len d4', .int .i64 0] 70) := ⟨_, rfl⟩
                    have hba : Below wr.heap.size wr wa := by rw [hwa]; exact (Below.refl _ _).alloc (Nat.le_refl _) _
                    have hsa : wa.heap.size = wr.heap.size + 1 := by rw [hwa]; simp
                    have hca : wa.heap[wr.heap.size]? = some (.cells #[.int .i64 pk, .int .i64 pn, .string pt, .slice PA pa.len pc, .int .i64 k', .int .i64 n', .string t', .slice y1 ns'.length d1, .slice y2 m' d2', .slice y3 ar'.len d3, .slice y4 am'.len d4', .int .i64 0] 70 (0, 0)) := by rw [hwa]; exact heap_alloc_new wr _
                    have hFa : FS base W1 wa v L2' u2 ys2 := hF3.kept hba
                    have hult : ∀ b, u2.ownBlock = some b → b < wa.heap.size := fun b hb => by have := (hF3.own.lt b hb).2; omega
                    have hcall0 := fun (W : World) (WA' : Option Addr) (wc' : Nat) (hW : FS base W1 W v L2' u2 ys2) (hg : GRow W (farV W u2) WA' (WL ++ bound1 pk pt pa).length (encS (WL ++ bound1 pk pt pa))) (h0' : WA' = none → (WL ++ bound1 pk pt pa).length = 0 ∧ wc' = 0) =>
                      free_call hq1 hW hbase1 hei hg h0' (by simp only [Ex.size]; omega) ⟨hsm1, hsm2, hsm3⟩ (by rw [List.length_append, ← HWL.out]; simp only [Ex.size]; omega) (by simp only [Ex.size]; omega)
                    have hWa : ∀ W : World, Below wa.heap.size wa W → GRow W (lt W) WA WL.length (encS WL) := fun W hW => HW1R.out.keep (fun b hb => (((hFa.kept hW).sets b hb)).1) fun p hp => (hFa.kept hW).cell hp
                    have hcl : ∀ W : World, Below wa.heap.size wa W → Calls Tryz.prog 104 #[.slice WA wl wc] W (CloneEnds 9 1 wl (encS WL) W) := fun W hW => by
                      have := cloneS_says WL WA wc W (hWa W hW) h0 (by rw [← HWL.out]; omega)
                      rwa [← HWL.out] at this
                    have hbd : ∀ W : World, Below wa.heap.size wa W → Calls Tryz.prog 105 #[agg4 pk pn pt PA pa.len pc] W (StrsEnds (bound1 pk pt pa) W) := fun W hW =>
                      bound_says pk pn pt pa PA pc W (row_of (hpg.keep (fun b hb => (((hFa.kept hW).sets b hb)).1) fun p hp => (hFa.kept hW).cell hp)) hpl1 hpl2 (by omega)
                    have hcl0 := hcl wa.drew (Below.refl _ _).drew
                    have hbd0 := hbd wa.drew (Below.refl _ _).drew
                    obtain ⟨NB, hNB⟩ : ∃ NB, NB = bound1 pk pt pa := ⟨_, rfl⟩
                    obtain ⟨bl, hblq⟩ : ∃ bl, bl = NB.length := ⟨_, rfl⟩
                    rw [← hNB] at hcall0 hbd hbd0 hbl hre3 hfl
                    rw [← hblq] at hbl
                    have hLen1 : wl + bl = (WL ++ NB).length := by rw [HWL.out, hblq]; simp
                    obtain ⟨L9, hL9⟩ : ∃ L9, L9 = free1 ⟨⟨k', n', t', ns', m'⟩, ar', am'⟩ (WL ++ NB) L2' := ⟨_, rfl⟩
                    rw [← hL9] at hre3 hfl hcall0
                    have HRE := Lib.hid hre3
                    have HC0 := Lib.hid hcall0
                    have HCL := Lib.hid hcl
                    have HBD := Lib.hid hbd
                    have HLEN1 := Lib.hid hLen1
                    have HBLQ := Lib.hid hblq
                    have HCA := Lib.hid hca
                    have HWA := Lib.hid hwa
                    have hbw : wl + bl ≤ 100000000 := by omega
                    have hsz4' : sizeX true r' ≤ 100000 := by omega
                    have hsz5' : wl + 100 * sizeX true r' ≤ 20000000 := by omega
                    have hsz6' : L9.length + sizeX true r' ≤ 20000000 := by omega
                    have hjm' : (i2 : Int) < (m2 : Int) := by omega
                    have hj0 : (0 : Int) ≤ (i2 : Int) := Int.natCast_nonneg _
                    obtain ⟨g0, g1, g2, g3, g4, g5, g6, g7, g8, g9, g10, g11⟩ := twelve_at hca
                    clear hq1 hei hc8 hc4 hre3 hL9 hNB hblq hLen1 hcall0 hcl hbd hWa hwa hca hpg z0 z1 z2 z3 z4 z5 z6 z7 hfl hsz4 hsz5 hsz6
                    go_wp2
                    rw [← HWA.out]
                    go_region_law (first
                      | (refine step_append_g strTy (by decide) w6 rfl (.tmp 117) (.tmp 120) rfl wa.heap.size v5 wl xs5 yB (by simp [Act.eval]) hown6 A6 bl c6 (by simp [Act.eval]) (by omega) (fun hn => ?_) hyB1 (by omega) hb6a.size ?_
                         focus
                           obtain ⟨b, o, e, hc⟩ := hyBc hn
                           exact ⟨_, e, fun i u hu => by rw [add_at]; exact hc i u hu⟩
                         intro v7 w7 hown7 hg7 hv7
                         have hb7 : Below wa.heap.size wa w7 := hb6a.grown hg7 hb6a.size (fun b hb => (hown6.lt b hb).1)
                         have hF7 := hFa.kept hb7
                         obtain ⟨A7, c7, rfl, hg7r, h07⟩ := inner_row hown7 HLEN1.out (by rw [encS_app]; exact GCells.app (show GCells w6 (fun _ => True) (encS WL) xs5 from strs_all hgc5) (strs_all hyBg)) hult
                         have hcall := HC0.out w7 A7 c7 hF7 hg7r h07
                         rw [← HLEN1.out] at hcall
                         obtain ⟨r0, r1, r2, r3, r4, r5, r6, r7, r8, r9, r10, r11⟩ := twelve_at ((hb7.block wr.heap.size (by omega)).trans HCA.out))
                      | (go_simp
                         go_at_call 104
                         (with_reducible refine hcl0.mono ?_)
                         rintro e w5 ⟨v5, rfl, ⟨xs5, hown5, hgc5⟩, hb5⟩
                         have hb5a : Below wa.heap.size wa w5 := (Below.refl _ _).drew.trans hb5
                         have hbd5 := HBD.out w5 hb5a
                         obtain ⟨w0, w1, w2x, w3x, w4x, w5x, w6x, w7x, w8x, w9x, w10, w11⟩ := twelve_at ((hb5a.block wr.heap.size (by omega)).trans HCA.out))
                      | (go_simp
                         go_at_call 105
                         (with_reducible refine hbd0.mono ?_)
                         rintro e w5 ⟨vB, rfl, ⟨yB, hownB, hyBg⟩, hb5⟩
                         have hb5a : Below wa.heap.size wa w5 := (Below.refl _ _).drew.trans hb5
                         have hcl5 := HCL.out w5 hb5a
                         obtain ⟨A6, c6, rfl, h61, h62, h63⟩ := CellsAt.of_own hownB
                         rw [← HBLQ.out] at hownB h61
                         obtain ⟨hyBl, hyB1⟩ := strs_one hyBg
                         rw [← HBLQ.out] at hyBl
                         rw [← HBLQ.out]
                         obtain ⟨w0, w1, w2x, w3x, w4x, w5x, w6x, w7x, w8x, w9x, w10, w11⟩ := twelve_at ((hb5a.block wr.heap.size (by omega)).trans HCA.out))
                      | (go_simp
                         go_at_call 105
                         (with_reducible refine hbd5.mono ?_)
                         rintro e w6 ⟨vB, rfl, ⟨yB, hownB, hyBg⟩, hb6⟩
                         have hb6a : Below wa.heap.size wa w6 := hb5a.trans (hb6.mono hb5a.size)
                         obtain ⟨A6, c6, rfl, h61, h62, h63⟩ := CellsAt.of_own hownB
                         rw [← HBLQ.out] at hownB h61
                         obtain ⟨hyBl, hyB1⟩ := strs_one hyBg
                         rw [← HBLQ.out] at hyBl
                         rw [← HBLQ.out]
                         have hown6 : w6.ownsRow wa.heap.size 9 1 v5 wl xs5 := hown5.kept ⟨hb6.os, hb6.tape, hb6.output, hb6.size, fun k hk _ => hb6.block k hk⟩ (Classical.em _)
                         have hyBc : 0 < bl → ∃ b o, A6 = some ⟨b, o, none⟩ ∧ ∀ i u, yB[i]? = some u → w6.cell? ⟨b, o + i, none⟩ = some u := fun hn => by
                           obtain ⟨b, o, e, hlt, hc⟩ := h63 (by omega)
                           exact ⟨b, o, e, hc⟩
                         obtain ⟨o0, o1, o2, o3, o4, o5, o6, o7, o8, o9, o10, o11⟩ := twelve_at ((hb6a.block wr.heap.size (by omega)).trans HCA.out))
                      | (go_simp
                         go_at_call 104
                         (with_reducible refine hcl5.mono ?_)
                         rintro e w6 ⟨v5, rfl, ⟨xs5, hown5, hgc5⟩, hb6⟩
                         have hb6a : Below wa.heap.size wa w6 := hb5a.trans (hb6.mono hb5a.size)
                         have hown6 : w6.ownsRow wa.heap.size 9 1 v5 wl xs5 := owns_low hown5 hb5a.size
                         have hyBc : 0 < bl → ∃ b o, A6 = some ⟨b, o, none⟩ ∧ ∀ i u, yB[i]? = some u → w6.cell? ⟨b, o + i, none⟩ = some u := fun hn => by
                           obtain ⟨b, o, e, hlt, hc⟩ := h63 (by omega)
                           exact ⟨b, o, e, fun i u hu => (hb6.cell (p := ⟨b, o + i, none⟩) hlt).trans (hc i u hu)⟩
                         obtain ⟨o0, o1, o2, o3, o4, o5, o6, o7, o8, o9, o10, o11⟩ := twelve_at ((hb6a.block wr.heap.size (by omega)).trans HCA.out))
                      | (go_simp
                         go_at_call 75
                         (with_reducible refine hcall.mono ?_)
                         rintro e w9 ⟨u9, ys9, rfl, hF9⟩)
                      | fail "none")
                    all_goals
                      go_wp2
                      go_roundw
                      case measure => simp [intOf]; omega
                      case rel => exact ⟨i2 + 1, r', L9, ys9, by omega, by go_num, hF7.trans hF9, HRE.out, hre5, hq2, hsm4, hsz4', hsz5', hsz6'⟩
            · have hR := HR.out
              rw [if_neg hk13] at hR
              have h13 : (k == 13) = false := by simp; omega
              have h18 : (k == 18) = false := by simp; omega
              have HR2 := Lib.hid hR
              clear hR hk13
              go_wp2
              go_ret
              exact HFIN.out wr L' u2 ys hF (hre'.trans HR2.out.symm)
end Go.Proofs.YtiinghgfojicdaaGreat
namespace Go.Proofs.YtiinghgfojicdaaGreat
open Go.RowKit Go.RowG Go.FRow Go.GMem
set_option linter.unusedVariables false
set_option maxRecDepth 100000
attribute [local go_sem ↓] Go.wp_at_zero Go.wp_at_succ
theorem free_says (e : Ex) : FreeSaid e := each_ex free_head e
/-- Does it hold no free name? -/
def closedE (e : Ex) : Bool := decide ((free1 e [] []).length = 0)
def FreeFEnds (e : Ex) (w : World) (en : Ending) (w' : World) : Prop := ∃ A n c, en = .returned (.slice A n c) ∧ n = (free1 e [] []).length ∧ Below w.heap.size w w'
theorem freeF_says (e : Ex) (q : At) (w : World) (he : EIs w (lt w) e q) (hn : e.size ≤ 100000) (hs : e.small) : Calls Tryz.prog 41 #[agg8 e q] w (FreeFEnds e w) := by
  obtain ⟨W1, hW1⟩ : ∃ W1, W1 = w.alloc (.cells (eight e q).toArray 50) := ⟨_, rfl⟩
  have hb1 : Below w.heap.size w W1 := by rw [hW1]; exact (Below.refl _ _).alloc (Nat.le_refl _) _
  have hcall := free_says e q W1 W1.heap.size [] [] none 0 (.slice none 0 0) [] (Nat.le_refl _) (World.ownsRow_nil _ _ _ _) rfl (he.keep (fun b hb => ⟨Nat.lt_of_lt_of_le hb hb1.size, by simp [Value.ownBlock]⟩) fun p hp => hb1.cell hp) (GRow.nil _ _ _ _) (fun _ => ⟨rfl, rfl⟩) hn hs (by simp; omega) (by simp; omega)
  have HB1 := Lib.hid hb1
  have HW1 := Lib.hid hW1
  have hend : ∀ (u : Value) (ys : List Value) (w' : World), FS W1.heap.size W1 w' (.slice none 0 0) (free1 e [] []) u ys → FreeFEnds e w (.returned u) w' := fun u ys w' hF => by
    obtain ⟨A, c, rfl, _, _, _⟩ := strs_row hF.own hF.str
    exact ⟨A, _, c, rfl, rfl, hb1.trans ⟨hF.grown.os, hF.grown.tape, hF.grown.output, hF.grown.size, fun k hk => hF.grown.block k (Nat.lt_of_lt_of_le hk hb1.size) (by simp [Value.ownBlock])⟩⟩
  have HE := Lib.hid hend
  rw [hW1] at hcall
  simp only [List.length_nil] at hcall
  clear hend hb1 hW1 he hn hs
  obtain ⟨h, args, arms⟩ := e
  obtain ⟨k, n, t, ns, ty⟩ := h
  obtain ⟨a1, c1, a2, c2, a3, c3, a4, c4⟩ := q
  simp only [agg8, eight] at hcall ⊢
  go_enter Tryz.func41, Tryz.ntmps41
  go_wp2_with (first
    | (go_at_call 75
       (with_reducible refine hcall.mono ?_)
       rintro e w5 ⟨u5, ys5, rfl, hF5⟩
       have HF5 := Lib.hid hF5
       clear hF5)
    | fail "none")
  go_ret
  have hF := HF5.out
  have hw := HW1.out
  simp only [eight] at hw
  rw [← hw] at hF
  exact HE.out u5 ys5 w5 hF
end Go.Proofs.YtiinghgfojicdaaGreat
