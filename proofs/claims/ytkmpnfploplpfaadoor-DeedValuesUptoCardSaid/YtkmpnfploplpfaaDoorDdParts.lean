/- A part of the proofs of the laws of the deeds: Parts. -/
import Derived.Test.YtkmpnfploplpfaaDoorDdVal
set_option linter.unusedVariables false
set_option linter.unusedSimpArgs false
namespace Go.Proofs.YtkmpnfploplpfaaDoor
open Go.RowKit Go.Deed Go.RowG
attribute [local go_sem ↓] Go.wp_at_zero Go.wp_at_succ
set_option linter.unusedVariables false

theorem value_deep (c : UInt8) (r : L) (w : World) : Calls Tryd.prog 23 #[.string (toB (c :: r)), .int .i64 (0 : Nat)] w (ValueEnds (valueL 0 (c :: r)) w) := by
  have hte : (toB (c :: r)).toList.isEmpty = false := by rw [toB_toList]; rfl
  have htn : (toB (c :: r)).toList ≠ [] := by rw [toB_toList]; simp
  go_enter Tryd.func23, Tryd.ntmps23
  go_wp2
  refine bodyPost_ret (v := .tuple #[agg4 0 0 ⟨#[]⟩ none 0 0, .string ⟨#[]⟩, .bool false]) (by simp [results, Tryd.results23, go_sem, agg4, *]) rfl ?_
  exact ⟨(Below.refl _ _).alloc (Nat.le_refl _) _, 0, 0, ⟨#[]⟩, none, 0, 0, ⟨#[]⟩, rfl⟩
theorem valTy : RowTy Tryd.prog 22 34 4 56 := RowTy.of Tryd.underlying22 (by kernel_rfl) (by decide)
def PSaid (d : Nat) : Prop := ∀ (w rest : L) (W : World), w.length ≤ 90000000 → rest.length ≤ 90000000 → Env W → nameL w = true → Calls Tryd.prog 35 #[agg4 5 0 (toB w) none 0 0, .string (toB rest), .int .i64 ((d : Int) + 1)] W (ValueEnds (partsL (valueL d) w rest) W)

theorem parts_unit (d : Nat) (wd r : L) (w : World) : Calls Tryd.prog 35 #[agg4 5 0 (toB wd) none 0 0, .string (toB (40 :: 41 :: r)), .int .i64 ((d : Int) + 1)] w (ValueEnds none w) := by
  obtain ⟨s, hs⟩ : ∃ s, s = 40 :: 41 :: r := ⟨_, rfl⟩
  have hp : ∀ w, Calls Tryd.prog 32 #[.string (toB s), .string ⟨#[40, 41]⟩] w fun e w' => e = .returned (.bool true) ∧ w' = w := prefix_says s [40, 41] true (by rw [hs]; rfl)
  have hp1 : ∀ w, Calls Tryd.prog 32 #[.string (toB s), .string ⟨#[40]⟩] w fun e w' => e = .returned (.bool true) ∧ w' = w := prefix_says s [40] true (by rw [hs]; rfl)
  rw [← hs]
  clear hs
  go_enter Tryd.func35, Tryd.ntmps35
  go_wp2_with (first
    | (go_at_call_of 32 (Value.string ⟨#[40, 41]⟩); (with_reducible refine (hp _).mono ?_); rintro e w2 ⟨rfl, rfl⟩)
    | (go_at_call 32; (with_reducible refine (hp1 _).mono ?_); rintro e w2 ⟨rfl, rfl⟩))
  go_region_with (go_at_call 32; (with_reducible refine (hp _).mono ?_); rintro e w2 ⟨rfl, rfl⟩)
  all_goals
    go_wp2
    refine bodyPost_ret (v := .tuple #[agg4 5 0 (toB wd) none 0 0, .string (toB s), .bool false]) (by simp [results, Tryd.results35, go_sem, agg4, *]) rfl ?_
    exact ⟨((((Below.refl _ _).alloc (Nat.le_refl _) _).alloc (by simp) _).drew), 5, 0, toB wd, none, 0, 0, toB s, rfl⟩
theorem parts_plain (d : Nat) (wd s : L) (h1 : Lib.hasPrefix s [40] = false) (w : World) : Calls Tryd.prog 35 #[agg4 5 0 (toB wd) none 0 0, .string (toB s), .int .i64 ((d : Int) + 1)] w (ValueEnds (some (⟨5, 0, toB wd, .nil⟩, s)) w) := by
  have h2 : Lib.hasPrefix s [40, 41] = false := by
    cases s with
    | nil => rfl
    | cons c s =>
      simp only [Lib.hasPrefix, List.isPrefixOf] at h1 ⊢
      cases hc : ((40 : UInt8) == c) with
      | false => rfl
      | true => rw [hc] at h1; simp at h1
  have hp : ∀ w, Calls Tryd.prog 32 #[.string (toB s), .string ⟨#[40, 41]⟩] w fun e w' => e = .returned (.bool false) ∧ w' = w := prefix_says s [40, 41] false h2
  have hp1 : ∀ w, Calls Tryd.prog 32 #[.string (toB s), .string ⟨#[40]⟩] w fun e w' => e = .returned (.bool false) ∧ w' = w := prefix_says s [40] false h1
  clear h1 h2
  go_enter Tryd.func35, Tryd.ntmps35
  go_wp2_with (first
    | (go_at_call_of 32 (Value.string ⟨#[40, 41]⟩); (with_reducible refine (hp _).mono ?_); rintro e w2 ⟨rfl, rfl⟩)
    | (go_at_call 32; (with_reducible refine (hp1 _).mono ?_); rintro e w2 ⟨rfl, rfl⟩))
  go_region_with (go_at_call 32; (with_reducible refine (hp _).mono ?_); rintro e w2 ⟨rfl, rfl⟩)
  all_goals
    go_wp2
    refine bodyPost_ret (v := .tuple #[agg4 5 0 (toB wd) none 0 0, .string (toB s), .bool true]) (by simp [results, Tryd.results35, go_sem, agg4, *]) rfl ?_
    exact value_leaf ((((Below.refl _ _).alloc (Nat.le_refl _) _).alloc (by simp) _).drew) 5 0 wd s

theorem hasPrefix_one (s : L) (c : UInt8) : Lib.hasPrefix s [c] = match s with | [] => false | b :: _ => c == b := by
  cases s with
  | nil => rfl
  | cons b s => simp [Lib.hasPrefix, List.isPrefixOf]
set_option maxRecDepth 100000 in
set_option maxHeartbeats 4000000 in
theorem parts_loop (d : Nat) (hd : d ≤ 1000) (hV : VSaid d) (wd r : L) (hr : r.length ≤ 89999999) (hno : ∀ r', r ≠ 41 :: r') (w : World) (hE : Env w) :
    Calls Tryd.prog 35 #[agg4 5 0 (toB wd) none 0 0, .string (toB (40 :: r)), .int .i64 ((d : Int) + 1)] w
      (ValueEnds (match partsLoop (valueL d) 8 .nil (44 :: r) with | some (acc, 41 :: r') => some (⟨5, 0, toB wd, acc⟩, r') | _ => none) w) := by
  obtain ⟨s, hs⟩ : ∃ s, s = 40 :: r := ⟨_, rfl⟩
  have hp : ∀ w, Calls Tryd.prog 32 #[.string (toB s), .string ⟨#[40, 41]⟩] w fun e w' => e = .returned (.bool false) ∧ w' = w := prefix_says s [40, 41] false (by
    rw [hs]
    cases r with
    | nil => rfl
    | cons b r =>
      simp only [Lib.hasPrefix, List.isPrefixOf]
      cases h2 : ((41 : UInt8) == b) with
      | false => rfl
      | true =>
        have e2 : 41 = b := by simpa using h2
        subst e2
        exact absurd rfl (hno r))
  have hp1 : ∀ w, Calls Tryd.prog 32 #[.string (toB s), .string ⟨#[40]⟩] w fun e w' => e = .returned (.bool true) ∧ w' = w := prefix_says s [40] true (by rw [hs]; rfl)
  have hsl : ∀ wx : World, (Instr.slice 9 (.string (toB s)) (some (.int .i64 1)) none none).run Tryd.prog wx = .ok (.string (toB r)) wx := fun wx => by
    have := slice_from s 1 (by rw [hs]; simp) wx
    rw [hs] at this ⊢
    exact this
  have hadd : ¬ 9223372036854775807 < 1 + (toB r).size := by rw [toB_size]; omega
  rw [← hs]
  obtain ⟨res, hres⟩ : ∃ res, res = partsLoop (valueL d) 8 .nil (44 :: r) := ⟨_, rfl⟩
  rw [← hres]
  have HRES := Lib.hid hres
  have HE := Lib.hid hE
  have HV := Lib.hid hV
  have hwd : wrap64 (d : Int) = d := by unfold wrap64; omega
  clear hs hres hE hV
  go_enter Tryd.func35, Tryd.ntmps35
  go_wp2_with (first
    | (go_at_call_of 32 (Value.string ⟨#[40, 41]⟩); (with_reducible refine (hp _).mono ?_); rintro e w2 ⟨rfl, rfl⟩)
    | (go_at_call 32; (with_reducible refine (hp1 _).mono ?_); rintro e w2 ⟨rfl, rfl⟩))
  go_loopg [1] 8 (fun g v1 wr => ∃ (acc : F) (s' : L) (v : Value), v1 = .string (toB s') ∧ s'.length ≤ 90000000 ∧ partsLoop (valueL d) g acc s' = res ∧ acc.len + g = 8 ∧ acc.len ≤ 6 ∧ Own4 wr w.heap.size 34 (.int .i64 5) (.int .i64 0) (.string (toB wd)) v ∧
    Own4 wr (w.heap.size + 1) 34 (.int .i64 0) (.int .i64 0) (.string ⟨#[]⟩) (.slice none 0 0) ∧ OwnF 34 wr (w.heap.size + 2) v acc ∧ Below w.heap.size w wr)
  case atStart =>
    refine ⟨.nil, 44 :: r, .slice none 0 0, ?_, by simp; omega, HRES.out.symm, rfl, by decide, ?_, ?_, OwnF.nil _ _ _, ((Below.refl _ _).alloc (Nat.le_refl _) _).alloc (by simp) _⟩
    · show Value.string (toB [44] ++ toB r) = _
      rw [toB_add]
      rfl
    · exact Own4.keep (heap_alloc_new w _) ((Below.refl _ _).alloc (Nat.le_refl _) _)
    · have := heap_alloc_new (w.alloc (.cells #[.int .i64 5, .int .i64 0, .string (toB wd), .slice none 0 0] 34)) (.cells #[.int .i64 0, .int .i64 0, .string ⟨#[]⟩, .slice none 0 0] 34)
      have e : (w.alloc (.cells #[.int .i64 5, .int .i64 0, .string (toB wd), .slice none 0 0] 34)).heap.size = w.heap.size + 1 := by simp
      rw [e] at this
      exact this
  case round =>
    obtain ⟨acc, s', v, rfl, hsl', hpl, hfu, h6, hZ, hY, hown, hb⟩ := hrel
    obtain ⟨g, rfl⟩ : ∃ g', gk = g' + 1 := ⟨gk - 1, by omega⟩
    have hbs := hb.size
    have hzl := hZ.lt
    have hyl := hY.lt
    obtain ⟨⟨z0, z1, z2, z3⟩, f0, f1, f2, f3⟩ := hZ.cells
    obtain ⟨⟨y0, y1, y2, y3⟩, g0, g1, g2, g3⟩ := hY.cells
    clear hp hp1 hsl hadd
    by_cases hcm : ∃ more, s' = 44 :: more
    · obtain ⟨more, rfl⟩ := hcm
      have hq : ∀ w, Calls Tryd.prog 32 #[.string (toB (44 :: more)), .string ⟨#[44]⟩] w fun e w' => e = .returned (.bool true) ∧ w' = w := prefix_says (44 :: more) [44] true (by rw [hasPrefix_one]; rfl)
      have hsl2 : ∀ wx : World, (Instr.slice 9 (.string (toB (44 :: more))) (some (.int .i64 1)) none none).run Tryd.prog wx = .ok (.string (toB more)) wx := fun wx => slice_from (44 :: more) 1 (by simp) wx
      have hval := HV.out more wr (by simp at hsl'; omega) (HE.out.keep hb)
      unfold partsLoop at hpl
      simp only [] at hpl
      have hms : ∀ v m, valueL d more = some (v, m) → m.length ≤ 89999999 := fun v m h => by
        obtain ⟨t, _, e⟩ := value_sound d more v m h
        have := congrArg List.length e
        simp at this hsl'
        omega
      have HMS := Lib.hid hms
      clear hms
      cases hvd : valueL d more with
      | none =>
        rw [hvd] at hval hpl
        simp only [] at hpl
        subst hpl
        go_wp2_with (first
          | (go_at_call 32; (with_reducible refine (hq _).mono ?_); rintro e w2 ⟨rfl, rfl⟩)
          | (go_at_call 23; (with_reducible refine hval.mono ?_); rintro e w2 ⟨hb2, k4, n4, t4, A4, m4, c4, s4, rfl⟩
             obtain ⟨⟨a0, a1, a2, a3⟩, b0, b1, b2, b3⟩ := (hZ.keep hb2).cells
             obtain ⟨⟨x0, x1, x2, x3⟩, j0, j1, j2, j3⟩ := (hY.keep hb2).cells
             have hb2l := hb2.size
             have hz2 : w.heap.size < w2.heap.size := by omega
             have hy2 : w.heap.size + 1 < w2.heap.size := by omega))
        refine bodyPost_ret (v := .tuple #[agg4 0 0 ⟨#[]⟩ none 0 0, .string ⟨#[]⟩, .bool false]) (by simp [results, Tryd.results35, go_sem, agg4, *]) rfl ?_
        exact ⟨(fill4_below (hb.trans (hb2.mono hbs)) (by omega) _ _ _ _).alloc (by rw [fill4_size]; omega) _, 0, 0, ⟨#[]⟩, none, 0, 0, ⟨#[]⟩, rfl⟩
      | some x =>
        obtain ⟨v', m2⟩ := x
        have hm2 := HMS.out v' m2 hvd
        rw [hvd] at hval hpl
        simp only [] at hpl
        obtain ⟨A, c, hvA, hc, hcm, _⟩ := hown.row
        obtain ⟨kk, nn, tt, aa⟩ := v'
        simp only at hpl
        by_cases hl6 : acc.len = 6
        · rw [if_pos hl6] at hpl
          subst hpl
          subst hvA
          rw [hl6] at hZ z3
          go_wp2_with (first
            | (go_at_call 32; (with_reducible refine (hq _).mono ?_); rintro e w2 ⟨rfl, rfl⟩)
            | (go_at_call 23; (with_reducible refine hval.mono ?_); rintro e w2 ⟨hb2, A4, c4, rfl, hrow, hc4, hc4'⟩
               have hZ2 := hZ.keep hb2
               have hY2 := hY.keep hb2
               obtain ⟨⟨a0, a1, a2, a3⟩, b0, b1, b2, b3⟩ := hZ2.cells
               obtain ⟨⟨x0, x1, x2, x3⟩, j0, j1, j2, j3⟩ := hY2.cells
               have hb2l := hb2.size
               have hz2 : w.heap.size < w2.heap.size := by omega
               have hy2 : w.heap.size + 1 < w2.heap.size := by omega
               skip)
          )
          refine bodyPost_ret (v := .tuple #[agg4 0 0 ⟨#[]⟩ none 0 0, .string ⟨#[]⟩, .bool false]) (by simp [results, Tryd.results35, go_sem, agg4, *]) rfl ?_
          exact ⟨(fill4_below (hb.trans (hb2.mono hbs)) (by omega) _ _ _ _).alloc (by rw [fill4_size]; omega) _, 0, 0, ⟨#[]⟩, none, 0, 0, ⟨#[]⟩, rfl⟩
        · rw [if_neg hl6] at hpl
          obtain ⟨l, hl⟩ : ∃ l, l = acc.len := ⟨_, rfl⟩
          have hlne : ((l : Int) == 6) = false := by simp; omega
          have hvl : v = .slice A l c := by rw [hl]; exact hvA
          have hl5 : l ≤ 5 := by omega
          have HL := Lib.hid hl
          clear hvA hl hl6
          obtain ⟨m', hm'⟩ : ∃ m', m' = aa.len := ⟨_, rfl⟩
          go_wp2_with (first
            | (go_at_call 32; (with_reducible refine (hq _).mono ?_); rintro e w2 ⟨rfl, rfl⟩)
            | (go_at_call 23; (with_reducible refine hval.mono ?_); rintro e w2 ⟨hb2, A4, c4, rfl, hrow, hc4, hc4'⟩
               have hZ2 := hZ.keep hb2
               have hY2 := hY.keep hb2
               obtain ⟨⟨a0, a1, a2, a3⟩, b0, b1, b2, b3⟩ := hZ2.cells
               obtain ⟨⟨x0, x1, x2, x3⟩, j0, j1, j2, j3⟩ := hY2.cells
               have hb2l := hb2.size
               have hz2 : w.heap.size < w2.heap.size := by omega
               have hy2 : w.heap.size + 1 < w2.heap.size := by omega
               have hownw := hown
               obtain ⟨xs, hownr, hfc⟩ := (hown.kept hb2).kept ((Below.refl _ _).alloc (Nat.le_refl _) (.cells #[.int .i64 kk, .int .i64 nn, .string tt, .slice A4 aa.len c4] 34))
               rw [← HL.out] at hownr
               subst hvl)
            | (at_builtin
               refine wpList_append_onez valTy (by decide) (w2.alloc (.cells #[.int .i64 kk, .int .i64 nn, .string tt, .slice A4 aa.len c4] 34)) [.int .i64 kk, .int .i64 nn, .string tt, .slice A4 aa.len c4] 34 (w2.heap.size + 1) (by simp) rfl (.tmp 48) (.tmp 50) rfl (w.heap.size + 2) _ l xs rfl hownr rfl rfl (by simp [Value.oneCell']) (by omega) (by simp; omega) ?_
               intro v5 w5 hown5 hg5 hv5
               obtain ⟨A5, c5, rfl, h51, h52, _⟩ := CellsAt.of_own hown5
               have hne0 : some w.heap.size ≠ (Value.slice A l c).ownBlock := fun e => by have := (hownr.lt _ e.symm).1; omega
               have hne1 : some (w.heap.size + 1) ≠ (Value.slice A l c).ownBlock := fun e => by have := (hownr.lt _ e.symm).1; omega
               have hZ5 := ((hZ2.alloc (.cells #[.int .i64 kk, .int .i64 nn, .string tt, .slice A4 aa.len c4] 34)).alloc _).grown hg5 hne0
               have hY5 := ((hY2.alloc (.cells #[.int .i64 kk, .int .i64 nn, .string tt, .slice A4 aa.len c4] 34)).alloc _).grown hg5 hne1
               obtain ⟨⟨p0, p1, p2, p3⟩, k0, k1, k2, k3⟩ := hZ5.cells))
          go_roundg g
          case measure => omega
          case rel =>
            have hb2' : Below w.heap.size w w2 := hb.trans (hb2.mono hbs)
            have hlow := fun gg (hg : (Value.slice A l c).ownBlock = some gg) => (hownr.lt gg hg).1
            refine ⟨acc.snoc kk nn tt aa, m2, _, rfl, by omega, hpl, by rw [F.snoc_len]; omega, by rw [F.snoc_len]; have := HL.out; omega, hZ5.set3 _, hY5.setOther (by simp) _, ?_, ?_⟩
            · have hsn := OwnF.snoc (e := 34) (o := .cells #[.int .i64 kk, .int .i64 nn, .string tt, .slice A4 aa.len c4] 34) (R := A4) (c := c4) hfc hc4 hc4' (RowAt.keep hrow (fun b hb => ⟨by have := hb.1; omega, by simp; have := hb.2; omega, fun e => by
                  obtain ⟨_, hw0, _⟩ := hownw
                  have := (hw0.lt b e.symm).2
                  have := hb.1
                  omega⟩) fun p hp => World.cell?_of_block (Below.heap_alloc _ _ _ hp.2)) (by rw [← HL.out]; exact hown5) hg5 hv5
              exact hsn.setCell (by show w.heap.size < _; omega) _
            · exact (((hb2'.alloc hb2'.size _).alloc (by simp; omega) _).grown hg5 (by simp; omega) (fun gg hg => by have := hlow gg hg; omega)).setCell (Nat.le_refl _) _
    · have hq : ∀ w, Calls Tryd.prog 32 #[.string (toB s'), .string ⟨#[44]⟩] w fun e w' => e = .returned (.bool false) ∧ w' = w := prefix_says s' [44] false (by
        rw [hasPrefix_one]
        cases s' with
        | nil => rfl
        | cons b s' =>
          cases hb : ((44 : UInt8) == b) with
          | false => exact hb
          | true =>
            have e : 44 = b := by simpa using hb
            subst e
            exact absurd ⟨s', rfl⟩ hcm)
      have hres : res = some (acc, s') := by
        rw [← hpl]
        unfold partsLoop
        split
        · next r' => exact absurd ⟨r', rfl⟩ hcm
        · rfl
      clear hcm hpl
      subst hres
      by_cases hcl : ∃ r', s' = 41 :: r'
      · obtain ⟨r', rfl⟩ := hcl
        have hq1 : ∀ w, Calls Tryd.prog 32 #[.string (toB (41 :: r')), .string ⟨#[41]⟩] w fun e w' => e = .returned (.bool true) ∧ w' = w := prefix_says (41 :: r') [41] true (by rw [hasPrefix_one]; rfl)
        have hsl2 : ∀ wx : World, (Instr.slice 9 (.string (toB (41 :: r'))) (some (.int .i64 1)) none none).run Tryd.prog wx = .ok (.string (toB r')) wx := fun wx => slice_from (41 :: r') 1 (by simp) wx
        obtain ⟨A, c, rfl, hc, hcm, hrow⟩ := hown.row
        obtain ⟨l, hl⟩ : ∃ l, l = acc.len := ⟨_, rfl⟩
        rw [← hl] at z3
        have HL := Lib.hid hl
        clear hl
        go_wp2_with (first
          | (go_at_call_of 32 (Value.string ⟨#[41]⟩); (with_reducible refine (hq1 _).mono ?_); rintro e w2 ⟨rfl, rfl⟩)
          | (go_at_call 32; (with_reducible refine (hq _).mono ?_); rintro e w2 ⟨rfl, rfl⟩))
        go_region
        all_goals
          go_wp2
          refine bodyPost_ret (v := .tuple #[agg4 5 0 (toB wd) A l c, .string (toB r'), .bool true]) (by simp [results, Tryd.results35, go_sem, agg4, *]) rfl ?_
          refine ⟨(fill4_below hb (by omega) _ _ _ _).drew, A, c, by rw [HL.out], ?_, hc, hcm⟩
          refine hrow.keep (fun b hb => ⟨by have := hb.1; omega, by have := hb.2; simpa [World.setCell] using this⟩) fun p hp => World.cell?_of_block ?_
          have hne : p.block ≠ w.heap.size + 1 := by have := hp.1; omega
          show (fill4 w2 (w.heap.size + 1) (.int .i64 5) (.int .i64 0) (.string (toB wd)) (.slice A l c)).heap[p.block]? = _
          unfold fill4
          rw [Below.heap_setCell _ _ _ _ hne, Below.heap_setCell _ _ _ _ hne, Below.heap_setCell _ _ _ _ hne, Below.heap_setCell _ _ _ _ hne]
      · have hq1 : ∀ w, Calls Tryd.prog 32 #[.string (toB s'), .string ⟨#[41]⟩] w fun e w' => e = .returned (.bool false) ∧ w' = w := prefix_says s' [41] false (by
          rw [hasPrefix_one]
          cases s' with
          | nil => rfl
          | cons b s' =>
            cases hb : ((41 : UInt8) == b) with
            | false => exact hb
            | true =>
              have e : 41 = b := by simpa using hb
              subst e
              exact absurd ⟨s', rfl⟩ hcl)
        have HP := Lib.hid hcl
        clear hcl
        go_wp2_with (first
          | (go_at_call_of 32 (Value.string ⟨#[41]⟩); (with_reducible refine (hq1 _).mono ?_); rintro e w2 ⟨rfl, rfl⟩)
          | (go_at_call 32; (with_reducible refine (hq _).mono ?_); rintro e w2 ⟨rfl, rfl⟩))
        all_goals refine bodyPost_ret (v := .tuple #[agg4 0 0 ⟨#[]⟩ none 0 0, .string ⟨#[]⟩, .bool false]) (by simp [results, Tryd.results35, go_sem, agg4, *]) rfl ?_
        · next heq => injection heq with e; injection e with _ e; exact absurd ⟨_, e⟩ HP.out
        · exact ⟨fill4_below hb (by omega) _ _ _ _, 0, 0, ⟨#[]⟩, none, 0, 0, ⟨#[]⟩, rfl⟩

theorem parts_says (d : Nat) (hd : d ≤ 1000) (hV : VSaid d) : ∀ (w rest : L) (W : World), w.length ≤ 90000000 → rest.length ≤ 90000000 → Env W → nameL w = true → Calls Tryd.prog 35 #[agg4 5 0 (toB w) none 0 0, .string (toB rest), .int .i64 ((d : Int) + 1)] W (ValueEnds (partsL (valueL d) w rest) W) := by
  intro wd rest W _ hrl hE _
  unfold partsL
  split
  · next r => exact parts_unit d wd r W
  · next r hno => exact parts_loop d hd hV wd r (by simp at hrl; omega) (fun r' e => hno r' (by rw [e])) W hE
  · next h1 h2 => exact parts_plain d wd rest (by
      rw [hasPrefix_one]
      cases rest with
      | nil => rfl
      | cons b rest =>
        cases hb : ((40 : UInt8) == b) with
        | false => exact hb
        | true =>
          have e : 40 = b := by simpa using hb
          subst e
          exact absurd rfl (h2 rest)) W
theorem value_says : ∀ d, d ≤ 1000 → VSaid d
  | 0, _ => fun s w hs hE => by
    cases s with
    | nil => exact value_nil 0 w
    | cons c r => exact value_deep c r w
  | d + 1, hd => fun s w hs hE => by
    have ih := value_says d (by omega)
    unfold valueL
    split
    · exact value_nil (d + 1) w
    · next r => exact value_unit d r (by simp at hs; omega) w
    · next r => exact value_quote d r (by simp at hs; omega) w
    · next h0 h1 h2 =>
      cases s with
      | nil => exact absurd rfl h0
      | cons c r => exact value_wordpart d (parts_says d (by omega) ih) c r hs (fun e => by
          have : c = 39 := UInt8.toNat_inj.1 e
          subst this
          exact h2 r rfl) (fun r' e => h1 r' e) w hE
end Go.Proofs.YtkmpnfploplpfaaDoor
