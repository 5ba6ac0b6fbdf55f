/- A part of the proofs of the laws of the deeds: PrintA. -/
import Derived.Test.YtkmpnfploplpfaaDoorDdParts
import Derived.Test.YtkmpnfploplpfaaDoorLater
set_option linter.unusedVariables false
set_option linter.unusedSimpArgs false
namespace Go.Proofs.YtkmpnfploplpfaaDoor
open Go.RowKit Go.Deed Go.RowG
attribute [local go_sem ↓] Go.wp_at_zero Go.wp_at_succ
set_option linter.unusedVariables false

abbrev agg5 (k a b : Int) (t : ByteArray) (A : Option Addr) (m c : Nat) : Value := .agg #[.int .i64 k, .int .i64 a, .int .i64 b, .string t, .slice A m c]
def PrintEnds (r : Option L) (w : World) (e : Ending) (w' : World) : Prop := Below w.heap.size w w' ∧ match r with
  | some s => e = .returned (.tuple #[.string (toB s), .int .i64 0])
  | none => e = .returned (.tuple #[.string ⟨#[]⟩, .int .i64 3])
def WordsEnds (w : World) (e : Ending) (w' : World) : Prop := e = .returned (.slice (some ⟨w.heap.size, 0, none⟩) 14 14) ∧ (∀ (j : Nat) (x : L), words[j]? = some x → w'.cell? ⟨w.heap.size, j, none⟩ = some (.string (toB x))) ∧ Below w.heap.size w w' ∧ w'.heap.size = w.heap.size + 1
theorem words_says (w : World) : Calls Tryd.prog 17 #[] w (WordsEnds w) := by
  go_enter Tryd.func17, Tryd.ntmps17
  go_wp2
  go_ret
  refine ⟨rfl, fun j x hx => ?_, (Below.refl _ _).alloc (Nat.le_refl _) _, by simp⟩
  have hcell : ∀ (o : Obj) (cs : Array Value), o = .cells cs 9 → ∀ (y : Value), cs.toList[j]? = some y → (w.alloc o).cell? ⟨w.heap.size, j, none⟩ = some y := fun o cs ho y hy => by
    subst ho
    have := World.news_of_block (heap_alloc_new w (.cells cs 9)) j y hy
    cases j with
    | zero => exact this
    | succ j => simpa [Addr.add] using this
  refine hcell _ _ rfl _ ?_
  have hj : j < 14 := (List.getElem?_eq_some_iff.1 hx).1
  match j, hj with
  | 0, _ => cases hx; rfl
  | 1, _ => cases hx; rfl
  | 2, _ => cases hx; rfl
  | 3, _ => cases hx; rfl
  | 4, _ => cases hx; rfl
  | 5, _ => cases hx; rfl
  | 6, _ => cases hx; rfl
  | 7, _ => cases hx; rfl
  | 8, _ => cases hx; rfl
  | 9, _ => cases hx; rfl
  | 10, _ => cases hx; rfl
  | 11, _ => cases hx; rfl
  | 12, _ => cases hx; rfl
  | 13, _ => cases hx; rfl
theorem word_at {k : Nat} (h : k < 14) : words[k]? = some (wordOf (k : Int)) := by
  have := (by decide : ∀ k : Fin 14, words[k.val]? = some (wordOf (k.val : Int))) ⟨k, h⟩
  exact this
theorem word_short {k : Nat} (h : k < 14) : (wordOf (k : Int)).length ≤ 10 := (by decide : ∀ k : Fin 14, (wordOf (k.val : Int)).length ≤ 10) ⟨k, h⟩
set_option maxRecDepth 100000 in
set_option maxHeartbeats 4000000 in
theorem print_1 (a : Int) (t : ByteArray) (args : F) (A : Option Addr) (c : Nat) (w : World) (hte : t.toList.isEmpty = false) (ht : t.size ≤ 100000000) (hw : wordL t.data.toList = true) (hm : manyL 1 args.len = true) (hA : R64 a) (hE : Env w)
    (hrow : RowAt w (lt w) A args) (hc : args.len ≤ c) (hcm : c ≤ maxLen) (hrg : Rng args) (hwt : wt args ≤ 100000000) : Calls Tryd.prog 7 #[agg5 1 a 0 t A args.len c] w (PrintEnds ((textsF args 40).map fun l => wordOf 1 ++ Lib.joinTail [32] ([Lib.itoa a] ++ [t.data.toList] ++ l)) w) := by
  have hrest := hrow.rest
  obtain ⟨res, hres⟩ : ∃ res, res = textsF args 40 := ⟨_, rfl⟩
  rw [← hres]
  have HRES := Lib.hid hres
  obtain ⟨m, hmm⟩ : ∃ m, m = args.len := ⟨_, rfl⟩
  have hml : m ≤ 10000000 := by have := len_wt args; omega
  rw [← hmm] at hm hc hrest ⊢
  clear hres hrow hmm
  have hct : ∀ w, Calls Tryd.prog 13 #[.int .i64 1] w fun e w' => e = .returned (.bool true) ∧ w' = w := fun w => by
    have := texts_says 1 w
    unfold BoolIs at this
    exact this
  have hcw := fun w => word_says t w (by unfold maxLen; omega)
  rw [hw] at hcw
  have hcm := fun w => many_says 1 m w
  unfold BoolIs at hcm
  rw [hm] at hcm
  have hcn : ∀ w, Calls Tryd.prog 16 #[.int .i64 1] w fun e w' => e = .returned (.int .i64 1) ∧ w' = w := fun w => by
    have := numbers_says 1 w
    exact this
  have htn : t.toList ≠ [] := fun e => by rw [e] at hte; cases hte
  clear hw hm
  go_enter Tryd.func7, Tryd.ntmps7
  go_wp2
  have r0 : ∀ x : Later (w.alloc (.cells #[.int .i64 1, .int .i64 a, .int .i64 0, .string t, .slice A m c] 24)), x.val.cell? ⟨w.heap.size, 0, none⟩ = some (.int .i64 1) := fun x => by rw [x.ok.cell (by simp)]; simp
  have r1 : ∀ x : Later (w.alloc (.cells #[.int .i64 1, .int .i64 a, .int .i64 0, .string t, .slice A m c] 24)), x.val.cell? ⟨w.heap.size, 1, none⟩ = some (.int .i64 a) := fun x => by rw [x.ok.cell (by simp)]; simp
  have r2 : ∀ x : Later (w.alloc (.cells #[.int .i64 1, .int .i64 a, .int .i64 0, .string t, .slice A m c] 24)), x.val.cell? ⟨w.heap.size, 2, none⟩ = some (.int .i64 0) := fun x => by rw [x.ok.cell (by simp)]; simp
  have r3 : ∀ x : Later (w.alloc (.cells #[.int .i64 1, .int .i64 a, .int .i64 0, .string t, .slice A m c] 24)), x.val.cell? ⟨w.heap.size, 3, none⟩ = some (.string t) := fun x => by rw [x.ok.cell (by simp)]; simp
  have r4 : ∀ x : Later (w.alloc (.cells #[.int .i64 1, .int .i64 a, .int .i64 0, .string t, .slice A m c] 24)), x.val.cell? ⟨w.heap.size, 4, none⟩ = some (.slice A m c) := fun x => by rw [x.ok.cell (by simp)]; simp
  refine region_later (by kernel_rfl) (by kernel_rfl) ?_
  repeat (go_big_quiet_step (first
    | (go_at_call 13; exact Calls.later_same (hct _))
    | (go_at_call 15; exact Calls.later_same (hcm _))
    | (go_at_call 16; exact Calls.later_same (hcn _))
    | (go_at_call 14; exact Calls.later_below (hcw _))))
  refine wpQuiet_nil ?_
  intro w1 hw'
  obtain ⟨x, hx⟩ := hw'
  have hb1 := x.ok
  have s0 := r0 x
  have s1 := r1 x
  have s2 := r2 x
  have s3 := r3 x
  have s4 := r4 x
  rw [← hx] at hb1 s0 s1 s2 s3 s4
  clear hx
  have hb1l : w.heap.size < w1.heap.size := by have := hb1.size; simp at this; omega
  clear r0 r1 r2 r3 r4 hct hcw hcm
  go_wp2
  apply region_merge (F := fun w' => Below w1.heap.size w1 w')
  · skip
    go_region_with
      (go_at_call 17; (with_reducible refine (words_says _).mono ?_); rintro e w2 ⟨rfl, hw2, hb2, hz2⟩
       have hw20 : w2.cell? ⟨w1.heap.size, 1, none⟩ = some (.string (toB (wordOf 1))) := hw2 1 _ rfl
       have k0 : w2.cell? ⟨w.heap.size, 0, none⟩ = some (.int .i64 1) := (hb2.cell (p := ⟨w.heap.size, 0, none⟩) (by simpa using hb1l)).trans s0)
    all_goals exact ⟨rfl, hb2.os, hb2.tape, hb2.output, hb2.size, hb2.block⟩
  intro w2 hb2
  have hb2l := hb2.size
  have hlt2 : w.heap.size < w2.heap.size := by omega
  have k0 : w2.cell? ⟨w.heap.size, 0, none⟩ = some (.int .i64 1) := (hb2.cell (p := ⟨w.heap.size, 0, none⟩) hb1l).trans s0
  have k1 : w2.cell? ⟨w.heap.size, 1, none⟩ = some (.int .i64 a) := (hb2.cell (p := ⟨w.heap.size, 1, none⟩) hb1l).trans s1
  have k2 : w2.cell? ⟨w.heap.size, 2, none⟩ = some (.int .i64 0) := (hb2.cell (p := ⟨w.heap.size, 2, none⟩) hb1l).trans s2
  have k3 : w2.cell? ⟨w.heap.size, 3, none⟩ = some (.string t) := (hb2.cell (p := ⟨w.heap.size, 3, none⟩) hb1l).trans s3
  have k4 : w2.cell? ⟨w.heap.size, 4, none⟩ = some (.slice A m c) := (hb2.cell (p := ⟨w.heap.size, 4, none⟩) hb1l).trans s4
  have hbw2 : Below w.heap.size w w2 := (((Below.refl _ _).alloc (Nat.le_refl _) _).trans (hb1.mono (by simp))).trans (hb2.mono (by omega))
  clear s0 s1 s2 s3 s4 hb1 hb2 hb2l hb1l
  go_wp2
  apply region_merge (F := fun w' => Below w2.heap.size w2 w' ∧ w'.cell? ⟨w2.heap.size, 0, none⟩ = some (.int .i64 a) ∧ w'.cell? ⟨w2.heap.size, 1, none⟩ = some (.int .i64 0) ∧ w2.heap.size < w'.heap.size)
  · go_region_held3 (fun w' => w'.cell? ⟨w.heap.size, 0, none⟩ = some (.int .i64 1) ∧ w'.cell? ⟨w.heap.size, 1, none⟩ = some (.int .i64 a) ∧ w'.cell? ⟨w.heap.size, 2, none⟩ = some (.int .i64 0))
      (first | go_keep | (go_split_ands; refine ⟨?_, ?_, ?_⟩ <;> simp [*]))
      (first | (go_at_call 16; (with_reducible refine (hcn _).mono ?_); rintro e w4 ⟨rfl, rfl⟩))
    all_goals exact ⟨rfl, ((Below.refl _ _).alloc (Nat.le_refl _) _).drew, by simp, by simp, by simp [World.drew]⟩
  intro w3 ⟨hb3, n0, n1, hlt3⟩
  have k3 : w3.cell? ⟨w.heap.size, 3, none⟩ = some (.string t) := (hb3.cell (p := ⟨w.heap.size, 3, none⟩) hlt2).trans k3
  have k4 : w3.cell? ⟨w.heap.size, 4, none⟩ = some (.slice A m c) := (hb3.cell (p := ⟨w.heap.size, 4, none⟩) hlt2).trans k4
  have hbw3 := hbw2.trans (hb3.mono hbw2.size)
  have hltw3 : w.heap.size < w3.heap.size := by have := hb3.size; omega
  clear k0 k1 k2 hb3 hbw2 hlt2
  have HA := Lib.hid hA
  have HE := Lib.hid hE
  clear hE hA
  obtain ⟨W0, hW0⟩ : ∃ W0, W0 = wordOf 1 := ⟨_, rfl⟩
  rw [← hW0]
  have hW0l : W0.length ≤ 10 := by rw [hW0]; decide
  have HW0 := Lib.hid hW0
  clear hW0
  go_wp2
  go_loopw [4, 85] (fun v4 i wr => ∃ (j : Nat), j ≤ 1 ∧ i = .int .i64 j ∧ v4 = .string (toB (W0 ++ Lib.joinTail [32] ((([a] : List Int).take j).map Lib.itoa))) ∧ Below w3.heap.size w3 wr) (fun _ i _ => 1 - (intOf i).toNat)
  case atStart => exact ⟨0, Nat.zero_le _, rfl, by simp [Lib.joinTail], Below.refl _ _⟩
  case round =>
    obtain ⟨j, hj, rfl, rfl, hbr⟩ := hrel
    rcases (by omega : j = 0 ∨ j = 1) with hj0 | hj1
    · subst hj0
      have hcj : wr.cell? ⟨w2.heap.size, 0, none⟩ = some (.int .i64 a) := (hbr.cell (p := ⟨w2.heap.size, 0, none⟩) hlt3).trans n0
      have hit := itoa_says a (HA.out) wr (HE.out.keep (hbw3.trans (hbr.mono hbw3.size)))
      have hil := itoa_len (HA.out)
      obtain ⟨T, hT⟩ : ∃ T, T = toB (W0 ++ Lib.joinTail [32] ((([a] : List Int).take 0).map Lib.itoa)) := ⟨_, rfl⟩
      obtain ⟨I, hI⟩ : ∃ I, I = toB (Lib.itoa a) := ⟨_, rfl⟩
      have hTs : T.size ≤ 100 := by rw [hT, toB_size]; simp [Lib.joinTail]; omega
      have hIs : I.size ≤ 20 := by rw [hI, toB_size]; exact hil
      rw [← hI] at hit
      rw [← hT]
      have hadd1 : ¬ 9223372036854775807 < 1 + I.size := by omega
      have hadd2 : ¬ 9223372036854775807 < T.size + (1 + I.size) := by omega
      have HT := Lib.hid hT
      have HI := Lib.hid hI
      clear hT hI
      go_wp2_with (first | (go_at_call 18; (with_reducible refine hit.mono ?_); rintro e w4 ⟨rfl, hb4⟩))
      go_roundw
      case rel =>
        refine ⟨0 + 1, by omega, by go_num, ?_, hbr.trans (hb4.mono hbr.size)⟩
        show Value.string (T ++ (toB [32] ++ I)) = _
        rw [HT.out, HI.out, toB_add, toB_add]
        simp [Lib.joinTail]
      case measure => simp [intOf]
    · subst hj1
      obtain ⟨T, hT⟩ : ∃ T, T = toB (W0 ++ Lib.joinTail [32] ((([a] : List Int).take 1).map Lib.itoa)) := ⟨_, rfl⟩
      have hTs : T.size ≤ 100 := by have := itoa_len HA.out; rw [hT, toB_size]; simp [Lib.joinTail]; omega
      rw [← hT]
      have HT := Lib.hid hT
      clear hT
      have k3 : wr.cell? ⟨w.heap.size, 3, none⟩ = some (.string t) := (hbr.cell (p := ⟨w.heap.size, 3, none⟩) hltw3).trans k3
      have k4 : wr.cell? ⟨w.heap.size, 4, none⟩ = some (.slice A m c) := (hbr.cell (p := ⟨w.heap.size, 4, none⟩) hltw3).trans k4
      have hadd1 : ¬ 9223372036854775807 < 1 + t.size := by omega
      have hadd2 : ¬ 9223372036854775807 < T.size + (1 + t.size) := by omega
      go_wp2
      obtain ⟨U, hU⟩ : ∃ U, U = W0 ++ Lib.joinTail [32] ([Lib.itoa a] ++ [t.data.toList]) := ⟨_, rfl⟩
      have hTU : Value.string (T ++ ({ data := #[32] } ++ t)) = .string (toB U) := by
        rw [HT.out, hU]
        show Value.string (toB _ ++ (toB [32] ++ t)) = _
        rw [← toB_of t, toB_add, toB_add, toB_list]
        simp [Lib.joinTail]
      have hUl : U.length ≤ 100000200 := by
        have e := congrArg (fun v => match v with | Value.string s => s.size | _ => 0) hTU
        simp only [ByteArray.size_append, toB_size] at e
        have : ({ data := #[32] } : ByteArray).size = 1 := rfl
        omega
      rw [hTU]
      have HU := Lib.hid hU
      clear hU hTU HT hadd1 hadd2 hTs
      go_loopw [4, 106] (fun v4 i wx => ∃ (j : Nat) (r : F) (acc : List L), j ≤ m ∧ i = .int .i64 j ∧ v4 = .string (toB (U ++ Lib.joinTail [32] acc)) ∧ Deed.Rest w (lt w) A m j r ∧ Rng r ∧ lens1 acc + wt r ≤ 100000000 ∧
        (textsF r 40).map (acc ++ ·) = res ∧ Below w.heap.size w wx) (fun _ i _ => m - (intOf i).toNat)
      case atStart =>
        refine ⟨0, args, [], Nat.zero_le _, rfl, by simp [Lib.joinTail], hrest, hrg, by simp [lens1]; omega, ?_, hbw3.trans (hbr.mono hbw3.size)⟩
        rw [HRES.out]
        cases textsF args 40 <;> rfl
      case round =>
        obtain ⟨j, r, acc, hj, rfl, rfl, hre, hrg, hlw, hacc, hbx⟩ := hrel
        have hjt : (Lib.joinTail [32] acc).length = lens1 acc := by
          rw [Lib.joinTail_length]
          clear hacc hlw
          induction acc with
          | nil => rfl
          | cons y acc ih => simp only [Lib.lens, lens1, List.map_cons, List.sum_cons, List.length_cons, List.length_nil] at ih ⊢; omega
        obtain ⟨T, hT⟩ : ∃ T, T = toB (U ++ Lib.joinTail [32] acc) := ⟨_, rfl⟩
        have hTs : T.size ≤ 300000000 := by rw [hT, toB_size, List.length_append]; omega
        rw [← hT]
        have HT := Lib.hid hT
        clear hT hjt
        have hbs := hbx.size
        cases r with
        | nil =>
          obtain rfl : j = m := by have := hre.1; simp only [F.len] at this; omega
          simp only [textsF, Option.map_some, List.append_nil] at hacc
          subst hacc
          go_wp2
          go_ret2
          refine ⟨hbx, ?_⟩
          show Ending.returned (.tuple #[.string T, .int .i64 0]) = _
          rw [HT.out, HU.out]
          simp [Lib.joinTail, HW0.out]
        | cons k' n' t' a' r' =>
          have hlt : j < m := by have := hre.1; simp only [F.len] at this; omega
          obtain ⟨ad, R, rc, rfl, hab, hc0, hc1, hc2, hc3, hrl, hrm, hra, hre'⟩ := hre.step
          obtain ⟨hg1, hg2, hg3⟩ := hrg
          simp only [wt] at hlw
          have hcallE : ∀ W : World, Below w.heap.size w W → Calls Tryd.prog 9 #[.agg #[.int .i64 k', .int .i64 n', .string t', .slice R a'.len rc]] W (TextEnds (text1 40 k' n' t' a') W) := fun W hW =>
            Text_says k' n' t' a' R rc W (hra.below hW) hrl hrm hg1 hg2 (by omega) (HE.out.keep hW)
          have d0 := (hbx.cell (p := ad.add (j * 4)) (by rw [add_block]; exact hab)).trans hc0
          have d1 := (hbx.cell (p := ⟨(ad.add (j * 4)).block, (ad.add (j * 4)).off + 1, none⟩) (by rw [add_block]; exact hab)).trans hc1
          have d2 := (hbx.cell (p := ⟨(ad.add (j * 4)).block, (ad.add (j * 4)).off + 2, none⟩) (by rw [add_block]; exact hab)).trans hc2
          have d3 := (hbx.cell (p := ⟨(ad.add (j * 4)).block, (ad.add (j * 4)).off + 3, none⟩) (by rw [add_block]; exact hab)).trans hc3
          have htl := fun s h => text_len k' n' t' a' 40 s h hg1 hg2
          obtain ⟨m', hm'⟩ : ∃ m', m' = a'.len := ⟨_, rfl⟩
          rw [← hm'] at hcallE d3 hrl
          obtain ⟨res1, hres1⟩ : ∃ res1, res1 = text1 40 k' n' t' a' := ⟨_, rfl⟩
          rw [textsF_cons, ← hres1] at hacc
          rw [← hres1] at hcallE htl
          clear hc0 hc1 hc2 hc3 hm' hres1
          cases res1 with
          | none =>
            simp only [Option.map_none] at hacc
            subst hacc
            clear htl
            go_wp2_with (first
              | (go_at_call 9; (with_reducible refine (hcallE _ (hbx.alloc hbs _)).mono ?_); rintro e w4 ⟨hb4, x, hx0, rfl⟩
                 have hx1 : (x != 0) = true := by simpa using hx0))
            go_ret2
            exact ⟨(hbx.alloc hbs _).trans (hb4.mono (by simp; omega)), rfl⟩
          | some s1 =>
            have hs1 := htl s1 rfl
            have hS1 : (toB s1).size = s1.length := toB_size s1
            have hadd1 : ¬ 9223372036854775807 < 1 + (toB s1).size := by omega
            have hadd2 : ¬ 9223372036854775807 < T.size + (1 + (toB s1).size) := by omega
            clear htl hS1
            go_wp2_with (first
              | (go_at_call 9; (with_reducible refine (hcallE _ (hbx.alloc hbs _)).mono ?_); rintro e w4 ⟨hb4, rfl⟩))
            go_roundw
            case rel =>
              refine ⟨_, _, _, _, _, _, _, _, _, _, _, _, _, _, _, _, _, _, _, _, _, _, ⟨j + 1, r', acc ++ [s1], by omega, by go_num, ?_, hre', hg3, ?_, ?_, (hbx.alloc hbs _).trans (hb4.mono (by simp; omega))⟩, rfl⟩
              · show Value.string (T ++ (toB [32] ++ toB s1)) = _
                rw [HT.out, toB_add, toB_add]
                simp [Lib.joinTail]
              · simp only [lens1, List.map_append, List.map_cons, List.map_nil, List.sum_append, List.sum_cons, List.sum_nil] at hlw ⊢
                omega
              · rw [← hacc]
                cases textsF r' 40 <;> simp
            case measure => simp [intOf]; omega
set_option maxRecDepth 100000 in
set_option maxHeartbeats 4000000 in
theorem print_12 (a b : Int) (t : ByteArray) (args : F) (A : Option Addr) (c : Nat) (w : World) (hte : t.toList.isEmpty = false) (ht : t.size ≤ 100000000) (hw : wordL t.data.toList = true) (hm : manyL 12 args.len = true) (hA : R64 a) (hB : R64 b) (hE : Env w)
    (hrow : RowAt w (lt w) A args) (hc : args.len ≤ c) (hcm : c ≤ maxLen) (hrg : Rng args) (hwt : wt args ≤ 100000000) : Calls Tryd.prog 7 #[agg5 12 a b t A args.len c] w (PrintEnds ((textsF args 40).map fun l => wordOf 12 ++ Lib.joinTail [32] ([Lib.itoa a, Lib.itoa b] ++ [t.data.toList] ++ l)) w) := by
  have hrest := hrow.rest
  obtain ⟨res, hres⟩ : ∃ res, res = textsF args 40 := ⟨_, rfl⟩
  rw [← hres]
  have HRES := Lib.hid hres
  obtain ⟨m, hmm⟩ : ∃ m, m = args.len := ⟨_, rfl⟩
  have hml : m ≤ 10000000 := by have := len_wt args; omega
  rw [← hmm] at hm hc hrest ⊢
  clear hres hrow hmm
  have hct : ∀ w, Calls Tryd.prog 13 #[.int .i64 12] w fun e w' => e = .returned (.bool true) ∧ w' = w := fun w => by
    have := texts_says 12 w
    unfold BoolIs at this
    exact this
  have hcw := fun w => word_says t w (by unfold maxLen; omega)
  rw [hw] at hcw
  have hcm := fun w => many_says 12 m w
  unfold BoolIs at hcm
  rw [hm] at hcm
  have hcn : ∀ w, Calls Tryd.prog 16 #[.int .i64 12] w fun e w' => e = .returned (.int .i64 2) ∧ w' = w := fun w => by
    have := numbers_says 12 w
    exact this
  have htn : t.toList ≠ [] := fun e => by rw [e] at hte; cases hte
  clear hw hm
  go_enter Tryd.func7, Tryd.ntmps7
  go_wp2
  have r0 : ∀ x : Later (w.alloc (.cells #[.int .i64 12, .int .i64 a, .int .i64 b, .string t, .slice A m c] 24)), x.val.cell? ⟨w.heap.size, 0, none⟩ = some (.int .i64 12) := fun x => by rw [x.ok.cell (by simp)]; simp
  have r1 : ∀ x : Later (w.alloc (.cells #[.int .i64 12, .int .i64 a, .int .i64 b, .string t, .slice A m c] 24)), x.val.cell? ⟨w.heap.size, 1, none⟩ = some (.int .i64 a) := fun x => by rw [x.ok.cell (by simp)]; simp
  have r2 : ∀ x : Later (w.alloc (.cells #[.int .i64 12, .int .i64 a, .int .i64 b, .string t, .slice A m c] 24)), x.val.cell? ⟨w.heap.size, 2, none⟩ = some (.int .i64 b) := fun x => by rw [x.ok.cell (by simp)]; simp
  have r3 : ∀ x : Later (w.alloc (.cells #[.int .i64 12, .int .i64 a, .int .i64 b, .string t, .slice A m c] 24)), x.val.cell? ⟨w.heap.size, 3, none⟩ = some (.string t) := fun x => by rw [x.ok.cell (by simp)]; simp
  have r4 : ∀ x : Later (w.alloc (.cells #[.int .i64 12, .int .i64 a, .int .i64 b, .string t, .slice A m c] 24)), x.val.cell? ⟨w.heap.size, 4, none⟩ = some (.slice A m c) := fun x => by rw [x.ok.cell (by simp)]; simp
  refine region_later (by kernel_rfl) (by kernel_rfl) ?_
  repeat (go_big_quiet_step (first
    | (go_at_call 13; exact Calls.later_same (hct _))
    | (go_at_call 15; exact Calls.later_same (hcm _))
    | (go_at_call 16; exact Calls.later_same (hcn _))
    | (go_at_call 14; exact Calls.later_below (hcw _))))
  refine wpQuiet_nil ?_
  intro w1 hw'
  obtain ⟨x, hx⟩ := hw'
  have hb1 := x.ok
  have s0 := r0 x
  have s1 := r1 x
  have s2 := r2 x
  have s3 := r3 x
  have s4 := r4 x
  rw [← hx] at hb1 s0 s1 s2 s3 s4
  clear hx
  have hb1l : w.heap.size < w1.heap.size := by have := hb1.size; simp at this; omega
  clear r0 r1 r2 r3 r4 hct hcw hcm
  go_wp2
  apply region_merge (F := fun w' => Below w1.heap.size w1 w')
  · skip
    go_region_with
      (go_at_call 17; (with_reducible refine (words_says _).mono ?_); rintro e w2 ⟨rfl, hw2, hb2, hz2⟩
       have hw20 : w2.cell? ⟨w1.heap.size, 12, none⟩ = some (.string (toB (wordOf 12))) := hw2 12 _ rfl
       have k0 : w2.cell? ⟨w.heap.size, 0, none⟩ = some (.int .i64 12) := (hb2.cell (p := ⟨w.heap.size, 0, none⟩) (by simpa using hb1l)).trans s0)
    all_goals exact ⟨rfl, hb2.os, hb2.tape, hb2.output, hb2.size, hb2.block⟩
  intro w2 hb2
  have hb2l := hb2.size
  have hlt2 : w.heap.size < w2.heap.size := by omega
  have k0 : w2.cell? ⟨w.heap.size, 0, none⟩ = some (.int .i64 12) := (hb2.cell (p := ⟨w.heap.size, 0, none⟩) hb1l).trans s0
  have k1 : w2.cell? ⟨w.heap.size, 1, none⟩ = some (.int .i64 a) := (hb2.cell (p := ⟨w.heap.size, 1, none⟩) hb1l).trans s1
  have k2 : w2.cell? ⟨w.heap.size, 2, none⟩ = some (.int .i64 b) := (hb2.cell (p := ⟨w.heap.size, 2, none⟩) hb1l).trans s2
  have k3 : w2.cell? ⟨w.heap.size, 3, none⟩ = some (.string t) := (hb2.cell (p := ⟨w.heap.size, 3, none⟩) hb1l).trans s3
  have k4 : w2.cell? ⟨w.heap.size, 4, none⟩ = some (.slice A m c) := (hb2.cell (p := ⟨w.heap.size, 4, none⟩) hb1l).trans s4
  have hbw2 : Below w.heap.size w w2 := (((Below.refl _ _).alloc (Nat.le_refl _) _).trans (hb1.mono (by simp))).trans (hb2.mono (by omega))
  clear s0 s1 s2 s3 s4 hb1 hb2 hb2l hb1l
  go_wp2
  apply region_merge (F := fun w' => Below w2.heap.size w2 w' ∧ w'.cell? ⟨w2.heap.size, 0, none⟩ = some (.int .i64 a) ∧ w'.cell? ⟨w2.heap.size, 1, none⟩ = some (.int .i64 b) ∧ w2.heap.size < w'.heap.size)
  · go_region_held3 (fun w' => w'.cell? ⟨w.heap.size, 0, none⟩ = some (.int .i64 12) ∧ w'.cell? ⟨w.heap.size, 1, none⟩ = some (.int .i64 a) ∧ w'.cell? ⟨w.heap.size, 2, none⟩ = some (.int .i64 b))
      (first | go_keep | (go_split_ands; refine ⟨?_, ?_, ?_⟩ <;> simp [*]))
      (first | (go_at_call 16; (with_reducible refine (hcn _).mono ?_); rintro e w4 ⟨rfl, rfl⟩))
    all_goals exact ⟨rfl, ((Below.refl _ _).alloc (Nat.le_refl _) _).drew, by simp, by simp, by simp [World.drew]⟩
  intro w3 ⟨hb3, n0, n1, hlt3⟩
  have k3 : w3.cell? ⟨w.heap.size, 3, none⟩ = some (.string t) := (hb3.cell (p := ⟨w.heap.size, 3, none⟩) hlt2).trans k3
  have k4 : w3.cell? ⟨w.heap.size, 4, none⟩ = some (.slice A m c) := (hb3.cell (p := ⟨w.heap.size, 4, none⟩) hlt2).trans k4
  have hbw3 := hbw2.trans (hb3.mono hbw2.size)
  have hltw3 : w.heap.size < w3.heap.size := by have := hb3.size; omega
  clear k0 k1 k2 hb3 hbw2 hlt2
  have HA := Lib.hid hA
  have HB := Lib.hid hB
  have HE := Lib.hid hE
  clear hE hA hB
  obtain ⟨W0, hW0⟩ : ∃ W0, W0 = wordOf 12 := ⟨_, rfl⟩
  rw [← hW0]
  have hW0l : W0.length ≤ 10 := by rw [hW0]; decide
  have HW0 := Lib.hid hW0
  clear hW0
  go_wp2
  go_loopw [4, 85] (fun v4 i wr => ∃ (j : Nat), j ≤ 2 ∧ i = .int .i64 j ∧ v4 = .string (toB (W0 ++ Lib.joinTail [32] ((([a, b] : List Int).take j).map Lib.itoa))) ∧ Below w3.heap.size w3 wr) (fun _ i _ => 2 - (intOf i).toNat)
  case atStart => exact ⟨0, Nat.zero_le _, rfl, by simp [Lib.joinTail], Below.refl _ _⟩
  case round =>
    obtain ⟨j, hj, rfl, rfl, hbr⟩ := hrel
    rcases (by omega : j = 0 ∨ j = 1 ∨ j = 2) with hj0 | hj1 | hj2
    · subst hj0
      have hcj : wr.cell? ⟨w2.heap.size, 0, none⟩ = some (.int .i64 a) := (hbr.cell (p := ⟨w2.heap.size, 0, none⟩) hlt3).trans n0
      have hit := itoa_says a (HA.out) wr (HE.out.keep (hbw3.trans (hbr.mono hbw3.size)))
      have hil := itoa_len (HA.out)
      obtain ⟨T, hT⟩ : ∃ T, T = toB (W0 ++ Lib.joinTail [32] ((([a, b] : List Int).take 0).map Lib.itoa)) := ⟨_, rfl⟩
      obtain ⟨I, hI⟩ : ∃ I, I = toB (Lib.itoa a) := ⟨_, rfl⟩
      have hTs : T.size ≤ 100 := by rw [hT, toB_size]; simp [Lib.joinTail]; omega
      have hIs : I.size ≤ 20 := by rw [hI, toB_size]; exact hil
      rw [← hI] at hit
      rw [← hT]
      have hadd1 : ¬ 9223372036854775807 < 1 + I.size := by omega
      have hadd2 : ¬ 9223372036854775807 < T.size + (1 + I.size) := by omega
      have HT := Lib.hid hT
      have HI := Lib.hid hI
      clear hT hI
      go_wp2_with (first | (go_at_call 18; (with_reducible refine hit.mono ?_); rintro e w4 ⟨rfl, hb4⟩))
      go_roundw
      case rel =>
        refine ⟨0 + 1, by omega, by go_num, ?_, hbr.trans (hb4.mono hbr.size)⟩
        show Value.string (T ++ (toB [32] ++ I)) = _
        rw [HT.out, HI.out, toB_add, toB_add]
        simp [Lib.joinTail]
      case measure => simp [intOf]
    · subst hj1
      have hcj : wr.cell? ⟨w2.heap.size, 1, none⟩ = some (.int .i64 b) := (hbr.cell (p := ⟨w2.heap.size, 1, none⟩) hlt3).trans n1
      have hit := itoa_says b (HB.out) wr (HE.out.keep (hbw3.trans (hbr.mono hbw3.size)))
      have hil := itoa_len (HB.out)
      obtain ⟨T, hT⟩ : ∃ T, T = toB (W0 ++ Lib.joinTail [32] ((([a, b] : List Int).take 1).map Lib.itoa)) := ⟨_, rfl⟩
      obtain ⟨I, hI⟩ : ∃ I, I = toB (Lib.itoa b) := ⟨_, rfl⟩
      have hTs : T.size ≤ 100 := by have := itoa_len HA.out; rw [hT, toB_size]; simp [Lib.joinTail]; omega
      have hIs : I.size ≤ 20 := by rw [hI, toB_size]; exact hil
      rw [← hI] at hit
      rw [← hT]
      have hadd1 : ¬ 9223372036854775807 < 1 + I.size := by omega
      have hadd2 : ¬ 9223372036854775807 < T.size + (1 + I.size) := by omega
      have HT := Lib.hid hT
      have HI := Lib.hid hI
      clear hT hI
      go_wp2_with (first | (go_at_call 18; (with_reducible refine hit.mono ?_); rintro e w4 ⟨rfl, hb4⟩))
      go_roundw
      case rel =>
        refine ⟨1 + 1, by omega, by go_num, ?_, hbr.trans (hb4.mono hbr.size)⟩
        show Value.string (T ++ (toB [32] ++ I)) = _
        rw [HT.out, HI.out, toB_add, toB_add]
        simp [Lib.joinTail]
      case measure => simp [intOf]
    · subst hj2
      obtain ⟨T, hT⟩ : ∃ T, T = toB (W0 ++ Lib.joinTail [32] ((([a, b] : List Int).take 2).map Lib.itoa)) := ⟨_, rfl⟩
      have hTs : T.size ≤ 100 := by have := itoa_len HA.out; have := itoa_len HB.out; rw [hT, toB_size]; simp [Lib.joinTail]; omega
      rw [← hT]
      have HT := Lib.hid hT
      clear hT
      have k3 : wr.cell? ⟨w.heap.size, 3, none⟩ = some (.string t) := (hbr.cell (p := ⟨w.heap.size, 3, none⟩) hltw3).trans k3
      have k4 : wr.cell? ⟨w.heap.size, 4, none⟩ = some (.slice A m c) := (hbr.cell (p := ⟨w.heap.size, 4, none⟩) hltw3).trans k4
      have hadd1 : ¬ 9223372036854775807 < 1 + t.size := by omega
      have hadd2 : ¬ 9223372036854775807 < T.size + (1 + t.size) := by omega
      go_wp2
      obtain ⟨U, hU⟩ : ∃ U, U = W0 ++ Lib.joinTail [32] ([Lib.itoa a, Lib.itoa b] ++ [t.data.toList]) := ⟨_, rfl⟩
      have hTU : Value.string (T ++ ({ data := #[32] } ++ t)) = .string (toB U) := by
        rw [HT.out, hU]
        show Value.string (toB _ ++ (toB [32] ++ t)) = _
        rw [← toB_of t, toB_add, toB_add, toB_list]
        simp [Lib.joinTail]
      have hUl : U.length ≤ 100000200 := by
        have e := congrArg (fun v => match v with | Value.string s => s.size | _ => 0) hTU
        simp only [ByteArray.size_append, toB_size] at e
        have : ({ data := #[32] } : ByteArray).size = 1 := rfl
        omega
      rw [hTU]
      have HU := Lib.hid hU
      clear hU hTU HT hadd1 hadd2 hTs
      go_loopw [4, 106] (fun v4 i wx => ∃ (j : Nat) (r : F) (acc : List L), j ≤ m ∧ i = .int .i64 j ∧ v4 = .string (toB (U ++ Lib.joinTail [32] acc)) ∧ Deed.Rest w (lt w) A m j r ∧ Rng r ∧ lens1 acc + wt r ≤ 100000000 ∧
        (textsF r 40).map (acc ++ ·) = res ∧ Below w.heap.size w wx) (fun _ i _ => m - (intOf i).toNat)
      case atStart =>
        refine ⟨0, args, [], Nat.zero_le _, rfl, by simp [Lib.joinTail], hrest, hrg, by simp [lens1]; omega, ?_, hbw3.trans (hbr.mono hbw3.size)⟩
        rw [HRES.out]
        cases textsF args 40 <;> rfl
      case round =>
        obtain ⟨j, r, acc, hj, rfl, rfl, hre, hrg, hlw, hacc, hbx⟩ := hrel
        have hjt : (Lib.joinTail [32] acc).length = lens1 acc := by
          rw [Lib.joinTail_length]
          clear hacc hlw
          induction acc with
          | nil => rfl
          | cons y acc ih => simp only [Lib.lens, lens1, List.map_cons, List.sum_cons, List.length_cons, List.length_nil] at ih ⊢; omega
        obtain ⟨T, hT⟩ : ∃ T, T = toB (U ++ Lib.joinTail [32] acc) := ⟨_, rfl⟩
        have hTs : T.size ≤ 300000000 := by rw [hT, toB_size, List.length_append]; omega
        rw [← hT]
        have HT := Lib.hid hT
        clear hT hjt
        have hbs := hbx.size
        cases r with
        | nil =>
          obtain rfl : j = m := by have := hre.1; simp only [F.len] at this; omega
          simp only [textsF, Option.map_some, List.append_nil] at hacc
          subst hacc
          go_wp2
          go_ret2
          refine ⟨hbx, ?_⟩
          show Ending.returned (.tuple #[.string T, .int .i64 0]) = _
          rw [HT.out, HU.out]
          simp [Lib.joinTail, HW0.out]
        | cons k' n' t' a' r' =>
          have hlt : j < m := by have := hre.1; simp only [F.len] at this; omega
          obtain ⟨ad, R, rc, rfl, hab, hc0, hc1, hc2, hc3, hrl, hrm, hra, hre'⟩ := hre.step
          obtain ⟨hg1, hg2, hg3⟩ := hrg
          simp only [wt] at hlw
          have hcallE : ∀ W : World, Below w.heap.size w W → Calls Tryd.prog 9 #[.agg #[.int .i64 k', .int .i64 n', .string t', .slice R a'.len rc]] W (TextEnds (text1 40 k' n' t' a') W) := fun W hW =>
            Text_says k' n' t' a' R rc W (hra.below hW) hrl hrm hg1 hg2 (by omega) (HE.out.keep hW)
          have d0 := (hbx.cell (p := ad.add (j * 4)) (by rw [add_block]; exact hab)).trans hc0
          have d1 := (hbx.cell (p := ⟨(ad.add (j * 4)).block, (ad.add (j * 4)).off + 1, none⟩) (by rw [add_block]; exact hab)).trans hc1
          have d2 := (hbx.cell (p := ⟨(ad.add (j * 4)).block, (ad.add (j * 4)).off + 2, none⟩) (by rw [add_block]; exact hab)).trans hc2
          have d3 := (hbx.cell (p := ⟨(ad.add (j * 4)).block, (ad.add (j * 4)).off + 3, none⟩) (by rw [add_block]; exact hab)).trans hc3
          have htl := fun s h => text_len k' n' t' a' 40 s h hg1 hg2
          obtain ⟨m', hm'⟩ : ∃ m', m' = a'.len := ⟨_, rfl⟩
          rw [← hm'] at hcallE d3 hrl
          obtain ⟨res1, hres1⟩ : ∃ res1, res1 = text1 40 k' n' t' a' := ⟨_, rfl⟩
          rw [textsF_cons, ← hres1] at hacc
          rw [← hres1] at hcallE htl
          clear hc0 hc1 hc2 hc3 hm' hres1
          cases res1 with
          | none =>
            simp only [Option.map_none] at hacc
            subst hacc
            clear htl
            go_wp2_with (first
              | (go_at_call 9; (with_reducible refine (hcallE _ (hbx.alloc hbs _)).mono ?_); rintro e w4 ⟨hb4, x, hx0, rfl⟩
                 have hx1 : (x != 0) = true := by simpa using hx0))
            go_ret2
            exact ⟨(hbx.alloc hbs _).trans (hb4.mono (by simp; omega)), rfl⟩
          | some s1 =>
            have hs1 := htl s1 rfl
            have hS1 : (toB s1).size = s1.length := toB_size s1
            have hadd1 : ¬ 9223372036854775807 < 1 + (toB s1).size := by omega
            have hadd2 : ¬ 9223372036854775807 < T.size + (1 + (toB s1).size) := by omega
            clear htl hS1
            go_wp2_with (first
              | (go_at_call 9; (with_reducible refine (hcallE _ (hbx.alloc hbs _)).mono ?_); rintro e w4 ⟨hb4, rfl⟩))
            go_roundw
            case rel =>
              refine ⟨_, _, _, _, _, _, _, _, _, _, _, _, _, _, _, _, _, _, _, _, _, _, ⟨j + 1, r', acc ++ [s1], by omega, by go_num, ?_, hre', hg3, ?_, ?_, (hbx.alloc hbs _).trans (hb4.mono (by simp; omega))⟩, rfl⟩
              · show Value.string (T ++ (toB [32] ++ toB s1)) = _
                rw [HT.out, toB_add, toB_add]
                simp [Lib.joinTail]
              · simp only [lens1, List.map_append, List.map_cons, List.map_nil, List.sum_append, List.sum_cons, List.sum_nil] at hlw ⊢
                omega
              · rw [← hacc]
                cases textsF r' 40 <;> simp
            case measure => simp [intOf]; omega
end Go.Proofs.YtkmpnfploplpfaaDoor
