/- A part of the proofs of the laws of the deeds: Text. -/
import Derived.Test.YtkmpnfploplpfaaDoorDdAny
import Derived.Test.YtkmpnfploplpfaaDoorFMem
set_option linter.unusedVariables false
set_option linter.unusedSimpArgs false
namespace Go.Proofs.YtkmpnfploplpfaaDoor
open Go.RowKit Go.Deed Go.RowG
attribute [local go_sem ↓] Go.wp_at_zero Go.wp_at_succ

/-- How a text comes back: or an error. -/
def TextEnds (r : Option L) (w : World) (e : Ending) (w' : World) : Prop := Below w.heap.size w w' ∧ match r with
  | some s => e = .returned (.tuple #[.string (toB s), .int .i64 0])
  | none => ∃ x : Int, x ≠ 0 ∧ e = .returned (.tuple #[.string ⟨#[]⟩, .int .i64 x])
def TextSaid (k n : Int) (t : ByteArray) (a : F) : Prop := ∀ (d : Nat) (A : Option Addr) (c : Nat) (w : World), d ≤ 1000 → RowAt w (lt w) A a → a.len ≤ c → c ≤ maxLen → R64 n → Rng a → t.size + 30 + wt a ≤ 100000000 → Env w →
  Calls Tryd.prog 22 #[agg4 k n t A a.len c, .int .i64 d] w (TextEnds (text1 d k n t a) w)

theorem text_small (k n : Int) (t : ByteArray) (a : F) (A : Option Addr) (c : Nat) (w : World) : Calls Tryd.prog 22 #[agg4 k n t A a.len c, .int .i64 0] w (TextEnds (text1 0 k n t a) w) := by
  go_enter Tryd.func22, Tryd.ntmps22
  go_wp2
  go_ret2
  exact ⟨(Below.refl _ _).alloc (Nat.le_refl _) _, 2, by decide, rfl⟩

theorem t_unit (d : Nat) (n : Int) (t : ByteArray) (a : F) : text1 (d + 1) 1 n t a = some [40, 41] := by simp [text1, one]
theorem t_int (d : Nat) (n : Int) (t : ByteArray) (a : F) : text1 (d + 1) 2 n t a = some (Lib.itoa n) := by simp [text1, one]
theorem t_ref (d : Nat) (n : Int) (t : ByteArray) (a : F) : text1 (d + 1) 6 n t a = some (64 :: Lib.itoa n) := by simp [text1, one]
theorem t_bool (d : Nat) (n : Int) (t : ByteArray) (a : F) : text1 (d + 1) 3 n t a = if n = 0 then some [102, 97, 108, 115, 101] else if n = 1 then some [116, 114, 117, 101] else none := by simp [text1, one]
theorem t_text (d : Nat) (n : Int) (t : ByteArray) (a : F) : text1 (d + 1) 4 n t a = if plainL t.data.toList then some (39 :: (t.data.toList ++ [39])) else none := by simp [text1, one]
theorem t_make (d : Nat) (n : Int) (t : ByteArray) (a : F) : text1 (d + 1) 5 n t a = if nameL t.data.toList = true ∧ a.len ≤ 6 then match textsF a d with
      | none => none
      | some l => if a.len = 0 then some t.data.toList else some (t.data.toList ++ 40 :: (Lib.join l [44] ++ [41]))
    else none := by simp [text1, one]; rfl
theorem t_none (d : Nat) (k n : Int) (t : ByteArray) (a : F) (h1 : k ≠ 1) (h2 : k ≠ 2) (h3 : k ≠ 3) (h4 : k ≠ 4) (h5 : k ≠ 5) (h6 : k ≠ 6) : text1 (d + 1) k n t a = none := by simp [text1, one, h1, h2, h3, h4, h5, h6]

theorem text_unit (d : Nat) (n : Int) (t : ByteArray) (a : F) (A : Option Addr) (c : Nat) (w : World) : Calls Tryd.prog 22 #[agg4 1 n t A a.len c, .int .i64 (d + 1 : Nat)] w (TextEnds (text1 (d + 1) 1 n t a) w) := by
  rw [t_unit]
  go_enter Tryd.func22, Tryd.ntmps22
  go_wp2
  go_ret2
  exact ⟨(Below.refl _ _).alloc (Nat.le_refl _) _, rfl⟩
theorem text_int (d : Nat) (n : Int) (t : ByteArray) (a : F) (A : Option Addr) (c : Nat) (w : World) (hE : Env w) (hn : R64 n) : Calls Tryd.prog 22 #[agg4 2 n t A a.len c, .int .i64 (d + 1 : Nat)] w (TextEnds (text1 (d + 1) 2 n t a) w) := by
  rw [t_int]
  have hcall := fun o => itoa_says n hn (w.alloc o) (hE.keep ((Below.refl _ _).alloc (Nat.le_refl _) o))
  clear hE
  go_enter Tryd.func22, Tryd.ntmps22
  go_wp2_with (first | (go_at_call 18; (with_reducible refine (hcall _).mono ?_); rintro e w2 ⟨rfl, hb2⟩))
  go_ret2
  exact ⟨((Below.refl _ _).alloc (Nat.le_refl _) _).trans (hb2.mono (by simp)), rfl⟩
theorem text_ref (d : Nat) (n : Int) (t : ByteArray) (a : F) (A : Option Addr) (c : Nat) (w : World) (hE : Env w) (hn : R64 n) : Calls Tryd.prog 22 #[agg4 6 n t A a.len c, .int .i64 (d + 1 : Nat)] w (TextEnds (text1 (d + 1) 6 n t a) w) := by
  rw [t_ref]
  have hcall := fun o => itoa_says n hn (w.alloc o) (hE.keep ((Below.refl _ _).alloc (Nat.le_refl _) o))
  have hil := itoa_len hn
  have hadd : ¬ 9223372036854775807 < (toB [64]).size + (toB (Lib.itoa n)).size := by rw [toB_size, toB_size]; simp; omega
  clear hE
  go_enter Tryd.func22, Tryd.ntmps22
  go_wp2_with (first | (go_at_call 18; (with_reducible refine (hcall _).mono ?_); rintro e w2 ⟨rfl, hb2⟩))
  go_ret2
  refine ⟨((Below.refl _ _).alloc (Nat.le_refl _) _).trans (hb2.mono (by simp)), ?_⟩
  show Ending.returned (.tuple #[.string (toB [64] ++ toB (Lib.itoa n)), .int .i64 0]) = _
  rw [toB_add]
  rfl
theorem text_bool (d : Nat) (n : Int) (t : ByteArray) (a : F) (A : Option Addr) (c : Nat) (w : World) : Calls Tryd.prog 22 #[agg4 3 n t A a.len c, .int .i64 (d + 1 : Nat)] w (TextEnds (text1 (d + 1) 3 n t a) w) := by
  rw [t_bool]
  by_cases h0 : n = 0
  · subst h0
    go_enter Tryd.func22, Tryd.ntmps22
    go_wp2
    go_ret2
    exact ⟨(Below.refl _ _).alloc (Nat.le_refl _) _, rfl⟩
  · by_cases h1 : n = 1
    · subst h1
      go_enter Tryd.func22, Tryd.ntmps22
      go_wp2
      go_ret2
      exact ⟨(Below.refl _ _).alloc (Nat.le_refl _) _, rfl⟩
    · rw [if_neg h0, if_neg h1]
      have e0 : (n == 0) = false := by simpa using h0
      have e1 : (n == 1) = false := by simpa using h1
      clear h0 h1
      go_enter Tryd.func22, Tryd.ntmps22
      go_wp2
      go_ret2
      exact ⟨(Below.refl _ _).alloc (Nat.le_refl _) _, 3, by decide, rfl⟩
theorem text_none (d : Nat) (k n : Int) (t : ByteArray) (a : F) (A : Option Addr) (c : Nat) (w : World) (h1 : k ≠ 1) (h2 : k ≠ 2) (h3 : k ≠ 3) (h4 : k ≠ 4) (h5 : k ≠ 5) (h6 : k ≠ 6) : Calls Tryd.prog 22 #[agg4 k n t A a.len c, .int .i64 (d + 1 : Nat)] w (TextEnds (text1 (d + 1) k n t a) w) := by
  rw [t_none d k n t a h1 h2 h3 h4 h5 h6]
  have e1 : (k == 1) = false := by simpa using h1
  have e2 : (k == 2) = false := by simpa using h2
  have e3 : (k == 3) = false := by simpa using h3
  have e4 : (k == 4) = false := by simpa using h4
  have e5 : (k == 5) = false := by simpa using h5
  have e6 : (k == 6) = false := by simpa using h6
  clear h1 h2 h3 h4 h5 h6
  go_enter Tryd.func22, Tryd.ntmps22
  go_wp2
  go_ret2
  exact ⟨(Below.refl _ _).alloc (Nat.le_refl _) _, 3, by decide, rfl⟩
theorem text_text (d : Nat) (n : Int) (t : ByteArray) (a : F) (A : Option Addr) (c : Nat) (w : World) (ht : t.size ≤ 100000000) : Calls Tryd.prog 22 #[agg4 4 n t A a.len c, .int .i64 (d + 1 : Nat)] w (TextEnds (text1 (d + 1) 4 n t a) w) := by
  rw [t_text]
  have hcall := fun w => plain_says t w (by unfold maxLen; omega)
  cases hp : plainL t.data.toList with
  | false =>
    rw [hp] at hcall
    unfold BoolIs at hcall
    go_enter Tryd.func22, Tryd.ntmps22
    go_wp2_with (first | (go_at_call 29; (with_reducible refine (hcall _).mono ?_); rintro e w2 ⟨rfl, rfl⟩))
    go_ret2
    exact ⟨(Below.refl _ _).alloc (Nat.le_refl _) _, 3, by decide, rfl⟩
  | true =>
    rw [hp] at hcall
    unfold BoolIs at hcall
    go_enter Tryd.func22, Tryd.ntmps22
    go_wp2_with (first | (go_at_call 29; (with_reducible refine (hcall _).mono ?_); rintro e w2 ⟨rfl, rfl⟩))
    go_ret2
    refine ⟨(Below.refl _ _).alloc (Nat.le_refl _) _, ?_⟩
    show Ending.returned (.tuple #[.string ((toB [39] ++ t) ++ toB [39]), .int .i64 0]) = _
    rw [← toB_of t, toB_add, toB_add, toB_list]
    rfl

theorem text_head {d : Nat} {k n : Int} {t : ByteArray} {a r : F} {s : L} {l : List L} (h1 : text1 d k n t a = some s) (h2 : textsF r d = some l) : textsF (.cons k n t a r) d = some (s :: l) := by
  rw [textsF_cons, h1, h2]
set_option maxRecDepth 100000 in
set_option maxHeartbeats 2000000 in
theorem text_make (d : Nat) (n : Int) (t : ByteArray) (a : F) (hQ : Each TextSaid a) (A : Option Addr) (c : Nat) (w : World) (hd : d ≤ 999) (h : RowAt w (lt w) A a) (hc : a.len ≤ c) (hm : c ≤ maxLen) (hr : Rng a) (hw : t.size + 30 + wt a ≤ 100000000) (hE : Env w) :
    Calls Tryd.prog 22 #[agg4 5 n t A a.len c, .int .i64 (d + 1 : Nat)] w (TextEnds (text1 (d + 1) 5 n t a) w) := by
  rw [t_make]
  have hcall := fun w => name_says t w (by unfold maxLen; omega)
  unfold BoolIs at hcall
  cases hn : nameL t.data.toList with
  | false =>
    rw [hn] at hcall
    rw [if_neg (fun h => by cases h.1)]
    go_enter Tryd.func22, Tryd.ntmps22
    go_wp2_with (first | (go_at_call 30; (with_reducible refine (hcall _).mono ?_); rintro e w2 ⟨rfl, rfl⟩))
    go_ret2
    exact ⟨(Below.refl _ _).alloc (Nat.le_refl _) _, 3, by decide, rfl⟩
  | true =>
    rw [hn] at hcall
    by_cases h6 : a.len ≤ 6
    · rw [if_pos ⟨rfl, h6⟩]
      obtain ⟨res, hres⟩ : ∃ res, res = textsF a d := ⟨_, rfl⟩
      rw [← hres]
      have HRES := Lib.hid hres
      have hlen := fun l hl => texts_len a d l hl hr
      have HLEN := Lib.hid hlen
      have hrest := h.rest
      obtain ⟨m, hmm⟩ : ∃ m, m = a.len := ⟨_, rfl⟩
      rw [← hmm] at hrest h6 hc
      rw [← hmm]
      have HM := Lib.hid hmm
      have hwd : wrap64 (d : Int) = d := by unfold wrap64; omega
      have HE := Lib.hid hE
      clear h hres hE hlen hmm
      go_enter Tryd.func22, Tryd.ntmps22
      go_wp2_with (first | (go_at_call 30; (with_reducible refine (hcall _).mono ?_); rintro e w2 ⟨rfl, rfl⟩))
      go_loopw [6, 60] (fun v6 i wr => ∃ (j : Nat) (r : F) (acc : List L), j ≤ m ∧ i = .int .i64 j ∧ Deed.Rest w (lt w) A m j r ∧ Each TextSaid r ∧ Rng r ∧ wt r ≤ wt a ∧ acc.length = j ∧
        (textsF r d).map (acc ++ ·) = res ∧ wr.ownsRow (w.heap.size + 1) 9 1 v6 j (strV acc) ∧ wr.heap[w.heap.size]? = some (.cells #[.int .i64 5, .int .i64 n, .string t, .slice A m c] 34 (0, 0)) ∧ Below w.heap.size w wr) (fun _ i _ => m - (intOf i).toNat)
      case atStart =>
        refine ⟨0, a, [], Nat.zero_le _, rfl, hrest, hQ, hr, Nat.le_refl _, rfl, ?_, World.ownsRow_nil _ _ _ _, heap_alloc_new w _, (Below.refl _ _).alloc (Nat.le_refl _) _⟩
        rw [HRES.out]
        cases textsF a d <;> rfl
      case round =>
        obtain ⟨j, r, acc, hj, rfl, hre, hq, hrg, hwt, hal, hacc, hown, hbox, hb⟩ := hrel
        have hbs := hb.size
        have b2 : wr.cell? ⟨w.heap.size, 2, none⟩ = some (.string t) := World.news_of_block hbox 2 (.string t) rfl
        have hbl : w.heap.size < wr.heap.size := (Array.getElem?_eq_some_iff.1 hbox).1
        cases r with
        | nil =>
          obtain rfl : j = m := by have := hre.1; simp only [F.len] at this; omega
          simp only [textsF, Option.map_some, List.append_nil] at hacc
          subst hacc
          have hl1 := HLEN.out acc HRES.out.symm
          obtain ⟨A4, c4, rfl, h41, h42, hat⟩ := CellsAt.of_own hown
          by_cases h0 : j = 0
          · subst h0
            go_wp2
            go_ret2
            refine ⟨hb, ?_⟩
            show Ending.returned (.tuple #[.string t, .int .i64 0]) = _
            rw [toB_of]
          · have hjl := join_len acc
            obtain ⟨g, o, rfl, hg, hcell⟩ := hat (by rw [strV_len]; omega)
            have hjoin : ∀ W, Below wr.heap.size wr W → Calls Tryd.prog 31 #[.slice (some ⟨g, o, none⟩) j c4, .string ⟨#[44]⟩] W fun e w' => e = .returned (.string (toB (Lib.join acc [44]))) ∧ Below W.heap.size W w' := fun W hW => by
              have := Tryd.strings_Join g o c4 (acc.map toB) ⟨#[44]⟩ W (fun i x hx => by
                have := hcell i (.string x) (by simp only [strV, List.getElem?_map] at hx ⊢; cases h : acc[i]? with
                  | none => simp [h] at hx
                  | some y => simp [h] at hx ⊢; exact hx)
                exact (hW.cell (p := ⟨g, o + i, none⟩) hg).trans this) (by have := hW.size; omega) (by simp; omega) (by simp; omega) (by simp [Function.comp_def, toB_list]; omega)
              simp only [List.map_map, Function.comp_def, toB_list, List.map_id', List.length_map, hal] at this
              exact this
            have h0' : ((j : Int) == 0) = false := by simpa using h0
            obtain ⟨J, hJ⟩ : ∃ J, J = toB (Lib.join acc [44]) := ⟨_, rfl⟩
            have hJs : J.size ≤ 100000000 := by rw [hJ, toB_size]; omega
            have hts : t.size ≤ 100000000 := by omega
            rw [← hJ] at hjoin
            have hadd1 : ¬ 9223372036854775807 < t.size + 1 := by omega
            have hadd2 : ¬ 9223372036854775807 < t.size + 1 + J.size := by omega
            have hadd3 : ¬ 9223372036854775807 < t.size + 1 + J.size + 1 := by omega
            have HJ := Lib.hid hJ
            clear hJ hcell hat
            go_wp2
            go_region_held3 (fun w' => w'.cell? ⟨w.heap.size, 2, none⟩ = some (.string t))
              (first
                | go_keep
                | (rw [hb3.cell (by simp; omega)]; simp [*]))
              (first
                | (go_at_call 31; (with_reducible refine (hjoin _ ((Below.refl _ _).drew)).mono ?_); rintro e w3 ⟨rfl, hb3⟩))
            go_wp2
            go_ret2
            refine ⟨hb.trans ((Below.mk hb3.os hb3.tape hb3.output hb3.size hb3.block : Below wr.heap.size wr w3).mono hbs), ?_⟩
            show Ending.returned (.tuple #[.string (((t ++ toB [40]) ++ J) ++ toB [41]), .int .i64 0]) = _
            rw [HJ.out, ← toB_of t, toB_add, toB_add, toB_add, toB_list]
            simp
        | cons k' n' t' a' r' =>
          have hlt : j < m := by have := hre.1; simp only [F.len] at this; omega
          obtain ⟨ad, R, rc, rfl, hab, hc0, hc1, hc2, hc3, hrl, hrm, hra, hre'⟩ := hre.step
          obtain ⟨hq1, hq2⟩ := hq
          obtain ⟨hg1, hg2, hg3⟩ := hrg
          simp only [wt] at hwt
          have hcallE : ∀ W : World, Below w.heap.size w W → Calls Tryd.prog 22 #[.agg #[.int .i64 k', .int .i64 n', .string t', .slice R a'.len rc], .int .i64 (d : Int)] W (TextEnds (text1 d k' n' t' a') W) := fun W hW =>
            hq1 d R rc W (by omega) (hra.below hW) hrl hrm hg1 hg2 (by omega) (HE.out.keep hW)
          have d0 := (hb.cell (p := ad.add (j * 4)) (by rw [add_block]; exact hab)).trans hc0
          have d1 := (hb.cell (p := ⟨(ad.add (j * 4)).block, (ad.add (j * 4)).off + 1, none⟩) (by rw [add_block]; exact hab)).trans hc1
          have d2 := (hb.cell (p := ⟨(ad.add (j * 4)).block, (ad.add (j * 4)).off + 2, none⟩) (by rw [add_block]; exact hab)).trans hc2
          have d3 := (hb.cell (p := ⟨(ad.add (j * 4)).block, (ad.add (j * 4)).off + 3, none⟩) (by rw [add_block]; exact hab)).trans hc3
          obtain ⟨m', hm'⟩ : ∃ m', m' = a'.len := ⟨_, rfl⟩
          rw [← hm'] at hcallE d3 hrl
          obtain ⟨res1, hres1⟩ : ∃ res1, res1 = text1 d k' n' t' a' := ⟨_, rfl⟩
          rw [textsF_cons, ← hres1] at hacc
          rw [← hres1] at hcallE
          clear hc0 hc1 hc2 hc3 hq1 hm' hres1
          cases res1 with
          | none =>
            simp only [Option.map_none] at hacc
            subst hacc
            go_wp2_with (first
              | (go_at_call 22; (with_reducible refine (hcallE _ (hb.alloc hbs _)).mono ?_); rintro e w2 ⟨hb2, x, hx0, rfl⟩))
            go_ret2
            exact ⟨(hb.alloc hbs _).trans (hb2.mono (by simp; omega)), x, hx0, rfl⟩
          | some s1 =>
            go_wp2_with (first
              | (go_at_call 22; (with_reducible refine (hcallE _ (hb.alloc hbs _)).mono ?_); rintro e w2 ⟨hb2, rfl⟩
                 have hbr : Below wr.heap.size wr w2 := ((Below.refl wr.heap.size wr).alloc (Nat.le_refl _) _).trans (hb2.mono (by simp))
                 have hown2 : w2.ownsRow (w.heap.size + 1) 9 1 u6 j (strV acc) := hown.kept ⟨hbr.os, hbr.tape, hbr.output, hbr.size, fun k hk _ => hbr.block k hk⟩ (Classical.em _))
              | (at_builtin
                 refine wpList_append_one strTy (by decide) w2 [.string (toB s1)] 9 rfl (.tmp 74) (.tmp 76) rfl (w.heap.size + 1) _ j (strV acc) rfl hown2 rfl rfl (by simp [Value.oneCell']) (by omega) (by have := hbr.size; omega) ?_
                 intro v4 w4 hown4 hg4 _))
            go_roundw
            case rel =>
              have hb2' : Below w.heap.size w w2 := hb.trans (hbr.mono hbs)
              refine ⟨j + 1, r', acc ++ [s1], by omega, by go_num, hre', hq2, hg3, by omega, by simp [hal], ?_, by simpa [strV] using hown4, ?_, (hb2'.alloc hb2'.size _).grown hg4 (by simp; have := hb2'.size; omega) (fun g hg => by have := (hown2.lt g hg).1; omega)⟩
              · rw [← hacc]
                cases textsF r' d <;> simp
              · have h1 := (hbr.block _ hbl).trans hbox
                have h2 := (Below.heap_alloc w2 (.cells #[.string (toB s1)] 9) w.heap.size (by have := hbr.size; omega)).trans h1
                refine (hg4.block _ (by simp; have := hbr.size; omega) fun e => ?_).trans h2
                have := (hown2.lt _ e.symm).1
                omega
            case measure => simp [intOf]; omega
    · rw [if_neg (fun h => h6 h.2)]
      obtain ⟨m, hmm⟩ : ∃ m, m = a.len := ⟨_, rfl⟩
      rw [← hmm] at h6 ⊢
      have h7 : (6 : Int) < (m : Int) := by omega
      clear hmm h6
      go_enter Tryd.func22, Tryd.ntmps22
      go_wp2_with (first | (go_at_call 30; (with_reducible refine (hcall _).mono ?_); rintro e w2 ⟨rfl, rfl⟩))
      go_ret2
      exact ⟨(Below.refl _ _).alloc (Nat.le_refl _) _, 3, by decide, rfl⟩

theorem text_rec (k n : Int) (t : ByteArray) (a : F) (hQ : Each TextSaid a) : TextSaid k n t a := by
  intro d A c w hd h hc hm hn ha hw hE
  match d with
  | 0 => exact text_small k n t a A c w
  | d + 1 =>
    by_cases h1 : k = 1
    · subst h1; exact text_unit d n t a A c w
    by_cases h2 : k = 2
    · subst h2; exact text_int d n t a A c w hE hn
    by_cases h3 : k = 3
    · subst h3; exact text_bool d n t a A c w
    by_cases h4 : k = 4
    · subst h4; exact text_text d n t a A c w (by omega)
    by_cases h5 : k = 5
    · subst h5; exact text_make d n t a hQ A c w (by omega) h hc hm ha hw hE
    by_cases h6 : k = 6
    · subst h6; exact text_ref d n t a A c w hE hn
    exact text_none d k n t a A c w h1 h2 h3 h4 h5 h6
theorem text_all : ∀ a : F, Each TextSaid a := each_of text_rec
theorem text_says (k n : Int) (t : ByteArray) (a : F) : TextSaid k n t a := text_rec k n t a (text_all a)
theorem Text_says (k n : Int) (t : ByteArray) (a : F) (A : Option Addr) (c : Nat) (w : World) (h : RowAt w (lt w) A a) (hc : a.len ≤ c) (hm : c ≤ maxLen) (hn : R64 n) (ha : Rng a) (hw : t.size + 30 + wt a ≤ 100000000) (hE : Env w) :
    Calls Tryd.prog 9 #[agg4 k n t A a.len c] w (TextEnds (text1 40 k n t a) w) := by
  have hcall : ∀ o : Obj, Calls Tryd.prog 22 #[agg4 k n t A a.len c, .int .i64 40] (w.alloc o) (TextEnds (text1 40 k n t a) (w.alloc o)) := fun o => text_says k n t a 40 A c (w.alloc o) (by omega) (h.below ((Below.refl _ _).alloc (Nat.le_refl _) o)) hc hm hn ha hw (hE.keep ((Below.refl _ _).alloc (Nat.le_refl _) o))
  obtain ⟨m, hmm⟩ : ∃ m, m = a.len := ⟨_, rfl⟩
  rw [← hmm] at hcall
  rw [← hmm]
  obtain ⟨R, hR⟩ : ∃ R, R = text1 40 k n t a := ⟨_, rfl⟩
  rw [← hR] at hcall
  rw [← hR]
  clear hmm hR h hc ha hw hE
  cases R with
  | none =>
    go_enter Tryd.func9, Tryd.ntmps9
    go_wp2_with (first | (go_at_call 22; (with_reducible refine (hcall _).mono ?_); rintro e w2 ⟨hb2, x, hx, rfl⟩))
    go_ret2
    exact ⟨((Below.refl _ _).alloc (Nat.le_refl _) _).trans (hb2.mono (by simp)), x, hx, rfl⟩
  | some s =>
    go_enter Tryd.func9, Tryd.ntmps9
    go_wp2_with (first | (go_at_call 22; (with_reducible refine (hcall _).mono ?_); rintro e w2 ⟨hb2, rfl⟩))
    go_ret2
    exact ⟨((Below.refl _ _).alloc (Nat.le_refl _) _).trans (hb2.mono (by simp)), rfl⟩
end Go.Proofs.YtkmpnfploplpfaaDoor
