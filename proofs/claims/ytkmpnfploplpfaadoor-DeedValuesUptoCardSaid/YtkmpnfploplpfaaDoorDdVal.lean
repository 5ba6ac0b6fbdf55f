/- A part of the proofs of the laws of the deeds: Val. -/
import Derived.Test.YtkmpnfploplpfaaDoorDdText
set_option linter.unusedVariables false
set_option linter.unusedSimpArgs false
namespace Go.Proofs.YtkmpnfploplpfaaDoor
open Go.RowKit Go.Deed Go.RowG
attribute [local go_sem ↓] Go.wp_at_zero Go.wp_at_succ
set_option linter.unusedVariables false

/-- Made in between. -/
abbrev fresh (w w' : World) : Nat → Prop := fun b => w.heap.size ≤ b ∧ b < w'.heap.size
theorem row_fill {w W w4 : World} {z : Nat} {A : Option Addr} {f : F} (h : RowAt w4 (fresh W w4) A f) (hw : w.heap.size ≤ z) (hz : z < W.heap.size) (v0 v1 v2 v3 : Value) : RowAt (fill4 w4 z v0 v1 v2 v3) (fresh w (fill4 w4 z v0 v1 v2 v3)) A f := by
  refine h.keep (fun b hb => ⟨by have := hb.1; omega, by rw [fill4_size]; exact hb.2⟩) fun p hp => World.cell?_of_block ?_
  have hne : p.block ≠ z := by have := hp.1; omega
  unfold fill4
  rw [Below.heap_setCell _ _ _ _ hne, Below.heap_setCell _ _ _ _ hne, Below.heap_setCell _ _ _ _ hne, Below.heap_setCell _ _ _ _ hne]
def ValueEnds (r : Option (V × L)) (w : World) (e : Ending) (w' : World) : Prop := Below w.heap.size w w' ∧ match r with
  | some (v, rest) => ∃ A c, e = .returned (.tuple #[agg4 v.k v.n v.t A v.a.len c, .string (toB rest), .bool true]) ∧ RowAt w' (fresh w w') A v.a ∧ v.a.len ≤ c ∧ c ≤ maxLen
  | none => ∃ k n t A m c s, e = .returned (.tuple #[agg4 k n t A m c, .string s, .bool false])
def VSaid (d : Nat) : Prop := ∀ (s : L) (w : World), s.length ≤ 90000000 → Env w → Calls Tryd.prog 23 #[.string (toB s), .int .i64 d] w (ValueEnds (valueL d s) w)

theorem slice_from (s : L) (k : Nat) (hk : k ≤ s.length) (wx : World) : (Instr.slice 9 (.string (toB s)) (some (.int .i64 (k : Int))) none none).run Tryd.prog wx = .ok (.string (toB (s.drop k))) wx := by
  rw [run_slice_string_l wx 9 _ Tryd.underlying9 .i64 k (by omega) (by rw [toB_size]; omega), Lib.extract_eq, toB_list, toB_size]
  have e1 : (k : Int).toNat = k := by omega
  rw [e1, List.take_of_length_le (by simp)]
  rfl
theorem slice_to (s : L) (k : Nat) (hk : k ≤ s.length) (wx : World) : (Instr.slice 9 (.string (toB s)) none (some (.int .i64 (k : Int))) none).run Tryd.prog wx = .ok (.string (toB (s.take k))) wx := by
  rw [run_slice_string_h wx 9 _ Tryd.underlying9 .i64 k (by omega) (by rw [toB_size]; omega), Lib.extract_eq, toB_list]
  have e1 : (k : Int).toNat = k := by omega
  rw [e1]
  simp [toB]
theorem index_head (c : UInt8) (r : L) (wx : World) : (Instr.index 9 (.string (toB (c :: r))) (.int .i64 0)).run Tryd.prog wx = .ok (.int .u8 (c.toNat : Int)) wx := by
  have hsz : (toB (c :: r)).size = r.length + 1 := by rw [toB_size]; rfl
  rw [run_index_string _ _ _ _ _ Tryd.underlying9, dif_pos ⟨by omega, by omega⟩]
  have h := byte_at (toB (c :: r)) 0 (by omega)
  rw [toB_list] at h
  have h2 : (toB (c :: r))[0] = c := by simpa using h.symm
  show Result.ok (Value.int .u8 ((toB (c :: r))[0].toNat : Int)) wx = _
  rw [h2]
theorem prefix_says (s p : L) (b : Bool) (h : Lib.hasPrefix s p = b) (w : World) : Calls Tryd.prog 32 #[.string (toB s), .string (toB p)] w fun e w' => e = .returned (.bool b) ∧ w' = w := by
  have := Tryd.strings_HasPrefix (toB s) (toB p) w
  rw [toB_list, toB_list, h] at this
  exact this

theorem value_leaf {w W : World} (hb : Below w.heap.size w W) (k n : Int) (t rest : L) : ValueEnds (some (⟨k, n, toB t, .nil⟩, rest)) w (.returned (.tuple #[agg4 k n (toB t) none 0 0, .string (toB rest), .bool true])) W :=
  ⟨hb, none, 0, rfl, RowAt.nil _ _ _, Nat.le_refl _, by simp⟩
theorem value_nil (d : Nat) (w : World) : Calls Tryd.prog 23 #[.string (toB []), .int .i64 d] w (ValueEnds none w) := by
  have e : toB [] = ⟨#[]⟩ := rfl
  rw [e]
  go_enter Tryd.func23, Tryd.ntmps23
  go_wp2
  refine bodyPost_ret (v := .tuple #[agg4 0 0 ⟨#[]⟩ none 0 0, .string ⟨#[]⟩, .bool false]) (by simp [results, Tryd.results23, go_sem, agg4, *]) rfl ?_
  exact ⟨(Below.refl _ _).alloc (Nat.le_refl _) _, 0, 0, ⟨#[]⟩, none, 0, 0, ⟨#[]⟩, rfl⟩
theorem value_unit (d : Nat) (r : L) (hl : r.length ≤ 90000000) (w : World) : Calls Tryd.prog 23 #[.string (toB (40 :: 41 :: r)), .int .i64 (d + 1 : Nat)] w (ValueEnds (some (⟨1, 0, toB [], .nil⟩, r)) w) := by
  obtain ⟨s, hs⟩ : ∃ s, s = 40 :: 41 :: r := ⟨_, rfl⟩
  have hte : (toB s).toList.isEmpty = false := by rw [toB_toList, hs]; rfl
  have htn : (toB s).toList ≠ [] := by rw [toB_toList, hs]; simp
  have hp : ∀ w, Calls Tryd.prog 32 #[.string (toB s), .string ⟨#[40, 41]⟩] w fun e w' => e = .returned (.bool true) ∧ w' = w := prefix_says s [40, 41] true (by rw [hs]; rfl)
  have hsl : ∀ wx : World, (Instr.slice 9 (.string (toB s)) (some (.int .i64 2)) none none).run Tryd.prog wx = .ok (.string (toB r)) wx := fun wx => by
    have := slice_from s 2 (by rw [hs]; simp) wx
    rw [hs] at this ⊢
    exact this
  rw [← hs]
  clear hs
  go_enter Tryd.func23, Tryd.ntmps23
  go_wp2_with (first | (go_at_call 32; (with_reducible refine (hp _).mono ?_); rintro e w2 ⟨rfl, rfl⟩))
  go_region
  go_wp2
  refine bodyPost_ret (v := .tuple #[agg4 1 0 ⟨#[]⟩ none 0 0, .string (toB r), .bool true]) (by simp [results, Tryd.results23, go_sem, agg4, *]) rfl ?_
  exact value_leaf (((Below.refl _ _).alloc (Nat.le_refl _) _).drew) 1 0 [] r
theorem index_lt : ∀ r : L, Lib.indexByte r 39 < (r.length : Int)
  | [] => by simp [Lib.indexByte]
  | b :: r => by
    have ih := index_lt r
    unfold Lib.indexByte
    rw [List.length_cons]
    split
    · omega
    · split <;> omega
theorem value_quote (d : Nat) (r : L) (hl : r.length ≤ 90000000) (w : World) : Calls Tryd.prog 23 #[.string (toB (39 :: r)), .int .i64 (d + 1 : Nat)] w (ValueEnds (quotePart r) w) := by
  obtain ⟨s, hs⟩ : ∃ s, s = 39 :: r := ⟨_, rfl⟩
  have hte : (toB s).toList.isEmpty = false := by rw [toB_toList, hs]; rfl
  have htn : (toB s).toList ≠ [] := by rw [toB_toList, hs]; simp
  have hp : ∀ w, Calls Tryd.prog 32 #[.string (toB s), .string ⟨#[40, 41]⟩] w fun e w' => e = .returned (.bool false) ∧ w' = w := prefix_says s [40, 41] false (by rw [hs]; rfl)
  have hix : ∀ wx, (Instr.index 9 (.string (toB s)) (.int .i64 0)).run Tryd.prog wx = .ok (.int .u8 39) wx := by rw [hs]; exact index_head 39 r
  have hsl : ∀ wx : World, (Instr.slice 9 (.string (toB s)) (some (.int .i64 1)) none none).run Tryd.prog wx = .ok (.string (toB r)) wx := fun wx => by
    have := slice_from s 1 (by rw [hs]; simp) wx
    rw [hs] at this ⊢
    exact this
  have hidx : ∀ w, Calls Tryd.prog 33 #[.string (toB r), .int .u8 39] w fun e w' => e = .returned (.int .i64 (Lib.indexByte r 39)) ∧ w' = w := fun w => by
    have := Tryd.strings_IndexByte (toB r) 39 w
    rw [toB_list] at this
    exact this
  unfold quotePart
  by_cases hneg : Lib.indexByte r 39 < 0
  · rw [if_pos hneg]
    generalize Lib.indexByte r 39 = n at hidx hneg
    rw [← hs]
    clear hs
    go_enter Tryd.func23, Tryd.ntmps23
    go_wp2_with (first
      | (go_at_call 32; (with_reducible refine (hp _).mono ?_); rintro e w2 ⟨rfl, rfl⟩)
      | (go_at_call 33; (with_reducible refine (hidx _).mono ?_); rintro e w2 ⟨rfl, rfl⟩))
    refine bodyPost_ret (v := .tuple #[agg4 0 0 ⟨#[]⟩ none 0 0, .string ⟨#[]⟩, .bool false]) (by simp [results, Tryd.results23, go_sem, agg4, *]) rfl ?_
    exact ⟨(Below.refl _ _).alloc (Nat.le_refl _) _, 0, 0, ⟨#[]⟩, none, 0, 0, ⟨#[]⟩, rfl⟩
  · rw [if_neg hneg]
    obtain ⟨n, hn⟩ : ∃ n : Nat, Lib.indexByte r 39 = n := ⟨(Lib.indexByte r 39).toNat, by omega⟩
    have hlt : n < r.length := by have := index_lt r; omega
    rw [hn] at hidx ⊢
    simp only [Int.toNat_natCast]
    have hn0 : ¬ ((n : Int) < 0) := by omega
    have hs1 : ∀ wx : World, (Instr.slice 9 (.string (toB s)) (some (.int .i64 1)) (some (.int .i64 (1 + (n : Int)))) none).run Tryd.prog wx = .ok (.string (toB (r.take n))) wx := fun wx => by
      rw [run_slice_string wx 9 _ .i64 .i64 1 (1 + n) Tryd.underlying9 (by omega) (by omega) (by rw [hs, toB_size, List.length_cons]; omega), Lib.extract_eq, toB_list, hs]
      have e2 : (1 + (n : Int)).toNat = n + 1 := by omega
      rw [e2]
      rfl
    have hs2 : ∀ wx : World, (Instr.slice 9 (.string (toB s)) (some (.int .i64 (2 + (n : Int)))) none none).run Tryd.prog wx = .ok (.string (toB (r.drop (n + 1)))) wx := fun wx => by
      have := slice_from s (n + 2) (by rw [hs, List.length_cons]; omega) wx
      rw [hs] at this ⊢
      rw [show (2 + (n : Int)) = ((n + 2 : Nat) : Int) by omega]
      exact this
    have hw1 : IntKind.i64.wrap (1 + (n : Int)) = 1 + n := IntWalk.i64_in _ (by omega)
    have hw2 : IntKind.i64.wrap (2 + (n : Int)) = 2 + n := IntWalk.i64_in _ (by omega)
    have hpl := fun w => plain_says (toB (r.take n)) w (by rw [toB_size, List.length_take]; unfold maxLen; omega)
    rw [toB_list] at hpl
    unfold BoolIs at hpl
    rw [← hs]
    clear hs hn
    cases hpb : plainL (r.take n) with
    | false =>
      rw [hpb] at hpl
      rw [if_neg (by decide)]
      go_enter Tryd.func23, Tryd.ntmps23
      go_wp2_with (first
        | (go_at_call 32; (with_reducible refine (hp _).mono ?_); rintro e w2 ⟨rfl, rfl⟩)
        | (go_at_call 29; (with_reducible refine (hpl _).mono ?_); rintro e w2 ⟨rfl, rfl⟩)
        | (go_at_call 33; (with_reducible refine (hidx _).mono ?_); rintro e w2 ⟨rfl, rfl⟩))
      refine bodyPost_ret (v := .tuple #[agg4 0 0 ⟨#[]⟩ none 0 0, .string ⟨#[]⟩, .bool false]) (by simp [results, Tryd.results23, go_sem, agg4, *]) rfl ?_
      exact ⟨(Below.refl _ _).alloc (Nat.le_refl _) _, 0, 0, ⟨#[]⟩, none, 0, 0, ⟨#[]⟩, rfl⟩
    | true =>
      rw [hpb] at hpl
      rw [if_pos rfl]
      go_enter Tryd.func23, Tryd.ntmps23
      go_wp2_with (first
        | (go_at_call 32; (with_reducible refine (hp _).mono ?_); rintro e w2 ⟨rfl, rfl⟩)
        | (go_at_call 29; (with_reducible refine (hpl _).mono ?_); rintro e w2 ⟨rfl, rfl⟩)
        | (go_at_call 33; (with_reducible refine (hidx _).mono ?_); rintro e w2 ⟨rfl, rfl⟩))
      go_region
      go_wp2
      refine bodyPost_ret (v := .tuple #[agg4 4 0 (toB (r.take n)) none 0 0, .string (toB (r.drop (n + 1))), .bool true]) (by simp [results, Tryd.results23, go_sem, agg4, *]) rfl ?_
      exact value_leaf (((Below.refl _ _).alloc (Nat.le_refl _) _).drew) 4 0 _ _

theorem headLen_le (s : L) : headLen s ≤ s.length := by unfold headLen; exact (List.takeWhile_sublist _).length_le
/-- Where the word ends. -/
theorem any_head : ∀ s : L, Lib.indexAny s [40, 41, 44] = if headLen s = s.length then -1 else (headLen s : Int)
  | [] => rfl
  | b :: s => by
    have ih := any_head s
    have hle := headLen_le s
    have e : [40, 41, 44].contains b = sepB b := by
      unfold sepB
      simp [List.contains, List.elem, Bool.or_assoc]
      cases hx : (b == 40) <;> cases hy : (b == 41) <;> cases hz : (b == 44) <;> simp_all
    unfold Lib.indexAny
    rw [e]
    cases hb : sepB b with
    | true => simp [headLen, List.takeWhile, hb]
    | false =>
      have e2 : headLen (b :: s) = headLen s + 1 := by simp [headLen, List.takeWhile, hb]
      rw [if_neg (by simp), ih, e2, List.length_cons]
      by_cases h : headLen s = s.length
      · rw [if_pos h, if_pos (show headLen s + 1 = s.length + 1 by omega)]; rfl
      · rw [if_neg h, if_neg (show ¬ headLen s + 1 = s.length + 1 by omega)]
        rw [if_neg (by simp)]
        rfl
theorem num_some (s : L) (k : Int) (hs : s.length ≤ 90000000) (hk : numL s = some k) (w : World) (hE : Env w) : Calls Tryd.prog 21 #[.string (toB s)] w (fun e w' => Below w.heap.size w w' ∧ e = .returned (.tuple #[.int .i64 k, .bool true])) :=
  (number_says (toB s) (by rw [toB_size]; omega) w hE).mono fun e w' ⟨hb, h⟩ => by
    rw [toB_list] at h
    rcases h with ⟨n, h1, _, h2⟩ | ⟨h1, _⟩
    · rw [hk] at h1; injection h1 with h1; subst h1; exact ⟨hb, h2⟩
    · rw [hk] at h1; cases h1
theorem num_none (s : L) (hs : s.length ≤ 90000000) (hk : numL s = none) (w : World) (hE : Env w) : Calls Tryd.prog 21 #[.string (toB s)] w (fun e w' => Below w.heap.size w w' ∧ ∃ k, e = .returned (.tuple #[.int .i64 k, .bool false])) :=
  (number_says (toB s) (by rw [toB_size]; omega) w hE).mono fun e w' ⟨hb, h⟩ => by
    rw [toB_list] at h
    rcases h with ⟨n, h1, _, h2⟩ | ⟨h1, k, h2⟩
    · rw [hk] at h1; cases h1
    · exact ⟨hb, k, h2⟩
set_option maxHeartbeats 4000000 in
theorem value_wordpart (d : Nat) (hV : ∀ (w rest : L) (W : World), w.length ≤ 90000000 → rest.length ≤ 90000000 → Env W → nameL w = true → Calls Tryd.prog 35 #[agg4 5 0 (toB w) none 0 0, .string (toB rest), .int .i64 ((d : Int) + 1)] W (ValueEnds (partsL (valueL d) w rest) W))
    (c : UInt8) (r : L) (hl : (c :: r).length ≤ 90000000) (hc : c.toNat ≠ 39) (hc2 : ∀ r', c :: r ≠ 40 :: 41 :: r') (w : World) (hE : Env w) :
    Calls Tryd.prog 23 #[.string (toB (c :: r)), .int .i64 (d + 1 : Nat)] w (ValueEnds (wordPart (valueL d) ((c :: r).take (headLen (c :: r))) ((c :: r).drop (headLen (c :: r)))) w) := by
  obtain ⟨s, hs⟩ : ∃ s, s = c :: r := ⟨_, rfl⟩
  have hte : (toB s).toList.isEmpty = false := by rw [toB_toList, hs]; rfl
  have htn : (toB s).toList ≠ [] := by rw [toB_toList, hs]; simp
  have hp : ∀ w, Calls Tryd.prog 32 #[.string (toB s), .string ⟨#[40, 41]⟩] w fun e w' => e = .returned (.bool false) ∧ w' = w := prefix_says s [40, 41] false (by
    rw [hs]
    cases r with
    | nil => simp [Lib.hasPrefix, List.isPrefixOf]
    | cons b r =>
      simp only [Lib.hasPrefix, List.isPrefixOf]
      cases h1 : ((40 : UInt8) == c) with
      | false => rfl
      | true =>
        cases h2 : ((41 : UInt8) == b) with
        | false => rfl
        | true =>
          have e1 : 40 = c := by simpa using h1
          have e2 : 41 = b := by simpa using h2
          subst e1 e2
          exact absurd rfl (hc2 r))
  have hix : ∀ wx, (Instr.index 9 (.string (toB s)) (.int .i64 0)).run Tryd.prog wx = .ok (.int .u8 (c.toNat : Int)) wx := by rw [hs]; exact index_head c r
  have hne : ((c.toNat : Int) == 39) = false := by simp; omega
  have hany : ∀ w, Calls Tryd.prog 34 #[.string (toB s), .string ⟨#[40, 41, 44]⟩] w fun e w' => e = .returned (.int .i64 (Lib.indexAny s [40, 41, 44])) ∧ Below w.heap.size w w' := fun w => by
    have := any_says (toB s) (by rw [toB_size, hs]; omega) w
    unfold AnyEnds at this
    rw [toB_list] at this
    exact this
  rw [any_head] at hany
  have hhl := headLen_le s
  obtain ⟨n, hn⟩ : ∃ n, n = headLen s := ⟨_, rfl⟩
  rw [← hs, ← hn]
  rw [← hn] at hany hhl
  have hsl : s.length ≤ 90000000 := by rw [hs]; exact hl
  have hst := slice_to s n hhl
  have hsf := slice_from s n hhl
  obtain ⟨word, hword⟩ : ∃ word, word = s.take n := ⟨_, rfl⟩
  obtain ⟨rest, hrest⟩ : ∃ rest, rest = s.drop n := ⟨_, rfl⟩
  have hwl : word.length ≤ 90000000 := by rw [hword, List.length_take]; omega
  have hrl : rest.length ≤ 90000000 := by rw [hrest, List.length_drop]; omega
  rw [← hword] at hst ⊢
  rw [← hrest] at hsf ⊢
  have HE := Lib.hid hE
  have hsz : (toB s).size = s.length := toB_size s
  clear hc2 hc hn hword hrest hl hs hE
  unfold wordPart
  by_cases h1 : word = [116, 114, 117, 101]
  · rw [if_pos h1]
    have ht : (toB word).toList = [116, 114, 117, 101] := by rw [toB_toList, h1]
    clear h1
    by_cases hnl : n = s.length
    · rw [if_pos hnl] at hany
      subst hnl
      go_enter Tryd.func23, Tryd.ntmps23
      go_wp2_with (first
        | (go_at_call 32; (with_reducible refine (hp _).mono ?_); rintro e w2 ⟨rfl, rfl⟩)
        | (go_at_call 34; (with_reducible refine (hany _).mono ?_); rintro e w2 ⟨rfl, hb2⟩
           have hbw : Below w.heap.size w w2 := ((Below.refl _ _).alloc (Nat.le_refl _) _).trans (hb2.mono (by simp))
           have ho := Own4.keep (z := w.heap.size) (e := 34) (v0 := .int .i64 0) (v1 := .int .i64 0) (v2 := .string ⟨#[]⟩) (v3 := .slice none 0 0) (heap_alloc_new w _) hb2
           obtain ⟨⟨o0, o1, o2, o3⟩, f0, f1, f2, f3⟩ := ho.cells))
      go_quiet (fail)
      go_wp2
      refine bodyPost_ret (v := .tuple #[agg4 3 1 (toB []) none 0 0, .string (toB rest), .bool true]) (by simp [results, Tryd.results23, go_sem, agg4, *]; rfl) rfl ?_
      exact value_leaf (fill4_below (below_drewN' hbw _) (Nat.le_refl _) _ _ _ _) 3 1 [] rest
    · rw [if_neg hnl] at hany
      have hn0 : ¬ ((n : Int) < 0) := by omega
      go_enter Tryd.func23, Tryd.ntmps23
      go_wp2_with (first
        | (go_at_call 32; (with_reducible refine (hp _).mono ?_); rintro e w2 ⟨rfl, rfl⟩)
        | (go_at_call 34; (with_reducible refine (hany _).mono ?_); rintro e w2 ⟨rfl, hb2⟩
           have hbw : Below w.heap.size w w2 := ((Below.refl _ _).alloc (Nat.le_refl _) _).trans (hb2.mono (by simp))
           have ho := Own4.keep (z := w.heap.size) (e := 34) (v0 := .int .i64 0) (v1 := .int .i64 0) (v2 := .string ⟨#[]⟩) (v3 := .slice none 0 0) (heap_alloc_new w _) hb2
           obtain ⟨⟨o0, o1, o2, o3⟩, f0, f1, f2, f3⟩ := ho.cells))
      go_quiet (fail)
      go_wp2
      refine bodyPost_ret (v := .tuple #[agg4 3 1 (toB []) none 0 0, .string (toB rest), .bool true]) (by simp [results, Tryd.results23, go_sem, agg4, *]; rfl) rfl ?_
      exact value_leaf (fill4_below (below_drewN' hbw _) (Nat.le_refl _) _ _ _ _) 3 1 [] rest
  rw [if_neg h1]
  have e1 : ((toB word).toList == [116, 114, 117, 101]) = false := by rw [toB_toList]; simpa using h1
  have e1' : (toB word).toList ≠ [116, 114, 117, 101] := by rw [toB_toList]; exact h1
  clear h1
  by_cases h1 : word = [102, 97, 108, 115, 101]
  · rw [if_pos h1]
    have ht : (toB word).toList = [102, 97, 108, 115, 101] := by rw [toB_toList, h1]
    clear h1
    by_cases hnl : n = s.length
    · rw [if_pos hnl] at hany
      subst hnl
      go_enter Tryd.func23, Tryd.ntmps23
      go_wp2_with (first
        | (go_at_call 32; (with_reducible refine (hp _).mono ?_); rintro e w2 ⟨rfl, rfl⟩)
        | (go_at_call 34; (with_reducible refine (hany _).mono ?_); rintro e w2 ⟨rfl, hb2⟩
           have hbw : Below w.heap.size w w2 := ((Below.refl _ _).alloc (Nat.le_refl _) _).trans (hb2.mono (by simp))
           have ho := Own4.keep (z := w.heap.size) (e := 34) (v0 := .int .i64 0) (v1 := .int .i64 0) (v2 := .string ⟨#[]⟩) (v3 := .slice none 0 0) (heap_alloc_new w _) hb2
           obtain ⟨⟨o0, o1, o2, o3⟩, f0, f1, f2, f3⟩ := ho.cells))
      go_quiet (fail)
      go_wp2
      refine bodyPost_ret (v := .tuple #[agg4 3 0 (toB []) none 0 0, .string (toB rest), .bool true]) (by simp [results, Tryd.results23, go_sem, agg4, *]; rfl) rfl ?_
      exact value_leaf (fill4_below (below_drewN' hbw _) (Nat.le_refl _) _ _ _ _) 3 0 [] rest
    · rw [if_neg hnl] at hany
      have hn0 : ¬ ((n : Int) < 0) := by omega
      go_enter Tryd.func23, Tryd.ntmps23
      go_wp2_with (first
        | (go_at_call 32; (with_reducible refine (hp _).mono ?_); rintro e w2 ⟨rfl, rfl⟩)
        | (go_at_call 34; (with_reducible refine (hany _).mono ?_); rintro e w2 ⟨rfl, hb2⟩
           have hbw : Below w.heap.size w w2 := ((Below.refl _ _).alloc (Nat.le_refl _) _).trans (hb2.mono (by simp))
           have ho := Own4.keep (z := w.heap.size) (e := 34) (v0 := .int .i64 0) (v1 := .int .i64 0) (v2 := .string ⟨#[]⟩) (v3 := .slice none 0 0) (heap_alloc_new w _) hb2
           obtain ⟨⟨o0, o1, o2, o3⟩, f0, f1, f2, f3⟩ := ho.cells))
      go_quiet (fail)
      go_wp2
      refine bodyPost_ret (v := .tuple #[agg4 3 0 (toB []) none 0 0, .string (toB rest), .bool true]) (by simp [results, Tryd.results23, go_sem, agg4, *]; rfl) rfl ?_
      exact value_leaf (fill4_below (below_drewN' hbw _) (Nat.le_refl _) _ _ _ _) 3 0 [] rest
  rw [if_neg h1]
  have e2 : ((toB word).toList == [102, 97, 108, 115, 101]) = false := by rw [toB_toList]; simpa using h1
  have e2' : (toB word).toList ≠ [102, 97, 108, 115, 101] := by rw [toB_toList]; exact h1
  clear h1
  have hname := fun w => name_says (toB word) w (by rw [toB_size]; unfold maxLen; omega)
  rw [toB_list] at hname
  unfold BoolIs at hname
  cases hnb : nameL word with
  | true =>
    rw [if_pos rfl]
    rw [hnb] at hname
    have hV2 := fun W hW => hV word rest W hwl hrl hW hnb
    clear hV
    cases hR : partsL (valueL d) word rest with
    | none =>
      rw [hR] at hV2
      by_cases hnl : n = s.length
      · rw [if_pos hnl] at hany
        subst hnl
        go_enter Tryd.func23, Tryd.ntmps23
        go_wp2_with (first
          | (go_at_call 32; (with_reducible refine (hp _).mono ?_); rintro e w2 ⟨rfl, rfl⟩)
          | (go_at_call 34; (with_reducible refine (hany _).mono ?_); rintro e w2 ⟨rfl, hb2⟩
             have hbw : Below w.heap.size w w2 := ((Below.refl _ _).alloc (Nat.le_refl _) _).trans (hb2.mono (by simp))
             have ho := Own4.keep (z := w.heap.size) (e := 34) (v0 := .int .i64 0) (v1 := .int .i64 0) (v2 := .string ⟨#[]⟩) (v3 := .slice none 0 0) (heap_alloc_new w _) hb2
             obtain ⟨⟨o0, o1, o2, o3⟩, f0, f1, f2, f3⟩ := ho.cells))
        go_quiet (fail)
        go_wp2_with (first
          | (go_at_call 30; (with_reducible refine (hname _).mono ?_); rintro e w4 ⟨rfl, rfl⟩)
          | (go_at_call 35; (with_reducible refine (hV2 _ (HE.out.keep (below_drewN' hbw nq))).mono ?_); rintro e w4 ⟨hb4, k4, n4, t4, A4, m4, c4, s4, rfl⟩
             have ho4 := Own4.keep (w := w2.drewN nq) ho hb4
             obtain ⟨⟨q0, q1, q2, q3⟩, g0, g1, g2, g3⟩ := ho4.cells
             have hbw4 : Below w.heap.size w w4 := (below_drewN' hbw nq).trans (hb4.mono hbw.size)))
        refine bodyPost_ret (v := .tuple #[agg4 k4 n4 t4 A4 m4 c4, .string s4, .bool false]) (by simp [results, Tryd.results23, go_sem, agg4, *]) rfl ?_
        exact ⟨fill4_below hbw4 (Nat.le_refl _) _ _ _ _, k4, n4, t4, A4, m4, c4, s4, rfl⟩
      · rw [if_neg hnl] at hany
        have hn0 : ¬ ((n : Int) < 0) := by omega
        go_enter Tryd.func23, Tryd.ntmps23
        go_wp2_with (first
          | (go_at_call 32; (with_reducible refine (hp _).mono ?_); rintro e w2 ⟨rfl, rfl⟩)
          | (go_at_call 34; (with_reducible refine (hany _).mono ?_); rintro e w2 ⟨rfl, hb2⟩
             have hbw : Below w.heap.size w w2 := ((Below.refl _ _).alloc (Nat.le_refl _) _).trans (hb2.mono (by simp))
             have ho := Own4.keep (z := w.heap.size) (e := 34) (v0 := .int .i64 0) (v1 := .int .i64 0) (v2 := .string ⟨#[]⟩) (v3 := .slice none 0 0) (heap_alloc_new w _) hb2
             obtain ⟨⟨o0, o1, o2, o3⟩, f0, f1, f2, f3⟩ := ho.cells))
        go_quiet (fail)
        go_wp2_with (first
          | (go_at_call 30; (with_reducible refine (hname _).mono ?_); rintro e w4 ⟨rfl, rfl⟩)
          | (go_at_call 35; (with_reducible refine (hV2 _ (HE.out.keep (below_drewN' hbw nq))).mono ?_); rintro e w4 ⟨hb4, k4, n4, t4, A4, m4, c4, s4, rfl⟩
             have ho4 := Own4.keep (w := w2.drewN nq) ho hb4
             obtain ⟨⟨q0, q1, q2, q3⟩, g0, g1, g2, g3⟩ := ho4.cells
             have hbw4 : Below w.heap.size w w4 := (below_drewN' hbw nq).trans (hb4.mono hbw.size)))
        refine bodyPost_ret (v := .tuple #[agg4 k4 n4 t4 A4 m4 c4, .string s4, .bool false]) (by simp [results, Tryd.results23, go_sem, agg4, *]) rfl ?_
        exact ⟨fill4_below hbw4 (Nat.le_refl _) _ _ _ _, k4, n4, t4, A4, m4, c4, s4, rfl⟩
    | some x =>
      obtain ⟨v, more⟩ := x
      rw [hR] at hV2
      by_cases hnl : n = s.length
      · rw [if_pos hnl] at hany
        subst hnl
        go_enter Tryd.func23, Tryd.ntmps23
        go_wp2_with (first
          | (go_at_call 32; (with_reducible refine (hp _).mono ?_); rintro e w2 ⟨rfl, rfl⟩)
          | (go_at_call 34; (with_reducible refine (hany _).mono ?_); rintro e w2 ⟨rfl, hb2⟩
             have hbw : Below w.heap.size w w2 := ((Below.refl _ _).alloc (Nat.le_refl _) _).trans (hb2.mono (by simp))
             have ho := Own4.keep (z := w.heap.size) (e := 34) (v0 := .int .i64 0) (v1 := .int .i64 0) (v2 := .string ⟨#[]⟩) (v3 := .slice none 0 0) (heap_alloc_new w _) hb2
             obtain ⟨⟨o0, o1, o2, o3⟩, f0, f1, f2, f3⟩ := ho.cells))
        go_quiet (fail)
        go_wp2_with (first
          | (go_at_call 30; (with_reducible refine (hname _).mono ?_); rintro e w4 ⟨rfl, rfl⟩)
          | (go_at_call 35; (with_reducible refine (hV2 _ (HE.out.keep (below_drewN' hbw nq))).mono ?_); rintro e w4 ⟨hb4, A4, c4, rfl, hrow, hc4, hc4'⟩
             have ho4 := Own4.keep (w := w2.drewN nq) ho hb4
             obtain ⟨⟨q0, q1, q2, q3⟩, g0, g1, g2, g3⟩ := ho4.cells
             have hbw4 : Below w.heap.size w w4 := (below_drewN' hbw nq).trans (hb4.mono hbw.size)))
        refine bodyPost_ret (v := .tuple #[agg4 v.k v.n v.t A4 v.a.len c4, .string (toB more), .bool true]) (by simp [results, Tryd.results23, go_sem, agg4, *]) rfl ?_
        exact ⟨fill4_below hbw4 (Nat.le_refl _) _ _ _ _, A4, c4, rfl, row_fill hrow (Nat.le_refl _) ho.lt _ _ _ _, hc4, hc4'⟩
      · rw [if_neg hnl] at hany
        have hn0 : ¬ ((n : Int) < 0) := by omega
        go_enter Tryd.func23, Tryd.ntmps23
        go_wp2_with (first
          | (go_at_call 32; (with_reducible refine (hp _).mono ?_); rintro e w2 ⟨rfl, rfl⟩)
          | (go_at_call 34; (with_reducible refine (hany _).mono ?_); rintro e w2 ⟨rfl, hb2⟩
             have hbw : Below w.heap.size w w2 := ((Below.refl _ _).alloc (Nat.le_refl _) _).trans (hb2.mono (by simp))
             have ho := Own4.keep (z := w.heap.size) (e := 34) (v0 := .int .i64 0) (v1 := .int .i64 0) (v2 := .string ⟨#[]⟩) (v3 := .slice none 0 0) (heap_alloc_new w _) hb2
             obtain ⟨⟨o0, o1, o2, o3⟩, f0, f1, f2, f3⟩ := ho.cells))
        go_quiet (fail)
        go_wp2_with (first
          | (go_at_call 30; (with_reducible refine (hname _).mono ?_); rintro e w4 ⟨rfl, rfl⟩)
          | (go_at_call 35; (with_reducible refine (hV2 _ (HE.out.keep (below_drewN' hbw nq))).mono ?_); rintro e w4 ⟨hb4, A4, c4, rfl, hrow, hc4, hc4'⟩
             have ho4 := Own4.keep (w := w2.drewN nq) ho hb4
             obtain ⟨⟨q0, q1, q2, q3⟩, g0, g1, g2, g3⟩ := ho4.cells
             have hbw4 : Below w.heap.size w w4 := (below_drewN' hbw nq).trans (hb4.mono hbw.size)))
        refine bodyPost_ret (v := .tuple #[agg4 v.k v.n v.t A4 v.a.len c4, .string (toB more), .bool true]) (by simp [results, Tryd.results23, go_sem, agg4, *]) rfl ?_
        exact ⟨fill4_below hbw4 (Nat.le_refl _) _ _ _ _, A4, c4, rfl, row_fill hrow (Nat.le_refl _) ho.lt _ _ _ _, hc4, hc4'⟩
  | false =>
    rw [if_neg (by decide)]
    rw [hnb] at hname
    clear hnb hV
    cases word with
    | nil =>
      have ez : toB [] = ⟨#[]⟩ := rfl
      have hk : numL [] = none := rfl
      have hnum : ∀ W, Env W → Calls Tryd.prog 21 #[.string ⟨#[]⟩] W (fun e w' => Below W.heap.size W w' ∧ ∃ k, e = .returned (.tuple #[.int .i64 k, .bool false])) := fun W hE => num_none [] (by decide) hk W hE
      have hres : numberL [] rest = none := rfl
      rw [hres]
      clear hres hk
      rw [ez] at hname hst e1 e1' e2 e2'
      by_cases hnl : n = s.length
      · rw [if_pos hnl] at hany
        subst hnl
        go_enter Tryd.func23, Tryd.ntmps23
        go_wp2_with (first
          | (go_at_call 32; (with_reducible refine (hp _).mono ?_); rintro e w2 ⟨rfl, rfl⟩)
          | (go_at_call 34; (with_reducible refine (hany _).mono ?_); rintro e w2 ⟨rfl, hb2⟩
             have hbw : Below w.heap.size w w2 := ((Below.refl _ _).alloc (Nat.le_refl _) _).trans (hb2.mono (by simp))
             have ho := Own4.keep (z := w.heap.size) (e := 34) (v0 := .int .i64 0) (v1 := .int .i64 0) (v2 := .string ⟨#[]⟩) (v3 := .slice none 0 0) (heap_alloc_new w _) hb2
             obtain ⟨⟨o0, o1, o2, o3⟩, f0, f1, f2, f3⟩ := ho.cells))
        go_quiet (fail)
        go_wp2_with (first
          | (go_at_call 30; (with_reducible refine (hname _).mono ?_); rintro e w4 ⟨rfl, rfl⟩)
          | (go_at_call 21; (with_reducible refine (hnum _ (HE.out.keep (below_drewN' hbw nq))).mono ?_); rintro e w4 ⟨hb4, k, rfl⟩
             have ho4 := Own4.keep (w := w2.drewN nq) ho hb4
             obtain ⟨⟨q0, q1, q2, q3⟩, g0, g1, g2, g3⟩ := ho4.cells
             have hbw4 : Below w.heap.size w w4 := (below_drewN' hbw nq).trans (hb4.mono hbw.size)))
        refine bodyPost_ret (v := .tuple #[agg4 2 k (toB []) none 0 0, .string (toB rest), .bool false]) (by simp [results, Tryd.results23, go_sem, agg4, *]) rfl ?_
        exact ⟨fill4_below hbw4 (Nat.le_refl _) _ _ _ _, 2, k, toB [], none, 0, 0, toB rest, rfl⟩
      · rw [if_neg hnl] at hany
        have hn0 : ¬ ((n : Int) < 0) := by omega
        go_enter Tryd.func23, Tryd.ntmps23
        go_wp2_with (first
          | (go_at_call 32; (with_reducible refine (hp _).mono ?_); rintro e w2 ⟨rfl, rfl⟩)
          | (go_at_call 34; (with_reducible refine (hany _).mono ?_); rintro e w2 ⟨rfl, hb2⟩
             have hbw : Below w.heap.size w w2 := ((Below.refl _ _).alloc (Nat.le_refl _) _).trans (hb2.mono (by simp))
             have ho := Own4.keep (z := w.heap.size) (e := 34) (v0 := .int .i64 0) (v1 := .int .i64 0) (v2 := .string ⟨#[]⟩) (v3 := .slice none 0 0) (heap_alloc_new w _) hb2
             obtain ⟨⟨o0, o1, o2, o3⟩, f0, f1, f2, f3⟩ := ho.cells))
        go_quiet (fail)
        go_wp2_with (first
          | (go_at_call 30; (with_reducible refine (hname _).mono ?_); rintro e w4 ⟨rfl, rfl⟩)
          | (go_at_call 21; (with_reducible refine (hnum _ (HE.out.keep (below_drewN' hbw nq))).mono ?_); rintro e w4 ⟨hb4, k, rfl⟩
             have ho4 := Own4.keep (w := w2.drewN nq) ho hb4
             obtain ⟨⟨q0, q1, q2, q3⟩, g0, g1, g2, g3⟩ := ho4.cells
             have hbw4 : Below w.heap.size w w4 := (below_drewN' hbw nq).trans (hb4.mono hbw.size)))
        refine bodyPost_ret (v := .tuple #[agg4 2 k (toB []) none 0 0, .string (toB rest), .bool false]) (by simp [results, Tryd.results23, go_sem, agg4, *]) rfl ?_
        exact ⟨fill4_below hbw4 (Nat.le_refl _) _ _ _ _, 2, k, toB [], none, 0, 0, toB rest, rfl⟩
    | cons b word =>
      have hwe : (toB (b :: word)).toList.isEmpty = false := by rw [toB_toList]; rfl
      have hwn : (toB (b :: word)).toList ≠ [] := by rw [toB_toList]; simp
      have hwi := index_head b word
      by_cases hb64 : b = 64
      · subst hb64
        have hws : ∀ wx : World, (Instr.slice 9 (.string (toB (64 :: word))) (some (.int .i64 1)) none none).run Tryd.prog wx = .ok (.string (toB word)) wx := fun wx => slice_from (64 :: word) 1 (by simp) wx
        have hwi : ∀ wx, (Instr.index 9 (.string (toB (64 :: word))) (.int .i64 0)).run Tryd.prog wx = .ok (.int .u8 64) wx := hwi
        have hres : numberL (64 :: word) rest = match numL word with | some k => some (⟨6, k, toB [], .nil⟩, rest) | none => none := rfl
        rw [hres]
        clear hres
        cases hk : numL word with
        | none =>
          have hnum := fun W hE => num_none word (by first | decide | (simp at hwl ⊢; omega)) hk W hE
          clear hk
          simp only []
          by_cases hnl : n = s.length
          · rw [if_pos hnl] at hany
            subst hnl
            go_enter Tryd.func23, Tryd.ntmps23
            go_wp2_with (first
              | (go_at_call 32; (with_reducible refine (hp _).mono ?_); rintro e w2 ⟨rfl, rfl⟩)
              | (go_at_call 34; (with_reducible refine (hany _).mono ?_); rintro e w2 ⟨rfl, hb2⟩
                 have hbw : Below w.heap.size w w2 := ((Below.refl _ _).alloc (Nat.le_refl _) _).trans (hb2.mono (by simp))
                 have ho := Own4.keep (z := w.heap.size) (e := 34) (v0 := .int .i64 0) (v1 := .int .i64 0) (v2 := .string ⟨#[]⟩) (v3 := .slice none 0 0) (heap_alloc_new w _) hb2
                 obtain ⟨⟨o0, o1, o2, o3⟩, f0, f1, f2, f3⟩ := ho.cells))
            go_quiet (fail)
            go_wp2_with (first
              | (go_at_call 30; (with_reducible refine (hname _).mono ?_); rintro e w4 ⟨rfl, rfl⟩)
              | (go_at_call 21; (with_reducible refine (hnum _ (HE.out.keep (below_drewN' hbw nq))).mono ?_); rintro e w4 ⟨hb4, k, rfl⟩
                 have ho4 := Own4.keep (w := w2.drewN nq) ho hb4
                 obtain ⟨⟨q0, q1, q2, q3⟩, g0, g1, g2, g3⟩ := ho4.cells
                 have hbw4 : Below w.heap.size w w4 := (below_drewN' hbw nq).trans (hb4.mono hbw.size)))
            refine bodyPost_ret (v := .tuple #[agg4 6 k (toB []) none 0 0, .string (toB rest), .bool false]) (by simp [results, Tryd.results23, go_sem, agg4, *]; rfl) rfl ?_
            exact ⟨fill4_below hbw4 (Nat.le_refl _) _ _ _ _, 6, k, toB [], none, 0, 0, toB rest, rfl⟩
          · rw [if_neg hnl] at hany
            have hn0 : ¬ ((n : Int) < 0) := by omega
            go_enter Tryd.func23, Tryd.ntmps23
            go_wp2_with (first
              | (go_at_call 32; (with_reducible refine (hp _).mono ?_); rintro e w2 ⟨rfl, rfl⟩)
              | (go_at_call 34; (with_reducible refine (hany _).mono ?_); rintro e w2 ⟨rfl, hb2⟩
                 have hbw : Below w.heap.size w w2 := ((Below.refl _ _).alloc (Nat.le_refl _) _).trans (hb2.mono (by simp))
                 have ho := Own4.keep (z := w.heap.size) (e := 34) (v0 := .int .i64 0) (v1 := .int .i64 0) (v2 := .string ⟨#[]⟩) (v3 := .slice none 0 0) (heap_alloc_new w _) hb2
                 obtain ⟨⟨o0, o1, o2, o3⟩, f0, f1, f2, f3⟩ := ho.cells))
            go_quiet (fail)
            go_wp2_with (first
              | (go_at_call 30; (with_reducible refine (hname _).mono ?_); rintro e w4 ⟨rfl, rfl⟩)
              | (go_at_call 21; (with_reducible refine (hnum _ (HE.out.keep (below_drewN' hbw nq))).mono ?_); rintro e w4 ⟨hb4, k, rfl⟩
                 have ho4 := Own4.keep (w := w2.drewN nq) ho hb4
                 obtain ⟨⟨q0, q1, q2, q3⟩, g0, g1, g2, g3⟩ := ho4.cells
                 have hbw4 : Below w.heap.size w w4 := (below_drewN' hbw nq).trans (hb4.mono hbw.size)))
            refine bodyPost_ret (v := .tuple #[agg4 6 k (toB []) none 0 0, .string (toB rest), .bool false]) (by simp [results, Tryd.results23, go_sem, agg4, *]; rfl) rfl ?_
            exact ⟨fill4_below hbw4 (Nat.le_refl _) _ _ _ _, 6, k, toB [], none, 0, 0, toB rest, rfl⟩
        | some k =>
          have hnum := fun W hE => num_some word k (by first | decide | (simp at hwl ⊢; omega)) hk W hE
          clear hk
          simp only []
          by_cases hnl : n = s.length
          · rw [if_pos hnl] at hany
            subst hnl
            go_enter Tryd.func23, Tryd.ntmps23
            go_wp2_with (first
              | (go_at_call 32; (with_reducible refine (hp _).mono ?_); rintro e w2 ⟨rfl, rfl⟩)
              | (go_at_call 34; (with_reducible refine (hany _).mono ?_); rintro e w2 ⟨rfl, hb2⟩
                 have hbw : Below w.heap.size w w2 := ((Below.refl _ _).alloc (Nat.le_refl _) _).trans (hb2.mono (by simp))
                 have ho := Own4.keep (z := w.heap.size) (e := 34) (v0 := .int .i64 0) (v1 := .int .i64 0) (v2 := .string ⟨#[]⟩) (v3 := .slice none 0 0) (heap_alloc_new w _) hb2
                 obtain ⟨⟨o0, o1, o2, o3⟩, f0, f1, f2, f3⟩ := ho.cells))
            go_quiet (fail)
            go_wp2_with (first
              | (go_at_call 30; (with_reducible refine (hname _).mono ?_); rintro e w4 ⟨rfl, rfl⟩)
              | (go_at_call 21; (with_reducible refine (hnum _ (HE.out.keep (below_drewN' hbw nq))).mono ?_); rintro e w4 ⟨hb4, rfl⟩
                 have ho4 := Own4.keep (w := w2.drewN nq) ho hb4
                 obtain ⟨⟨q0, q1, q2, q3⟩, g0, g1, g2, g3⟩ := ho4.cells
                 have hbw4 : Below w.heap.size w w4 := (below_drewN' hbw nq).trans (hb4.mono hbw.size)))
            refine bodyPost_ret (v := .tuple #[agg4 6 k (toB []) none 0 0, .string (toB rest), .bool true]) (by simp [results, Tryd.results23, go_sem, agg4, *]; rfl) rfl ?_
            exact value_leaf (fill4_below hbw4 (Nat.le_refl _) _ _ _ _) 6 k [] rest
          · rw [if_neg hnl] at hany
            have hn0 : ¬ ((n : Int) < 0) := by omega
            go_enter Tryd.func23, Tryd.ntmps23
            go_wp2_with (first
              | (go_at_call 32; (with_reducible refine (hp _).mono ?_); rintro e w2 ⟨rfl, rfl⟩)
              | (go_at_call 34; (with_reducible refine (hany _).mono ?_); rintro e w2 ⟨rfl, hb2⟩
                 have hbw : Below w.heap.size w w2 := ((Below.refl _ _).alloc (Nat.le_refl _) _).trans (hb2.mono (by simp))
                 have ho := Own4.keep (z := w.heap.size) (e := 34) (v0 := .int .i64 0) (v1 := .int .i64 0) (v2 := .string ⟨#[]⟩) (v3 := .slice none 0 0) (heap_alloc_new w _) hb2
                 obtain ⟨⟨o0, o1, o2, o3⟩, f0, f1, f2, f3⟩ := ho.cells))
            go_quiet (fail)
            go_wp2_with (first
              | (go_at_call 30; (with_reducible refine (hname _).mono ?_); rintro e w4 ⟨rfl, rfl⟩)
              | (go_at_call 21; (with_reducible refine (hnum _ (HE.out.keep (below_drewN' hbw nq))).mono ?_); rintro e w4 ⟨hb4, rfl⟩
                 have ho4 := Own4.keep (w := w2.drewN nq) ho hb4
                 obtain ⟨⟨q0, q1, q2, q3⟩, g0, g1, g2, g3⟩ := ho4.cells
                 have hbw4 : Below w.heap.size w w4 := (below_drewN' hbw nq).trans (hb4.mono hbw.size)))
            refine bodyPost_ret (v := .tuple #[agg4 6 k (toB []) none 0 0, .string (toB rest), .bool true]) (by simp [results, Tryd.results23, go_sem, agg4, *]; rfl) rfl ?_
            exact value_leaf (fill4_below hbw4 (Nat.le_refl _) _ _ _ _) 6 k [] rest
      · have hbn : ((b.toNat : Int) == 64) = false := byte_ne 64 (by decide) hb64
        have hres : numberL (b :: word) rest = match numL (b :: word) with | some k => some (⟨2, k, toB [], .nil⟩, rest) | none => none := by
          unfold numberL
          split
          · next h => injection h with h _; exact absurd h hb64
          · rfl
        rw [hres]
        clear hb64 hres
        cases hk : numL (b :: word) with
        | none =>
          have hnum := fun W hE => num_none (b :: word) (by first | decide | (simp at hwl ⊢; omega)) hk W hE
          clear hk
          simp only []
          by_cases hnl : n = s.length
          · rw [if_pos hnl] at hany
            subst hnl
            go_enter Tryd.func23, Tryd.ntmps23
            go_wp2_with (first
              | (go_at_call 32; (with_reducible refine (hp _).mono ?_); rintro e w2 ⟨rfl, rfl⟩)
              | (go_at_call 34; (with_reducible refine (hany _).mono ?_); rintro e w2 ⟨rfl, hb2⟩
                 have hbw : Below w.heap.size w w2 := ((Below.refl _ _).alloc (Nat.le_refl _) _).trans (hb2.mono (by simp))
                 have ho := Own4.keep (z := w.heap.size) (e := 34) (v0 := .int .i64 0) (v1 := .int .i64 0) (v2 := .string ⟨#[]⟩) (v3 := .slice none 0 0) (heap_alloc_new w _) hb2
                 obtain ⟨⟨o0, o1, o2, o3⟩, f0, f1, f2, f3⟩ := ho.cells))
            go_quiet (fail)
            go_wp2_with (first
              | (go_at_call 30; (with_reducible refine (hname _).mono ?_); rintro e w4 ⟨rfl, rfl⟩)
              | (go_at_call 21; (with_reducible refine (hnum _ (HE.out.keep (below_drewN' hbw nq))).mono ?_); rintro e w4 ⟨hb4, k, rfl⟩
                 have ho4 := Own4.keep (w := w2.drewN nq) ho hb4
                 obtain ⟨⟨q0, q1, q2, q3⟩, g0, g1, g2, g3⟩ := ho4.cells
                 have hbw4 : Below w.heap.size w w4 := (below_drewN' hbw nq).trans (hb4.mono hbw.size)))
            refine bodyPost_ret (v := .tuple #[agg4 2 k (toB []) none 0 0, .string (toB rest), .bool false]) (by simp [results, Tryd.results23, go_sem, agg4, *]; rfl) rfl ?_
            exact ⟨fill4_below hbw4 (Nat.le_refl _) _ _ _ _, 2, k, toB [], none, 0, 0, toB rest, rfl⟩
          · rw [if_neg hnl] at hany
            have hn0 : ¬ ((n : Int) < 0) := by omega
            go_enter Tryd.func23, Tryd.ntmps23
            go_wp2_with (first
              | (go_at_call 32; (with_reducible refine (hp _).mono ?_); rintro e w2 ⟨rfl, rfl⟩)
              | (go_at_call 34; (with_reducible refine (hany _).mono ?_); rintro e w2 ⟨rfl, hb2⟩
                 have hbw : Below w.heap.size w w2 := ((Below.refl _ _).alloc (Nat.le_refl _) _).trans (hb2.mono (by simp))
                 have ho := Own4.keep (z := w.heap.size) (e := 34) (v0 := .int .i64 0) (v1 := .int .i64 0) (v2 := .string ⟨#[]⟩) (v3 := .slice none 0 0) (heap_alloc_new w _) hb2
                 obtain ⟨⟨o0, o1, o2, o3⟩, f0, f1, f2, f3⟩ := ho.cells))
            go_quiet (fail)
            go_wp2_with (first
              | (go_at_call 30; (with_reducible refine (hname _).mono ?_); rintro e w4 ⟨rfl, rfl⟩)
              | (go_at_call 21; (with_reducible refine (hnum _ (HE.out.keep (below_drewN' hbw nq))).mono ?_); rintro e w4 ⟨hb4, k, rfl⟩
                 have ho4 := Own4.keep (w := w2.drewN nq) ho hb4
                 obtain ⟨⟨q0, q1, q2, q3⟩, g0, g1, g2, g3⟩ := ho4.cells
                 have hbw4 : Below w.heap.size w w4 := (below_drewN' hbw nq).trans (hb4.mono hbw.size)))
            refine bodyPost_ret (v := .tuple #[agg4 2 k (toB []) none 0 0, .string (toB rest), .bool false]) (by simp [results, Tryd.results23, go_sem, agg4, *]; rfl) rfl ?_
            exact ⟨fill4_below hbw4 (Nat.le_refl _) _ _ _ _, 2, k, toB [], none, 0, 0, toB rest, rfl⟩
        | some k =>
          have hnum := fun W hE => num_some (b :: word) k (by first | decide | (simp at hwl ⊢; omega)) hk W hE
          clear hk
          simp only []
          by_cases hnl : n = s.length
          · rw [if_pos hnl] at hany
            subst hnl
            go_enter Tryd.func23, Tryd.ntmps23
            go_wp2_with (first
              | (go_at_call 32; (with_reducible refine (hp _).mono ?_); rintro e w2 ⟨rfl, rfl⟩)
              | (go_at_call 34; (with_reducible refine (hany _).mono ?_); rintro e w2 ⟨rfl, hb2⟩
                 have hbw : Below w.heap.size w w2 := ((Below.refl _ _).alloc (Nat.le_refl _) _).trans (hb2.mono (by simp))
                 have ho := Own4.keep (z := w.heap.size) (e := 34) (v0 := .int .i64 0) (v1 := .int .i64 0) (v2 := .string ⟨#[]⟩) (v3 := .slice none 0 0) (heap_alloc_new w _) hb2
                 obtain ⟨⟨o0, o1, o2, o3⟩, f0, f1, f2, f3⟩ := ho.cells))
            go_quiet (fail)
            go_wp2_with (first
              | (go_at_call 30; (with_reducible refine (hname _).mono ?_); rintro e w4 ⟨rfl, rfl⟩)
              | (go_at_call 21; (with_reducible refine (hnum _ (HE.out.keep (below_drewN' hbw nq))).mono ?_); rintro e w4 ⟨hb4, rfl⟩
                 have ho4 := Own4.keep (w := w2.drewN nq) ho hb4
                 obtain ⟨⟨q0, q1, q2, q3⟩, g0, g1, g2, g3⟩ := ho4.cells
                 have hbw4 : Below w.heap.size w w4 := (below_drewN' hbw nq).trans (hb4.mono hbw.size)))
            refine bodyPost_ret (v := .tuple #[agg4 2 k (toB []) none 0 0, .string (toB rest), .bool true]) (by simp [results, Tryd.results23, go_sem, agg4, *]; rfl) rfl ?_
            exact value_leaf (fill4_below hbw4 (Nat.le_refl _) _ _ _ _) 2 k [] rest
          · rw [if_neg hnl] at hany
            have hn0 : ¬ ((n : Int) < 0) := by omega
            go_enter Tryd.func23, Tryd.ntmps23
            go_wp2_with (first
              | (go_at_call 32; (with_reducible refine (hp _).mono ?_); rintro e w2 ⟨rfl, rfl⟩)
              | (go_at_call 34; (with_reducible refine (hany _).mono ?_); rintro e w2 ⟨rfl, hb2⟩
                 have hbw : Below w.heap.size w w2 := ((Below.refl _ _).alloc (Nat.le_refl _) _).trans (hb2.mono (by simp))
                 have ho := Own4.keep (z := w.heap.size) (e := 34) (v0 := .int .i64 0) (v1 := .int .i64 0) (v2 := .string ⟨#[]⟩) (v3 := .slice none 0 0) (heap_alloc_new w _) hb2
                 obtain ⟨⟨o0, o1, o2, o3⟩, f0, f1, f2, f3⟩ := ho.cells))
            go_quiet (fail)
            go_wp2_with (first
              | (go_at_call 30; (with_reducible refine (hname _).mono ?_); rintro e w4 ⟨rfl, rfl⟩)
              | (go_at_call 21; (with_reducible refine (hnum _ (HE.out.keep (below_drewN' hbw nq))).mono ?_); rintro e w4 ⟨hb4, rfl⟩
                 have ho4 := Own4.keep (w := w2.drewN nq) ho hb4
                 obtain ⟨⟨q0, q1, q2, q3⟩, g0, g1, g2, g3⟩ := ho4.cells
                 have hbw4 : Below w.heap.size w w4 := (below_drewN' hbw nq).trans (hb4.mono hbw.size)))
            refine bodyPost_ret (v := .tuple #[agg4 2 k (toB []) none 0 0, .string (toB rest), .bool true]) (by simp [results, Tryd.results23, go_sem, agg4, *]; rfl) rfl ?_
            exact value_leaf (fill4_below hbw4 (Nat.le_refl _) _ _ _ _) 2 k [] rest
end Go.Proofs.YtkmpnfploplpfaaDoor
