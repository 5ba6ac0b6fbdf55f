/- A part of the proof of FoldTwice: what tree.Free calls. No conditions. -/
import Derived.Test.YtiinghgfojicdaaGreatFoD
import Derived.Test.YtiinghgfojicdaaGreatFoC
import Derived.Test.YtiinghgfojicdaaGreatFoE
import Derived.Test.YtiinghgfojicdaaGreatFoG
import Derived.Test.YtiinghgfojicdaaGreatFoI
set_option linter.unusedVariables false
set_option linter.unusedSimpArgs false
namespace Go.Proofs.YtiinghgfojicdaaGreat
open Go.RowKit Go.RowG Go.FRow Go.GMem
set_option linter.unusedVariables false
set_option maxRecDepth 100000
attribute [local go_sem ↓] Go.wp_at_zero Go.wp_at_succ
/-- Where s is, counted from i on; -1: nowhere. -/
def idxB (s : ByteArray) : List ByteArray → Nat → Int
  | [], _ => -1
  | x :: l, i => if (s.toList == x.toList) = true then i else idxB s l (i + 1)
def hasB (s : ByteArray) (l : List ByteArray) : Bool := decide (0 ≤ idxB s l 0)
theorem idxB_drop {s : ByteArray} {L : List ByteArray} {j : Nat} {x : ByteArray} (h : L[j]? = some x) : idxB s (L.drop j) j = if (s.toList == x.toList) = true then (j : Int) else idxB s (L.drop (j + 1)) (j + 1) := by
  have hj : j < L.length := (List.getElem?_eq_some_iff.1 h).1
  have hx : L[j] = x := (List.getElem?_eq_some_iff.1 h).2
  rw [List.drop_eq_getElem_cons hj, hx]
  rfl
set_option maxHeartbeats 2000000 in
theorem idxS_says (L : List ByteArray) (s : ByteArray) (A : Option Addr) (c : Nat) (w : World) (h : GRow w (lt w) A L.length (encS L)) (hn : L.length ≤ 50000000) :
    Calls Tryz.prog 73 #[.slice A L.length c, .string s] w (NumEnds (idxB s L 0) w) := by
  have H := Lib.hid h
  obtain ⟨m, hm⟩ : ∃ m, m = L.length := ⟨_, rfl⟩
  rw [← hm] at hn
  rw [← hm]
  obtain ⟨res, hres⟩ : ∃ res, res = idxB s L 0 := ⟨_, rfl⟩
  rw [← hres]
  have HM := Lib.hid hm
  have HRES := Lib.hid hres
  clear h hm hres
  go_enter Tryz.func73, Tryz.ntmps73
  go_wp2
  go_loopw [8] (fun i wr => ∃ (j : Nat), j ≤ m ∧ i = .int .i64 j ∧ idxB s (L.drop j) j = res ∧ Below w.heap.size w wr) (fun i _ => m - (intOf i).toNat)
  case atStart => exact ⟨0, Nat.zero_le _, rfl, by rw [HRES.out]; rfl, Below.refl _ _⟩
  case round =>
    obtain ⟨j, hj, rfl, hre, hb⟩ := hrel
    by_cases hjm : j < m
    · obtain ⟨ad, x, rfl, hab, hx, hcx⟩ := GRow.str_at H.out (k := j) (by rw [← HM.out]; exact hjm)
      have d0 := (hb.cell (p := ad.add j) (by rw [add_block]; exact hab)).trans hcx
      have hj0 : (0 : Int) ≤ (j : Int) := Int.natCast_nonneg _
      have hj1 : (j : Int) < (m : Int) := by omega
      rw [idxB_drop hx] at hre
      cases hs : (s.toList == x.toList) with
      | true =>
        rw [hs] at hre
        simp only [if_true] at hre
        subst hre
        clear hx hcx
        go_wp2
        go_ret
        exact ⟨rfl, hb⟩
      | false =>
        rw [hs] at hre
        simp only [Bool.false_eq_true, if_false] at hre
        have HRE := Lib.hid hre
        clear hx hcx hre
        go_wp2
        go_roundw
        case rel => exact ⟨j + 1, by omega, by go_num, HRE.out, hb⟩
        case measure => simp [intOf]; omega
    · obtain rfl : j = m := by omega
      have hd : L.drop j = [] := by rw [HM.out, List.drop_length]
      rw [hd] at hre
      simp only [idxB] at hre
      subst hre
      go_wp2
      go_ret
      exact ⟨rfl, hb⟩
theorem containsS_says (L : List ByteArray) (s : ByteArray) (A : Option Addr) (c : Nat) (w : World) (h : GRow w (lt w) A L.length (encS L)) (hn : L.length ≤ 50000000) :
    Calls Tryz.prog 103 #[.slice A L.length c, .string s] w (BoolEnds (hasB s L) w) := by
  have hcall := idxS_says L s A c w h hn
  obtain ⟨i, hi⟩ : ∃ i, i = idxB s L 0 := ⟨_, rfl⟩
  have he : hasB s L = decide (0 ≤ i) := by rw [hi]; rfl
  rw [he]
  rw [← hi] at hcall
  obtain ⟨m, hm⟩ : ∃ m, m = L.length := ⟨_, rfl⟩
  rw [← hm] at hcall ⊢
  clear hm h hn hi he
  go_enter Tryz.func103, Tryz.ntmps103
  go_wp2_with (first
    | (go_at_call 73; (with_reducible refine hcall.mono ?_); rintro e w2 ⟨rfl, hb2⟩)
    | fail "none")
  go_ret
  exact ⟨rfl, hb2⟩
/-- How many parts an expression needs. -/
def needsE (k n : Int) (l : Nat) : Int :=
  if k = 1 ∨ k = 2 ∨ k = 3 ∨ k = 4 ∨ k = 5 ∨ k = 16 then 0 else if k = 6 ∨ k = 15 ∨ k = 23 then 2 else if k = 7 then 3
  else if k = 10 ∨ k = 13 ∨ k = 19 ∨ k = 20 ∨ k = 21 ∨ k = 22 ∨ k = 24 ∨ k = 25 then 1 else if k = 18 then (if 0 ≤ n then 1 else 0)
  else if k = 11 then (if l = 0 then 1 else (l : Int)) else if k = 8 ∨ k = 9 ∨ k = 12 ∨ k = 14 ∨ k = 17 then (l : Int) else -1
set_option maxHeartbeats 8000000 in
theorem needs_says (k n : Int) (t : ByteArray) (a1 a2 a3 a4 : Option Addr) (l1 l2 l3 l4 c1 c2 c3 c4 : Nat) (w : World) :
    Calls Tryz.prog 102 #[.agg #[.int .i64 k, .int .i64 n, .string t, .slice a1 l1 c1, .slice a2 l2 c2, .slice a3 l3 c3, .slice a4 l4 c4, .int .i64 0]] w (IntEnds (needsE k n l3) w) := by
  have hcases : k = 1 ∨ k = 2 ∨ k = 3 ∨ k = 4 ∨ k = 5 ∨ k = 16 ∨ k = 6 ∨ k = 15 ∨ k = 23 ∨ k = 7 ∨ k = 10 ∨ k = 13 ∨ k = 19 ∨ k = 20 ∨ k = 21 ∨ k = 22 ∨ k = 24 ∨ k = 25 ∨ k = 8 ∨ k = 9 ∨ k = 12 ∨ k = 14 ∨ k = 17 ∨ (k = 18 ∧ 0 ≤ n) ∨ (k = 18 ∧ n < 0) ∨ (k = 11 ∧ l3 = 0) ∨ (k = 11 ∧ 1 ≤ l3) ∨ (k < 1 ∨ 25 < k) := by omega
  rcases hcases with rfl | rfl | rfl | rfl | rfl | rfl | rfl | rfl | rfl | rfl | rfl | rfl | rfl | rfl | rfl | rfl | rfl | rfl | rfl | rfl | rfl | rfl | rfl | ⟨rfl, h⟩ | ⟨rfl, h⟩ | ⟨rfl, rfl⟩ | ⟨rfl, h⟩ | h
  iterate 23
    · go_enter Tryz.func102, Tryz.ntmps102
      go_wp2
      go_ret
      exact ⟨rfl, (Below.refl _ _).alloc (Nat.le_refl _) _⟩
  · have hd : decide ((0 : Int) ≤ n) = true := decide_eq_true h
    go_enter Tryz.func102, Tryz.ntmps102
    go_wp2
    go_ret
    exact ⟨by simp [needsE, h], (Below.refl _ _).alloc (Nat.le_refl _) _⟩
  · have hd : decide ((0 : Int) ≤ n) = false := decide_eq_false (by omega)
    have h' : ¬ (0 : Int) ≤ n := by omega
    go_enter Tryz.func102, Tryz.ntmps102
    go_wp2
    go_ret
    exact ⟨by simp [needsE, h'], (Below.refl _ _).alloc (Nat.le_refl _) _⟩
  · go_enter Tryz.func102, Tryz.ntmps102
    go_wp2
    go_ret
    exact ⟨by simp [needsE], (Below.refl _ _).alloc (Nat.le_refl _) _⟩
  · rcases Nat.lt_or_ge 1 l3 with h1 | h1
    · have hle : ¬ ((l3 : Int) ≤ 1) := by omega
      have h' : l3 ≠ 0 := by omega
      go_enter Tryz.func102, Tryz.ntmps102
      go_wp2
      go_ret
      exact ⟨by simp [needsE, h', *], (Below.refl _ _).alloc (Nat.le_refl _) _⟩
    · obtain rfl : l3 = 1 := by omega
      go_enter Tryz.func102, Tryz.ntmps102
      go_wp2
      go_ret
      exact ⟨by simp [needsE], (Below.refl _ _).alloc (Nat.le_refl _) _⟩
  · have hne : ∀ i : Int, 1 ≤ i → i ≤ 25 → (k == i) = false := fun i h1 h2 => by simp; omega
    have n1 := hne 1 (by omega) (by omega)
    have n2 := hne 2 (by omega) (by omega)
    have n3 := hne 3 (by omega) (by omega)
    have n4 := hne 4 (by omega) (by omega)
    have n5 := hne 5 (by omega) (by omega)
    have n6 := hne 6 (by omega) (by omega)
    have n7 := hne 7 (by omega) (by omega)
    have n8 := hne 8 (by omega) (by omega)
    have n9 := hne 9 (by omega) (by omega)
    have n10 := hne 10 (by omega) (by omega)
    have n11 := hne 11 (by omega) (by omega)
    have n12 := hne 12 (by omega) (by omega)
    have n13 := hne 13 (by omega) (by omega)
    have n14 := hne 14 (by omega) (by omega)
    have n15 := hne 15 (by omega) (by omega)
    have n16 := hne 16 (by omega) (by omega)
    have n17 := hne 17 (by omega) (by omega)
    have n18 := hne 18 (by omega) (by omega)
    have n19 := hne 19 (by omega) (by omega)
    have n20 := hne 20 (by omega) (by omega)
    have n21 := hne 21 (by omega) (by omega)
    have n22 := hne 22 (by omega) (by omega)
    have n23 := hne 23 (by omega) (by omega)
    have n24 := hne 24 (by omega) (by omega)
    have n25 := hne 25 (by omega) (by omega)
    have hr : needsE k n l3 = -1 := by unfold needsE; rw [if_neg (by omega), if_neg (by omega), if_neg (by omega), if_neg (by omega), if_neg (by omega), if_neg (by omega), if_neg (by omega)]
    rw [hr]
    clear hne h hr
    go_enter Tryz.func102, Tryz.ntmps102
    go_wp2
    go_ret
    exact ⟨rfl, (Below.refl _ _).alloc (Nat.le_refl _) _⟩
end Go.Proofs.YtiinghgfojicdaaGreat
namespace Go.Proofs.YtiinghgfojicdaaGreat
open Go.RowKit Go.RowG Go.FRow Go.GMem
set_option linter.unusedVariables false
set_option maxRecDepth 100000
attribute [local go_sem ↓] Go.wp_at_zero Go.wp_at_succ
theorem strs_all {w w' : World} {S S' : Nat → Prop} : ∀ {L : List ByteArray} {xs : List Value}, GCells w S (encS L) xs → GCells w' S' (encS L) xs
  | [], _, h => h
  | _ :: l, _, ⟨ys, e, h1, h2⟩ => ⟨ys, e, h1, strs_all h2⟩
theorem nil_eqS (w : World) : (binOp BinOp.eql 45 (.slice none 0 0) (.slice none 0 0)).run Tryz.prog w = .ok (.bool true) w := by kernel_rfl
theorem nil_neS (ad : Addr) (n c : Nat) (w : World) : (binOp BinOp.eql 45 (.slice (some ad) n c) (.slice none 0 0)).run Tryz.prog w = .ok (.bool false) w := by kernel_rfl
theorem cloneS_says (L : List ByteArray) (A : Option Addr) (c : Nat) (w : World) (h : GRow w (lt w) A L.length (encS L)) (h0 : A = none → L.length = 0 ∧ c = 0) (hl : L.length ≤ 50000000) : Calls Tryz.prog 104 #[.slice A L.length c] w (CloneEnds 9 1 L.length (encS L) w) := by
  rcases A with _ | ad
  · obtain ⟨e0, rfl⟩ := h0 rfl
    have eL := List.eq_nil_of_length_eq_zero e0
    subst eL
    have hnil := nil_eqS
    go_enter Tryz.func104, Tryz.ntmps104
    go_wp2
    go_ret
    exact ⟨_, rfl, OwnH.nil _ _ _ _, Below.refl _ _⟩
  · obtain ⟨X, hX, hXl, hX1, hXc⟩ := cells_of_row h (fun e => by rw [List.eq_nil_of_length_eq_zero e]; rfl)
    rw [encS_len] at hXl
    obtain ⟨n, hn⟩ : ∃ n, n = L.length := ⟨_, rfl⟩
    rw [← hn] at hXc hXl hl ⊢
    clear hn h h0
    have hnil := nil_neS ad n c
    go_enter Tryz.func104, Tryz.ntmps104
    go_wp2_with (first
      | (at_builtin
         refine wpList_append_g strTy (by decide) (w.alloc (.cells #[] 9)) rfl (.tmp 5) (.tmp 6) rfl w.heap.size _ 0 [] X rfl (owns_empty (Nat.le_refl _)) (some ad) n c rfl (by omega) (fun hn => ?_) hX1 (by omega) (by simp) ?_
         focus
           obtain ⟨ad', e, hc⟩ := hXc hn
           obtain rfl := Option.some.inj e
           exact ⟨_, rfl, fun j u hu => by
             have := hc j u hu
             exact (World.cell?_alloc_lt w _ _ (World.block_lt_of_cell? w _ this)).trans this⟩
         intro v2 w2 hown2 hg2 hv2))
    go_ret
    have hb : Below w.heap.size w w2 := ((Below.refl _ _).alloc (Nat.le_refl _) _).grown hg2 (by simp) (fun b hb => Nat.le_of_eq (Option.some.inj (show some w.heap.size = some b from hb)))
    refine ⟨v2, rfl, ⟨X, by simpa using hown2, hX.keep (fun b hb' => ⟨Nat.lt_of_lt_of_le hb' hb.size, fun e => ?_⟩) fun p hp => hb.cell hp⟩, hb⟩
    have h1 := (hown2.lt b e.symm).1
    have h2 : b < w.heap.size := hb'
    omega
/-- The names that a pattern binds. -/
def boundF : F → List ByteArray
  | .nil => []
  | .cons k _ t a r => (if k = 2 then [t] else if k = 6 then boundF a else []) ++ boundF r
def bound1 (k : Int) (t : ByteArray) (a : F) : List ByteArray := if k = 2 then [t] else if k = 6 then boundF a else []
theorem boundF_len : ∀ f : F, (boundF f).length ≤ f.nodes
  | .nil => Nat.le_refl _
  | .cons k _ t a r => by
    have h1 := boundF_len a
    have h2 := boundF_len r
    simp only [boundF, F.nodes, List.length_append]
    split
    · simp; omega
    · split
      · omega
      · simp; omega
/-- A row of strings of the call's own. -/
def StrsEnds (L : List ByteArray) (w : World) (e : Ending) (w' : World) : Prop := ∃ v, e = .returned v ∧ (∃ xs, w'.ownsRow w.heap.size 9 1 v L.length xs ∧ GCells w' (fun _ => True) (encS L) xs) ∧ Below w.heap.size w w'
def BoundSaid (k n : Int) (t : ByteArray) (a : F) : Prop := ∀ (A : Option Addr) (c : Nat) (w : World), RowAt w w.heap.size A a → a.len ≤ c → c ≤ maxLen → a.nodes ≤ 1000000 → Calls Tryz.prog 105 #[agg4 k n t A a.len c] w (StrsEnds (bound1 k t a) w)
theorem strs_row {w : World} {base : Nat} {v : Value} {L : List ByteArray} {xs : List Value} (h : w.ownsRow base 9 1 v L.length xs) (hg : GCells w (fun _ => True) (encS L) xs) : ∃ A c, v = .slice A L.length c ∧ L.length ≤ c ∧ c ≤ maxLen ∧ GRow w (lt w) A L.length (encS L) := by
  obtain ⟨A, c, rfl, h1, h2, h3⟩ := CellsAt.of_own h
  refine ⟨A, c, rfl, h1, h2, fun hl => ?_⟩
  obtain ⟨b, o, rfl, hlt, hc⟩ := h3 (by rw [h.1]; omega)
  exact ⟨b, o, xs, rfl, hlt, strs_all hg, hc⟩
theorem strs_one {w : World} {S : Nat → Prop} {L : List ByteArray} {xs : List Value} (h : GCells w S (encS L) xs) : xs.length = L.length ∧ ∀ u ∈ xs, u.oneCell' = true := ⟨by rw [h.length, encS_len], h.one⟩
set_option maxHeartbeats 4000000 in
theorem bound_head (k n : Int) (t : ByteArray) (a : F) (hQ : Each BoundSaid a) : BoundSaid k n t a := by
  intro A c w h hc hcm hn
  unfold agg4
  by_cases h2 : k = 2
  · subst h2
    go_enter Tryz.func105, Tryz.ntmps105
    go_wp2
    go_ret
    refine ⟨.slice (some ⟨w.heap.size + 1, 0, none⟩) 1 1, rfl, ⟨[.string t], ?_, ⟨[], rfl, rfl, rfl⟩⟩, ((Below.refl _ _).alloc (Nat.le_refl _) _).alloc (by simp) _⟩
    have h := World.ownsRow_lit (base := w.heap.size) (e := 9) (size := 1) (w.alloc (.cells #[.int .i64 2, .int .i64 n, .string t, .slice A a.len c] 40)) #[.string t] 1 (by simp) (by simp [maxLen]) rfl
    rw [World.size_alloc] at h
    exact h
  · by_cases h6 : k = 6
    · subst h6
      clear h2
      obtain ⟨m, hm⟩ : ∃ m, m = a.len := ⟨_, rfl⟩
      have hml : m ≤ 1000000 := by have := a.len_nodes; omega
      have hrest := h.rest
      rw [← hm] at hrest
      rw [← hm]
      obtain ⟨N, hN⟩ : ∃ N, N = boundF a := ⟨_, rfl⟩
      have HB := Lib.hid (show bound1 6 t a = N by rw [hN]; rfl)
      have hNl : N.length ≤ 1000000 := by rw [hN]; have := boundF_len a; omega
      have HN := Lib.hid hN
      clear hm h hc hcm hN
      go_enter Tryz.func105, Tryz.ntmps105
      go_wp2
      go_loopw [3, 18] (fun v i wr => ∃ (j : Nat) (L : List ByteArray) (r : F) (xs : List Value), j ≤ m ∧ i = .int .i64 j ∧ L ++ boundF r = N ∧ wr.ownsRow w.heap.size 9 1 v L.length xs ∧ GCells wr (fun _ => True) (encS L) xs ∧ r.nodes ≤ 1000000 ∧ Each BoundSaid r ∧ Rest w w.heap.size A m j r ∧ Below w.heap.size w wr) (fun _ i _ => m - (intOf i).toNat)
      case atStart => exact ⟨0, [], a, [], Nat.zero_le _, rfl, by rw [HN.out]; rfl, World.ownsRow_nil _ _ _ _, rfl, hn, hQ, hrest, (Below.refl _ _).alloc (Nat.le_refl _) _⟩
      case round =>
        obtain ⟨j, L, r, xs, hj, rfl, hs, hown, hgc, hno, hq, hre, hb⟩ := hrel
        obtain ⟨A5, c5, rfl, h51, h52, hrow⟩ := strs_row hown hgc
        cases r with
        | nil =>
          obtain rfl : j = m := by have := hre.1; simp only [F.len] at this; omega
          simp only [boundF, List.append_nil] at hs
          subst hs
          go_wp2
          go_ret
          rw [HB.out]
          exact ⟨_, rfl, ⟨xs, hown, hgc⟩, hb⟩
        | cons k' n' t' a' r' =>
          have hlt : j < m := by have := hre.1; simp only [F.len] at this; omega
          obtain ⟨ad, R, rc, rfl, hab, hc0, hc1, hc2, hc3, hrl, hrm, hra, hre'⟩ := hre.step
          obtain ⟨hq1, hq2⟩ := hq
          simp only [F.nodes] at hno
          obtain ⟨B, hB⟩ : ∃ B, B = bound1 k' t' a' := ⟨_, rfl⟩
          have hs' : (L ++ B) ++ boundF r' = N := by
            rw [← hs, hB, List.append_assoc]
            rfl
          have hBl : L.length + B.length ≤ 1000000 := by
            have := congrArg List.length hs'
            simp only [List.length_append] at this
            omega
          have HS := Lib.hid hs'
          have hcall : ∀ W : World, Below w.heap.size w W → Calls Tryz.prog 105 #[agg4 k' n' t' R a'.len rc] W (StrsEnds B W) := fun W hW => by
            rw [hB]
            exact hq1 R rc W (hra.keep hW.size fun p hp => hW.cell hp) hrl hrm (by omega)
          obtain ⟨m', hm'⟩ : ∃ m', m' = a'.len := ⟨_, rfl⟩
          rw [← hm'] at hcall hc3 hrl
          have d0 := (hb.cell (p := ad.add (j * 4)) (by rw [add_block]; exact hab)).trans hc0
          have d1 := (hb.cell (p := ⟨(ad.add (j * 4)).block, (ad.add (j * 4)).off + 1, none⟩) (by rw [add_block]; exact hab)).trans hc1
          have d2 := (hb.cell (p := ⟨(ad.add (j * 4)).block, (ad.add (j * 4)).off + 2, none⟩) (by rw [add_block]; exact hab)).trans hc2
          have d3 := (hb.cell (p := ⟨(ad.add (j * 4)).block, (ad.add (j * 4)).off + 3, none⟩) (by rw [add_block]; exact hab)).trans hc3
          have hbs := hb.size
          obtain ⟨ll, hll⟩ : ∃ ll, ll = L.length := ⟨_, rfl⟩
          rw [← hll] at hown hBl
          rw [← hll]
          have HLL := Lib.hid hll
          clear hB hs hs' hq1 hm' hc0 hc1 hc2 hc3 hll
          go_wp2_with (first
            | (go_at_call 105
               (with_reducible refine (hcall _ (hb.alloc hbs _)).mono ?_)
               rintro e w5 ⟨v5, rfl, ⟨ys, hown5, hg5⟩, hb5⟩
               have hg5' := hg5
               obtain ⟨A6, c6, rfl, h61, h62, h63⟩ := CellsAt.of_own hown5
               have hbr5 : Below wr.heap.size wr w5 := ((Below.refl _ _).alloc (Nat.le_refl _) _).trans (hb5.mono (by simp))
               have hownr := hown.kept ⟨hbr5.os, hbr5.tape, hbr5.output, hbr5.size, fun k hk _ => hbr5.block k hk⟩ (Classical.em _)
               obtain ⟨hyl, hy1⟩ := strs_one hg5)
            | (at_builtin
               refine wpList_append_g strTy (by decide) w5 rfl (.tmp 22) (.tmp 24) rfl w.heap.size _ ll xs ys rfl hownr A6 B.length c6 rfl (by omega) (fun hn => ?_) hy1 (by omega) (by have := hbr5.size; omega) ?_
               focus
                 obtain ⟨b, o, e, hlt, hc⟩ := h63 (by omega)
                 exact ⟨_, e, fun j u hu => by rw [add_at]; exact hc j u hu⟩
               intro v7 w7 hown7 hg7 hv7)
            | fail "none")
          go_roundw
          case measure => simp [intOf]; omega
          case rel =>
            refine ⟨j + 1, L ++ B, r', xs ++ ys, by omega, by go_num, HS.out, ?_, ?_, by omega, hq2, hre', ((hb.trans (hbr5.mono hbs)).grown hg7 (by have := hbr5.size; omega) (fun b hb => (hownr.lt b hb).1))⟩
            · rw [List.length_append, ← HLL.out]
              exact hown7
            · rw [encS_app]
              exact GCells.app (strs_all hgc) (strs_all hg5')
    · have e2 : (k == 2) = false := by simpa using h2
      have e6 : (k == 6) = false := by simpa using h6
      have hr : bound1 k t a = [] := by simp [bound1, h2, h6]
      rw [hr]
      clear h hc hcm hn hQ hr h2 h6
      go_enter Tryz.func105, Tryz.ntmps105
      go_wp2
      go_ret
      exact ⟨_, rfl, ⟨[], World.ownsRow_nil _ _ _ _, rfl⟩, (Below.refl _ _).alloc (Nat.le_refl _) _⟩
theorem bound_says (k n : Int) (t : ByteArray) (a : F) : BoundSaid k n t a := bound_head k n t a (each_of bound_head a)
end Go.Proofs.YtiinghgfojicdaaGreat
namespace Go.Proofs.YtiinghgfojicdaaGreat
open Go.RowKit Go.RowG Go.FRow Go.GMem
set_option linter.unusedVariables false
set_option maxRecDepth 100000
/-- The names that mean something within the i-th part. -/
def innerE (h : Hd) (within : List ByteArray) (i : Nat) : List ByteArray := if h.k = 6 ∧ i = 1 then within ++ [h.t] else if h.k = 10 then within ++ h.ns else within
def freeX : X → Nat → (Nat → Pt → List ByteArray) → Nat → List ByteArray → List ByteArray
  | .nil, _, _, _, out => out
  | .cons p h args arms r, lim, inn, i, out =>
    if i < lim then freeX r lim inn (i + 1)
      (if needsE h.k h.n args.len < 0 then out
       else if h.k = 5 then (if hasB h.t (inn i p) = false ∧ hasB h.t out = false then out ++ [h.t] else out)
       else if (args.len : Int) < needsE h.k h.n args.len then freeX args args.len (fun _ _ => inn i p) 0 out
       else if h.k = 13 ∨ h.k = 18 then freeX arms arms.len (fun _ q => inn i p ++ bound1 q.k q.t q.a) 0 (freeX args (needsE h.k h.n args.len).toNat (fun j _ => innerE h (inn i p) j) 0 out)
       else freeX args (needsE h.k h.n args.len).toNat (fun j _ => innerE h (inn i p) j) 0 out)
    else out
def free1 (e : Ex) (within out : List ByteArray) : List ByteArray :=
  if needsE e.h.k e.h.n e.args.len < 0 then out
  else if e.h.k = 5 then (if hasB e.h.t within = false ∧ hasB e.h.t out = false then out ++ [e.h.t] else out)
  else if (e.args.len : Int) < needsE e.h.k e.h.n e.args.len then freeX e.args e.args.len (fun _ _ => within) 0 out
  else if e.h.k = 13 ∨ e.h.k = 18 then freeX e.arms e.arms.len (fun _ q => within ++ bound1 q.k q.t q.a) 0 (freeX e.args (needsE e.h.k e.h.n e.args.len).toNat (fun j _ => innerE e.h within j) 0 out)
  else freeX e.args (needsE e.h.k e.h.n e.args.len).toNat (fun j _ => innerE e.h within j) 0 out
theorem freeX_cons (p : Pt) (h : Hd) (args arms r : X) (lim : Nat) (inn : Nat → Pt → List ByteArray) (i : Nat) (out : List ByteArray) :
    freeX (.cons p h args arms r) lim inn i out = if i < lim then freeX r lim inn (i + 1) (free1 ⟨h, args, arms⟩ (inn i p) out) else out := rfl
theorem freeX_len : ∀ (x : X) (b : Bool) (lim : Nat) (inn : Nat → Pt → List ByteArray) (i : Nat) (out : List ByteArray), (freeX x lim inn i out).length ≤ out.length + sizeX b x
  | .nil, _, _, _, _, _ => Nat.le_refl _
  | .cons p h args arms r, b, lim, inn, i, out => by
    rw [freeX_cons]
    split
    · have h1 := freeX_len r b lim inn (i + 1) (free1 ⟨h, args, arms⟩ (inn i p) out)
      have h2 : (free1 ⟨h, args, arms⟩ (inn i p) out).length ≤ out.length + (1 + sizeX false args + sizeX true arms) := by
        unfold free1
        split
        · omega
        · split
          · split
            · simp; omega
            · omega
          · split
            · have := freeX_len args false args.len (fun _ _ => inn i p) 0 out
              simp only at this ⊢
              omega
            · split
              · have h3 := freeX_len args false (needsE h.k h.n args.len).toNat (fun j _ => innerE h (inn i p) j) 0 out
                have h4 := freeX_len arms true arms.len (fun _ q => inn i p ++ bound1 q.k q.t q.a) 0 (freeX args (needsE h.k h.n args.len).toNat (fun j _ => innerE h (inn i p) j) 0 out)
                simp only at h3 h4 ⊢
                omega
              · have h3 := freeX_len args false (needsE h.k h.n args.len).toNat (fun j _ => innerE h (inn i p) j) 0 out
                simp only at h3 ⊢
                omega
      simp only [sizeX]
      omega
    · omega
theorem free1_len (e : Ex) (within out : List ByteArray) : (free1 e within out).length ≤ out.length + e.size := by
  have := freeX_len (.cons ⟨0, 0, ⟨#[]⟩, .nil⟩ e.h e.args e.arms .nil) false 1 (fun _ _ => within) 0 out
  rw [freeX_cons] at this
  simp only [freeX, if_pos Nat.one_pos, sizeX, Bool.false_eq_true, if_false] at this
  simp only [Ex.size]
  simpa using this
/-- Out, as it grows: v to begin with, in w; u now, in W. -/
structure FS (base : Nat) (w W : World) (v : Value) (L : List ByteArray) (u : Value) (xs : List Value) : Prop where
  own : W.ownsRow base 9 1 u L.length xs
  str : GCells W (fun _ => True) (encS L) xs
  grown : w.grownBy W v.ownBlock
  new : u.ownBlock = v.ownBlock ∨ ∀ b, u.ownBlock = some b → w.heap.size ≤ b
/-- What may not be written: all that was there but v's own block. -/
abbrev farV (w : World) (v : Value) : Nat → Prop := fun b => b < w.heap.size ∧ some b ≠ v.ownBlock
theorem FS.sets {base : Nat} {w W : World} {v u : Value} {L : List ByteArray} {xs : List Value} (h : FS base w W v L u xs) : ∀ b, farV w v b → farV W u b := fun b ⟨h1, h2⟩ => ⟨Nat.lt_of_lt_of_le h1 h.grown.size, fun e => by
  rcases h.new with h3 | h3
  · exact h2 (e.trans h3)
  · have := h3 b e.symm; omega⟩
theorem FS.cell {base : Nat} {w W : World} {v u : Value} {L : List ByteArray} {xs : List Value} (h : FS base w W v L u xs) {p : Addr} (hp : farV w v p.block) : W.cell? p = w.cell? p := World.cell?_of_block (h.grown.block _ hp.1 hp.2)
theorem FS.kept {base : Nat} {w W W' : World} {v u : Value} {L : List ByteArray} {xs : List Value} (h : FS base w W v L u xs) (hb : Below W.heap.size W W') : FS base w W' v L u xs :=
  ⟨h.own.kept ⟨hb.os, hb.tape, hb.output, hb.size, fun k hk _ => hb.block k hk⟩ (Classical.em _), strs_all h.str, ⟨hb.os.trans h.grown.os, hb.tape.trans h.grown.tape, hb.output.trans h.grown.output, Nat.le_trans h.grown.size hb.size, fun k hk hne => (hb.block k (Nat.lt_of_lt_of_le hk h.grown.size)).trans (h.grown.block k hk hne)⟩, h.new⟩
theorem FS.first {base : Nat} {w : World} {v : Value} {L : List ByteArray} {xs : List Value} (h1 : w.ownsRow base 9 1 v L.length xs) (h2 : GCells w (fun _ => True) (encS L) xs) : FS base w w v L v xs := ⟨h1, h2, ⟨rfl, rfl, rfl, Nat.le_refl _, fun _ _ _ => rfl⟩, Or.inl rfl⟩
/-- Further from there on. -/
theorem FS.trans {base : Nat} {w W W' : World} {v u u' : Value} {L L' : List ByteArray} {xs xs' : List Value} (h : FS base w W v L u xs) (h' : FS base W W' u L' u' xs') : FS base w W' v L' u' xs' :=
  ⟨h'.own, h'.str, ⟨h'.grown.os.trans h.grown.os, h'.grown.tape.trans h.grown.tape, h'.grown.output.trans h.grown.output, Nat.le_trans h.grown.size h'.grown.size, fun k hk hne => by
    have h1 := h.sets k ⟨hk, hne⟩
    exact (h'.grown.block k h1.1 h1.2).trans (h.grown.block k hk hne)⟩, by
    rcases h'.new with h1 | h1
    · rcases h.new with h2 | h2
      · exact Or.inl (h1.trans h2)
      · exact Or.inr fun b hb => h2 b (h1 ▸ hb)
    · exact Or.inr fun b hb => Nat.le_trans h.grown.size (h1 b hb)⟩
def FreeEnds (base : Nat) (L' : List ByteArray) (v : Value) (w : World) (en : Ending) (w' : World) : Prop := ∃ u xs, en = .returned u ∧ FS base w w' v L' u xs
def FreeSaid (e : Ex) : Prop := ∀ (q : At) (w : World) (base : Nat) (WL L : List ByteArray) (WA : Option Addr) (wc : Nat) (v : Value) (xs : List Value), base ≤ w.heap.size → w.ownsRow base 9 1 v L.length xs → GCells w (fun _ => True) (encS L) xs →
  EIs w (farV w v) e q → GRow w (farV w v) WA WL.length (encS WL) → (WA = none → WL.length = 0 ∧ wc = 0) → e.size ≤ 100000 → e.small → WL.length + 100 * e.size ≤ 20000000 → L.length + e.size ≤ 20000000 →
  Calls Tryz.prog 75 #[agg8 e q, .slice WA WL.length wc, v] w (FreeEnds base (free1 e WL L) v w)
end Go.Proofs.YtiinghgfojicdaaGreat
