/- A part of the proofs of the laws of the arms: Bind. No conditions. -/
import Derived.Test.YtiinghgfojicdaaGreatArSame
set_option linter.unusedVariables false
set_option linter.unusedSimpArgs false
namespace Go.Proofs.YtiinghgfojicdaaGreat
open Go.RowKit Go.RowG Go.FRow
set_option linter.unusedVariables false
attribute [local go_sem ↓] Go.wp_at_zero Go.wp_at_succ

def bindF : F → F → Option F
  | .nil, _ => some .nil
  | .cons _ _ _ _ _, .nil => none
  | .cons k n t a r, .cons k' n' t' a' r' =>
    match (if k = 1 then some .nil else if k = 2 then some (.cons k' n' t' a' .nil) else if k = 3 then (if k' = 2 ∧ n' = n then some .nil else none)
      else if k = 4 then (if k' = 3 ∧ n' = n then some .nil else none) else if k = 5 then (if k' = 4 ∧ t'.toList = t.toList then some .nil else none)
      else if k = 6 then (if k' = 5 ∧ t'.toList = t.toList ∧ a'.len = a.len then bindF a a' else none) else none : Option F) with
    | none => none
    | some b => match bindF r r' with
      | none => none
      | some c => some (b.app c)
/-- What a pattern binds of a value. -/
def bind1 (k n : Int) (t : ByteArray) (a : F) (k' n' : Int) (t' : ByteArray) (a' : F) : Option F :=
  if k = 1 then some .nil else if k = 2 then some (.cons k' n' t' a' .nil) else if k = 3 then (if k' = 2 ∧ n' = n then some .nil else none)
  else if k = 4 then (if k' = 3 ∧ n' = n then some .nil else none) else if k = 5 then (if k' = 4 ∧ t'.toList = t.toList then some .nil else none)
  else if k = 6 then (if k' = 5 ∧ t'.toList = t.toList ∧ a'.len = a.len then bindF a a' else none) else none

def TopAt (w : World) (B : Nat) (w' : World) (A : Option Addr) (b : F) : Prop :=
  ∃ xs, FCells w B b xs ∧ (0 < b.len → ∃ ad, A = some ad ∧ ad.block < w'.heap.size ∧ ∀ j u, xs[j]? = some u → w'.cell? (ad.add j) = some u)
def BindEnds (B : Nat) (b : Option F) (w : World) (e : Ending) (w' : World) : Prop :=
  (match b with
  | none => e = .returned (.tuple #[.slice none 0 0, .bool false])
  | some f => ∃ A c, e = .returned (.tuple #[.slice A f.len c, .bool true]) ∧ TopAt w B w' A f ∧ f.len ≤ c ∧ c ≤ maxLen) ∧ Below w.heap.size w w'

def BindSaid (k n : Int) (t : ByteArray) (a : F) : Prop := ∀ (k' n' : Int) (t' : ByteArray) (a' : F) (A A' : Option Addr) (c c' B : Nat) (w : World), RowAt w w.heap.size A a → RowAt w B A' a' → B ≤ w.heap.size →
  a'.len ≤ c' → c' ≤ maxLen → a.nodes ≤ 100000 → a'.nodes ≤ 100000 → Calls Tryz.prog 14 #[agg4 k n t A a.len c, agg4 k' n' t' A' a'.len c'] w (BindEnds B (bind1 k n t a k' n' t' a') w)

theorem bindEnds_nil (B : Nat) (w w' : World) (hb : Below w.heap.size w w') : BindEnds B (some .nil) w (.returned (.tuple #[.slice none 0 0, .bool true])) w' :=
  ⟨⟨none, 0, rfl, ⟨[], rfl, fun h => by simp [F.len] at h⟩, Nat.le_refl _, by simp⟩, hb⟩

set_option maxRecDepth 100000 in
set_option maxHeartbeats 1000000 in
theorem bind_any (n k' n' : Int) (t t' : ByteArray) (A A' : Option Addr) (m m' c c' B : Nat) (w : World) : Calls Tryz.prog 14 #[agg4 1 n t A m c, agg4 k' n' t' A' m' c'] w (BindEnds B (some .nil) w) := by
  unfold agg4
  go_enter Tryz.func14, Tryz.ntmps14
  go_wp2
  go_ret2
  exact bindEnds_nil _ _ _ (((Below.refl _ _).alloc (Nat.le_refl _) _).alloc (by simp) _)

set_option maxRecDepth 100000 in
set_option maxHeartbeats 1000000 in
theorem bind_none (k n k' n' : Int) (t t' : ByteArray) (A A' : Option Addr) (m m' c c' B : Nat) (w : World) (h1 : (k == 1) = false) (h2 : (k == 2) = false) (h3 : (k == 3) = false) (h4 : (k == 4) = false) (h5 : (k == 5) = false) (h6 : (k == 6) = false) :
    Calls Tryz.prog 14 #[agg4 k n t A m c, agg4 k' n' t' A' m' c'] w (BindEnds B none w) := by
  unfold agg4
  go_enter Tryz.func14, Tryz.ntmps14
  go_wp2
  go_ret2
  exact ⟨rfl, ((Below.refl _ _).alloc (Nat.le_refl _) _).alloc (by simp) _⟩

set_option maxRecDepth 100000 in
set_option maxHeartbeats 1000000 in
theorem bind_var (n k' n' : Int) (t t' : ByteArray) (a' : F) (A A' : Option Addr) (m c c' B : Nat) (w : World) (h' : RowAt w B A' a') (hc : a'.len ≤ c') (hm : c' ≤ maxLen) : Calls Tryz.prog 14 #[agg4 2 n t A m c, agg4 k' n' t' A' a'.len c'] w (BindEnds B (some (.cons k' n' t' a' .nil)) w) := by
  unfold agg4
  obtain ⟨m', hm'⟩ : ∃ m', m' = a'.len := ⟨_, rfl⟩
  rw [← hm']
  have HM := Lib.hid hm'
  rw [← hm'] at hc
  clear hm'
  go_enter Tryz.func14, Tryz.ntmps14
  go_wp2
  go_ret2
  refine ⟨⟨some ⟨w.heap.size + 2, 0, none⟩, 1, rfl, ⟨_, ⟨A', c', [], rfl, by rw [← HM.out]; exact hc, hm, h', rfl⟩, fun _ => ⟨_, rfl, by simp, fun j u hu => ?_⟩⟩, by simp [F.len], by simp [maxLen]⟩, (((Below.refl _ _).alloc (Nat.le_refl _) _).alloc (by simp) _).alloc (by simp; omega) _⟩
  rw [← HM.out] at hu
  refine World.news_of_block (B := w.heap.size + 2) (cs := #[.int .i64 k', .int .i64 n', .string t', .slice A' m' c']) (t := 29) (fr := (0, 0)) ?_ j u hu
  have h := heap_alloc_new ((w.alloc (.cells #[.int .i64 2, .int .i64 n, .string t, .slice A m c] 40)).alloc (.cells #[.int .i64 k', .int .i64 n', .string t', .slice A' m' c'] 29)) (.cells #[.int .i64 k', .int .i64 n', .string t', .slice A' m' c'] 29)
  simp only [World.size_alloc] at h
  exact h

set_option maxRecDepth 100000 in
set_option maxHeartbeats 1000000 in
theorem bind_int (n k' n' : Int) (t t' : ByteArray) (A A' : Option Addr) (m m' c c' B : Nat) (w : World) : Calls Tryz.prog 14 #[agg4 3 n t A m c, agg4 k' n' t' A' m' c'] w (BindEnds B (if k' = 2 ∧ n' = n then some .nil else none) w) := by
  unfold agg4
  by_cases h2 : k' = 2
  · subst h2
    by_cases hn : n' = n
    · subst hn
      rw [if_pos ⟨rfl, rfl⟩]
      go_enter Tryz.func14, Tryz.ntmps14
      go_wp2
      go_quiet (fail)
      go_wp2
      go_ret2
      exact bindEnds_nil _ _ _ (below_drewN (((Below.refl _ _).alloc (Nat.le_refl _) _).alloc (by simp) _) _)
    · rw [if_neg (fun h => hn h.2)]
      have hd : (n' == n) = false := by simpa using hn
      clear hn
      go_enter Tryz.func14, Tryz.ntmps14
      go_wp2
      go_quiet (fail)
      go_wp2
      go_ret2
      exact ⟨rfl, below_drewN (((Below.refl _ _).alloc (Nat.le_refl _) _).alloc (by simp) _) _⟩
  · rw [if_neg (fun h => h2 h.1)]
    have hd : (k' == 2) = false := by simpa using h2
    clear h2
    go_enter Tryz.func14, Tryz.ntmps14
    go_wp2
    go_quiet (fail)
    go_wp2
    go_ret2
    exact ⟨rfl, below_drewN (((Below.refl _ _).alloc (Nat.le_refl _) _).alloc (by simp) _) _⟩

set_option maxRecDepth 100000 in
set_option maxHeartbeats 1000000 in
theorem bind_bool (n k' n' : Int) (t t' : ByteArray) (A A' : Option Addr) (m m' c c' B : Nat) (w : World) : Calls Tryz.prog 14 #[agg4 4 n t A m c, agg4 k' n' t' A' m' c'] w (BindEnds B (if k' = 3 ∧ n' = n then some .nil else none) w) := by
  unfold agg4
  by_cases h2 : k' = 3
  · subst h2
    by_cases hn : n' = n
    · subst hn
      rw [if_pos ⟨rfl, rfl⟩]
      go_enter Tryz.func14, Tryz.ntmps14
      go_wp2
      go_quiet (fail)
      go_wp2
      go_ret2
      exact bindEnds_nil _ _ _ (below_drewN (((Below.refl _ _).alloc (Nat.le_refl _) _).alloc (by simp) _) _)
    · rw [if_neg (fun h => hn h.2)]
      have hd : (n' == n) = false := by simpa using hn
      clear hn
      go_enter Tryz.func14, Tryz.ntmps14
      go_wp2
      go_quiet (fail)
      go_wp2
      go_ret2
      exact ⟨rfl, below_drewN (((Below.refl _ _).alloc (Nat.le_refl _) _).alloc (by simp) _) _⟩
  · rw [if_neg (fun h => h2 h.1)]
    have hd : (k' == 3) = false := by simpa using h2
    clear h2
    go_enter Tryz.func14, Tryz.ntmps14
    go_wp2
    go_quiet (fail)
    go_wp2
    go_ret2
    exact ⟨rfl, below_drewN (((Below.refl _ _).alloc (Nat.le_refl _) _).alloc (by simp) _) _⟩

set_option maxRecDepth 100000 in
set_option maxHeartbeats 1000000 in
theorem bind_text (n k' n' : Int) (t t' : ByteArray) (A A' : Option Addr) (m m' c c' B : Nat) (w : World) : Calls Tryz.prog 14 #[agg4 5 n t A m c, agg4 k' n' t' A' m' c'] w (BindEnds B (if k' = 4 ∧ t'.toList = t.toList then some .nil else none) w) := by
  unfold agg4
  by_cases h2 : k' = 4
  · subst h2
    by_cases hn : t'.toList = t.toList
    · rw [if_pos ⟨rfl, hn⟩]
      have hd : (t'.toList == t.toList) = true := by simpa using hn
      clear hn
      go_enter Tryz.func14, Tryz.ntmps14
      go_wp2
      go_quiet (fail)
      go_wp2
      go_ret2
      exact bindEnds_nil _ _ _ (below_drewN (((Below.refl _ _).alloc (Nat.le_refl _) _).alloc (by simp) _) _)
    · rw [if_neg (fun h => hn h.2)]
      have hd : (t'.toList == t.toList) = false := by simpa using hn
      clear hn
      go_enter Tryz.func14, Tryz.ntmps14
      go_wp2
      go_quiet (fail)
      go_wp2
      go_ret2
      exact ⟨rfl, below_drewN (((Below.refl _ _).alloc (Nat.le_refl _) _).alloc (by simp) _) _⟩
  · rw [if_neg (fun h => h2 h.1)]
    have hd : (k' == 4) = false := by simpa using h2
    clear h2
    go_enter Tryz.func14, Tryz.ntmps14
    go_wp2
    go_quiet (fail)
    go_wp2
    go_ret2
    exact ⟨rfl, below_drewN (((Below.refl _ _).alloc (Nat.le_refl _) _).alloc (by simp) _) _⟩

end Go.Proofs.YtiinghgfojicdaaGreat
