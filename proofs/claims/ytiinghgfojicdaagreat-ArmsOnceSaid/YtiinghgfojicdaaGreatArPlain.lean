/- The plain law of trees of questions: what is picked is the first pattern that fits; nothing is asked twice. No conditions. -/
import Derived.Test.YtiinghgfojicdaaGreatArTree
set_option linter.unusedVariables false
set_option linter.unusedSimpArgs false
namespace Go.Proofs.YtiinghgfojicdaaGreat
open Go.RowKit Go.RowG Go.FRow Go.GMem
set_option linter.unusedVariables false

/-- A value. -/
structure Vl where
  k : Int
  n : Int
  t : ByteArray
  a : F
def nthF : F → Nat → Option Vl
  | .nil, _ => none
  | .cons k n t a _, 0 => some ⟨k, n, t, a⟩
  | .cons _ _ _ _ r, i + 1 => nthF r i
def partV : Vl → List Nat → Option Vl
  | v, [] => some v
  | v, i :: p => if v.k = 5 then (match nthF v.a i with | some u => partV u p | none => none) else none
def fits (t : T) (u : Vl) : Bool :=
  if t.k = 3 then decide (u.k = 2 ∧ u.n = t.n) else if t.k = 4 then decide (u.k = 3 ∧ u.n = t.n) else if t.k = 5 then decide (u.k = 4 ∧ u.t.toList = t.t.toList)
  else if t.k = 6 then decide (u.k = 5 ∧ u.t.toList = t.t.toList ∧ (u.a.len : Int) = t.n) else false
def holdsT (t : T) (v : Vl) : Bool := match partV v t.path with
  | some u => fits t u
  | none => false
def armT : Tr → Vl → Int
  | .leaf a, _ => a
  | .ask t y n, v => if holdsT t v = true then armT y v else armT n v
def deepT : Tr → Vl → Nat
  | .leaf _, _ => 0
  | .ask t y n, v => (if holdsT t v = true then deepT y v else deepT n v) + 1
def Proper (t : T) : Prop := ((t.k = 3 ∨ t.k = 4) ∧ t.t.toList = []) ∨ (t.k = 5 ∧ t.n = 0) ∨ t.k = 6

theorem same_iff {x y : T} : sameT x y = true ↔ x.path = y.path ∧ x.k = y.k ∧ x.n = y.n ∧ x.t.toList = y.t.toList := by simp [sameT]
theorem same_symm {x y : T} (h : sameT x y = false) : sameT y x = false := by
  cases h1 : sameT y x with
  | false => rfl
  | true =>
    obtain ⟨a, b, c, d⟩ := same_iff.1 h1
    rw [same_iff.2 ⟨a.symm, b.symm, c.symm, d.symm⟩] at h
    cases h
theorem fits_iff {t : T} {u : Vl} : fits t u = true ↔ (t.k = 3 ∧ u.k = 2 ∧ u.n = t.n) ∨ (t.k = 4 ∧ u.k = 3 ∧ u.n = t.n) ∨ (t.k = 5 ∧ u.k = 4 ∧ u.t.toList = t.t.toList) ∨ (t.k = 6 ∧ u.k = 5 ∧ u.t.toList = t.t.toList ∧ (u.a.len : Int) = t.n) := by
  unfold fits
  split
  · rename_i h; simp [h]
  · split
    · rename_i h; simp [h]
    · split
      · rename_i h; simp [h]
      · split
        · rename_i h; simp [h]
        · rename_i h1 h2 h3 h4; simp [h1, h2, h3, h4]
theorem same_holds {x y : T} (h : sameT x y = true) (v : Vl) : holdsT x v = holdsT y v := by
  obtain ⟨h1, h2, h3, h4⟩ := same_iff.1 h
  unfold holdsT fits
  rw [h1, h2, h3, h4]
theorem both_same {x y : T} {v : Vl} (hx : Proper x) (hy : Proper y) (hp : x.path = y.path) (h1 : holdsT x v = true) (h2 : holdsT y v = true) : sameT x y = true := by
  unfold holdsT at h1 h2
  rw [hp] at h1
  cases hu : partV v y.path with
  | none => rw [hu] at h1; cases h1
  | some u =>
    rw [hu] at h1 h2
    have h1 := fits_iff.1 h1
    have h2 := fits_iff.1 h2
    refine same_iff.2 ⟨hp, ?_⟩
    unfold Proper at hx hy
    rcases h1 with ⟨a1, b1, c1⟩ | ⟨a1, b1, c1⟩ | ⟨a1, b1, c1⟩ | ⟨a1, b1, c1, d1⟩ <;> rcases h2 with ⟨a2, b2, c2⟩ | ⟨a2, b2, c2⟩ | ⟨a2, b2, c2⟩ | ⟨a2, b2, c2, d2⟩ <;> first | omega | skip
    · rcases hx with ⟨_, hx⟩ | ⟨hx, _⟩ | hx <;> first | omega | skip
      rcases hy with ⟨_, hy⟩ | ⟨hy, _⟩ | hy <;> first | omega | skip
      exact ⟨by omega, by omega, by rw [hx, hy]⟩
    · rcases hx with ⟨_, hx⟩ | ⟨hx, _⟩ | hx <;> first | omega | skip
      rcases hy with ⟨_, hy⟩ | ⟨hy, _⟩ | hy <;> first | omega | skip
      exact ⟨by omega, by omega, by rw [hx, hy]⟩
    · rcases hx with ⟨_, hx⟩ | ⟨_, hx⟩ | hx <;> first | omega | skip
      rcases hy with ⟨_, hy⟩ | ⟨_, hy⟩ | hy <;> first | omega | skip
      exact ⟨by omega, by omega, by rw [← c1, ← c2]⟩
    · exact ⟨by omega, by omega, by rw [← c1, ← c2]⟩
theorem idx_split (p : T → Bool) : ∀ (l : List T) (i : Nat), (idxT p l i = -1 ∧ ∀ y ∈ l, p y = false) ∨ ∃ (k : Nat) (y : T), l[k]? = some y ∧ p y = true ∧ idxT p l i = ((i + k : Nat) : Int)
  | [], _ => Or.inl ⟨rfl, by simp⟩
  | x :: l, i => by
    simp only [idxT]
    split
    · rename_i h
      exact Or.inr ⟨0, x, rfl, h, by simp⟩
    · rename_i h
      rcases idx_split p l (i + 1) with ⟨h1, h2⟩ | ⟨k, y, h1, h2, h3⟩
      · refine Or.inl ⟨h1, fun y hy => ?_⟩
        rcases List.mem_cons.1 hy with rfl | hy
        · simpa using h
        · exact h2 y hy
      · exact Or.inr ⟨k + 1, y, by simpa using h1, h2, by rw [h3]; congr 1; omega⟩
theorem erase_all {f : T → Bool} {y : T} : ∀ {l : List T} {k : Nat}, l[k]? = some y → f y = true → (l.eraseIdx k).all f = l.all f
  | [], _, h, _ => by simp at h
  | x :: l, 0, h, hf => by
    simp at h
    subst h
    simp [hf]
  | x :: l, k + 1, h, hf => by
    simp only [List.eraseIdx_cons_succ, List.all_cons]
    rw [erase_all (l := l) (k := k) (by simpa using h) hf]
theorem erase_apart {y z : T} : ∀ {l : List T} {k : Nat}, l.Pairwise (fun a b => a.path ≠ b.path) → l[k]? = some y → z ∈ l.eraseIdx k → z.path ≠ y.path
  | [], _, _, h, _ => by simp at h
  | x :: l, 0, hp, h, hz => by
    simp at h hz
    subst h
    exact ((List.pairwise_cons.1 hp).1 z hz).symm
  | x :: l, k + 1, hp, h, hz => by
    have hk : l[k]? = some y := by simpa using h
    simp only [List.eraseIdx_cons_succ, List.mem_cons] at hz
    rcases hz with rfl | hz
    · exact (List.pairwise_cons.1 hp).1 y (List.mem_of_getElem? hk)
    · exact erase_apart (List.pairwise_cons.1 hp).2 hk hz
def allH (x : R) (v : Vl) : Bool := x.2.all fun t => holdsT t v
def firstRow : List R → Vl → Int
  | [], _ => -1
  | x :: l, v => if allH x v = true then (x.1 : Int) else firstRow l v
theorem yes1_row {t : T} {x : R} {v : Vl} (ht : holdsT t v = true) (hp : Proper t) (hx : ∀ y ∈ x.2, Proper y) : (yes1 t x = [] ∧ allH x v = false) ∨ ∃ z : R, yes1 t x = [z] ∧ z.1 = x.1 ∧ allH z v = allH x v := by
  unfold yes1
  rcases idx_split (fun y => sameT y t) x.2 0 with ⟨h1, h2⟩ | ⟨k, y, h1, h2, h3⟩
  · rw [h1, if_neg (by omega)]
    rcases idx_split (fun y => decide (y.path = t.path)) x.2 0 with ⟨h4, h5⟩ | ⟨k, y, h4, h5, h6⟩
    · rw [h4, if_neg (by omega)]
      exact Or.inr ⟨x, rfl, rfl, rfl⟩
    · rw [h6, if_pos (by omega)]
      refine Or.inl ⟨rfl, ?_⟩
      have hy := List.mem_of_getElem? h4
      cases h : allH x v with
      | false => rfl
      | true =>
        have := both_same (hx y hy) hp (of_decide_eq_true h5) (List.all_eq_true.1 h y hy) ht
        have h7 := h2 y hy
        simp only [this] at h7
        cases h7
  · rw [h3, if_pos (by omega)]
    refine Or.inr ⟨_, rfl, rfl, ?_⟩
    have e : (((0 + k : Nat) : Int)).toNat = k := by omega
    simp only [allH, e]
    exact erase_all h1 (by rw [same_holds h2 v]; exact ht)
theorem first_yes {t : T} {v : Vl} (ht : holdsT t v = true) (hp : Proper t) : ∀ (l : List R), (∀ x ∈ l, ∀ y ∈ x.2, Proper y) → firstRow (yesR t l) v = firstRow l v
  | [], _ => rfl
  | x :: l, hl => by
    have ih := first_yes ht hp l fun z hz => hl z (List.mem_cons_of_mem _ hz)
    have e : yesR t (x :: l) = yes1 t x ++ yesR t l := by simp [yesR]
    rw [e]
    rcases yes1_row ht hp (hl x (by simp)) with ⟨h1, h2⟩ | ⟨z, h1, h2, h3⟩
    · rw [h1, List.nil_append, ih]
      simp [firstRow, h2]
    · rw [h1]
      simp only [List.singleton_append, firstRow, h2, h3, ih]
theorem first_no {t : T} {v : Vl} (ht : holdsT t v = false) : ∀ (l : List R), firstRow (noR t l) v = firstRow l v
  | [] => rfl
  | x :: l => by
    have ih := first_no ht l
    have e : noR t (x :: l) = no1 t x ++ noR t l := by simp [noR]
    rw [e]
    unfold no1
    rcases idx_split (fun y => sameT y t) x.2 0 with ⟨h1, h2⟩ | ⟨k, y, h1, h2, h3⟩
    · rw [h1, if_neg (by omega)]
      simp only [List.singleton_append, firstRow, ih]
    · rw [h3, if_pos (by omega), List.nil_append, ih]
      have hy := List.mem_of_getElem? h1
      have hf : allH x v = false := by
        cases h : allH x v with
        | false => rfl
        | true =>
          have h4 := List.all_eq_true.1 h y hy
          rw [same_holds h2 v, ht] at h4
          cases h4
      simp [firstRow, hf]
theorem yes_sub {t : T} {l : List R} {z : R} (hz : z ∈ yesR t l) : ∃ x ∈ l, z.1 = x.1 ∧ z.2.Sublist x.2 := by
  obtain ⟨x, hx, hz⟩ := List.mem_flatMap.1 hz
  refine ⟨x, hx, ?_⟩
  unfold yes1 at hz
  split at hz
  · simp only [List.mem_singleton] at hz
    subst hz
    exact ⟨rfl, List.eraseIdx_sublist _ _⟩
  · split at hz
    · simp at hz
    · simp only [List.mem_singleton] at hz
      subst hz
      exact ⟨rfl, List.Sublist.refl _⟩
theorem no_sub {t : T} {l : List R} {z : R} (hz : z ∈ noR t l) : z ∈ l ∧ ∀ y ∈ z.2, sameT y t = false := by
  obtain ⟨x, hx, hz⟩ := List.mem_flatMap.1 hz
  unfold no1 at hz
  rcases idx_split (fun y => sameT y t) x.2 0 with ⟨h1, h2⟩ | ⟨k, y, h1, h2, h3⟩
  · rw [h1, if_neg (by omega)] at hz
    simp only [List.mem_singleton] at hz
    subst hz
    exact ⟨hx, h2⟩
  · rw [h3, if_pos (by omega)] at hz
    simp at hz
theorem yes_apart {t : T} {l : List R} {z : R} (hl : ∀ x ∈ l, x.2.Pairwise fun a b => a.path ≠ b.path) (hz : z ∈ yesR t l) : ∀ y ∈ z.2, sameT y t = false := by
  obtain ⟨x, hx, hz⟩ := List.mem_flatMap.1 hz
  intro y hy
  unfold yes1 at hz
  have hne : y.path ≠ t.path → sameT y t = false := fun h => by
    cases e : sameT y t with
    | false => rfl
    | true => exact absurd (same_iff.1 e).1 h
  rcases idx_split (fun y => sameT y t) x.2 0 with ⟨h1, h2⟩ | ⟨k, y0, h1, h2, h3⟩
  · rw [h1, if_neg (by omega)] at hz
    split at hz
    · simp at hz
    · simp only [List.mem_singleton] at hz
      subst hz
      exact h2 y hy
  · rw [h3, if_pos (by omega)] at hz
    simp only [List.mem_singleton] at hz
    subst hz
    have e : (((0 + k : Nat) : Int)).toNat = k := by omega
    simp only [e] at hy
    refine hne ?_
    rw [← (same_iff.1 h2).1]
    exact erase_apart (hl x hx) h1 hy

theorem arm_build (v : Vl) : ∀ (f : Nat) (l : List R), total l < f → (∀ x ∈ l, ∀ y ∈ x.2, Proper y) → armT (buildR f l) v = firstRow l v
  | 0, _, h, _ => absurd h (Nat.not_lt_zero _)
  | f + 1, [], _, _ => rfl
  | f + 1, (a, []) :: l, _, _ => by simp [buildR, armT, firstRow, allH]
  | f + 1, (a, t :: ts) :: l, h, hp => by
    have hy := yes_less a t ts l
    have hn := no_less a t ts l
    have hpt : Proper t := hp (a, t :: ts) (by simp) t (by simp)
    simp only [buildR, armT]
    split
    · rename_i ht
      rw [arm_build v f _ (by omega) fun z hz y hy => by
        obtain ⟨x, hx, _, hs⟩ := yes_sub hz
        exact hp x hx y (hs.subset hy)]
      exact first_yes ht hpt _ hp
    · rename_i ht
      rw [arm_build v f _ (by omega) fun z hz y hy => hp z (no_sub hz).1 y hy]
      exact first_no (by simpa using ht) _
/-- On the way to a leaf no question comes twice. -/
def onceT : Tr → List T → Prop
  | .leaf _, _ => True
  | .ask t y n, seen => (∀ s ∈ seen, sameT s t = false) ∧ onceT y (seen ++ [t]) ∧ onceT n (seen ++ [t])
theorem once_build : ∀ (f : Nat) (l : List R) (seen : List T), (∀ x ∈ l, x.2.Pairwise fun a b => a.path ≠ b.path) → (∀ s ∈ seen, ∀ x ∈ l, ∀ y ∈ x.2, sameT s y = false) → onceT (buildR f l) seen
  | 0, _, _, _, _ => trivial
  | f + 1, [], _, _, _ => trivial
  | f + 1, (a, []) :: l, _, _, _ => trivial
  | f + 1, (a, t :: ts) :: l, seen, hl, hs => by
    refine ⟨fun s h => hs s h (a, t :: ts) (by simp) t (by simp), ?_, ?_⟩
    · refine once_build f _ _ (fun z hz => ?_) fun s h z hz y hy => ?_
      · obtain ⟨x, hx, _, hsub⟩ := yes_sub hz
        exact (hl x hx).sublist hsub
      · rcases List.mem_append.1 h with h | h
        · obtain ⟨x, hx, _, hsub⟩ := yes_sub hz
          exact hs s h x hx y (hsub.subset hy)
        · obtain rfl : s = t := by simpa using h
          exact same_symm (yes_apart hl hz y hy)
    · refine once_build f _ _ (fun z hz => hl z (no_sub hz).1) fun s h z hz y hy => ?_
      rcases List.mem_append.1 h with h | h
      · exact hs s h z (no_sub hz).1 y hy
      · obtain rfl : s = t := by simpa using h
        exact same_symm ((no_sub hz).2 y hy)
def highT : Tr → Nat
  | .leaf _ => 0
  | .ask _ y n => max (highT y) (highT n) + 1
theorem high_build : ∀ (f : Nat) (l : List R), highT (buildR f l) ≤ f
  | 0, _ => Nat.le_refl _
  | f + 1, [] => Nat.zero_le _
  | f + 1, (a, []) :: l => Nat.zero_le _
  | f + 1, (a, t :: ts) :: l => by
    have h1 := high_build f (yesR t ((a, t :: ts) :: l))
    have h2 := high_build f (noR t ((a, t :: ts) :: l))
    simp only [buildR, highT]
    omega
def armsT (m : Nat) : Tr → Prop
  | .leaf a => -1 ≤ a ∧ a < m
  | .ask _ y n => armsT m y ∧ armsT m n
theorem arms_build (m : Nat) : ∀ (f : Nat) (l : List R), (∀ x ∈ l, x.1 < m) → armsT m (buildR f l)
  | 0, _, _ => ⟨by omega, by omega⟩
  | f + 1, [], _ => ⟨by omega, by omega⟩
  | f + 1, (a, []) :: l, h => by
    have : a < m := h (a, []) (by simp)
    exact ⟨by omega, by omega⟩
  | f + 1, (a, t :: ts) :: l, h => ⟨arms_build m f _ fun z hz => by
      obtain ⟨x, hx, e, _⟩ := yes_sub hz
      rw [e]
      exact h x hx, arms_build m f _ fun z hz => h z (no_sub hz).1⟩

/-- The rows of patterns, counted from j on. -/
def rowsF : F → Nat → List R
  | .nil, _ => []
  | .cons k n t a r, j => (j, tests1 k n t a []) :: rowsF r (j + 1)
theorem rowsF_len : ∀ (f : F) (j : Nat), (rowsF f j).length = f.len
  | .nil, _ => rfl
  | .cons _ _ _ _ r, j => by simp only [rowsF, List.length_cons, F.len, rowsF_len r]
theorem rowsF_mem : ∀ {f : F} {j : Nat} {x : R}, x ∈ rowsF f j → (j ≤ x.1 ∧ x.1 < j + f.len) ∧ ∃ k n t a, x.2 = tests1 k n t a [] ∧ a.nodes ≤ f.nodes ∧ a.nodes + 1 ≤ f.nodes
  | .nil, _, _, h => by simp [rowsF] at h
  | .cons k n t a r, j, x, h => by
    simp only [rowsF, List.mem_cons] at h
    simp only [F.len, F.nodes]
    rcases h with rfl | h
    · exact ⟨⟨Nat.le_refl _, by show j < j + (r.len + 1); omega⟩, k, n, t, a, rfl, by omega, by omega⟩
    · obtain ⟨⟨h1, h2⟩, k', n', t', a', h3, h4, h5⟩ := rowsF_mem h
      exact ⟨⟨by omega, by omega⟩, k', n', t', a', h3, by omega, by omega⟩
theorem testsF_asks : ∀ (f : F) (p : List Nat) (i : Nat), (testsF f p i).length ≤ asksF f
  | .nil, _, _ => Nat.zero_le _
  | .cons k n t a r, p, i => by
    have h1 := testsF_asks a (p ++ [i]) 0
    have h2 := testsF_asks r p (i + 1)
    rw [testsF_cons, List.length_append]
    simp only [asksF]
    have : (tests1 k n t a (p ++ [i])).length ≤ if k = 1 ∨ k = 2 then 0 else 1 + asksF a := by
      unfold tests1
      split
      · rename_i h
        rw [if_neg (by omega)]
        simp
      · split
        · rw [if_neg (by omega)]
          simp
        · split
          · rw [if_neg (by omega)]
            simp only [List.length_cons]
            omega
          · simp
    omega
theorem total_asks : ∀ (f : F) (j : Nat), total (rowsF f j) ≤ asksF f
  | .nil, _ => Nat.zero_le _
  | .cons k n t a r, j => by
    have h1 := testsF_asks a [] 0
    have h2 := total_asks r (j + 1)
    simp only [rowsF, asksF]
    rw [total_cons]
    have : (tests1 k n t a []).length ≤ if k = 1 ∨ k = 2 then 0 else 1 + asksF a := by
      unfold tests1
      split
      · rename_i h
        rw [if_neg (by omega)]
        simp
      · split
        · rw [if_neg (by omega)]
          simp
        · split
          · rw [if_neg (by omega)]
            simp only [List.length_cons]
            omega
          · simp
    simp only
    omega
theorem none_toList : (⟨#[]⟩ : ByteArray).toList = [] := by
  first | rfl | (rw [ByteArray.toList, ByteArray.toList.loop]; rfl) | decide +kernel
theorem testsF_path : ∀ (f : F) (p : List Nat) (i : Nat) (y : T), y ∈ testsF f p i → (∃ j q, i ≤ j ∧ y.path = p ++ j :: q) ∧ y.path.length ≤ p.length + f.nodes ∧ Proper y
  | .nil, _, _, _, h => by simp [testsF] at h
  | .cons k n t a r, p, i, y, h => by
    rw [testsF_cons, List.mem_append] at h
    simp only [F.nodes]
    rcases h with h | h
    · unfold tests1 at h
      split at h
      · rename_i hk
        simp only [List.mem_singleton] at h
        subst h
        exact ⟨⟨i, [], Nat.le_refl _, rfl⟩, by simp, Or.inl ⟨hk, none_toList⟩⟩
      · split at h
        · rename_i hk
          simp only [List.mem_singleton] at h
          subst h
          exact ⟨⟨i, [], Nat.le_refl _, rfl⟩, by simp, Or.inr (Or.inl ⟨hk, rfl⟩)⟩
        · split at h
          · rename_i hk
            rcases List.mem_cons.1 h with rfl | h
            · exact ⟨⟨i, [], Nat.le_refl _, rfl⟩, by simp, Or.inr (Or.inr hk)⟩
            · obtain ⟨⟨j, q, _, h1⟩, h2, h3⟩ := testsF_path a (p ++ [i]) 0 y h
              exact ⟨⟨i, j :: q, Nat.le_refl _, by rw [h1]; simp⟩, by simp at h2; omega, h3⟩
          · simp at h
    · obtain ⟨⟨j, q, h0, h1⟩, h2, h3⟩ := testsF_path r p (i + 1) y h
      exact ⟨⟨j, q, by omega, h1⟩, by omega, h3⟩
theorem tests1_path {k n : Int} {t : ByteArray} {a : F} {p : List Nat} {y : T} (h : y ∈ tests1 k n t a p) : (∃ q, y.path = p ++ q) ∧ y.path.length ≤ p.length + a.nodes ∧ Proper y := by
  unfold tests1 at h
  split at h
  · rename_i hk
    simp only [List.mem_singleton] at h
    subst h
    exact ⟨⟨[], by simp⟩, by simp, Or.inl ⟨hk, none_toList⟩⟩
  · split at h
    · rename_i hk
      simp only [List.mem_singleton] at h
      subst h
      exact ⟨⟨[], by simp⟩, by simp, Or.inr (Or.inl ⟨hk, rfl⟩)⟩
    · split at h
      · rename_i hk
        rcases List.mem_cons.1 h with rfl | h
        · exact ⟨⟨[], by simp⟩, by simp, Or.inr (Or.inr hk)⟩
        · obtain ⟨⟨j, q, _, h1⟩, h2, h3⟩ := testsF_path a p 0 y h
          exact ⟨⟨j :: q, h1⟩, h2, h3⟩
      · simp at h
theorem testsF_apart : ∀ (f : F) (p : List Nat) (i : Nat), (testsF f p i).Pairwise fun a b => a.path ≠ b.path
  | .nil, _, _ => List.Pairwise.nil
  | .cons k n t a r, p, i => by
    rw [testsF_cons, List.pairwise_append]
    refine ⟨?_, testsF_apart r p (i + 1), fun x hx y hy e => ?_⟩
    · unfold tests1
      split
      · simp
      · split
        · simp
        · split
          · refine List.pairwise_cons.2 ⟨fun y hy e => ?_, testsF_apart a (p ++ [i]) 0⟩
            obtain ⟨⟨j, q, _, h⟩, _⟩ := testsF_path _ _ _ y hy
            have h5 := congrArg List.length (e.trans h)
            simp at h5
          · exact List.Pairwise.nil
    · obtain ⟨⟨q, h1⟩, _⟩ := tests1_path hx
      obtain ⟨⟨j, q', h2, h3⟩, _⟩ := testsF_path _ _ _ y hy
      rw [h1, h3, List.append_assoc] at e
      have := List.append_cancel_left e
      simp at this
      omega
theorem tests1_apart (k n : Int) (t : ByteArray) (a : F) (p : List Nat) : (tests1 k n t a p).Pairwise fun a b => a.path ≠ b.path := by
  unfold tests1
  split
  · simp
  · split
    · simp
    · split
      · refine List.pairwise_cons.2 ⟨fun y hy e => ?_, testsF_apart a p 0⟩
        obtain ⟨⟨j, q, _, h⟩, _⟩ := testsF_path _ _ _ y hy
        have h5 := congrArg List.length (e.trans h)
        simp at h5
      · exact List.Pairwise.nil
theorem part_snoc : ∀ (p : List Nat) (v u : Vl) (i : Nat), partV v p = some u → partV v (p ++ [i]) = if u.k = 5 then nthF u.a i else none
  | [], v, u, i, h => by
    simp only [partV, Option.some.injEq] at h
    subst h
    simp only [List.nil_append, partV]
    split
    · cases nthF v.a i <;> rfl
    · rfl
  | j :: p, v, u, i, h => by
    simp only [List.cons_append, partV] at h ⊢
    split at h
    · rename_i hk
      rw [if_pos hk]
      cases hn : nthF v.a j with
      | none => rw [hn] at h; cases h
      | some x =>
        rw [hn] at h
        simp only at h ⊢
        exact part_snoc p x u i h
    · cases h
def RowLaw (f : F) : Prop := ∀ (g : F) (p : List Nat) (i : Nat) (v0 u : Vl), partV v0 p = some u → u.k = 5 → (∀ j, nthF u.a (i + j) = nthF g j) → f.len = g.len → (testsF f p i).all (fun t => holdsT t v0) = (bindF f g).isSome
theorem head_law {k n : Int} {t : ByteArray} {a : F} (hk : 1 ≤ k ∧ k ≤ 6) (ha : RowLaw a) {p : List Nat} {v0 u : Vl} (hp : partV v0 p = some u) :
    (tests1 k n t a p).all (fun t => holdsT t v0) = (bind1 k n t a u.k u.n u.t u.a).isSome := by
  obtain rfl | rfl | rfl | rfl | rfl | rfl : k = 1 ∨ k = 2 ∨ k = 3 ∨ k = 4 ∨ k = 5 ∨ k = 6 := by omega
  · rfl
  · rfl
  · have e3 : holdsT ⟨p, 3, n, ⟨#[]⟩⟩ v0 = decide (u.k = 2 ∧ u.n = n) := by simp [holdsT, hp, fits]
    by_cases h : u.k = 2 ∧ u.n = n <;> simp [tests1, bind1, e3, h]
  · have e3 : holdsT ⟨p, 4, n, ⟨#[]⟩⟩ v0 = decide (u.k = 3 ∧ u.n = n) := by simp [holdsT, hp, fits]
    by_cases h : u.k = 3 ∧ u.n = n <;> simp [tests1, bind1, e3, h]
  · have e3 : holdsT ⟨p, 5, 0, t⟩ v0 = decide (u.k = 4 ∧ u.t.toList = t.toList) := by simp [holdsT, hp, fits]
    by_cases h : u.k = 4 ∧ u.t.toList = t.toList <;> simp [tests1, bind1, e3, h]
  · have e1 : tests1 6 n t a p = ⟨p, 6, a.len, t⟩ :: testsF a p 0 := by simp [tests1]
    have e2 : bind1 6 n t a u.k u.n u.t u.a = if u.k = 5 ∧ u.t.toList = t.toList ∧ u.a.len = a.len then bindF a u.a else none := by simp [bind1]
    have e3 : holdsT ⟨p, 6, a.len, t⟩ v0 = decide (u.k = 5 ∧ u.t.toList = t.toList ∧ u.a.len = a.len) := by simp [holdsT, hp, fits, Int.ofNat_inj]
    rw [e1, e2, List.all_cons, e3]
    by_cases h : u.k = 5 ∧ u.t.toList = t.toList ∧ u.a.len = a.len
    · rw [if_pos h, decide_eq_true h, Bool.true_and]
      exact ha u.a p 0 v0 u hp h.1 (fun j => by rw [Nat.zero_add]) h.2.2.symm
    · rw [if_neg h, decide_eq_false h, Bool.false_and]
      rfl
theorem row_law : ∀ (f : F), Kin f → RowLaw f
  | .nil, _ => fun g p i v0 u _ _ _ _ => rfl
  | .cons k n t a r, ⟨hk, hka, hkr⟩ => fun g p i v0 u hp h5 hn hl => by
    cases g with
    | nil => simp [F.len] at hl
    | cons k' n' t' a' r' =>
      have hp' : partV v0 (p ++ [i]) = some ⟨k', n', t', a'⟩ := by
        rw [part_snoc p v0 u i hp, if_pos h5]
        exact hn 0
      have h1 := head_law (n := n) (t := t) hk (row_law a hka) hp'
      have h2 := row_law r hkr r' p (i + 1) v0 u hp h5 (fun j => by
        rw [show i + 1 + j = i + (j + 1) by omega]
        exact hn (j + 1)) (by simp only [F.len] at hl; omega)
      have e : bindF (.cons k n t a r) (.cons k' n' t' a' r') = match bind1 k n t a k' n' t' a' with
        | none => none
        | some b => match bindF r r' with
          | none => none
          | some c => some (b.app c) := rfl
      rw [testsF_cons, List.all_append, h1, h2, e]
      cases bind1 k n t a k' n' t' a' with
      | none => rfl
      | some b =>
        cases bindF r r' with
        | none => rfl
        | some c => rfl
def armF (res : Option (Nat × F)) : Int := match res with
  | some (j, _) => j
  | none => -1
theorem first_law (v : Vl) : ∀ (f : F) (j : Nat), Kin f → firstRow (rowsF f j) v = armF (firstF v.k v.n v.t v.a f j)
  | .nil, _, _ => rfl
  | .cons k n t a r, j, ⟨hk, hka, hkr⟩ => by
    have h1 := head_law (n := n) (t := t) (p := []) (v0 := v) (u := v) hk (row_law a hka) rfl
    have h2 := first_law v r (j + 1) hkr
    simp only [rowsF, firstRow, allH, firstF, h1, h2]
    cases bind1 k n t a v.k v.n v.t v.a with
    | none => rfl
    | some b => rfl
/-- The tree's arm is that of the first pattern that fits. -/
theorem pick_first (v : Vl) (f : Nat) (P : F) (hk : Kin P) (h : total (rowsF P 0) < f) : armT (buildR f (rowsF P 0)) v = armF (firstF v.k v.n v.t v.a P 0) := by
  rw [arm_build v f _ h, first_law v P 0 hk]
  intro x hx y hy
  obtain ⟨_, k, n, t, a, e, _⟩ := rowsF_mem hx
  rw [e] at hy
  exact (tests1_path hy).2.2
theorem rows_once (f : Nat) (P : F) : onceT (buildR f (rowsF P 0)) [] :=
  once_build f _ _ (fun x hx => by
    obtain ⟨_, k, n, t, a, e, _⟩ := rowsF_mem hx
    rw [e]
    exact tests1_apart k n t a []) fun s hs => by simp at hs
theorem rows_arms (f : Nat) (P : F) : armsT P.len (buildR f (rowsF P 0)) := arms_build _ f _ fun x hx => by
  obtain ⟨⟨_, h⟩, _⟩ := rowsF_mem hx
  omega
end Go.Proofs.YtiinghgfojicdaaGreat
