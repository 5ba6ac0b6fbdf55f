/- Rows of tests, and the trees of questions, as data and in memory. No conditions. -/
import Derived.Test.YtiinghgfojicdaaGreatArDel
set_option linter.unusedVariables false
set_option linter.unusedSimpArgs false
namespace Go.Proofs.YtiinghgfojicdaaGreat
open Go.RowKit Go.RowG Go.FRow Go.GMem
set_option linter.unusedVariables false
set_option maxRecDepth 100000

abbrev R := Nat × List T
def encRs : List R → G
  | [] => .nil
  | x :: l => .lit (.int .i64 (x.1 : Int)) (.row x.2.length (encTs x.2) (encRs l))
theorem encRs_app : ∀ l r : List R, encRs (l ++ r) = (encRs l).app (encRs r)
  | [], _ => rfl
  | x :: l, r => by simp only [List.cons_append, encRs, G.app, encRs_app l r]
theorem encRs_len : ∀ l : List R, (encRs l).len = l.length * 2
  | [] => rfl
  | x :: l => by simp only [encRs, G.len, encRs_len l, List.length_cons]; omega
inductive Tr where
  | leaf (a : Int) : Tr
  | ask (t : T) (y n : Tr) : Tr
def yes1 (t : T) (x : R) : List R :=
  if 0 ≤ idxT (fun y => sameT y t) x.2 0 then [(x.1, x.2.eraseIdx (idxT (fun y => sameT y t) x.2 0).toNat)] else if 0 ≤ idxT (fun y => decide (y.path = t.path)) x.2 0 then [] else [x]
def no1 (t : T) (x : R) : List R :=
  if 0 ≤ idxT (fun y => sameT y t) x.2 0 then [] else [x]
def yesR (t : T) (l : List R) : List R := l.flatMap (yes1 t)
def noR (t : T) (l : List R) : List R := l.flatMap (no1 t)
def buildR : Nat → List R → Tr
  | 0, _ => .leaf (-1)
  | _ + 1, [] => .leaf (-1)
  | _ + 1, (a, []) :: _ => .leaf a
  | f + 1, (a, t :: ts) :: l => .ask t (buildR f (yesR t ((a, t :: ts) :: l))) (buildR f (noR t ((a, t :: ts) :: l)))
def total (l : List R) : Nat := (l.map fun x => x.2.length).sum
theorem total_cons (x : R) (l : List R) : total (x :: l) = x.2.length + total l := by simp [total]
theorem total_app (l r : List R) : total (l ++ r) = total l + total r := by simp [total]
theorem idx_lt (p : T → Bool) : ∀ (l : List T) (i : Nat), idxT p l i = -1 ∨ ∃ k : Nat, k < l.length ∧ idxT p l i = ((i + k : Nat) : Int)
  | [], _ => Or.inl rfl
  | x :: l, i => by
    simp only [idxT]
    split
    · exact Or.inr ⟨0, by simp, by simp⟩
    · rcases idx_lt p l (i + 1) with h | ⟨k, hk, h⟩
      · exact Or.inl h
      · exact Or.inr ⟨k + 1, by simp; omega, by rw [h]; congr 1; omega⟩
theorem sameT_refl (t : T) : sameT t t = true := by simp [sameT]
theorem yes1_total (t : T) (x : R) : total (yes1 t x) ≤ x.2.length := by
  unfold yes1
  split
  · have := List.length_eraseIdx_le x.2 (idxT (fun y => sameT y t) x.2 0).toNat
    simp [total]; omega
  · split
    · simp [total]
    · simp [total]
theorem no1_total (t : T) (x : R) : total (no1 t x) ≤ x.2.length := by
  unfold no1
  split <;> simp [total]
theorem yesR_total (t : T) : ∀ l : List R, total (yesR t l) ≤ total l
  | [] => Nat.le_refl _
  | x :: l => by
    have h1 := yes1_total t x
    have h2 := yesR_total t l
    simp only [yesR, List.flatMap_cons] at h2 ⊢
    rw [total_app, total_cons]
    omega
theorem noR_total (t : T) : ∀ l : List R, total (noR t l) ≤ total l
  | [] => Nat.le_refl _
  | x :: l => by
    have h1 := no1_total t x
    have h2 := noR_total t l
    simp only [noR, List.flatMap_cons] at h2 ⊢
    rw [total_app, total_cons]
    omega
theorem head_idx (t : T) (ts : List T) : idxT (fun y => sameT y t) (t :: ts) 0 = 0 := by simp [idxT, sameT_refl]
theorem yes_less (a : Nat) (t : T) (ts : List T) (l : List R) : total (yesR t ((a, t :: ts) :: l)) < total ((a, t :: ts) :: l) := by
  have h2 := yesR_total t l
  have h1 : yes1 t (a, t :: ts) = [(a, ts)] := by simp [yes1, head_idx]
  simp only [yesR, List.flatMap_cons, h1] at h2 ⊢
  rw [total_app, total_cons, total_cons]
  simp [total] at *
  omega
theorem no_less (a : Nat) (t : T) (ts : List T) (l : List R) : total (noR t ((a, t :: ts) :: l)) < total ((a, t :: ts) :: l) := by
  have h2 := noR_total t l
  have h1 : no1 t (a, t :: ts) = [] := by simp [no1, head_idx]
  simp only [noR, List.flatMap_cons, h1] at h2 ⊢
  rw [total_app, total_cons]
  simp [total] at *
  omega
theorem yesR_len (t : T) : ∀ l : List R, (yesR t l).length ≤ l.length
  | [] => Nat.le_refl _
  | x :: l => by
    have h2 := yesR_len t l
    have h1 : (yes1 t x).length ≤ 1 := by
      unfold yes1
      split
      · simp
      · split <;> simp
    simp only [yesR, List.flatMap_cons, List.length_append, List.length_cons] at h2 ⊢
    omega
theorem noR_len (t : T) : ∀ l : List R, (noR t l).length ≤ l.length
  | [] => Nat.le_refl _
  | x :: l => by
    have h2 := noR_len t l
    have h1 : (no1 t x).length ≤ 1 := by unfold no1; split <;> simp
    simp only [noR, List.flatMap_cons, List.length_append, List.length_cons] at h2 ⊢
    omega
def encTr : Tr → G → G
  | .leaf a, r => .lit (.bool true) (.lit (.int .i64 a) (.lit (.slice none 0 0) (.lit (.int .i64 0) (.lit (.int .i64 0) (.lit (.string ⟨#[]⟩) (.lit (.slice none 0 0) (.lit (.slice none 0 0) (.lit (.slice none 0 0) r))))))))
  | .ask t y n, r => .lit (.bool false) (.lit (.int .i64 0) (encT t (.row 1 (encTr y .nil) (.row 1 (encTr n .nil) r))))
/-- What build hands back. -/
def TreeEnds (S : Nat → Prop) (tr : Tr) (w : World) (e : Ending) (w' : World) : Prop := ∃ xs, e = .returned (.agg xs.toArray) ∧ GCells w' (fun b => S b ∨ (w.heap.size ≤ b ∧ b < w'.heap.size)) (encTr tr .nil) xs ∧ Below w.heap.size w w'

/-- Two rows of the call's own, side by side. -/
structure Two (S : Nat → Prop) (e : TypeId) (size : Nat) (w : World) (base : Nat) (v u : Value) (nv nu : Nat) (gv gu : G) (xs ys : List Value) : Prop where
  ownv : w.ownsRow base e size v nv xs
  ownu : w.ownsRow base e size u nu ys
  cellv : GCells w (fun b => (S b ∨ base ≤ b) ∧ b < w.heap.size ∧ some b ≠ v.ownBlock ∧ some b ≠ u.ownBlock) gv xs
  cellu : GCells w (fun b => (S b ∨ base ≤ b) ∧ b < w.heap.size ∧ some b ≠ v.ownBlock ∧ some b ≠ u.ownBlock) gu ys
  apart : ∀ b, v.ownBlock = some b → u.ownBlock = some b → False
theorem Two.nil (S : Nat → Prop) (e : TypeId) (size : Nat) (w : World) (base : Nat) : Two S e size w base (.slice none 0 0) (.slice none 0 0) 0 0 .nil .nil [] [] :=
  ⟨World.ownsRow_nil _ _ _ _, World.ownsRow_nil _ _ _ _, rfl, rfl, fun b h => by cases h⟩
theorem Two.symm {S : Nat → Prop} {e : TypeId} {size : Nat} {w : World} {base nv nu : Nat} {v u : Value} {gv gu : G} {xs ys : List Value} (h : Two S e size w base v u nv nu gv gu xs ys) : Two S e size w base u v nu nv gu gv ys xs :=
  ⟨h.ownu, h.ownv, h.cellu.mono fun b ⟨h0, h1, h2, h3⟩ => ⟨h0, h1, h3, h2⟩, h.cellv.mono fun b ⟨h0, h1, h2, h3⟩ => ⟨h0, h1, h3, h2⟩, fun b h1 h2 => h.apart b h2 h1⟩
theorem Two.kept {S : Nat → Prop} {e : TypeId} {size : Nat} {w w' : World} {base nv nu : Nat} {v u : Value} {gv gu : G} {xs ys : List Value} (h : Two S e size w base v u nv nu gv gu xs ys) (hb : Below w.heap.size w w') : Two S e size w' base v u nv nu gv gu xs ys :=
  ⟨h.ownv.kept ⟨hb.os, hb.tape, hb.output, hb.size, fun k hk _ => hb.block k hk⟩ (Classical.em _), h.ownu.kept ⟨hb.os, hb.tape, hb.output, hb.size, fun k hk _ => hb.block k hk⟩ (Classical.em _),
    h.cellv.keep (fun b h => ⟨h.1, Nat.lt_of_lt_of_le h.2.1 hb.size, h.2.2⟩) fun p hp => hb.cell hp.2.1, h.cellu.keep (fun b h => ⟨h.1, Nat.lt_of_lt_of_le h.2.1 hb.size, h.2.2⟩) fun p hp => hb.cell hp.2.1, h.apart⟩
theorem Two.alloc {S : Nat → Prop} {e : TypeId} {size : Nat} {w : World} {base nv nu : Nat} {v u : Value} {gv gu : G} {xs ys : List Value} (h : Two S e size w base v u nv nu gv gu xs ys) (o : Obj) : Two S e size (w.alloc o) base v u nv nu gv gu xs ys := h.kept ((Below.refl _ _).alloc (Nat.le_refl _) o)
theorem Two.drew {S : Nat → Prop} {e : TypeId} {size : Nat} {w : World} {base nv nu : Nat} {v u : Value} {gv gu : G} {xs ys : List Value} (h : Two S e size w base v u nv nu gv gu xs ys) : Two S e size w.drew base v u nv nu gv gu xs ys := h.kept (Below.refl _ _).drew
theorem Two.left {S : Nat → Prop} {e : TypeId} {size : Nat} {w w' : World} {base nv nu m : Nat} {v u v' : Value} {gv gu h : G} {xs ys zs : List Value} (ht : Two S e size w base v u nv nu gv gu xs ys) (hh : GCells w (fun b => (S b ∨ base ≤ b) ∧ b < w.heap.size ∧ some b ≠ v.ownBlock ∧ some b ≠ u.ownBlock) h zs)
    (hown' : w'.ownsRow base e size v' m (xs ++ zs)) (hg : w.grownBy w' v.ownBlock) (hv : v'.ownBlock = v.ownBlock ∨ v'.ownBlock = some w.heap.size) : Two S e size w' base v' u m nu (gv.app h) gu (xs ++ zs) ys := by
  have hsz := hg.size
  have hul : ∀ b, u.ownBlock = some b → b < w.heap.size := fun b hb => (ht.ownu.lt b hb).2
  have hS : ∀ b, ((S b ∨ base ≤ b) ∧ b < w.heap.size ∧ some b ≠ v.ownBlock ∧ some b ≠ u.ownBlock) → ((S b ∨ base ≤ b) ∧ b < w'.heap.size ∧ some b ≠ v'.ownBlock ∧ some b ≠ u.ownBlock) := fun b ⟨h0, hb, hne, hnu⟩ => ⟨h0, by omega, by
    rcases hv with h | h
    · rw [h]; exact hne
    · rw [h]; intro e; injection e with e; omega, hnu⟩
  have hk : ∀ p : Addr, ((S p.block ∨ base ≤ p.block) ∧ p.block < w.heap.size ∧ some p.block ≠ v.ownBlock ∧ some p.block ≠ u.ownBlock) → w'.cell? p = w.cell? p := fun p ⟨_, hb, hne, _⟩ => World.cell?_of_block (hg.block p.block hb hne)
  refine ⟨hown', ht.ownu.kept hg ?_, (ht.cellv.app hh).keep hS hk, ht.cellu.keep hS hk, fun b h1 h2 => ?_⟩
  · cases hu : u.ownBlock with
    | none => exact Or.inl rfl
    | some b => exact Or.inr fun e => ht.apart b e.symm hu
  · rcases hv with h | h
    · exact ht.apart b (h ▸ h1) h2
    · rw [h] at h1
      injection h1 with h1
      have := hul b h2
      omega
theorem Two.right {S : Nat → Prop} {e : TypeId} {size : Nat} {w w' : World} {base nv nu m : Nat} {v u u' : Value} {gv gu h : G} {xs ys zs : List Value} (ht : Two S e size w base v u nv nu gv gu xs ys) (hh : GCells w (fun b => (S b ∨ base ≤ b) ∧ b < w.heap.size ∧ some b ≠ v.ownBlock ∧ some b ≠ u.ownBlock) h zs)
    (hown' : w'.ownsRow base e size u' m (ys ++ zs)) (hg : w.grownBy w' u.ownBlock) (hv : u'.ownBlock = u.ownBlock ∨ u'.ownBlock = some w.heap.size) : Two S e size w' base v u' nv m gv (gu.app h) xs (ys ++ zs) :=
  (ht.symm.left (hh.mono fun b ⟨h0, h1, h2, h3⟩ => ⟨h0, h1, h3, h2⟩) hown' hg hv).symm
theorem Two.rowv {S : Nat → Prop} {e : TypeId} {size : Nat} {w : World} {base nv nu : Nat} {v u : Value} {gv gu : G} {xs ys : List Value} (h : Two S e size w base v u nv nu gv gu xs ys) (hs : 0 < size) : ∃ A c, v = .slice A nv c ∧ GRow w (fun b => (S b ∨ base ≤ b) ∧ b < w.heap.size) A nv gv := by
  have hlo := fun b hb => h.ownv.lt b hb
  obtain ⟨A, c, rfl, h1, h2, h3⟩ := CellsAt.of_own h.ownv
  refine ⟨A, c, rfl, fun hl => ?_⟩
  have hx : 0 < xs.length := by rw [h.ownv.1]; exact Nat.mul_pos hl hs
  obtain ⟨b, o, rfl, hg, hc⟩ := h3 hx
  exact ⟨b, o, xs, rfl, ⟨Or.inr (hlo b rfl).1, hg⟩, h.cellv.mono fun _ h => ⟨h.1, h.2.1⟩, hc⟩
theorem yes1_few {t : T} {x : R} (h : x.2.length ≤ 1000 ∧ ∀ y ∈ x.2, y.path.length ≤ 1000) : ∀ z ∈ yes1 t x, z.2.length ≤ 1000 ∧ ∀ y ∈ z.2, y.path.length ≤ 1000 := by
  intro z hz
  unfold yes1 at hz
  split at hz
  · simp only [List.mem_singleton] at hz
    subst hz
    exact ⟨Nat.le_trans (List.length_eraseIdx_le _ _) h.1, fun y hy => h.2 y (List.mem_of_mem_eraseIdx hy)⟩
  · split at hz
    · simp at hz
    · simp only [List.mem_singleton] at hz
      subst hz
      exact h
theorem yesR_few {t : T} {l : List R} (h : ∀ x ∈ l, x.2.length ≤ 1000 ∧ ∀ y ∈ x.2, y.path.length ≤ 1000) : ∀ z ∈ yesR t l, z.2.length ≤ 1000 ∧ ∀ y ∈ z.2, y.path.length ≤ 1000 := by
  intro z hz
  obtain ⟨x, hx, hz⟩ := List.mem_flatMap.1 hz
  exact yes1_few (h x hx) z hz
theorem noR_few {t : T} {l : List R} (h : ∀ x ∈ l, x.2.length ≤ 1000 ∧ ∀ y ∈ x.2, y.path.length ≤ 1000) : ∀ z ∈ noR t l, z.2.length ≤ 1000 ∧ ∀ y ∈ z.2, y.path.length ≤ 1000 := by
  intro z hz
  obtain ⟨x, hx, hz⟩ := List.mem_flatMap.1 hz
  unfold no1 at hz
  split at hz
  · simp at hz
  · simp only [List.mem_singleton] at hz
    subst hz
    exact h z hx
/-- A tree is nine cells. -/
theorem tree_nine {w : World} {S : Nat → Prop} {xs : List Value} : ∀ {tr : Tr}, GCells w S (encTr tr .nil) xs → ∃ b a A n c k m t A1 n1 c1 A2 n2 c2, xs = [.bool b, .int .i64 a, .slice A n c, .int .i64 k, .int .i64 m, .string t, .slice none 0 0, .slice A1 n1 c1, .slice A2 n2 c2]
  | .leaf a, ⟨_, e, _, _, e1, _, _, e2, _, _, e3, _, _, e4, _, _, e5, _, _, e6, _, _, e7, _, _, e8, _, e9⟩ => by
    subst e9 e8 e7 e6 e5 e4 e3 e2 e1 e
    exact ⟨_, _, _, _, _, _, _, _, _, _, _, _, _, _, rfl⟩
  | .ask t y n, ⟨_, e, _, _, e1, _, A, c, _, e2, _, _, _, _, e3, _, _, e4, _, _, e5, _, _, e6, _, A1, c1, _, e7, _, _, _, A2, c2, _, e8, _, _, _, e9⟩ => by
    subst e9 e8 e7 e6 e5 e4 e3 e2 e1 e
    exact ⟨_, _, _, _, _, _, _, _, _, _, _, _, _, _, rfl⟩
end Go.Proofs.YtiinghgfojicdaaGreat
