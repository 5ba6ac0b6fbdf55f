/- A part of the proofs of the laws of the deeds: Pure. -/
import Derived.Lib.AtoiAll
import Derived.Lib.ItoaNum
import Derived.Lib.Join
import Derived.Lib.Bytealg
set_option linter.unusedVariables false
set_option linter.unusedSimpArgs false
namespace Go.Deed

/-- A row of values: kind, number, text, parts; and the others. -/
inductive F where
  | nil : F
  | cons (k n : Int) (t : ByteArray) (a r : F) : F
def F.len : F → Nat
  | .nil => 0
  | .cons _ _ _ _ r => r.len + 1
def F.snoc : F → Int → Int → ByteArray → F → F
  | .nil, k, n, t, a => .cons k n t a .nil
  | .cons k' n' t' a' r, k, n, t, a => .cons k' n' t' a' (r.snoc k n t a)
theorem F.snoc_len : ∀ (f : F) (k n : Int) (t : ByteArray) (a : F), (f.snoc k n t a).len = f.len + 1
  | .nil, _, _, _, _ => rfl
  | .cons _ _ _ _ r, k, n, t, a => by simp only [F.snoc, F.len, F.snoc_len r]

abbrev L := List UInt8
def toB (l : L) : ByteArray := ⟨l.toArray⟩
theorem toB_list (l : L) : (toB l).data.toList = l := by simp [toB]
theorem toB_of (b : ByteArray) : toB b.data.toList = b := by simp [toB]

def upB (c : UInt8) : Bool := decide (65 ≤ c.toNat) && decide (c.toNat ≤ 90)
def alnumB (c : UInt8) : Bool := (decide (48 ≤ c.toNat) && decide (c.toNat ≤ 57)) || (decide (65 ≤ c.toNat) && decide (c.toNat ≤ 90)) || (decide (97 ≤ c.toNat) && decide (c.toNat ≤ 122))
def nameL (s : L) : Bool := match s with
  | [] => false
  | c :: _ => decide (s.length ≤ 16) && upB c && s.all alnumB
def wordL (s : L) : Bool := !s.isEmpty && decide (s.length ≤ 16) && s.all alnumB
def plainL (s : L) : Bool := s.all (fun c => decide (32 ≤ c.toNat) && decide (c.toNat ≠ 39)) && decide (s.length ≤ 64)
def numL (s : L) : Option Int := match Lib.atoiAll s with
  | .ok n => if Lib.itoa n = s then some n else none
  | _ => none

def one (d : Nat) (k n : Int) (t : L) (m : Nat) (sub : Option (List L)) : Option L :=
  if d = 0 then none
  else if k = 1 then some [40, 41]
  else if k = 2 then some (Lib.itoa n)
  else if k = 3 then (if n = 0 then some [102, 97, 108, 115, 101] else if n = 1 then some [116, 114, 117, 101] else none)
  else if k = 6 then some (64 :: Lib.itoa n)
  else if k = 4 then (if plainL t then some (39 :: (t ++ [39])) else none)
  else if k = 5 then
    if nameL t = true ∧ m ≤ 6 then match sub with
      | none => none
      | some l => if m = 0 then some t else some (t ++ 40 :: (Lib.join l [44] ++ [41]))
    else none
  else none
def textsF : F → Nat → Option (List L)
  | .nil, _ => some []
  | .cons k n t a r, d => match one d k n t.data.toList a.len (textsF a (d - 1)) with
    | none => none
    | some s => match textsF r d with
      | none => none
      | some l => some (s :: l)
def text1 (d : Nat) (k n : Int) (t : ByteArray) (a : F) : Option L := one d k n t.data.toList a.len (textsF a (d - 1))
theorem textsF_cons (k n : Int) (t : ByteArray) (a r : F) (d : Nat) : textsF (.cons k n t a r) d = match text1 d k n t a with
    | none => none
    | some s => match textsF r d with
      | none => none
      | some l => some (s :: l) := rfl

structure V where
  k : Int
  n : Int
  t : ByteArray
  a : F

/-- The first of ( ) , -/
def sepB (c : UInt8) : Bool := c == 40 || c == 41 || c == 44
def headLen (s : L) : Nat := (s.takeWhile fun c => !sepB c).length

def partsLoop (val : L → Option (V × L)) : Nat → F → L → Option (F × L)
  | 0, _, _ => none
  | f + 1, acc, rest => match rest with
    | 44 :: r => match val r with
      | none => none
      | some (v, more) => if acc.len = 6 then none else partsLoop val f (acc.snoc v.k v.n v.t v.a) more
    | _ => some (acc, rest)
def partsL (val : L → Option (V × L)) (w rest : L) : Option (V × L) := match rest with
  | 40 :: 41 :: _ => none
  | 40 :: r => match partsLoop val 8 .nil (44 :: r) with
    | some (acc, 41 :: r') => some (⟨5, 0, toB w, acc⟩, r')
    | _ => none
  | _ => some (⟨5, 0, toB w, .nil⟩, rest)
def numberL (w rest : L) : Option (V × L) := match w with
  | 64 :: w' => match numL w' with
    | some k => some (⟨6, k, toB [], .nil⟩, rest)
    | none => none
  | _ => match numL w with
    | some k => some (⟨2, k, toB [], .nil⟩, rest)
    | none => none
def wordPart (val : L → Option (V × L)) (w rest : L) : Option (V × L) :=
  if w = [116, 114, 117, 101] then some (⟨3, 1, toB [], .nil⟩, rest)
  else if w = [102, 97, 108, 115, 101] then some (⟨3, 0, toB [], .nil⟩, rest)
  else if nameL w = true then partsL val w rest
  else numberL w rest
def quotePart (r : L) : Option (V × L) :=
  if Lib.indexByte r 39 < 0 then none
  else if plainL (r.take (Lib.indexByte r 39).toNat) = true then some (⟨4, 0, toB (r.take (Lib.indexByte r 39).toNat), .nil⟩, r.drop ((Lib.indexByte r 39).toNat + 1))
  else none
def valueL : Nat → L → Option (V × L)
  | 0, _ => none
  | d + 1, s => match s with
    | [] => none
    | 40 :: 41 :: r => some (⟨1, 0, toB [], .nil⟩, r)
    | 39 :: r => quotePart r
    | s => wordPart (valueL d) (s.take (headLen s)) (s.drop (headLen s))
def value1 (s : L) : Option V := match valueL 40 s with
  | some (v, []) => some v
  | _ => none

/-- Without what its kind does not need. -/
def bareF : F → F
  | .nil => .nil
  | .cons k n t a r => .cons k (if k = 2 ∨ k = 3 ∨ k = 6 then n else 0) (if k = 4 ∨ k = 5 then t else toB []) (if k = 5 then bareF a else .nil) (bareF r)
theorem bareF_len : ∀ f, (bareF f).len = f.len
  | .nil => rfl
  | .cons _ _ _ _ r => by simp only [bareF, F.len, bareF_len r]

/-! ### What is read is printed so -/
theorem numL_some {s : L} {n : Int} (h : numL s = some n) : Lib.itoa n = s := by
  unfold numL at h
  split at h
  · split at h
    · simp only [Option.some.injEq] at h; subst h; assumption
    · cases h
  · cases h
theorem texts_snoc : ∀ (f : F) (k n : Int) (t : ByteArray) (a : F) (d : Nat) (l : List L) (s : L), textsF f d = some l → text1 d k n t a = some s → textsF (f.snoc k n t a) d = some (l ++ [s])
  | .nil, k, n, t, a, d, l, s, h, hs => by
    simp only [textsF, Option.some.injEq] at h
    subst h
    simp only [F.snoc, textsF_cons, hs, textsF]
    rfl
  | .cons k' n' t' a' r, k, n, t, a, d, l, s, h, hs => by
    rw [textsF_cons] at h
    cases h1 : text1 d k' n' t' a' with
    | none => simp [h1] at h
    | some s1 =>
      cases h2 : textsF r d with
      | none => simp [h1, h2] at h
      | some l2 =>
        simp only [h1, h2, Option.some.injEq] at h
        subst h
        simp only [F.snoc, textsF_cons, h1, texts_snoc r k n t a d l2 s h2 hs, List.cons_append]

/-- The texts of a row, each behind a comma. -/
def commaed (l : List L) : L := (l.map (44 :: ·)).flatten
theorem commaed_snoc (l : List L) (s : L) : commaed (l ++ [s]) = commaed l ++ 44 :: s := by simp [commaed]
theorem join_commaed (s : L) (l : List L) : commaed (s :: l) = 44 :: Lib.join (s :: l) [44] := by
  rw [Lib.join_cons]
  simp [commaed, Lib.joinTail]

theorem partsLoop_sound {val : L → Option (V × L)} {d : Nat} (hv : ∀ s v r, val s = some (v, r) → ∃ t, text1 d v.k v.n v.t v.a = some t ∧ s = t ++ r) :
    ∀ (f : Nat) (acc : F) (rest : L) (l : List L) (acc' : F) (rest' : L), textsF acc d = some l → l.length = acc.len → acc.len ≤ 6 → partsLoop val f acc rest = some (acc', rest') →
      ∃ l', textsF acc' d = some (l ++ l') ∧ (l ++ l').length = acc'.len ∧ acc'.len ≤ 6 ∧ rest = commaed l' ++ rest' ∧ (∀ r, rest' ≠ 44 :: r)
  | 0, _, _, _, _, _, _, _, _, h => by simp [partsLoop] at h
  | f + 1, acc, rest, l, acc', rest', hl, hn, h6, h => by
    unfold partsLoop at h
    split at h
    · next r =>
      split at h
      · cases h
      · next v more hm =>
        split at h
        · cases h
        · next hlt =>
          obtain ⟨t, ht, hs⟩ := hv _ _ _ hm
          obtain ⟨l', h1, h2, h3, h4, h5⟩ := partsLoop_sound hv f (acc.snoc v.k v.n v.t v.a) more (l ++ [t]) acc' rest' (texts_snoc acc v.k v.n v.t v.a d l t hl ht) (by rw [F.snoc_len]; simp [hn]) (by rw [F.snoc_len]; omega) h
          refine ⟨t :: l', by simpa using h1, by simpa using h2, h3, ?_, h5⟩
          rw [hs, h4]
          simp [commaed]
    · next hne =>
      simp only [Option.some.injEq, Prod.mk.injEq] at h
      obtain ⟨rfl, rfl⟩ := h
      exact ⟨[], by simpa using hl, by simpa using hn, h6, by simp [commaed], fun r e => hne r e⟩

theorem name_ne {w : L} (h : nameL w = true) : w ≠ [] := fun e => by subst e; simp [nameL] at h
theorem text_make {d : Nat} {w : L} {a : F} {l : List L} (hd : d ≠ 0) (hw : nameL w = true) (ha : textsF a (d - 1) = some l) (hl : l.length = a.len) (h6 : a.len ≤ 6) :
    text1 d 5 0 (toB w) a = some (if a.len = 0 then w else w ++ 40 :: (Lib.join l [44] ++ [41])) := by
  unfold text1 one
  simp only [toB_list, hd, if_false, ha]
  rw [if_neg (by decide), if_neg (by decide), if_neg (by decide), if_neg (by decide), if_neg (by decide), if_pos trivial, if_pos ⟨hw, h6⟩]
  split <;> rfl

theorem value_sound : ∀ (d : Nat) (s : L) (v : V) (r : L), valueL d s = some (v, r) → ∃ t, text1 d v.k v.n v.t v.a = some t ∧ s = t ++ r
  | 0, _, _, _, h => by simp [valueL] at h
  | d + 1, s, v, r, h => by
    unfold valueL at h
    split at h
    · cases h
    · next r' =>
      simp only [Option.some.injEq, Prod.mk.injEq] at h
      obtain ⟨rfl, rfl⟩ := h
      exact ⟨[40, 41], by simp [text1, one], rfl⟩
    · next r' =>
      unfold quotePart at h
      split at h
      · cases h
      · next h0 =>
        split at h
        · next hp =>
          simp only [Option.some.injEq, Prod.mk.injEq] at h
          obtain ⟨rfl, rfl⟩ := h
          refine ⟨39 :: (r'.take (Lib.indexByte r' 39).toNat ++ [39]), by simp only [text1, one, toB_list]; rw [if_neg (by omega), if_neg (by decide), if_neg (by decide), if_neg (by decide), if_neg (by decide), if_pos trivial, if_pos hp], ?_⟩
          have hg : r'[(Lib.indexByte r' 39).toNat]? = some 39 := indexByte_at h0
          have := take_cons_drop hg
          simp only [List.cons_append, List.append_assoc, List.nil_append, List.singleton_append]
          rw [this]
        · cases h
    · next s0 _ _ _ =>
      have hsplit : s = s.take (headLen s) ++ s.drop (headLen s) := (List.take_append_drop _ _).symm
      generalize s.take (headLen s) = w at h hsplit
      generalize s.drop (headLen s) = rest at h hsplit
      rw [hsplit]
      clear hsplit
      unfold wordPart at h
      split at h
      · next e =>
        simp only [Option.some.injEq, Prod.mk.injEq] at h
        obtain ⟨rfl, rfl⟩ := h
        exact ⟨_, by simp [text1, one]; rfl, by rw [e]⟩
      · split at h
        · next e =>
          simp only [Option.some.injEq, Prod.mk.injEq] at h
          obtain ⟨rfl, rfl⟩ := h
          exact ⟨_, by simp [text1, one]; rfl, by rw [e]⟩
        · split at h
          · next hw =>
            unfold partsL at h
            split at h
            · cases h
            · next r' =>
              split at h
              · next acc r'' hpl =>
                simp only [Option.some.injEq, Prod.mk.injEq] at h
                obtain ⟨rfl, rfl⟩ := h
                obtain ⟨l', h1, h2, h3, h4, h5⟩ := partsLoop_sound (fun s v r => value_sound d s v r) 8 .nil _ [] acc _ rfl rfl (by decide) hpl
                simp only [List.nil_append] at h1 h2
                refine ⟨_, text_make (d := d + 1) (by omega) hw h1 h2 h3, ?_⟩
                cases l' with
                | nil => simp [commaed] at h4
                | cons t l' =>
                  rw [if_neg (by rw [← h2]; simp)]
                  rw [join_commaed] at h4
                  simp only [List.cons_append, List.cons.injEq, true_and] at h4
                  rw [h4]
                  simp
              · cases h
            · simp only [Option.some.injEq, Prod.mk.injEq] at h
              obtain ⟨rfl, rfl⟩ := h
              exact ⟨_, text_make (d := d + 1) (a := .nil) (l := []) (by omega) hw rfl rfl (by decide), rfl⟩
          · unfold numberL at h
            split at h
            · next w' =>
              split at h
              · next k hk =>
                simp only [Option.some.injEq, Prod.mk.injEq] at h
                obtain ⟨rfl, rfl⟩ := h
                exact ⟨64 :: Lib.itoa k, by simp [text1, one], by rw [numL_some hk]⟩
              · cases h
            · split at h
              · next k hk =>
                simp only [Option.some.injEq, Prod.mk.injEq] at h
                obtain ⟨rfl, rfl⟩ := h
                exact ⟨Lib.itoa k, by simp [text1, one], by rw [numL_some hk]⟩
              · cases h
where
  indexByte_at {l : L} (h : ¬ Lib.indexByte l 39 < 0) : l[(Lib.indexByte l 39).toNat]? = some 39 := by
    induction l with
    | nil => simp [Lib.indexByte] at h
    | cons b l ih =>
      unfold Lib.indexByte at h ⊢
      split
      · next e => simpa using e
      · next e =>
        rw [if_neg e] at h
        split at h
        · simp at h
        · next h1 =>
          rw [if_neg h1]
          have hge := Lib.indexByte_ge l 39
          have h1' : Lib.indexByte l 39 ≠ -1 := by simpa using h1
          have h2 : ¬ Lib.indexByte l 39 < 0 := by omega
          rw [show (Lib.indexByte l 39 + 1).toNat = (Lib.indexByte l 39).toNat + 1 by omega]
          simpa using ih h2
  take_cons_drop {l : L} {i : Nat} {c : UInt8} (h : l[i]? = some c) : l.take i ++ c :: l.drop (i + 1) = l := by
    obtain ⟨hi, rfl⟩ := List.getElem?_eq_some_iff.1 h
    rw [← List.drop_eq_getElem_cons hi, List.take_append_drop]
end Go.Deed
