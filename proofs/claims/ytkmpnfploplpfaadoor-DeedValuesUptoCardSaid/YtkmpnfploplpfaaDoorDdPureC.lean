/- A part of the proofs of the laws of the deeds: Pure3. -/
import Derived.Test.YtkmpnfploplpfaaDoorDdPureB
set_option linter.unusedVariables false
set_option linter.unusedSimpArgs false
namespace Go.Deed

/-- Within quotes, or not, behind a byte. -/
def inQ (c : UInt8) (q : Bool) : Bool := if c = 39 then !q else q
def fieldsGo : L → Bool → L → List L
  | [], _, now => [now]
  | c :: r, q, now =>
    if c = 32 ∧ inQ c q = false then now :: fieldsGo r (inQ c q) []
    else fieldsGo r (inQ c q) (now ++ [c])
theorem inQ_no {c : UInt8} (h : c.toNat ≠ 39) (q : Bool) : inQ c q = q := by
  unfold inQ
  rw [if_neg (fun e => h (by rw [e]; rfl))]
theorem fieldsGo_ne : ∀ (s : L) (q : Bool) (now : L), fieldsGo s q now ≠ []
  | [], _, _ => by simp [fieldsGo]
  | c :: r, q, now => by
    unfold fieldsGo
    split
    · simp
    · exact fieldsGo_ne r _ _
theorem join_cons_ne (x : L) (l : List L) (h : l ≠ []) : Lib.join (x :: l) [32] = x ++ 32 :: Lib.join l [32] := by
  cases l with
  | nil => exact absurd rfl h
  | cons y l => rw [Lib.join_cons, Lib.join_cons]; simp [Lib.joinTail]
theorem join_fields : ∀ (s : L) (q : Bool) (now : L), Lib.join (fieldsGo s q now) [32] = now ++ s
  | [], q, now => by simp [fieldsGo, Lib.join_one]
  | c :: r, q, now => by
    unfold fieldsGo
    split
    · next h =>
      rw [join_cons_ne _ _ (fieldsGo_ne _ _ _), join_fields r _ []]
      simp [h.1]
    · rw [join_fields r _ _]
      simp

def Neutral (p : L) : Prop := ∀ now rest, fieldsGo (p ++ rest) false now = fieldsGo rest false (now ++ p)
theorem neutral_of {p : L} (h : ∀ c ∈ p, c.toNat ≠ 39 ∧ c.toNat ≠ 32) : Neutral p := by
  induction p with
  | nil => intro now rest; simp
  | cons c p ih =>
    intro now rest
    obtain ⟨h1, h2⟩ := h c (by simp)
    simp only [List.cons_append, fieldsGo, inQ_no h1]
    rw [if_neg (fun e => h2 (by rw [e.1]; rfl)), ih (fun c hc => h c (by simp [hc]))]
    simp
theorem Neutral.append {p p' : L} (h : Neutral p) (h' : Neutral p') : Neutral (p ++ p') := fun now rest => by
  rw [List.append_assoc, h, h']
  simp
theorem within_quotes : ∀ (t now rest : L), (∀ c ∈ t, c.toNat ≠ 39) → fieldsGo (t ++ rest) true now = fieldsGo rest true (now ++ t)
  | [], now, rest, _ => by simp
  | c :: t, now, rest, h => by
    have h1 := h c (by simp)
    simp only [List.cons_append, fieldsGo, inQ_no h1]
    rw [if_neg (fun e => by cases e.2), within_quotes t _ rest (fun c hc => h c (by simp [hc]))]
    simp
theorem neutral_quote {t : L} (h : ∀ c ∈ t, c.toNat ≠ 39) : Neutral (39 :: (t ++ [39])) := fun now rest => by
  have e1 : fieldsGo (39 :: (t ++ (39 :: rest))) false now = fieldsGo (t ++ (39 :: rest)) true (now ++ [39]) := by
    rw [fieldsGo, if_neg (by decide)]
    rfl
  have e2 : ∀ x : L, fieldsGo (39 :: rest) true x = fieldsGo rest false (x ++ [39]) := fun x => by
    rw [fieldsGo, if_neg (by decide)]
    rfl
  simp only [List.cons_append, List.append_assoc, List.nil_append]
  rw [e1, within_quotes t _ _ h, e2]
  simp
theorem neutral_flat : ∀ (l : List L), (∀ p ∈ l, Neutral p) → Neutral (commaed l)
  | [], _ => fun now rest => by simp [commaed]
  | p :: l, h => by
    have e : commaed (p :: l) = [44] ++ (p ++ commaed l) := by simp [commaed]
    rw [e]
    exact (neutral_of (by decide)).append ((h p (by simp)).append (neutral_flat l (fun p hp => h p (by simp [hp]))))
theorem neutral_join {l : List L} (h : ∀ p ∈ l, Neutral p) : Neutral (Lib.join l [44]) := by
  cases l with
  | nil => intro now rest; simp [Lib.join_nil]
  | cons p l =>
    rw [Lib.join_cons]
    refine (h p (by simp)).append ?_
    have e : Lib.joinTail [44] l = commaed l := by simp [Lib.joinTail, commaed]
    rw [e]
    exact neutral_flat l (fun p hp => h p (by simp [hp]))
theorem neutral_itoa (n : Int) : Neutral (Lib.itoa n) := neutral_of fun c hc => ⟨(num_no ((itoa_bytes n).1 c hc)).2.1, (num_no ((itoa_bytes n).1 c hc)).2.2⟩
theorem neutral_alnum {w : L} (h : ∀ c ∈ w, alnumB c = true) : Neutral w := neutral_of fun c hc => ⟨(alnum_no (h c hc)).2.1, (alnum_no (h c hc)).2.2.1⟩

theorem one_neutral {d : Nat} {k n : Int} {t : L} {m : Nat} {sub : Option (List L)} (hs : ∀ l, sub = some l → ∀ p ∈ l, Neutral p) {s : L} (h : one d k n t m sub = some s) : Neutral s := by
  unfold one at h
  split at h
  · cases h
  split at h
  · simp only [Option.some.injEq] at h; subst h; exact neutral_of (by decide)
  split at h
  · simp only [Option.some.injEq] at h; subst h; exact neutral_itoa n
  split at h
  · split at h
    · simp only [Option.some.injEq] at h; subst h; exact neutral_of (by decide)
    · split at h
      · simp only [Option.some.injEq] at h; subst h; exact neutral_of (by decide)
      · cases h
  split at h
  · simp only [Option.some.injEq] at h; subst h
    exact Neutral.append (p := [64]) (neutral_of (by decide)) (neutral_itoa n)
  split at h
  · split at h
    · next hp => simp only [Option.some.injEq] at h; subst h; exact neutral_quote fun c hc => (plain_no hp c hc).2
    · cases h
  split at h
  · split at h
    · next hp =>
      split at h
      · cases h
      · next l =>
        split at h
        · simp only [Option.some.injEq] at h; subst h; exact neutral_alnum (name_all hp.1)
        · simp only [Option.some.injEq] at h; subst h
          exact (neutral_alnum (name_all hp.1)).append (Neutral.append (p := [40]) (neutral_of (by decide)) ((neutral_join (hs l rfl)).append (neutral_of (by decide))))
    · cases h
  · cases h
theorem texts_neutral : ∀ (f : F) (d : Nat) (l : List L), textsF f d = some l → ∀ p ∈ l, Neutral p
  | .nil, d, l, h => by
    simp only [textsF, Option.some.injEq] at h
    subst h
    simp
  | .cons k n t a r, d, l, h => by
    simp only [textsF] at h
    split at h
    · cases h
    · next s hs =>
      split at h
      · cases h
      · next l2 h2 =>
        simp only [Option.some.injEq] at h
        subst h
        intro p hp
        simp only [List.mem_cons] at hp
        rcases hp with rfl | hp
        · exact one_neutral (fun l hl => texts_neutral a (d - 1) l hl) hs
        · exact texts_neutral r d l2 h2 p hp
theorem fields_join : ∀ (p : L) (l : List L), (∀ x ∈ p :: l, Neutral x) → fieldsGo (Lib.join (p :: l) [32]) false [] = p :: l
  | p, [], h => by
    have := h p (by simp) [] []
    rw [Lib.join_one]
    simpa [fieldsGo] using this
  | p, q :: l, h => by
    rw [join_cons_ne _ _ (by simp), h p (by simp)]
    simp only [List.nil_append]
    have e : ∀ x y : L, fieldsGo (32 :: x) false y = y :: fieldsGo x false [] := fun x y => by
      rw [fieldsGo, if_pos (by decide)]
      rfl
    rw [e, fields_join q l (fun x hx => h x (List.mem_cons_of_mem _ hx))]

/-! ### Deeds -/
structure D where
  k : Int
  a : Int
  b : Int
  t : L
  args : F

def nums (k : Int) : Nat := if k = 9 then 0 else if k = 8 ∨ k = 12 ∨ k = 13 then 2 else 1
def textful (k : Int) : Bool := decide (k = 1) || decide (k = 12)
def manyL (k : Int) (n : Nat) : Bool := if k = 1 then decide (n ≤ 6) else if k = 2 then decide (n = 1) else decide (n = 0)
def words : List L := [[], [115, 112, 97, 119, 110], [116, 101, 108, 108], [116, 117, 114, 110], [116, 105, 99, 107], [99, 111, 109, 101], [108, 111, 115, 101], [100, 111, 117, 98, 108, 101], [109, 111, 118, 101], [99, 111, 108, 108, 101, 99, 116], [104, 111, 108, 100], [102, 114, 101, 101], [110, 97, 109, 101], [103, 111, 115, 115, 105, 112]]
def wordOf (k : Int) : L := (words[k.toNat]?).getD []

def numTexts (k a b : Int) : List L := if nums k = 0 then [] else if nums k = 2 then [Lib.itoa a, Lib.itoa b] else [Lib.itoa a]
def goodL (k a b : Int) (t : L) (m : Nat) : Bool :=
  decide (1 ≤ k) && decide (k < 14) && (textful k == !t.isEmpty) && (t.isEmpty || wordL t) && manyL k m && (decide (2 ≤ nums k) || decide (b = 0)) && (decide (1 ≤ nums k) || decide (a = 0))
def printL (d : D) : Option L :=
  if goodL d.k d.a d.b d.t d.args.len = true then match textsF d.args 40 with
    | none => none
    | some l => some (Lib.join (wordOf d.k :: (numTexts d.k d.a d.b ++ (if d.t.isEmpty then [] else [d.t]) ++ l)) [32])
  else none

def idxIn (x : L) : List L → Nat → Int
  | [], _ => -1
  | y :: l, i => if y = x then i else idxIn x l (i + 1)
def valuesL : List L → F → Option F
  | [], acc => some acc
  | x :: l, acc => match value1 x with
    | some v => valuesL l (acc.snoc v.k v.n v.t v.a)
    | none => none
def parseArgs (k a b : Int) (t : L) (f : List L) : Option D := match valuesL f .nil with
  | some args => if manyL k args.len = true then some ⟨k, a, b, t, args⟩ else none
  | none => none
def parseText (k a b : Int) (f : List L) : Option D :=
  if textful k = true then match f with
    | x :: f => if wordL x = true then parseArgs k a b x f else none
    | [] => none
  else parseArgs k a b [] f
def parseNums (k : Int) (f : List L) : Option D :=
  if nums k = 0 then parseText k 0 0 f
  else match f with
    | [] => none
    | x :: f => match numL x with
      | none => none
      | some a => if nums k = 1 then parseText k a 0 f else match f with
        | [] => none
        | y :: f => match numL y with
          | none => none
          | some b => parseText k a b f
def parseL (s : L) : Option D := match fieldsGo s false [] with
  | [] => none
  | f0 :: f => if idxIn f0 words 0 < 1 then none else parseNums (idxIn f0 words 0) f

theorem idxIn_spec (x : L) : ∀ (l : List L) (i : Nat), idxIn x l i = -1 ∨ (∃ j : Nat, idxIn x l i = ((i + j : Nat) : Int) ∧ l[j]? = some x)
  | [], i => .inl rfl
  | y :: l, i => by
    unfold idxIn
    split
    · next e => exact .inr ⟨0, by simp, by simp [e]⟩
    · rcases idxIn_spec x l (i + 1) with h | ⟨j, h1, h2⟩
      · exact .inl h
      · exact .inr ⟨j + 1, by rw [h1]; congr 1; omega, by simpa using h2⟩
theorem value1_text {x : L} {v : V} (h : value1 x = some v) : text1 40 v.k v.n v.t v.a = some x := by
  unfold value1 at h
  split at h
  · next v' hv =>
    simp only [Option.some.injEq] at h
    subst h
    obtain ⟨t, ht, hs⟩ := value_sound 40 x _ _ hv
    rw [ht, hs]
    simp
  · cases h
theorem values_texts : ∀ (f : List L) (acc args : F) (l : List L), textsF acc 40 = some l → valuesL f acc = some args → textsF args 40 = some (l ++ f)
  | [], acc, args, l, hl, h => by
    simp only [valuesL, Option.some.injEq] at h
    subst h
    simpa using hl
  | x :: f, acc, args, l, hl, h => by
    unfold valuesL at h
    split at h
    · next v hv =>
      have := values_texts f _ args (l ++ [x]) (texts_snoc acc v.k v.n v.t v.a 40 l x hl (value1_text hv)) h
      simpa using this
    · cases h

/-- What is parsed is printed so. -/
theorem parse_print {s : L} {d : D} (h : parseL s = some d) : printL d = some s := by
  have hj := join_fields s false []
  unfold parseL at h
  cases hf : fieldsGo s false [] with
  | nil => simp [hf] at h
  | cons f0 f =>
    rw [hf] at h hj
    simp only [List.nil_append] at hj
    simp only [] at h
    split at h
    · cases h
    · next h1 =>
      have hk : ∃ k : Nat, idxIn f0 words 0 = (k : Int) ∧ words[k]? = some f0 := by
        rcases idxIn_spec f0 words 0 with h | ⟨j, h, h'⟩
        · omega
        · exact ⟨j, by simpa using h, h'⟩
      obtain ⟨k, hk, hw⟩ := hk
      rw [hk] at h h1
      have hlt : k < 14 := (List.getElem?_eq_some_iff.1 hw).1
      rw [← hj]
      have hword : wordOf (k : Int) = f0 := by unfold wordOf; simp [hw]
      -- the arguments
      have hargs : ∀ (a b : Int) (t : L) (g : List L) (pre : List L), parseArgs (k : Int) a b t g = some d → numTexts (k : Int) a b ++ (if t.isEmpty then [] else [t]) = pre → goodL (k : Int) a b t d.args.len = true → printL d = some (Lib.join (f0 :: (pre ++ g)) [32]) := by
        intro a b t g pre hp hpre hg
        unfold parseArgs at hp
        split at hp
        · next args ha =>
          split at hp
          · simp only [Option.some.injEq] at hp
            subst hp
            have := values_texts g .nil args [] rfl ha
            unfold printL
            rw [if_pos hg, this]
            simp only [hword, hpre, List.nil_append]
          · cases hp
        · cases hp
      have hmany : ∀ (a b : Int) (t : L) (g : List L), parseArgs (k : Int) a b t g = some d → manyL k d.args.len = true := by
        intro a b t g hp
        unfold parseArgs at hp
        split at hp
        · split at hp
          · next hm => simp only [Option.some.injEq] at hp; subst hp; exact hm
          · cases hp
        · cases hp
      have htext : ∀ (a b : Int) (g : List L), parseText (k : Int) a b g = some d → (2 ≤ nums k ∨ b = 0) → (1 ≤ nums k ∨ a = 0) → printL d = some (Lib.join (f0 :: (numTexts (k : Int) a b ++ g)) [32]) := by
        intro a b g hp hb ha
        unfold parseText at hp
        split at hp
        · next ht =>
          split at hp
          · next x g =>
            split at hp
            · next hx =>
              have hm := hmany _ _ _ _ hp
              have hne : x.isEmpty = false := by unfold wordL at hx; simp at hx; simpa using hx.1.1
              have := hargs a b x g (numTexts (k : Int) a b ++ [x]) hp (by simp [hne]) (by
                unfold goodL
                simp only [Bool.and_eq_true, decide_eq_true_eq, Bool.or_eq_true, ht, hne, hm, hx]
                refine ⟨⟨⟨⟨⟨⟨by omega, by omega⟩, rfl⟩, .inr trivial⟩, trivial⟩, hb⟩, ha⟩)
              simpa using this
            · cases hp
          · cases hp
        · next ht =>
          have hm := hmany _ _ _ _ hp
          have ht : textful (k : Int) = false := by simpa using ht
          have := hargs a b [] g (numTexts (k : Int) a b) hp (by simp) (by
            unfold goodL
            simp only [Bool.and_eq_true, decide_eq_true_eq, Bool.or_eq_true, ht, hm]
            refine ⟨⟨⟨⟨⟨⟨by omega, by omega⟩, rfl⟩, .inl rfl⟩, trivial⟩, hb⟩, ha⟩)
          exact this
      unfold parseNums at h
      split at h
      · next h0 =>
        have := htext 0 0 f h (.inr rfl) (.inr rfl)
        simpa [numTexts, h0] using this
      · next h0 =>
        split at h
        · cases h
        · next x g =>
          split at h
          · cases h
          · next a ha =>
            have hx := numL_some ha
            split at h
            · next hn1 =>
              have := htext a 0 g h (.inr rfl) (.inl (by omega))
              simpa [numTexts, h0, hn1, hx] using this
            · next hn1 =>
              have hn2 : nums (k : Int) = 2 := by
                unfold nums at h0 hn1 ⊢
                split at h0 <;> rename_i h9
                · exact absurd rfl h0
                · rw [if_neg h9] at hn1 ⊢
                  split at hn1
                  · next h8 => rw [if_pos h8]
                  · exact absurd rfl hn1
              split at h
              · cases h
              · next y g =>
                split at h
                · cases h
                · next b hb =>
                  have hy := numL_some hb
                  have := htext a b g h (.inl (by omega)) (.inl (by omega))
                  simpa [numTexts, hn2, hx, hy] using this

/-! ### And what is printed is parsed so -/
theorem one_pos {k n : Int} {t : ByteArray} {a : F} {s : L} (h : text1 40 k n t a = some s) (hn : R64 n) (ha : Rng a) : value1 s = some (bareV k n t a) := by
  have := value_reads 40 k n t a s [] h hn ha (.inl rfl)
  simp only [List.append_nil] at this
  unfold value1
  rw [this]
theorem values_reads : ∀ (a acc : F) (l : List L), textsF a 40 = some l → Rng a → valuesL l acc = some (acc.app (bareF a))
  | .nil, acc, l, h, _ => by
    simp only [textsF, Option.some.injEq] at h
    subst h
    simp only [valuesL, bareF, F.app_nil]
  | .cons k n t a r, acc, l, h, hg => by
    rw [textsF_cons] at h
    split at h
    · cases h
    · next s hs =>
      split at h
      · cases h
      · next l2 h2 =>
        simp only [Option.some.injEq] at h
        subst h
        simp only [valuesL, one_pos hs hg.1 hg.2.1]
        rw [values_reads r _ l2 h2 hg.2.2, F.snoc_app]
        rfl
theorem idx_word : ∀ k : Fin 14, idxIn (wordOf (k.val : Int)) words 0 = k.val := by decide
theorem word_all {w : L} (h : wordL w = true) : ∀ c ∈ w, alnumB c = true := by
  unfold wordL at h
  rw [Bool.and_eq_true] at h
  exact fun c hc => List.all_eq_true.1 h.2 c hc
theorem words_neutral : ∀ k : Fin 14, ∀ c ∈ wordOf (k.val : Int), c.toNat ≠ 39 ∧ c.toNat ≠ 32 := by decide

theorem print_parse {d : D} {s : L} (h : printL d = some s) (ha : R64 d.a) (hb : R64 d.b) (hg : Rng d.args) : parseL s = some { d with args := bareF d.args } := by
  unfold printL at h
  split at h
  · next hgood =>
    split at h
    · cases h
    · next l hl =>
      simp only [Option.some.injEq] at h
      subst h
      obtain ⟨k, a, b, t, args⟩ := d
      simp only at hgood hl ha hb hg ⊢
      unfold goodL at hgood
      simp only [Bool.and_eq_true, decide_eq_true_eq, Bool.or_eq_true, beq_iff_eq] at hgood
      obtain ⟨⟨⟨⟨⟨⟨hk1, hk2⟩, htf⟩, htw⟩, hmany⟩, hb0⟩, ha0⟩ := hgood
      obtain ⟨kn, rfl⟩ : ∃ m : Nat, k = m := ⟨k.toNat, by omega⟩
      have hkn : kn < 14 := by omega
      have hneu : ∀ x ∈ wordOf (kn : Int) :: (numTexts (kn : Int) a b ++ (if t.isEmpty then [] else [t]) ++ l), Neutral x := by
        intro x hx
        simp only [List.mem_cons, List.mem_append] at hx
        rcases hx with rfl | (hx | hx) | hx
        · exact neutral_of (words_neutral ⟨kn, hkn⟩)
        · unfold numTexts at hx
          split at hx
          · simp at hx
          · split at hx
            · simp only [List.mem_cons, List.not_mem_nil, or_false] at hx
              rcases hx with rfl | rfl <;> exact neutral_itoa _
            · simp only [List.mem_cons, List.not_mem_nil, or_false] at hx
              subst hx
              exact neutral_itoa _
        · split at hx
          · simp at hx
          · next hne =>
            simp only [List.mem_cons, List.not_mem_nil, or_false] at hx
            subst hx
            rcases htw with h | h
            · exact absurd h hne
            · exact neutral_alnum (word_all h)
        · exact texts_neutral args 40 l hl x hx
      unfold parseL
      rw [fields_join _ _ hneu]
      simp only [idx_word ⟨kn, hkn⟩]
      rw [if_neg (by omega)]
      have hA : ∀ t', parseArgs (kn : Int) a b t' l = some ⟨kn, a, b, t', bareF args⟩ := by
        intro t'
        unfold parseArgs
        rw [values_reads args .nil l hl hg]
        simp only []
        have hm : manyL (kn : Int) (F.nil.app (bareF args)).len = true := by simp only [F.app, bareF_len]; exact hmany
        rw [if_pos hm]
        rfl
      have hT : parseText (kn : Int) a b ((if t.isEmpty then [] else [t]) ++ l) = some ⟨kn, a, b, t, bareF args⟩ := by
        unfold parseText
        cases ht : t.isEmpty with
        | true =>
          rw [ht] at htf
          have : t = [] := List.isEmpty_iff.1 ht
          subst this
          rw [if_neg (by rw [htf]; decide)]
          simpa using hA []
        | false =>
          rw [ht] at htf htw
          rw [if_pos (by rw [htf]; rfl)]
          simp only [Bool.false_eq_true, if_false, List.singleton_append]
          rcases htw with h | h
          · cases h
          · rw [if_pos h]; exact hA t
      unfold parseNums
      by_cases h0 : nums (kn : Int) = 0
      · rw [if_pos h0]
        have e : numTexts (kn : Int) a b = [] := by simp [numTexts, h0]
        have ea : a = 0 := by rcases ha0 with h | h; omega; exact h
        have eb : b = 0 := by rcases hb0 with h | h; omega; exact h
        rw [e, List.nil_append]
        subst ea; subst eb
        exact hT
      · rw [if_neg h0]
        by_cases h1 : nums (kn : Int) = 1
        · have e : numTexts (kn : Int) a b = [Lib.itoa a] := by simp [numTexts, h1]
          have eb : b = 0 := by rcases hb0 with h | h; omega; exact h
          rw [e]
          simp only [List.append_assoc, List.singleton_append, List.cons_append, List.nil_append, numL_itoa ha]
          rw [if_pos h1]
          subst eb
          exact hT
        · have h2 : nums (kn : Int) = 2 := by
            have : nums (kn : Int) ≤ 2 := by unfold nums; split; omega; split <;> omega
            omega
          have e : numTexts (kn : Int) a b = [Lib.itoa a, Lib.itoa b] := by simp [numTexts, h2]
          rw [e]
          simp only [List.append_assoc, List.cons_append, List.nil_append, numL_itoa ha]
          rw [if_neg h1]
          simp only [numL_itoa hb]
          exact hT
  · cases h

theorem one_bare (d : Nat) (k n : Int) (t : ByteArray) (m : Nat) (sub sub' : Option (List L)) (h : k = 5 → sub = sub') (hm : k = 5 → m = m) :
    one d k n t.data.toList m sub = one d k (if k = 2 ∨ k = 3 ∨ k = 6 then n else 0) (if k = 4 ∨ k = 5 then t else toB []).data.toList (if k = 5 then m else 0) sub' := by
  unfold one
  by_cases h5 : k = 5
  · subst h5; simp [h rfl]
  · by_cases h2 : k = 2
    · subst h2; simp
    · by_cases h3 : k = 3
      · subst h3; simp
      · by_cases h6 : k = 6
        · subst h6; simp
        · by_cases h4 : k = 4
          · subst h4; simp
          · simp [h2, h3, h4, h5, h6]
theorem texts_bare : ∀ (f : F) (d : Nat), textsF (bareF f) d = textsF f d
  | .nil, _ => rfl
  | .cons k n t a r, d => by
    simp only [bareF, textsF, texts_bare r d]
    rw [one_bare d k n t a.len (textsF a (d - 1)) (textsF (if k = 5 then bareF a else .nil) (d - 1)) (fun h => by rw [if_pos h, texts_bare a (d - 1)]) (fun _ => rfl)]
    have : (if k = 5 then a.len else 0) = (if k = 5 then bareF a else F.nil).len := by
      split
      · rw [bareF_len]
      · rfl
    rw [this]
theorem print_bare (d : D) : printL { d with args := bareF d.args } = printL d := by
  unfold printL
  simp only [bareF_len, texts_bare]
end Go.Deed
