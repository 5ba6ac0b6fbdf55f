/- A part of the proofs of the laws of the deeds: Pure2. -/
import Derived.Test.YtkmpnfploplpfaaDoorDdPure
set_option linter.unusedVariables false
set_option linter.unusedSimpArgs false
namespace Go.Deed

/-! ### Numerals -/
theorem digit_nat {d : Nat} (h : d < 10) : (UInt8.ofNat (48 + d)).toNat = 48 + d := by
  rw [UInt8.toNat_ofNat']
  omega
theorem dec_bytes (u : Nat) : (∀ c ∈ Lib.decDigits u, 48 ≤ c.toNat ∧ c.toNat ≤ 57) ∧ Lib.decDigits u ≠ [] := by
  induction u using Nat.strongRecOn with
  | _ u ih =>
    rw [Lib.decDigits]
    split
    · next h =>
      refine ⟨fun c hc => ?_, by simp⟩
      simp only [List.mem_singleton] at hc
      subst hc
      rw [digit_nat h]
      omega
    · next h =>
      have h1 := ih (u / 10) (by omega)
      refine ⟨fun c hc => ?_, by simp⟩
      simp only [List.mem_append, List.mem_singleton] at hc
      rcases hc with hc | rfl
      · exact h1.1 c hc
      · rw [digit_nat (by omega)]
        omega
theorem itoa_bytes (n : Int) : (∀ c ∈ Lib.itoa n, c.toNat = 45 ∨ (48 ≤ c.toNat ∧ c.toNat ≤ 57)) ∧ Lib.itoa n ≠ [] := by
  unfold Lib.itoa
  split
  · refine ⟨fun c hc => ?_, by simp⟩
    simp only [List.mem_cons] at hc
    rcases hc with rfl | hc
    · left; rfl
    · right; exact (dec_bytes _).1 c hc
  · exact ⟨fun c hc => .inr ((dec_bytes _).1 c hc), (dec_bytes _).2⟩

theorem parse_snoc (c : UInt8) : ∀ (l : L) (acc : Nat), Lib.parseUint10 acc (l ++ [c]) = match Lib.parseUint10 acc l with
    | .ok m => Lib.parseUint10 m [c]
    | e => e
  | [], acc => by simp [Lib.parseUint10]
  | b :: l, acc => by
    simp only [List.cons_append, Lib.parseUint10]
    split
    · split
      · rfl
      · split
        · rfl
        · rw [parse_snoc c l]
          simp only [Lib.parseUint10]
    · rfl
theorem parse_dec (u : Nat) (h : u < 18446744073709551616) : Lib.parseUint10 0 (Lib.decDigits u) = .ok u := by
  induction u using Nat.strongRecOn with
  | _ u ih =>
    rw [Lib.decDigits]
    split
    · next h10 =>
      simp only [Lib.parseUint10, digit_nat h10]
      rw [if_pos (by omega), if_neg (by omega), if_neg (by omega)]
      congr 1
      omega
    · next h10 =>
      rw [parse_snoc, ih (u / 10) (by omega) (by omega)]
      simp only [Lib.parseUint10, digit_nat (show u % 10 < 10 by omega)]
      rw [if_pos (by omega), if_neg (by omega), if_neg (by omega)]
      congr 1
      omega
def R64 (n : Int) : Prop := -9223372036854775808 ≤ n ∧ n ≤ 9223372036854775807
theorem atoi_itoa {n : Int} (h : R64 n) : Lib.atoiAll (Lib.itoa n) = .ok n := by
  unfold R64 at h
  unfold Lib.itoa
  split
  · next hn =>
    unfold Lib.atoiAll
    simp only [show (45 : UInt8).toNat = 45 from rfl, or_true, if_true]
    unfold Lib.parseMag
    rw [if_neg (dec_bytes _).2, parse_dec _ (by omega)]
    simp only [not_true, false_and, if_false, true_and]
    rw [if_neg (by omega)]
    congr 1
    omega
  · next hn =>
    have hb := dec_bytes n.toNat
    have hp := parse_dec n.toNat (by omega)
    generalize Lib.decDigits n.toNat = l at hb hp
    cases l with
    | nil => exact absurd rfl hb.2
    | cons c r =>
      have hc := hb.1 c (by simp)
      unfold Lib.atoiAll
      simp only []
      rw [if_neg (show ¬ (c.toNat = 43 ∨ c.toNat = 45) by omega)]
      unfold Lib.parseMag
      rw [if_neg (by simp), hp]
      simp only []
      rw [if_neg (by omega), if_neg (by omega), if_neg (by omega)]
      congr 1
      omega
theorem numL_itoa {n : Int} (h : R64 n) : numL (Lib.itoa n) = some n := by
  unfold numL
  rw [atoi_itoa h]
  simp

/-! ### What is printed is read so -/
theorem F.ext_snoc : True := trivial
def F.app : F → F → F
  | .nil, b => b
  | .cons k n t a r, b => .cons k n t a (r.app b)
theorem F.snoc_app : ∀ (f : F) (k n : Int) (t : ByteArray) (a r : F), (f.snoc k n t a).app r = f.app (.cons k n t a r)
  | .nil, _, _, _, _, _ => rfl
  | .cons _ _ _ _ f, _, _, _, _, _ => by simp only [F.snoc, F.app, F.snoc_app f]
theorem F.app_nil : ∀ f : F, f.app .nil = f
  | .nil => rfl
  | .cons _ _ _ _ f => by simp only [F.app, F.app_nil f]

/-- All numbers are some of 64 bits. -/
def Rng : F → Prop
  | .nil => True
  | .cons _ n _ a r => R64 n ∧ Rng a ∧ Rng r

def okRest (r : L) : Prop := r = [] ∨ (∃ r', r = 41 :: r') ∨ ∃ r', r = 44 :: r'
def bareV (k n : Int) (t : ByteArray) (a : F) : V := ⟨k, if k = 2 ∨ k = 3 ∨ k = 6 then n else 0, if k = 4 ∨ k = 5 then t else toB [], if k = 5 then bareF a else .nil⟩
theorem sepB_eq (c : UInt8) : sepB c = (decide (c.toNat = 40) || decide (c.toNat = 41) || decide (c.toNat = 44)) := by
  unfold sepB
  have h : ∀ k : UInt8, (c == k) = decide (c.toNat = k.toNat) := fun k => by
    rw [Bool.eq_iff_iff]
    simp [UInt8.toNat_inj]
  rw [h, h, h]
  rfl
theorem head_word {w r : L} (hw : ∀ c ∈ w, sepB c = false) (hr : r = [] ∨ ∃ c r', r = c :: r' ∧ sepB c = true) : headLen (w ++ r) = w.length := by
  unfold headLen
  induction w with
  | nil =>
    rcases hr with rfl | ⟨c, r', rfl, hc⟩
    · rfl
    · simp [List.takeWhile, hc]
  | cons b w ih =>
    have hb := hw b (by simp)
    simp only [List.cons_append, List.takeWhile, hb, Bool.not_false, List.length_cons]
    rw [ih (fun c hc => hw c (by simp [hc]))]
theorem okRest_sep {r : L} (h : okRest r) : r = [] ∨ ∃ c r', r = c :: r' ∧ sepB c = true := by
  rcases h with rfl | ⟨r', rfl⟩ | ⟨r', rfl⟩
  · exact .inl rfl
  · exact .inr ⟨_, _, rfl, by decide⟩
  · exact .inr ⟨_, _, rfl, by decide⟩
theorem value_word (d : Nat) (w r : L) (hne : w ≠ []) (hw : ∀ c ∈ w, sepB c = false ∧ c.toNat ≠ 39) (hr : r = [] ∨ ∃ c r', r = c :: r' ∧ sepB c = true) :
    valueL (d + 1) (w ++ r) = wordPart (valueL d) w r := by
  have hl := head_word (fun c hc => (hw c hc).1) hr
  cases w with
  | nil => exact absurd rfl hne
  | cons b w =>
    obtain ⟨h1, h2⟩ := hw b (by simp)
    rw [sepB_eq] at h1
    simp at h1
    have h40 : b ≠ 40 := fun e => by subst e; exact h1.1.1 rfl
    have h39 : b ≠ 39 := fun e => by subst e; exact h2 rfl
    have e : valueL (d + 1) (b :: w ++ r) = wordPart (valueL d) ((b :: w ++ r).take (headLen (b :: w ++ r))) ((b :: w ++ r).drop (headLen (b :: w ++ r))) := by
      simp only [List.cons_append]
      unfold valueL
      split
      · next h => cases h
      · next h => injection h with h _; exact absurd h h40
      · next h => injection h with h _; exact absurd h h39
      · rfl
    rw [e, hl, List.take_left, List.drop_left]

theorem alnum_no {c : UInt8} (h : alnumB c = true) : sepB c = false ∧ c.toNat ≠ 39 ∧ c.toNat ≠ 32 ∧ c.toNat ≠ 64 := by
  unfold alnumB at h
  rw [sepB_eq]
  simp at h ⊢
  omega
theorem num_no {c : UInt8} (h : c.toNat = 45 ∨ (48 ≤ c.toNat ∧ c.toNat ≤ 57)) : sepB c = false ∧ c.toNat ≠ 39 ∧ c.toNat ≠ 32 := by
  rw [sepB_eq]
  simp
  omega
theorem name_head_up {c : UInt8} {w : L} (h : nameL (c :: w) = true) : 65 ≤ c.toNat ∧ c.toNat ≤ 90 := by
  unfold nameL upB at h
  simp at h
  exact h.1.2
theorem name_all {w : L} (h : nameL w = true) : ∀ c ∈ w, alnumB c = true := by
  cases w with
  | nil => simp [nameL] at h
  | cons c w =>
    unfold nameL at h
    rw [Bool.and_eq_true] at h
    exact fun c hc => List.all_eq_true.1 h.2 c hc
theorem name_not_true {w : L} (h : nameL w = true) : w ≠ [116, 114, 117, 101] ∧ w ≠ [102, 97, 108, 115, 101] := by
  constructor <;> (intro e; subst e; exact absurd h (by decide))

theorem wordPart_number {val : L → Option (V × L)} {w r : L} (hw : w ≠ []) (hc : ∀ c w', w = c :: w' → ¬ (65 ≤ c.toNat ∧ c.toNat ≤ 90) ∧ c.toNat ≠ 116 ∧ c.toNat ≠ 102) : wordPart val w r = numberL w r := by
  cases w with
  | nil => exact absurd rfl hw
  | cons c w =>
    obtain ⟨h1, h2, h3⟩ := hc c w rfl
    unfold wordPart
    rw [if_neg (fun e => by injection e with e _; subst e; exact h2 rfl), if_neg (fun e => by injection e with e _; subst e; exact h3 rfl), if_neg (fun e => h1 (name_head_up e))]
theorem number_plain {n : Int} (h : R64 n) (r : L) : numberL (Lib.itoa n) r = some (⟨2, n, toB [], .nil⟩, r) := by
  have hb := itoa_bytes n
  have hn := numL_itoa h
  generalize Lib.itoa n = w at hb hn
  unfold numberL
  split
  · next w' => have := hb.1 64 (by simp); simp at this
  · rw [hn]
theorem number_ref {n : Int} (h : R64 n) (r : L) : numberL (64 :: Lib.itoa n) r = some (⟨6, n, toB [], .nil⟩, r) := by
  simp only [numberL, numL_itoa h]

theorem indexByte_quote : ∀ (t : L) (r : L), (∀ c ∈ t, c.toNat ≠ 39) → Lib.indexByte (t ++ 39 :: r) 39 = t.length
  | [], r, _ => by simp [Lib.indexByte]
  | c :: t, r, h => by
    have hc := h c (by simp)
    have ih := indexByte_quote t r (fun x hx => h x (by simp [hx]))
    have hne : (c == 39) = false := by simp; exact fun e => hc (by subst e; rfl)
    simp only [List.cons_append, Lib.indexByte, hne, ih]
    rw [if_neg (by simp), if_neg (by simp)]
    simp
theorem plain_no {t : L} (h : plainL t = true) : ∀ c ∈ t, 32 ≤ c.toNat ∧ c.toNat ≠ 39 := by
  unfold plainL at h
  simp at h
  exact fun c hc => h.1 c hc

/-- The value of a text at the depth d. -/
def Reads (d : Nat) : Prop := ∀ (k n : Int) (t : ByteArray) (a : F) (s rest : L), text1 d k n t a = some s → R64 n → Rng a → okRest rest → valueL d (s ++ rest) = some (bareV k n t a, rest)

theorem loop_reads {d : Nat} (hd : Reads d) : ∀ (a acc : F) (f : Nat) (l : List L) (rest : L), textsF a d = some l → Rng a → a.len < f → acc.len + a.len ≤ 6 → okRest rest → (∀ r, rest ≠ 44 :: r) →
    partsLoop (valueL d) f acc (commaed l ++ rest) = some (acc.app (bareF a), rest)
  | .nil, acc, f, l, rest, h, _, hf, h6, hr, hn => by
    simp only [textsF, Option.some.injEq] at h
    subst h
    obtain ⟨f, rfl⟩ : ∃ m, f = m + 1 := ⟨f - 1, by simp only [F.len] at hf; omega⟩
    simp only [commaed, List.map_nil, List.flatten_nil, List.nil_append, bareF, F.app_nil]
    unfold partsLoop
    split
    · next r => exact absurd rfl (hn r)
    · rfl
  | .cons k n t a r, acc, f, l, rest, h, hg, hf, h6, hr, hn => by
    rw [textsF_cons] at h
    cases h1 : text1 d k n t a with
    | none => simp [h1] at h
    | some s1 =>
      cases h2 : textsF r d with
      | none => simp [h1, h2] at h
      | some l2 =>
        simp only [h1, h2, Option.some.injEq] at h
        subst h
        obtain ⟨f, rfl⟩ : ∃ m, f = m + 1 := ⟨f - 1, by omega⟩
        simp only [F.len] at hf h6
        have hv := hd k n t a s1 (commaed l2 ++ rest) h1 hg.1 hg.2.1 (by
          cases l2 with
          | nil => simpa [commaed] using hr
          | cons x l2 => exact .inr (.inr ⟨_, by simp [commaed]; rfl⟩))
        have ih := loop_reads hd r (acc.snoc (bareV k n t a).k (bareV k n t a).n (bareV k n t a).t (bareV k n t a).a) f l2 rest h2 hg.2.2 (by omega) (by rw [F.snoc_len]; omega) hr hn
        have e : commaed (s1 :: l2) ++ rest = 44 :: (s1 ++ (commaed l2 ++ rest)) := by simp [commaed]
        rw [e]
        unfold partsLoop
        simp only [hv]
        rw [if_neg (by omega), ih, F.snoc_app]
        rfl

theorem value_reads : ∀ d, Reads d
  | 0 => fun k n t a s rest h => by simp [text1, one] at h
  | d + 1 => fun k n t a s rest h hn ha hr => by
    have hD := value_reads d
    unfold text1 one at h
    rw [if_neg (by omega)] at h
    split at h
    · next hk =>
      subst hk
      simp only [Option.some.injEq] at h
      subst h
      rfl
    split at h
    · next hk =>
      subst hk
      simp only [Option.some.injEq] at h
      subst h
      have hb := itoa_bytes n
      rw [value_word d _ rest hb.2 (fun c hc => ⟨(num_no (hb.1 c hc)).1, (num_no (hb.1 c hc)).2.1⟩) (okRest_sep hr)]
      rw [wordPart_number hb.2 (fun c w e => by have := hb.1 c (by rw [e]; simp); omega), number_plain hn]
      rfl
    split at h
    · next hk =>
      subst hk
      split at h
      · next hz =>
        subst hz
        simp only [Option.some.injEq] at h
        subst h
        rw [value_word d _ rest (by simp) (by decide) (okRest_sep hr)]
        rfl
      · split at h
        · next hz =>
          subst hz
          simp only [Option.some.injEq] at h
          subst h
          rw [value_word d _ rest (by simp) (by decide) (okRest_sep hr)]
          rfl
        · cases h
    split at h
    · next hk =>
      subst hk
      simp only [Option.some.injEq] at h
      subst h
      have hb := itoa_bytes n
      rw [value_word d _ rest (by simp) (fun c hc => by
        simp only [List.mem_cons] at hc
        rcases hc with rfl | hc
        · decide
        · exact ⟨(num_no (hb.1 c hc)).1, (num_no (hb.1 c hc)).2.1⟩) (okRest_sep hr)]
      rw [wordPart_number (by simp) (fun c w e => by injection e with e _; subst e; decide), number_ref hn]
      rfl
    split at h
    · next hk =>
      subst hk
      split at h
      · next hp =>
        simp only [Option.some.injEq] at h
        subst h
        have hno := plain_no hp
        have hi := indexByte_quote t.data.toList rest (fun c hc => (hno c hc).2)
        have e : (39 :: (t.data.toList ++ [39])) ++ rest = 39 :: (t.data.toList ++ 39 :: rest) := by simp
        rw [e]
        simp only [valueL, quotePart, hi]
        rw [if_neg (by omega)]
        simp only [Int.toNat_natCast, List.take_left, hp, if_true]
        have e2 : (t.data.toList ++ 39 :: rest).drop (t.data.toList.length + 1) = rest := by
          rw [List.drop_append]
          simp
        rw [e2, toB_of]
        rfl
      · cases h
    split at h
    · next hk =>
      subst hk
      split at h
      · next hp =>
        obtain ⟨hw, h6⟩ := hp
        have hal := name_all hw
        have hnt := name_not_true hw
        split at h
        · cases h
        · next l hl =>
          simp only [Nat.add_sub_cancel] at hl
          split at h
          · next h0 =>
            simp only [Option.some.injEq] at h
            subst h
            rw [value_word d _ rest (name_ne hw) (fun c hc => ⟨(alnum_no (hal c hc)).1, (alnum_no (hal c hc)).2.1⟩) (okRest_sep hr)]
            unfold wordPart
            rw [if_neg hnt.1, if_neg hnt.2, if_pos hw]
            unfold partsL
            have ha0 : bareF a = .nil := by
              cases a with
              | nil => rfl
              | cons _ _ _ _ _ => simp [F.len] at h0
            split
            · next e => rcases hr with h | ⟨_, h⟩ | ⟨_, h⟩ <;> simp at h
            · next e => rcases hr with h | ⟨_, h⟩ | ⟨_, h⟩ <;> simp at h
            · simp only [bareV, toB_of, ha0]
              rfl
          · next h0 =>
            simp only [Option.some.injEq] at h
            subst h
            obtain ⟨x, l, rfl⟩ : ∃ x l', l = x :: l' := by
              cases l with
              | nil =>
                cases a with
                | nil => exact absurd rfl h0
                | cons _ _ _ _ _ =>
                  rw [textsF_cons] at hl
                  split at hl
                  · cases hl
                  · split at hl <;> simp at hl
              | cons x l => exact ⟨x, l, rfl⟩
            have hj := join_commaed x l
            have e : (t.data.toList ++ 40 :: (Lib.join (x :: l) [44] ++ [41])) ++ rest = t.data.toList ++ (40 :: (Lib.join (x :: l) [44] ++ 41 :: rest)) := by simp
            rw [e, value_word d _ _ (name_ne hw) (fun c hc => ⟨(alnum_no (hal c hc)).1, (alnum_no (hal c hc)).2.1⟩) (.inr ⟨40, _, rfl, by decide⟩)]
            unfold wordPart
            rw [if_neg hnt.1, if_neg hnt.2, if_pos hw]
            have hloop := loop_reads hD a .nil 8 (x :: l) (41 :: rest) hl ha (by omega) (by simp only [F.len]; omega) (.inr (.inl ⟨_, rfl⟩)) (by simp)
            rw [hj] at hloop
            simp only [List.cons_append] at hloop
            have hne : ∀ r, Lib.join (x :: l) [44] ++ 41 :: rest ≠ 41 :: r := by
              intro r e
              have hx := text_head hl
              rw [Lib.join_cons] at e
              cases x with
              | nil => exact hx.1 rfl
              | cons c x =>
                simp only [List.cons_append, List.cons.injEq] at e
                exact hx.2 c x rfl (by rw [e.1]; rfl)
            unfold partsL
            split
            · next r e => injection e with _ e; exact absurd e (hne r)
            · next r _ e =>
              injection e with _ e
              subst e
              rw [hloop]
              rfl
            · next e => exact absurd rfl (e _)
      · cases h
    · cases h
where
  text_head {a : F} {d : Nat} {x : L} {l : List L} (h : textsF a d = some (x :: l)) : x ≠ [] ∧ ∀ c x', x = c :: x' → c.toNat ≠ 41 := by
    cases a with
    | nil => simp [textsF] at h
    | cons k n t a r =>
      rw [textsF_cons] at h
      split at h
      · cases h
      · next s hs =>
        split at h
        · cases h
        · simp only [Option.some.injEq, List.cons.injEq] at h
          obtain ⟨rfl, _⟩ := h
          unfold text1 one at hs
          repeat' split at hs
          all_goals first
            | (cases hs; done)
            | (simp only [Option.some.injEq] at hs; subst hs)
          all_goals first
            | exact ⟨by simp, fun c x' e => by injection e with e _; subst e; decide⟩
            | exact ⟨(itoa_bytes n).2, fun c x' e => by have := (itoa_bytes n).1 c (by rw [e]; simp); omega⟩
            | skip
          all_goals (next hp _ _ _ _ =>
            refine ⟨by have := name_ne hp.1; simp [this], fun c x' e => ?_⟩
            have hne := name_ne hp.1
            have hal := name_all hp.1
            cases hd : t.data.toList with
            | nil => exact absurd hd hne
            | cons b w =>
              rw [hd] at e hal
              simp only [List.cons_append, List.cons.injEq] at e
              have := alnum_no (hal b (by simp))
              rw [sepB_eq] at this
              simp at this
              rw [← e.1]
              omega)
end Go.Deed
