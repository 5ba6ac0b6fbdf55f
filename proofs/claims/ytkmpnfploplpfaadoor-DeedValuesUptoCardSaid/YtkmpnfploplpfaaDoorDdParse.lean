/- A part of the proofs of the laws of the deeds: Parse. -/
import Derived.Test.YtkmpnfploplpfaaDoorDdParseX
import Derived.Test.YtkmpnfploplpfaaDoorDdPrintA
set_option linter.unusedVariables false
set_option linter.unusedSimpArgs false
namespace Go.Proofs.YtkmpnfploplpfaaDoor
open Go.RowKit Go.Deed Go.RowG
attribute [local go_sem ↓] Go.wp_at_zero Go.wp_at_succ
set_option linter.unusedVariables false

def manyEnds (A : Nat → Nat → Act) (F : Nat → Nat → World → Prop) : Exit → Act → World → Prop
  | .normal, a, w => ∃ y z, a = A y z ∧ F y z w
  | _, _, _ => False
theorem region_merge2 {P : Program} {c : Code} {Q : Exit → Act → World → Prop} {a : Act} {w : World} (A : Nat → Nat → Act) (F : Nat → Nat → World → Prop) (h : c.wp P (manyEnds A F) a w) (hq : ∀ y z w', F y z w' → Q .normal (A y z) w') : c.wp P Q a w :=
  Code.wp_mono (fun e a' w' h => by
    cases e <;> simp only [manyEnds] at h
    obtain ⟨y, z, h2, h3⟩ := h
    subst h2
    exact hq y z w' h3) h
/-- Where a word stands. -/
theorem index_words (x : ByteArray) (g : Nat) (w : World) (h : ∀ (j : Nat) (x : L), words[j]? = some x → w.cell? ⟨g, j, none⟩ = some (.string (toB x))) :
    Calls Tryd.prog 20 #[.slice (some ⟨g, 0, none⟩) 14 14, .string x] w fun e w' => e = .returned (.int .i64 (idxIn x.data.toList words 0)) ∧ w' = w := by
  have hz : words.length = 14 := rfl
  have := Tryd.slices_Index_string g 0 14 14 (words.map toB) x w (by rw [List.length_map, hz]; decide) (by decide) (fun j hj => by
    rw [List.length_map, hz] at hj
    have h1 := h j (words[j]'(by rw [hz]; exact hj)) (List.getElem?_eq_getElem _)
    rw [Nat.zero_add, h1, List.getD, List.getElem?_map, List.getElem?_eq_getElem (by rw [hz]; exact hj)]
    rfl)
  rw [List.take_of_length_le (by rw [List.length_map, hz]; decide), idx_same] at this
  exact this
where
  idx_same {x : ByteArray} : Lib.idxOfS (words.map toB) x = idxIn x.data.toList words 0 := by
    have h : ∀ (l : List L) (i : Nat), Lib.idxFromS (l.map toB) x i = idxIn x.data.toList l i := fun l => by
      induction l with
      | nil => intro i; rfl
      | cons y l ih =>
        intro i
        simp only [List.map_cons, Lib.idxFromS, idxIn, ih]
        have : toB y = x ↔ y = x.data.toList := ⟨fun e => by rw [← e, toB_list], fun e => by rw [e, toB_of]⟩
        by_cases e : y = x.data.toList
        · rw [if_pos (this.2 e), if_pos e]
        · rw [if_neg (fun h => e (this.1 h)), if_neg e]
    exact h words 0
set_option maxRecDepth 100000 in
set_option maxHeartbeats 4000000 in
theorem Parse_says (s : ByteArray) (w : World) (hs : s.size ≤ 90000000) (hE : Env w) : Calls Tryd.prog 8 #[.string s] w (ParseEnds (parseL s.data.toList) w) := by
  obtain ⟨res, hres⟩ : ∃ res, res = parseL s.data.toList := ⟨_, rfl⟩
  rw [← hres]
  unfold parseL at hres
  have hlens := fieldsGo_each s.data.toList false []
  have HE := Lib.hid hE
  clear hE
  obtain ⟨fs, hfs⟩ : ∃ fs, fs = fieldsGo s.data.toList false [] := ⟨_, rfl⟩
  have hcall : ∀ o : Obj, Calls Tryd.prog 19 #[.string s] (w.alloc o) (TextsEnds (fieldsGo s.data.toList false []) (w.alloc o)) := fun o => fields_says s (w.alloc o) (by omega)
  rw [← hfs] at hcall hres hlens
  unfold TextsEnds at hcall
  cases fs with
  | nil => exact absurd hfs.symm (fieldsGo_ne _ _ _)
  | cons f0 fs =>
  have HFS := Lib.hid hfs
  have hfs' := hfs
  clear hfs
  obtain ⟨n, hn⟩ : ∃ n, n = fs.length := ⟨_, rfl⟩
  rw [List.length_cons, ← hn] at hcall
  have HN := Lib.hid hn
  have hn300 : n ≤ 90000000 := by
    have := fieldsGo_len s.data.toList false []
    rw [← hfs', List.length_cons, ← hn] at this
    simp at this
    omega
  clear hn hfs'
  have hlens : ∀ x ∈ fs, x.length ≤ 90000000 := fun x hx => by
    have := hlens x (by simp [hx])
    simp at this
    omega
  have HL := Lib.hid hlens
  clear hlens
  go_enter Tryd.func8, Tryd.ntmps8
  go_wp2_with (first
      | (go_at_call 19; (with_reducible refine (hcall _).mono ?_); rintro e w2 ⟨A4, c4, rfl, hl, hc, hat, hb2⟩))
  obtain ⟨g, o, rfl, hg, hcell⟩ := hat (by simp [strV])
  have h0 : w2.cell? ⟨g, o, none⟩ = some (.string (toB f0)) := hcell 0 _ rfl
  obtain ⟨k, hk⟩ : ∃ k, k = idxIn f0 words 0 := ⟨_, rfl⟩
  simp only [← hk] at hres
  have HR := Lib.hid hres
  clear hres
  have hix : ∀ (g : Nat) (W : World), (∀ (j : Nat) (x : L), words[j]? = some x → W.cell? ⟨g, j, none⟩ = some (.string (toB x))) → Calls Tryd.prog 20 #[.slice (some ⟨g, 0, none⟩) 14 14, .string (toB f0)] W (fun e w' => e = .returned (.int .i64 k) ∧ w' = W) := fun g W h => by
    have := index_words (toB f0) g W h
    rw [toB_list, ← hk] at this
    exact this
  have HK := Lib.hid hk
  clear hk
  apply region_merge2 (A := fun y z => { tmps := #[Value.string s, undef, Value.pointer (some { block := w.heap.size, off := 0 }), Value.int IntKind.i64 0, Value.slice (some { block := g, off := o }) (n + 1) c4, Value.pointer (some { block := z, off := 0 }), undef, undef, undef, undef, undef, undef, undef, Value.string s, Value.slice (some { block := g, off := o }) (n + 1) c4, Value.slice (some { block := y, off := 0 }) 14 14, Value.slice (some { block := g, off := o }) (n + 1) c4, Value.pointer (some { block := g, off := o }), Value.string (toB f0), Value.int IntKind.i64 k, Value.agg #[Value.int IntKind.i64 k, Value.int IntKind.i64 0, Value.int IntKind.i64 0, Value.string { data := #[] }, Value.slice none 0 0], undef, undef, undef, undef, undef, undef, undef, undef, undef, undef, undef, undef, undef, undef, undef, undef, undef, undef, undef, undef, undef, undef, undef, undef, undef, undef, undef, undef, undef, undef, undef, undef, undef, undef, undef, undef, undef, undef, undef, undef, undef, undef, undef, undef, undef, undef, undef, undef, undef, undef, undef, undef, undef, undef, undef, undef, undef, undef, undef, undef, undef, undef, undef, undef, undef, undef, undef, undef, undef, undef, undef, undef, undef, undef, undef, undef, undef, undef, undef, undef, undef, undef, undef, undef, undef], defers := [] }) (F := fun y z w' => Below w2.heap.size w2 w' ∧ w2.heap.size ≤ z ∧ w'.heap[z]? = some (.cells #[.int .i64 k, .int .i64 0, .int .i64 0, .string ⟨#[]⟩, .slice none 0 0] 24 (0, 0)))
  · go_region_with (first
      | (go_at_call 17; (with_reducible refine (words_says _).mono ?_); rintro e w3 ⟨rfl, hw3, hb3, hz3⟩
         have hl3 := hb3.size
         first
           | (have hw3' : ∀ (j : Nat) (x : L), words[j]? = some x → w3.cell? ⟨w2.heap.size, j, none⟩ = some (.string (toB x)) := hw3)
           | (have hw3' : ∀ (j : Nat) (x : L), words[j]? = some x → w3.cell? ⟨w2.heap.size + 1, j, none⟩ = some (.string (toB x)) := by simpa using hw3)
         first
           | (have hw4' : ∀ (o : Obj) (j : Nat) (x : L), words[j]? = some x → (w3.alloc o).cell? ⟨w2.heap.size, j, none⟩ = some (.string (toB x)) := fun o j x hx =>
                (World.cell?_alloc_lt w3 o ⟨w2.heap.size, j, none⟩ (by have e : w3.heap.size = w2.heap.size + 1 := hz3; show w2.heap.size < _; omega)).trans (hw3' j x hx))
           | skip
         have h03 : w3.cell? ⟨g, o, none⟩ = some (.string (toB f0)) := (hb3.cell (p := ⟨g, o, none⟩) (by first | exact hg | (simp; omega))).trans (by
           first
             | exact h0
             | exact (World.cell?_alloc_lt w2 _ ⟨g, o, none⟩ hg).trans h0)
         first
           | (have hZ3 : Own5 w3 w2.heap.size (.int .i64 0) (.int .i64 0) (.int .i64 0) (.string ⟨#[]⟩) (.slice none 0 0) := Own5.keep (by exact heap_alloc_new w2 _) hb3
              obtain ⟨⟨z0, z1, z2, z3, z4⟩, q0, q1, q2, q3, q4⟩ := hZ3.cells
              have hZlt := hZ3.lt)
           | skip
         have h04 : ∀ o' : Obj, (w3.alloc o').cell? ⟨g, o, none⟩ = some (.string (toB f0)) := fun o' => (World.cell?_alloc_lt w3 o' ⟨g, o, none⟩ (by first | (show g < _; have := hl3; simp at this; omega) | (show g < _; omega))).trans h03
         have hg3 : g < w3.heap.size := by first | omega | (have := hl3; simp at this; omega)
         clear hz3)
      | (go_at_call 20; (first | (with_reducible refine (hix _ _ hw3').mono ?_) | (with_reducible refine (hix _ _ (hw4' _)).mono ?_)); rintro e w4 ⟨rfl, rfl⟩))
    all_goals refine ⟨_, _, rfl, ?_⟩
    all_goals first
      | exact ⟨(((Below.refl _ _).drew).trans hb3).alloc hl3 _, hl3, heap_alloc_new _ _⟩
      | exact ⟨fill5_below (((((Below.refl _ _).alloc (Nat.le_refl _) _).drew).trans (hb3.mono (by simp)))) (Nat.le_refl _) _ _ _ _ _, Nat.le_refl _, fill5_own hZ3 _ _ _ _ _⟩
  intro y z w3 ⟨hb3, hz, hZ⟩
  obtain ⟨A1, hsl1, hat1⟩ := texts_drop hat (c := c4) (by rw [HN.out] at hl; exact hl)
  rw [← HN.out] at hsl1
  have hR := (Own5.keep (by exact heap_alloc_new w _) hb2 : Own5 w2 w.heap.size (.int .i64 0) (.int .i64 0) (.int .i64 0) (.string ⟨#[]⟩) (.slice none 0 0)).keep hb3
  have hwz : w.heap.size < z := by have := hb2.size; simp at this; omega
  have hzw : w.heap.size ≠ z := by omega
  have hbw : Below w.heap.size w w3 := (((Below.refl _ _).alloc (Nat.le_refl _) _).trans (hb2.mono (by simp))).trans (hb3.mono (by have := hb2.size; simp at this; omega))
  have hat3 : CellsAt w3 z A1 (strV fs) := hat1.keep hz fun p hp => hb3.cell hp
  replace hZ : Own5 w3 z (.int .i64 k) (.int .i64 0) (.int .i64 0) (.string ⟨#[]⟩) (.slice none 0 0) := hZ
  clear hat1 hat hcell h0 hix hcall
  obtain ⟨⟨z0, z1, z2, z3, z4⟩, q0, q1, q2, q3, q4⟩ := hZ.cells
  obtain ⟨⟨r0, r1, r2, r3, r4⟩, p0, p1, p2, p3, p4⟩ := hR.cells
  have hzl := hZ.lt
  have hrl := hR.lt
  by_cases hk1 : k < 1
  · have hd1 : decide (k < 1) = true := decide_eq_true hk1
    have hres := HR.out
    rw [if_pos hk1] at hres
    subst hres
    go_wp2
    refine bodyPost_ret (v := .tuple #[agg5' 0 0 0 ⟨#[]⟩ none 0 0, .int .i64 10]) (by simp [results, Tryd.results8, go_sem, agg5', *]) rfl ?_
    exact ⟨fill5_below hbw (Nat.le_refl _) _ _ _ _ _, rfl⟩
  · have hd1 : decide (k < 1) = false := decide_eq_false hk1
    have hres := HR.out
    rw [if_neg hk1, pn_nums] at hres
    obtain ⟨nk, hnk⟩ : ∃ nk, nk = nums k := ⟨_, rfl⟩
    have hnum : ∀ W, Calls Tryd.prog 16 #[.int .i64 k] W (fun e w' => e = .returned (.int .i64 nk) ∧ w' = W) := fun W => by rw [hnk]; exact numbers_says k W
    rw [← hnk] at hres
    have hnk2 : nk ≤ 2 := by rw [hnk]; rcases nums_cases k with h | h | h <;> omega
    have HK2 := Lib.hid hnk
    have HR2 := Lib.hid hres
    clear hnk hres HR
    go_wp2_with (first
      | (go_at_call 16; (with_reducible refine (hnum _).mono ?_); rintro e w4 ⟨rfl, rfl⟩))
    go_loopg [4, 30] nk (fun g v4 v30 wr => ∃ (j : Nat) (f : List L) (A : Option Addr) (m c : Nat) (a b : Int), v4 = .slice A m c ∧ v30 = .int .i64 j ∧ m = f.length ∧ j + g = nk ∧ m ≤ c ∧ c ≤ maxLen ∧ m ≤ n ∧ pn k j g a b f = res ∧ CellsAt wr z A (strV f) ∧ (∀ x ∈ f, x.length ≤ 90000000) ∧
      Own5 wr w.heap.size (.int .i64 0) (.int .i64 0) (.int .i64 0) (.string ⟨#[]⟩) (.slice none 0 0) ∧ Own5 wr z (.int .i64 k) (.int .i64 a) (.int .i64 b) (.string ⟨#[]⟩) (.slice none 0 0) ∧ Below w.heap.size w wr)
    case atStart => exact ⟨0, fs, A1, n, c4 - 1, 0, 0, rfl, rfl, HN.out, by omega, by omega, by omega, Nat.le_refl _, HR2.out.symm, hat3, HL.out, hR, hZ, hbw⟩
    case round =>
      obtain ⟨j, f, A, m, c, a, b, rfl, rfl, hm, hjg, hmc, hcm, hmn, hpn, hat, hlens, hR, hZ, hbw⟩ := hrel
      clear hsl1 hnum hat3 hb2 hb3
      obtain ⟨⟨z0, z1, z2, z3, z4⟩, q0, q1, q2, q3, q4⟩ := hZ.cells
      obtain ⟨⟨r0, r1, r2, r3, r4⟩, p0, p1, p2, p3, p4⟩ := hR.cells
      have hzl := hZ.lt
      have hrl := hR.lt
      have hbs := hbw.size
      cases gk with
      | succ g =>
        have hjn : decide ((j : Int) < nk) = true := decide_eq_true (by omega)
        cases f with
        | nil =>
          obtain rfl : m = 0 := hm
          simp only [pn] at hpn
          subst hpn
          go_wp2
          refine bodyPost_ret (v := .tuple #[agg5' 0 0 0 ⟨#[]⟩ none 0 0, .int .i64 10]) (by simp [results, Tryd.results8, go_sem, agg5', *]) rfl ?_
          exact ⟨fill5_below hbw (Nat.le_refl _) _ _ _ _ _, rfl⟩
        | cons x f =>
          obtain ⟨m', hm'⟩ : ∃ m', m' = f.length := ⟨_, rfl⟩
          obtain rfl : m = m' + 1 := by rw [hm, hm']; rfl
          obtain ⟨A', hsl, hat'⟩ := texts_drop hat (c := c) (by omega)
          obtain ⟨gg, oo, rfl, hgg, hcell⟩ := hat (by simp [strV])
          have h0 : wr.cell? ⟨gg, oo, none⟩ = some (.string (toB x)) := hcell 0 _ rfl
          have hx := number_says (toB x) (by rw [toB_size]; have := hlens x (by simp); omega) wr (HE.out.keep hbw)
          rw [← hm'] at hsl
          have HM := Lib.hid hm'
          have HF := Lib.hid hlens
          clear hm hm' hat hcell hlens
          simp only [pn] at hpn
          cases hnx : numL x with
          | none =>
            rw [hnx] at hpn
            simp only [] at hpn
            subst hpn
            have hx2 : Calls Tryd.prog 21 #[.string (toB x)] wr fun e w' => Below wr.heap.size wr w' ∧ ∃ n, e = .returned (.tuple #[.int .i64 n, .bool false]) := hx.mono fun e w' ⟨hb, h⟩ => by
              rcases h with ⟨n, hn, _⟩ | ⟨_, h⟩
              · rw [toB_list, hnx] at hn; cases hn
              · exact ⟨hb, h⟩
            clear hx
            go_wp2_with (first
              | (go_at_call 21; (with_reducible refine hx2.mono ?_); rintro e w5 ⟨hb5, n5, rfl⟩
                 obtain ⟨⟨r0, r1, r2, r3, r4⟩, p0, p1, p2, p3, p4⟩ := (hR.keep hb5).cells
                 have hrl5 := (hR.keep hb5).lt))
            refine bodyPost_ret (v := .tuple #[agg5' 0 0 0 ⟨#[]⟩ none 0 0, .int .i64 10]) (by simp [results, Tryd.results8, go_sem, agg5', *]) rfl ?_
            exact ⟨fill5_below (hbw.trans (hb5.mono hbs)) (Nat.le_refl _) _ _ _ _ _, rfl⟩
          | some nx =>
            rw [hnx] at hpn
            simp only [] at hpn
            have hx2 : Calls Tryd.prog 21 #[.string (toB x)] wr fun e w' => Below wr.heap.size wr w' ∧ e = .returned (.tuple #[.int .i64 nx, .bool true]) := hx.mono fun e w' ⟨hb, h⟩ => by
              rcases h with ⟨n, hn, _, h⟩ | ⟨hn, h⟩
              · rw [toB_list, hnx] at hn; cases hn; exact ⟨hb, h⟩
              · rw [toB_list, hnx] at hn; cases hn
            clear hx
            cases j with
            | zero =>
              rw [if_pos rfl] at hpn
              go_wp2_with (first
                | (go_at_call 21; (with_reducible refine hx2.mono ?_); rintro e w5 ⟨hb5, rfl⟩
                   have hZ5 := hZ.keep hb5
                   have hR5 := hR.keep hb5
                   obtain ⟨⟨z0, z1, z2, z3, z4⟩, q0, q1, q2, q3, q4⟩ := hZ5.cells
                   have hzl5 := hZ5.lt))
              go_roundg g
              case measure => omega
              case rel =>
                exact ⟨1, f, A', m', c - 1, nx, b, rfl, by go_num, HM.out, by omega, by omega, by omega, by omega, hpn, hat'.keep (Nat.le_refl _) (fun p hp => (World.cell?_of_block (Below.heap_setCell _ _ _ _ (by show p.block ≠ z; omega))).trans (hb5.cell (by omega))), fun x hx => HF.out x (by simp [hx]), hR5.setOther hzw _, hZ5.set1 _, (hbw.trans (hb5.mono hbs)).setCell (by show w.heap.size ≤ z; omega) _⟩
            | succ j =>
              rw [if_neg (by omega)] at hpn
              have hj0 : (((j + 1 : Nat) : Int) == 0) = false := by simp; omega
              go_wp2_with (first
                | (go_at_call 21; (with_reducible refine hx2.mono ?_); rintro e w5 ⟨hb5, rfl⟩
                   have hZ5 := hZ.keep hb5
                   have hR5 := hR.keep hb5
                   obtain ⟨⟨z0, z1, z2, z3, z4⟩, q0, q1, q2, q3, q4⟩ := hZ5.cells
                   have hzl5 := hZ5.lt))
              go_roundg g
              case measure => omega
              case rel =>
                exact ⟨j + 2, f, A', m', c - 1, a, nx, rfl, by go_num, HM.out, by omega, by omega, by omega, by omega, hpn, hat'.keep (Nat.le_refl _) (fun p hp => (World.cell?_of_block (Below.heap_setCell _ _ _ _ (by show p.block ≠ z; omega))).trans (hb5.cell (by omega))), fun x hx => HF.out x (by simp [hx]), hR5.setOther hzw _, hZ5.set2 _, (hbw.trans (hb5.mono hbs)).setCell (by show w.heap.size ≤ z; omega) _⟩
      | zero =>
        have hjn : decide ((j : Int) < nk) = false := decide_eq_false (by omega)
        have hpn : parseText k a b f = res := hpn
        unfold parseText at hpn
        have htx := fun W => texts_says k W
        cases htf : textful k with
        | true =>
          rw [htf] at htx
          rw [if_pos htf] at hpn
          cases f with
          | nil =>
            obtain rfl : m = 0 := hm
            simp only [] at hpn
            subst hpn
            go_wp2_with (first
              | (go_at_call 13; (with_reducible refine (htx _).mono ?_); rintro e w5 ⟨rfl, rfl⟩))
            refine bodyPost_ret (v := .tuple #[agg5' 0 0 0 ⟨#[]⟩ none 0 0, .int .i64 10]) (by simp [results, Tryd.results8, go_sem, agg5', *]) rfl ?_
            exact ⟨fill5_below hbw (Nat.le_refl _) _ _ _ _ _, rfl⟩
          | cons x f =>
            obtain ⟨m', hm'⟩ : ∃ m', m' = f.length := ⟨_, rfl⟩
            obtain rfl : m = m' + 1 := by rw [hm, hm']; rfl
            obtain ⟨A', hsl, hat'⟩ := texts_drop hat (c := c) (by omega)
            obtain ⟨gg, oo, rfl, hgg, hcell⟩ := hat (by simp [strV])
            have h0 : wr.cell? ⟨gg, oo, none⟩ = some (.string (toB x)) := hcell 0 _ rfl
            have hwd := word_says (toB x) wr (by rw [toB_size]; have := hlens x (by simp); unfold maxLen; omega)
            rw [toB_list] at hwd
            rw [← hm'] at hsl
            have HM := Lib.hid hm'
            have HF := Lib.hid hlens
            clear hm hm' hat hcell hlens
            replace hpn : (if wordL x = true then parseArgs k a b x f else none) = res := hpn
            cases hwx : wordL x with
            | false =>
              rw [hwx] at hpn hwd
              simp only [Bool.false_eq_true, if_false] at hpn
              subst hpn
              go_wp2_with (first
                | (go_at_call 13; (with_reducible refine (htx _).mono ?_); rintro e w5 ⟨rfl, rfl⟩)
                | (go_at_call 14; (with_reducible refine hwd.mono ?_); rintro e w5 ⟨rfl, hb5⟩
                   obtain ⟨⟨r0, r1, r2, r3, r4⟩, p0, p1, p2, p3, p4⟩ := (hR.keep hb5).cells
                   have hrl5 := (hR.keep hb5).lt))
              refine bodyPost_ret (v := .tuple #[agg5' 0 0 0 ⟨#[]⟩ none 0 0, .int .i64 10]) (by simp [results, Tryd.results8, go_sem, agg5', *]) rfl ?_
              exact ⟨fill5_below (hbw.trans (hb5.mono hbs)) (Nat.le_refl _) _ _ _ _ _, rfl⟩
            | true =>
              rw [hwx] at hpn hwd
              simp only [if_true] at hpn
              go_wp2_with (first
                | (go_at_call 13; (with_reducible refine (htx _).mono ?_); rintro e w5 ⟨rfl, rfl⟩)
                | (go_at_call 14; (with_reducible refine hwd.mono ?_); rintro e w5 ⟨rfl, hb5⟩
                   have hZ5 := hZ.keep hb5
                   have hR5 := hR.keep hb5
                   obtain ⟨⟨zz0, zz1, zz2, zz3, zz4⟩, qq0, qq1, qq2, qq3, qq4⟩ := hZ5.cells
                   have hzl5 := hZ5.lt
                   have h05 : w5.cell? ⟨gg, oo, none⟩ = some (.string (toB x)) := (hb5.cell (p := ⟨gg, oo, none⟩) (by show gg < _; omega)).trans h0))
              apply region_merge (F := fun w' => Own5 w' w.heap.size (.int .i64 0) (.int .i64 0) (.int .i64 0) (.string ⟨#[]⟩) (.slice none 0 0) ∧ Own5 w' z (.int .i64 k) (.int .i64 a) (.int .i64 b) (.string (toB x)) (.slice none 0 0) ∧ CellsAt w' z A' (strV f) ∧ Below w.heap.size w w')
              · go_region
                all_goals exact ⟨rfl, hR5.drew.setOther hzw _, hZ5.drew.set3 _, cellsAt_set (cellsAt_drew (hat'.keep (Nat.le_refl _) fun p hp => hb5.cell (by omega))) (Nat.le_refl _) _, (hbw.trans (hb5.mono hbs)).drew.setCell (by show w.heap.size ≤ z; omega) _⟩
              intro w6 ⟨hR6, hZ6, hat6, hb6⟩
              obtain ⟨c', hc'⟩ : ∃ c', c' = c - 1 := ⟨_, rfl⟩
              obtain ⟨t, rfl⟩ : ∃ t, t = x := ⟨_, rfl⟩
              obtain ⟨ff, rfl⟩ : ∃ ff, ff = f := ⟨_, rfl⟩
              have hff : ∀ x ∈ ff, x.length ≤ 90000000 := fun x hx => HF.out x (by simp [hx])
              rw [← hc']
              have hml : m' ≤ 90000000 := by omega
              have hmc' : m' ≤ c' := by omega
              clear htx hwd hsl h0 htf z0 z1 z2 z3 z4 q0 q1 q2 q3 q4 r0 r1 r2 r3 r4 p0 p1 p2 p3 p4 zz0 zz1 zz2 zz3 zz4 qq0 qq1 qq2 qq3 qq4 h05 hzl5 hZ5 hR5 hb5 hZ hR hbw hbs hrl hzl hat' hc' hwx
              go_wp2
              obtain ⟨args, hargs⟩ : ∃ args, args = valuesL ff .nil := ⟨_, rfl⟩
              unfold parseArgs at hpn
              rw [← hargs] at hpn
              have HP := Lib.hid hpn
              have HFF := Lib.hid hff
              have HA := Lib.hid hargs
              have HAT := Lib.hid hat6
              clear hpn hff hargs hat6 hlens
              have hmany := fun n W => many_says k n W
              go_loopw [78] (fun v78 wr => ∃ (i : Nat) (acc : F) (v : Value), v78 = .int .i64 i ∧ i ≤ m' ∧ valuesL (ff.drop i) acc = args ∧ acc.len = i ∧ Own5 wr w.heap.size (.int .i64 0) (.int .i64 0) (.int .i64 0) (.string ⟨#[]⟩) (.slice none 0 0) ∧ Own5 wr z (.int .i64 k) (.int .i64 a) (.int .i64 b) (.string (toB t)) v ∧ OwnF 34 wr (z + 1) v acc ∧ Below w.heap.size w wr ∧ CellsAt wr z A' (strV ff)) (fun v78 _ => m' - (intOf v78).toNat)
              case atStart => exact ⟨0, .nil, .slice none 0 0, rfl, Nat.zero_le _, HA.out.symm, rfl, hR6, hZ6, OwnF.nil _ _ _, hb6, HAT.out⟩
              case round =>
                obtain ⟨i, acc, v, rfl, him, hval, hal, hR, hZ, hown, hb, hat⟩ := hrel
                obtain ⟨⟨z0, z1, z2, z3, z4⟩, q0, q1, q2, q3, q4⟩ := hZ.cells
                obtain ⟨⟨r0, r1, r2, r3, r4⟩, p0, p1, p2, p3, p4⟩ := hR.cells
                have hzl := hZ.lt
                have hrl := hR.lt
                have hbs := hb.size
                by_cases hlt : i < m'
                · have hlt' : decide ((i : Int) < m') = true := decide_eq_true (by omega)
                  have hlf : i < ff.length := by rw [← HM.out]; exact hlt
                  obtain ⟨x, hx⟩ : ∃ x, ff[i]? = some x := ⟨_, List.getElem?_eq_getElem hlf⟩
                  have hdrop : ff.drop i = x :: ff.drop (i + 1) := by
                    rw [List.drop_eq_getElem_cons hlf]
                    rw [List.getElem?_eq_getElem hlf] at hx
                    injection hx with hx
                    rw [hx]
                  rw [hdrop] at hval
                  obtain ⟨gg, oo, rfl, hgg, hcell⟩ := hat (by simp [strV]; omega)
                  have h0 : wr.cell? ⟨gg, oo + i, none⟩ = some (.string (toB x)) := hcell i (.string (toB x)) (by simp [strV, hx])
                  have hv := Value_says x wr (by have := HFF.out x (List.mem_of_getElem? hx); omega) (HE.out.keep hb)
                  clear hcell hdrop hx hlf
                  unfold valuesL at hval
                  cases hv1 : value1 x with
                  | none =>
                    rw [hv1] at hval hv
                    simp only [] at hval
                    subst hval
                    have hp := HP.out
                    simp only [] at hp
                    subst hp
                    go_wp2_with (first
                      | (go_at_call 10; (with_reducible refine hv.mono ?_); rintro e w5 ⟨hb5, rfl⟩
                         have hR5 := hR.keep hb5
                         obtain ⟨⟨r0, r1, r2, r3, r4⟩, p0, p1, p2, p3, p4⟩ := hR5.cells
                         have hrl5 := hR5.lt))
                    refine bodyPost_ret (v := .tuple #[agg5' 0 0 0 ⟨#[]⟩ none 0 0, .int .i64 10]) (by simp [results, Tryd.results8, go_sem, agg5', *]) rfl ?_
                    exact ⟨(fill5_below (hb.trans (hb5.mono hbs)) (Nat.le_refl _) _ _ _ _ _).alloc (by rw [fill5_size]; have := hb5.size; omega) _, rfl⟩
                  | some vv =>
                    obtain ⟨kk, nn, tt, aa⟩ := vv
                    rw [hv1] at hval hv
                    simp only [] at hval
                    obtain ⟨AA, cc, hvl, _, _, _⟩ := hown.row
                    rw [hal] at hvl
                    have HVAL := Lib.hid hval
                    clear hval hv1
                    go_wp2_with (first
                      | (go_at_call 10; (with_reducible refine hv.mono ?_); rintro e w5 ⟨hb5, A4, c4, rfl, hrow, hc4, hc4'⟩
                         have hZ5 := hZ.keep hb5
                         obtain ⟨⟨z0, z1, z2, z3, z4⟩, q0, q1, q2, q3, q4⟩ := hZ5.cells
                         have hz5 := hZ5.lt
                         have hb5s := hb5.size
                         have hownw := hown
                         obtain ⟨xs, hownr, hfc⟩ := (hown.kept hb5).kept ((Below.refl _ _).alloc (Nat.le_refl _) (.cells #[.int .i64 kk, .int .i64 nn, .string tt, .slice A4 aa.len c4] 34))
                         rw [hal] at hownr
                         subst hvl)
                      | (at_builtin
                         refine wpList_append_onez valTy (by decide) (w5.alloc (.cells #[.int .i64 kk, .int .i64 nn, .string tt, .slice A4 aa.len c4] 34)) [.int .i64 kk, .int .i64 nn, .string tt, .slice A4 aa.len c4] 34 (w5.heap.size + 1) (by simp) rfl (.tmp 91) (.tmp 93) rfl (z + 1) _ i xs rfl hownr rfl rfl (by simp [Value.oneCell']) (by omega) (by simp; omega) ?_
                         intro v5 w7 hown5 hg5 hv5
                         obtain ⟨A5, c5, rfl, h51, h52, _⟩ := CellsAt.of_own hown5
                         have hlow := fun gg (hg : (Value.slice AA i cc).ownBlock = some gg) => (hownr.lt gg hg).1
                         have hne0 : some z ≠ (Value.slice AA i cc).ownBlock := fun e => by have := hlow _ e.symm; omega
                         have hZ7 := ((hZ5.alloc (.cells #[.int .i64 kk, .int .i64 nn, .string tt, .slice A4 aa.len c4] 34)).alloc _).grown hg5 hne0
                         obtain ⟨⟨t0, t1, t2, t3, t4⟩, k0, k1, k2, k3, k4⟩ := hZ7.cells))
                    have hBz : Below z wr (w7.setCell ⟨z, 4, none⟩ (.slice A5 (i + 1) c5)) := (((((Below.refl z wr).trans (hb5.mono (by omega))).alloc (by omega) _).alloc (by simp; omega) _).grown hg5 (by simp; omega) (fun gg hg => by have := hlow gg hg; omega)).setCell (Nat.le_refl _) _
                    have hR7 := (((hR.keep hb5).alloc (.cells #[.int .i64 kk, .int .i64 nn, .string tt, .slice A4 aa.len c4] 34)).alloc _).grown hg5 (fun e => by have := hlow _ e.symm; omega)
                    refine ⟨?_, by simp [intOf]; omega⟩
                    (repeat apply Exists.intro)
                    refine ⟨⟨i + 1, acc.snoc kk nn tt aa, _, by go_num, by omega, HVAL.out, by rw [F.snoc_len, hal], hR7.setOther hzw _, hZ7.set4 _, ?_, hb.trans (hBz.mono (by omega)), hat.keep (Nat.le_refl _) fun p hp => hBz.cell hp⟩, rfl⟩
                    have hsn := OwnF.snoc (e := 34) (o := .cells #[.int .i64 kk, .int .i64 nn, .string tt, .slice A4 aa.len c4] 34) (R := A4) (c := c4) hfc hc4 hc4' (RowAt.keep hrow (fun b hb => ⟨by have := hb.1; omega, by simp; have := hb.2; omega, fun e => by
                        obtain ⟨_, hw0, _⟩ := hownw
                        have := (hw0.lt b e.symm).2
                        have := hb.1
                        omega⟩) fun p hp => World.cell?_of_block (Below.heap_alloc _ _ _ hp.2)) (by rw [hal]; exact hown5) hg5 hv5
                    exact hsn.setCell (by show z < _; omega) _
                · obtain rfl : i = m' := by omega
                  have hlt' : decide ((i : Int) < i) = false := decide_eq_false (by omega)
                  rw [List.drop_of_length_le (by rw [← HM.out]; exact Nat.le_refl _)] at hval
                  unfold valuesL at hval
                  subst hval
                  have hp := HP.out
                  simp only [hal] at hp
                  obtain ⟨AA, cc, hvl, hcc, hcm, hrow⟩ := hown.row
                  rw [hal] at hvl hcc
                  subst hvl
                  have hmn2 := hmany i
                  cases hmk : manyL k i with
                  | false =>
                    rw [hmk] at hp hmn2
                    simp only [Bool.false_eq_true, if_false] at hp
                    subst hp
                    go_wp2_with (first
                      | (go_at_call 15; (with_reducible refine (hmn2 _).mono ?_); rintro e w5 ⟨rfl, rfl⟩))
                    refine bodyPost_ret (v := .tuple #[agg5' 0 0 0 ⟨#[]⟩ none 0 0, .int .i64 10]) (by simp [results, Tryd.results8, go_sem, agg5', *]) rfl ?_
                    exact ⟨fill5_below hb (Nat.le_refl _) _ _ _ _ _, rfl⟩
                  | true =>
                    rw [hmk] at hp hmn2
                    simp only [if_true] at hp
                    subst hp
                    go_wp2_with (first
                      | (go_at_call 15; (with_reducible refine (hmn2 _).mono ?_); rintro e w5 ⟨rfl, rfl⟩))
                    refine bodyPost_ret (v := .tuple #[agg5' k a b (toB t) AA i cc, .int .i64 0]) (by simp [results, Tryd.results8, go_sem, agg5', *]) rfl ?_
                    refine ⟨fill5_below hb (Nat.le_refl _) _ _ _ _ _, AA, cc, by rw [hal], ?_, by rw [hal]; exact hcc, hcm⟩
                    exact hrow.keep (fun b hb => ⟨by have := hb.1; omega, by have := hb.2; simpa [World.setCell] using this⟩) fun p hp => World.cell?_of_block (fill5_other _ _ _ _ _ (by have := hp.1; omega))
        | false =>
          rw [htf] at htx
          rw [if_neg (by rw [htf]; decide)] at hpn
          have HM := Lib.hid hm
          have HF := Lib.hid hlens
          clear hm hlens
          go_wp2_with (first
            | (go_at_call 13; (with_reducible refine (htx _).mono ?_); rintro e w6 ⟨rfl, rfl⟩))
          obtain ⟨ff, rfl⟩ : ∃ ff, ff = f := ⟨_, rfl⟩
          obtain ⟨t, ht⟩ : ∃ t : L, t = [] := ⟨_, rfl⟩
          have hff : ∀ x ∈ ff, x.length ≤ 90000000 := HF.out
          have hR6 := hR
          have hb6 := hbw
          have hat6 := hat
          have hZ6 : Own5 w6 z (.int .i64 k) (.int .i64 a) (.int .i64 b) (.string (toB t)) (.slice none 0 0) := by rw [ht]; exact hZ
          rw [← ht] at hpn
          obtain ⟨A', rfl⟩ : ∃ x, x = A := ⟨_, rfl⟩
          obtain ⟨m', rfl⟩ : ∃ x, x = m := ⟨_, rfl⟩
          obtain ⟨c', rfl⟩ : ∃ x, x = c := ⟨_, rfl⟩
          have hml : m' ≤ 90000000 := by omega
          have hmc' : m' ≤ c' := by omega
          clear htx htf z0 z1 z2 z3 z4 q0 q1 q2 q3 q4 r0 r1 r2 r3 r4 p0 p1 p2 p3 p4 hZ hR hbw hat ht
          obtain ⟨args, hargs⟩ : ∃ args, args = valuesL ff .nil := ⟨_, rfl⟩
          unfold parseArgs at hpn
          rw [← hargs] at hpn
          have HP := Lib.hid hpn
          have HFF := Lib.hid hff
          have HA := Lib.hid hargs
          have HAT := Lib.hid hat6
          clear hpn hff hargs hat6 hlens
          have hmany := fun n W => many_says k n W
          go_loopw [78] (fun v78 wr => ∃ (i : Nat) (acc : F) (v : Value), v78 = .int .i64 i ∧ i ≤ m' ∧ valuesL (ff.drop i) acc = args ∧ acc.len = i ∧ Own5 wr w.heap.size (.int .i64 0) (.int .i64 0) (.int .i64 0) (.string ⟨#[]⟩) (.slice none 0 0) ∧ Own5 wr z (.int .i64 k) (.int .i64 a) (.int .i64 b) (.string (toB t)) v ∧ OwnF 34 wr (z + 1) v acc ∧ Below w.heap.size w wr ∧ CellsAt wr z A' (strV ff)) (fun v78 _ => m' - (intOf v78).toNat)
          case atStart => exact ⟨0, .nil, .slice none 0 0, rfl, Nat.zero_le _, HA.out.symm, rfl, hR6, hZ6, OwnF.nil _ _ _, hb6, HAT.out⟩
          case round =>
            obtain ⟨i, acc, v, rfl, him, hval, hal, hR, hZ, hown, hb, hat⟩ := hrel
            obtain ⟨⟨z0, z1, z2, z3, z4⟩, q0, q1, q2, q3, q4⟩ := hZ.cells
            obtain ⟨⟨r0, r1, r2, r3, r4⟩, p0, p1, p2, p3, p4⟩ := hR.cells
            have hzl := hZ.lt
            have hrl := hR.lt
            have hbs := hb.size
            by_cases hlt : i < m'
            · have hlt' : decide ((i : Int) < m') = true := decide_eq_true (by omega)
              have hlf : i < ff.length := by rw [← HM.out]; exact hlt
              obtain ⟨x, hx⟩ : ∃ x, ff[i]? = some x := ⟨_, List.getElem?_eq_getElem hlf⟩
              have hdrop : ff.drop i = x :: ff.drop (i + 1) := by
                rw [List.drop_eq_getElem_cons hlf]
                rw [List.getElem?_eq_getElem hlf] at hx
                injection hx with hx
                rw [hx]
              rw [hdrop] at hval
              obtain ⟨gg, oo, rfl, hgg, hcell⟩ := hat (by simp [strV]; omega)
              have h0 : wr.cell? ⟨gg, oo + i, none⟩ = some (.string (toB x)) := hcell i (.string (toB x)) (by simp [strV, hx])
              have hv := Value_says x wr (by have := HFF.out x (List.mem_of_getElem? hx); omega) (HE.out.keep hb)
              clear hcell hdrop hx hlf
              unfold valuesL at hval
              cases hv1 : value1 x with
              | none =>
                rw [hv1] at hval hv
                simp only [] at hval
                subst hval
                have hp := HP.out
                simp only [] at hp
                subst hp
                go_wp2_with (first
                  | (go_at_call 10; (with_reducible refine hv.mono ?_); rintro e w5 ⟨hb5, rfl⟩
                     have hR5 := hR.keep hb5
                     obtain ⟨⟨r0, r1, r2, r3, r4⟩, p0, p1, p2, p3, p4⟩ := hR5.cells
                     have hrl5 := hR5.lt))
                refine bodyPost_ret (v := .tuple #[agg5' 0 0 0 ⟨#[]⟩ none 0 0, .int .i64 10]) (by simp [results, Tryd.results8, go_sem, agg5', *]) rfl ?_
                exact ⟨(fill5_below (hb.trans (hb5.mono hbs)) (Nat.le_refl _) _ _ _ _ _).alloc (by rw [fill5_size]; have := hb5.size; omega) _, rfl⟩
              | some vv =>
                obtain ⟨kk, nn, tt, aa⟩ := vv
                rw [hv1] at hval hv
                simp only [] at hval
                obtain ⟨AA, cc, hvl, _, _, _⟩ := hown.row
                rw [hal] at hvl
                have HVAL := Lib.hid hval
                clear hval hv1
                go_wp2_with (first
                  | (go_at_call 10; (with_reducible refine hv.mono ?_); rintro e w5 ⟨hb5, A4, c4, rfl, hrow, hc4, hc4'⟩
                     have hZ5 := hZ.keep hb5
                     obtain ⟨⟨z0, z1, z2, z3, z4⟩, q0, q1, q2, q3, q4⟩ := hZ5.cells
                     have hz5 := hZ5.lt
                     have hb5s := hb5.size
                     have hownw := hown
                     obtain ⟨xs, hownr, hfc⟩ := (hown.kept hb5).kept ((Below.refl _ _).alloc (Nat.le_refl _) (.cells #[.int .i64 kk, .int .i64 nn, .string tt, .slice A4 aa.len c4] 34))
                     rw [hal] at hownr
                     subst hvl)
                  | (at_builtin
                     refine wpList_append_onez valTy (by decide) (w5.alloc (.cells #[.int .i64 kk, .int .i64 nn, .string tt, .slice A4 aa.len c4] 34)) [.int .i64 kk, .int .i64 nn, .string tt, .slice A4 aa.len c4] 34 (w5.heap.size + 1) (by simp) rfl (.tmp 91) (.tmp 93) rfl (z + 1) _ i xs rfl hownr rfl rfl (by simp [Value.oneCell']) (by omega) (by simp; omega) ?_
                     intro v5 w7 hown5 hg5 hv5
                     obtain ⟨A5, c5, rfl, h51, h52, _⟩ := CellsAt.of_own hown5
                     have hlow := fun gg (hg : (Value.slice AA i cc).ownBlock = some gg) => (hownr.lt gg hg).1
                     have hne0 : some z ≠ (Value.slice AA i cc).ownBlock := fun e => by have := hlow _ e.symm; omega
                     have hZ7 := ((hZ5.alloc (.cells #[.int .i64 kk, .int .i64 nn, .string tt, .slice A4 aa.len c4] 34)).alloc _).grown hg5 hne0
                     obtain ⟨⟨t0, t1, t2, t3, t4⟩, k0, k1, k2, k3, k4⟩ := hZ7.cells))
                have hBz : Below z wr (w7.setCell ⟨z, 4, none⟩ (.slice A5 (i + 1) c5)) := (((((Below.refl z wr).trans (hb5.mono (by omega))).alloc (by omega) _).alloc (by simp; omega) _).grown hg5 (by simp; omega) (fun gg hg => by have := hlow gg hg; omega)).setCell (Nat.le_refl _) _
                have hR7 := (((hR.keep hb5).alloc (.cells #[.int .i64 kk, .int .i64 nn, .string tt, .slice A4 aa.len c4] 34)).alloc _).grown hg5 (fun e => by have := hlow _ e.symm; omega)
                refine ⟨⟨i + 1, acc.snoc kk nn tt aa, _, by go_num, by omega, HVAL.out, by rw [F.snoc_len, hal], hR7.setOther hzw _, hZ7.set4 _, ?_, hb.trans (hBz.mono (by omega)), hat.keep (Nat.le_refl _) fun p hp => hBz.cell hp⟩, by simp [intOf]; omega⟩
                have hsn := OwnF.snoc (e := 34) (o := .cells #[.int .i64 kk, .int .i64 nn, .string tt, .slice A4 aa.len c4] 34) (R := A4) (c := c4) hfc hc4 hc4' (RowAt.keep hrow (fun b hb => ⟨by have := hb.1; omega, by simp; have := hb.2; omega, fun e => by
                    obtain ⟨_, hw0, _⟩ := hownw
                    have := (hw0.lt b e.symm).2
                    have := hb.1
                    omega⟩) fun p hp => World.cell?_of_block (Below.heap_alloc _ _ _ hp.2)) (by rw [hal]; exact hown5) hg5 hv5
                exact hsn.setCell (by show z < _; omega) _
            · obtain rfl : i = m' := by omega
              have hlt' : decide ((i : Int) < i) = false := decide_eq_false (by omega)
              rw [List.drop_of_length_le (by rw [← HM.out]; exact Nat.le_refl _)] at hval
              unfold valuesL at hval
              subst hval
              have hp := HP.out
              simp only [hal] at hp
              obtain ⟨AA, cc, hvl, hcc, hcm, hrow⟩ := hown.row
              rw [hal] at hvl hcc
              subst hvl
              have hmn2 := hmany i
              cases hmk : manyL k i with
              | false =>
                rw [hmk] at hp hmn2
                simp only [Bool.false_eq_true, if_false] at hp
                subst hp
                go_wp2_with (first
                  | (go_at_call 15; (with_reducible refine (hmn2 _).mono ?_); rintro e w5 ⟨rfl, rfl⟩))
                refine bodyPost_ret (v := .tuple #[agg5' 0 0 0 ⟨#[]⟩ none 0 0, .int .i64 10]) (by simp [results, Tryd.results8, go_sem, agg5', *]) rfl ?_
                exact ⟨fill5_below hb (Nat.le_refl _) _ _ _ _ _, rfl⟩
              | true =>
                rw [hmk] at hp hmn2
                simp only [if_true] at hp
                subst hp
                go_wp2_with (first
                  | (go_at_call 15; (with_reducible refine (hmn2 _).mono ?_); rintro e w5 ⟨rfl, rfl⟩))
                refine bodyPost_ret (v := .tuple #[agg5' k a b (toB t) AA i cc, .int .i64 0]) (by simp [results, Tryd.results8, go_sem, agg5', *]) rfl ?_
                refine ⟨fill5_below hb (Nat.le_refl _) _ _ _ _ _, AA, cc, by rw [hal], ?_, by rw [hal]; exact hcc, hcm⟩
                exact hrow.keep (fun b hb => ⟨by have := hb.1; omega, by have := hb.2; simpa [World.setCell] using this⟩) fun p hp => World.cell?_of_block (fill5_other _ _ _ _ _ (by have := hp.1; omega))
end Go.Proofs.YtkmpnfploplpfaaDoor
