/- A part of the proof of FoldTwice: rows of strings and of types, compared. No conditions. -/
import Derived.Deep.QuietTactic
import Derived.Test.YtiinghgfojicdaaGreatFoD
set_option linter.unusedVariables false
set_option linter.unusedSimpArgs false
namespace Go.Proofs.YtiinghgfojicdaaGreat
open Go.RowKit Go.RowG Go.FRow Go.GMem
set_option linter.unusedVariables false
set_option maxRecDepth 100000
attribute [local go_sem ↓] Go.wp_at_zero Go.wp_at_succ
def SamePatSaid (k n : Int) (t : ByteArray) (a : F) : Prop := ∀ (A A' : Option Addr) (c c' : Nat) (w : World), RowAt w w.heap.size A a → RowAt w w.heap.size A' a → a.nodes ≤ 100000 → Calls Tryz.prog 76 #[agg4 k n t A a.len c, agg4 k n t A' a.len c'] w (SameEnds w)
set_option maxRecDepth 100000 in
set_option maxHeartbeats 1000000 in
theorem eqP_says (a : F) (hQ : Each SamePatSaid a) (A A' : Option Addr) (c c' : Nat) (w : World) (h : RowAt w w.heap.size A a) (h' : RowAt w w.heap.size A' a) (hn : a.nodes ≤ 100000) :
    Calls Tryz.prog 106 #[.slice A a.len c, .slice A' a.len c', .func (.func 76) #[] #[]] w (SameEnds w) := by
  obtain ⟨m, hm⟩ : ∃ m, m = a.len := ⟨_, rfl⟩
  have hml : m ≤ 100000 := by have := a.len_nodes; omega
  have hrest := h.rest
  have hrest' := h'.rest
  rw [← hm] at hrest hrest'
  rw [← hm]
  clear hm h h'
  go_enter Tryz.func106, Tryz.ntmps106
  go_wp2
  go_loopw [17] (fun i wr => ∃ (j : Nat) (r : F), j ≤ m ∧ i = .int .i64 j ∧ r.nodes ≤ 100000 ∧ Each SamePatSaid r ∧ Rest w w.heap.size A m j r ∧ Rest w w.heap.size A' m j r ∧ Below w.heap.size w wr) (fun i _ => m - (intOf i).toNat)
  case atStart => exact ⟨0, a, Nat.zero_le _, rfl, hn, hQ, hrest, hrest', Below.refl _ _⟩
  case round =>
    obtain ⟨j, r, hj, rfl, hno, hq, hre, hre2, hb⟩ := hrel
    cases r with
    | nil =>
      obtain rfl : j = m := by have := hre.1; simp only [F.len] at this; omega
      clear hno
      go_wp2
      go_ret
      exact ⟨rfl, hb⟩
    | cons k' n' t' a' r' =>
      have hlt : j < m := by have := hre.1; simp only [F.len] at this; omega
      obtain ⟨ad, R, rc, rfl, hab, hc0, hc1, hc2, hc3, hrl, hrm, hra, hre'⟩ := hre.step
      obtain ⟨ad2, R2, rc2, rfl, hab2, hc02, hc12, hc22, hc32, hrl2, hrm2, hra2, hre2'⟩ := hre2.step
      obtain ⟨hq1, hq2⟩ := hq
      simp only [F.nodes] at hno
      have hcall : ∀ W : World, Below w.heap.size w W → Calls Tryz.prog 76 #[.agg #[.int .i64 k', .int .i64 n', .string t', .slice R a'.len rc], .agg #[.int .i64 k', .int .i64 n', .string t', .slice R2 a'.len rc2]] W (SameEnds W) := fun W hW =>
        hq1 R R2 rc rc2 W (hra.keep hW.size fun p hp => hW.cell hp) (hra2.keep hW.size fun p hp => hW.cell hp) (by omega)
      obtain ⟨m', hm'⟩ : ∃ m', m' = a'.len := ⟨_, rfl⟩
      rw [← hm'] at hcall hc3 hc32 hrl hrl2
      clear hq1 hm'
      have d0 := (hb.cell (p := ad.add (j * 4)) (by rw [add_block]; exact hab)).trans hc0
      have d1 := (hb.cell (p := ⟨(ad.add (j * 4)).block, (ad.add (j * 4)).off + 1, none⟩) (by rw [add_block]; exact hab)).trans hc1
      have d2 := (hb.cell (p := ⟨(ad.add (j * 4)).block, (ad.add (j * 4)).off + 2, none⟩) (by rw [add_block]; exact hab)).trans hc2
      have d3 := (hb.cell (p := ⟨(ad.add (j * 4)).block, (ad.add (j * 4)).off + 3, none⟩) (by rw [add_block]; exact hab)).trans hc3
      have e0 := (hb.cell (p := ad2.add (j * 4)) (by rw [add_block]; exact hab2)).trans hc02
      have e1 := (hb.cell (p := ⟨(ad2.add (j * 4)).block, (ad2.add (j * 4)).off + 1, none⟩) (by rw [add_block]; exact hab2)).trans hc12
      have e2 := (hb.cell (p := ⟨(ad2.add (j * 4)).block, (ad2.add (j * 4)).off + 2, none⟩) (by rw [add_block]; exact hab2)).trans hc22
      have e3 := (hb.cell (p := ⟨(ad2.add (j * 4)).block, (ad2.add (j * 4)).off + 3, none⟩) (by rw [add_block]; exact hab2)).trans hc32
      clear hc0 hc1 hc2 hc3 hc02 hc12 hc22 hc32
      have hbs := hb.size
      have g0 := fun o : Obj => World.cell?_alloc_lt wr o (ad2.add (j * 4)) (by rw [add_block]; omega)
      have g1 := fun o : Obj => World.cell?_alloc_lt wr o ⟨(ad2.add (j * 4)).block, (ad2.add (j * 4)).off + 1, none⟩ (by rw [add_block]; omega)
      have g2 := fun o : Obj => World.cell?_alloc_lt wr o ⟨(ad2.add (j * 4)).block, (ad2.add (j * 4)).off + 2, none⟩ (by rw [add_block]; omega)
      have g3 := fun o : Obj => World.cell?_alloc_lt wr o ⟨(ad2.add (j * 4)).block, (ad2.add (j * 4)).off + 3, none⟩ (by rw [add_block]; omega)
      go_wp2_with (first
        | (go_at_call 76; (with_reducible refine (hcall _ ((hb.alloc hbs _).alloc (by simp; omega) _)).mono ?_); rintro e w2 ⟨rfl, hb2⟩))
      go_roundw
      case rel => exact ⟨j + 1, r', by omega, by go_num, by omega, hq2, hre', hre2', ((hb.alloc hbs _).alloc (by simp; omega) _).trans (hb2.mono (by simp; omega))⟩
      case measure => simp [intOf]; omega
set_option maxRecDepth 100000 in
set_option maxHeartbeats 1000000 in
theorem samePat_head (k n : Int) (t : ByteArray) (a : F) (hQ : Each SamePatSaid a) : SamePatSaid k n t a := by
  intro A A' c c' w h h' hn
  unfold agg4
  have hcall : ∀ W : World, Below w.heap.size w W → Calls Tryz.prog 106 #[.slice A a.len c, .slice A' a.len c', .func (.func 76) #[] #[]] W (SameEnds W) := fun W hW =>
    eqP_says a hQ A A' c c' W (h.keep hW.size fun p hp => hW.cell hp) (h'.keep hW.size fun p hp => hW.cell hp) hn
  obtain ⟨m, hm⟩ : ∃ m, m = a.len := ⟨_, rfl⟩
  rw [← hm] at hcall
  rw [← hm]
  clear hm h h' hQ hn
  go_enter Tryz.func76, Tryz.ntmps76
  go_wp2_with (first
    | (go_at_call 106; (with_reducible refine (hcall _ (((Below.refl _ _).alloc (Nat.le_refl _) _).alloc (by simp) _)).mono ?_); rintro e w2 ⟨rfl, hb2⟩))
  go_ret
  exact ⟨rfl, (((Below.refl _ _).alloc (Nat.le_refl _) _).alloc (by simp) _).trans (hb2.mono (by simp; omega))⟩
theorem samePat_all : ∀ a : F, Each SamePatSaid a := each_of samePat_head
theorem strs_cell {w : World} {S : Nat → Prop} : ∀ {L : List ByteArray} {xs : List Value} {k : Nat} {x : ByteArray}, GCells w S (encS L) xs → L[k]? = some x → xs[k]? = some (.string x)
  | [], _, _, _, _, h => by simp at h
  | y :: l, _, 0, x, ⟨ys, e, _, _⟩, h => by
    simp at h
    subst h e
    rfl
  | y :: l, _, k + 1, x, ⟨ys, e, _, h2⟩, h => by
    subst e
    simpa using strs_cell h2 (by simpa using h)
theorem GRow.str_at {w : World} {S : Nat → Prop} {A : Option Addr} {L : List ByteArray} (h : GRow w S A L.length (encS L)) {k : Nat} (hk : k < L.length) : ∃ ad x, A = some ad ∧ S ad.block ∧ L[k]? = some x ∧ w.cell? (ad.add k) = some (.string x) := by
  obtain ⟨b, o, zs, e, hb, hz, hc⟩ := h (by omega)
  refine ⟨⟨b, o, none⟩, L[k], e, hb, List.getElem?_eq_getElem hk, ?_⟩
  rw [add_at]
  exact hc k _ (strs_cell hz (List.getElem?_eq_getElem hk))
set_option maxHeartbeats 2000000 in
theorem eqS_says (L : List ByteArray) (A A' : Option Addr) (c c' : Nat) (w : World) (h : GRow w (lt w) A L.length (encS L)) (h' : GRow w (lt w) A' L.length (encS L)) (hn : L.length ≤ 1000000000) :
    Calls Tryz.prog 44 #[.slice A L.length c, .slice A' L.length c'] w (SameEnds w) := by
  have H := Lib.hid h
  have H' := Lib.hid h'
  obtain ⟨m, hm⟩ : ∃ m, m = L.length := ⟨_, rfl⟩
  rw [← hm] at hn
  rw [← hm]
  have HM := Lib.hid hm
  clear h h' hm
  go_enter Tryz.func44, Tryz.ntmps44
  go_wp2
  go_loopw [13] (fun i wr => ∃ (j : Nat), j ≤ m ∧ i = .int .i64 j ∧ Below w.heap.size w wr) (fun i _ => m - (intOf i).toNat)
  case atStart => exact ⟨0, Nat.zero_le _, rfl, Below.refl _ _⟩
  case round =>
    obtain ⟨j, hj, rfl, hb⟩ := hrel
    by_cases hjm : j < m
    · obtain ⟨ad, x, rfl, hab, hx, hcx⟩ := GRow.str_at H.out (k := j) (by rw [← HM.out]; exact hjm)
      obtain ⟨ad2, x2, rfl, hab2, hx2, hcx2⟩ := GRow.str_at H'.out (k := j) (by rw [← HM.out]; exact hjm)
      have hxx : x2 = x := by rw [hx] at hx2; exact (Option.some.inj hx2).symm
      subst hxx
      have d0 := (hb.cell (p := ad.add j) (by rw [add_block]; exact hab)).trans hcx
      have d1 := (hb.cell (p := ad2.add j) (by rw [add_block]; exact hab2)).trans hcx2
      have hj0 : (0 : Int) ≤ (j : Int) := Int.natCast_nonneg _
      have hj1 : (j : Int) < (m : Int) := by omega
      clear hx hx2 hcx hcx2
      go_wp2
      go_quiet (fail "none")
      go_wp2
      go_roundw
      case rel => exact ⟨j + 1, by omega, by go_num, below_drewN hb _⟩
      case measure => simp [intOf]; omega
    · obtain rfl : j = m := by omega
      go_wp2
      go_ret
      exact ⟨rfl, hb⟩
theorem encY_cell {w : World} {S : Nat → Prop} : ∀ {m : Nat} {xs : List Value} {k : Nat}, GCells w S (encY m) xs → k < m → xs[k * 3]? = some (.int .i64 1) ∧ xs[k * 3 + 1]? = some (.string ⟨#[]⟩) ∧ xs[k * 3 + 2]? = some (.slice none 0 0)
  | 0, _, _, _, h => absurd h (Nat.not_lt_zero _)
  | m + 1, _, 0, ⟨_, e0, _, _, e1, _, _, e2, _, _⟩, _ => by
    subst e2 e1 e0
    exact ⟨rfl, rfl, rfl⟩
  | m + 1, _, k + 1, ⟨_, e0, _, _, e1, _, _, e2, _, h⟩, hk => by
    subst e2 e1 e0
    obtain ⟨h1, h2, h3⟩ := encY_cell (k := k) h (by omega)
    rw [show (k + 1) * 3 = k * 3 + 3 by omega]
    exact ⟨h1, h2, h3⟩
theorem GRow.typ_at {w : World} {S : Nat → Prop} {A : Option Addr} {m : Nat} (h : GRow w S A m (encY m)) {k : Nat} (hk : k < m) : ∃ ad, A = some ad ∧ S ad.block ∧ w.cell? (ad.add (k * 3)) = some (.int .i64 1) ∧ w.cell? ⟨(ad.add (k * 3)).block, (ad.add (k * 3)).off + 1, none⟩ = some (.string ⟨#[]⟩) ∧ w.cell? ⟨(ad.add (k * 3)).block, (ad.add (k * 3)).off + 2, none⟩ = some (.slice none 0 0) := by
  obtain ⟨b, o, zs, e, hb, hz, hc⟩ := h (by omega)
  obtain ⟨h1, h2, h3⟩ := encY_cell hz hk
  refine ⟨⟨b, o, none⟩, e, hb, ?_⟩
  rw [add_at]
  exact ⟨hc _ _ h1, hc _ _ h2, hc _ _ h3⟩
theorem eqY_nil (A A' : Option Addr) (c c' : Nat) (w : World) : Calls Tryz.prog 45 #[.slice A 0 c, .slice A' 0 c', .func (.func 46) #[] #[]] w (SameEnds w) := by
  go_enter Tryz.func45, Tryz.ntmps45
  go_wp2
  go_loopw [17] (fun i wr => i = .int .i64 0 ∧ wr = w) (fun _ _ => 0)
  case atStart => exact ⟨rfl, rfl⟩
  case round =>
    obtain ⟨rfl, rfl⟩ := hrel
    go_wp2
    go_ret
    exact ⟨rfl, Below.refl _ _⟩
theorem sameType_says (w : World) : Calls Tryz.prog 46 #[.agg #[.int .i64 1, .string ⟨#[]⟩, .slice none 0 0], .agg #[.int .i64 1, .string ⟨#[]⟩, .slice none 0 0]] w (SameEnds w) := by
  go_enter Tryz.func46, Tryz.ntmps46
  go_wp2_with (first
    | (go_at_call 45; (with_reducible refine (eqY_nil none none 0 0 _).mono ?_); rintro e w2 ⟨rfl, hb2⟩)
    | fail "none")
  go_ret
  exact ⟨rfl, (((Below.refl _ _).alloc (Nat.le_refl _) _).alloc (by simp) _).trans (hb2.mono (by simp; omega))⟩
set_option maxHeartbeats 2000000 in
theorem eqY_says (m : Nat) (A A' : Option Addr) (c c' : Nat) (w : World) (h : GRow w (lt w) A m (encY m)) (h' : GRow w (lt w) A' m (encY m)) (hn : m ≤ 1000000000) :
    Calls Tryz.prog 45 #[.slice A m c, .slice A' m c', .func (.func 46) #[] #[]] w (SameEnds w) := by
  have H := Lib.hid h
  have H' := Lib.hid h'
  clear h h'
  go_enter Tryz.func45, Tryz.ntmps45
  go_wp2
  go_loopw [17] (fun i wr => ∃ (j : Nat), j ≤ m ∧ i = .int .i64 j ∧ Below w.heap.size w wr) (fun i _ => m - (intOf i).toNat)
  case atStart => exact ⟨0, Nat.zero_le _, rfl, Below.refl _ _⟩
  case round =>
    obtain ⟨j, hj, rfl, hb⟩ := hrel
    by_cases hjm : j < m
    · obtain ⟨ad, rfl, hab, hc0, hc1, hc2⟩ := GRow.typ_at H.out (k := j) hjm
      obtain ⟨ad2, rfl, hab2, hc02, hc12, hc22⟩ := GRow.typ_at H'.out (k := j) hjm
      have hab : ad.block < w.heap.size := hab
      have hab2 : ad2.block < w.heap.size := hab2
      have hj0 : (0 : Int) ≤ (j : Int) := Int.natCast_nonneg _
      have hj1 : (j : Int) < (m : Int) := by omega
      have d0 := (hb.cell (p := ad.add (j * 3)) (by rw [add_block]; exact hab)).trans hc0
      have d1 := (hb.cell (p := ⟨(ad.add (j * 3)).block, (ad.add (j * 3)).off + 1, none⟩) (by rw [add_block]; exact hab)).trans hc1
      have d2 := (hb.cell (p := ⟨(ad.add (j * 3)).block, (ad.add (j * 3)).off + 2, none⟩) (by rw [add_block]; exact hab)).trans hc2
      have e0 := (hb.cell (p := ad2.add (j * 3)) (by rw [add_block]; exact hab2)).trans hc02
      have e1 := (hb.cell (p := ⟨(ad2.add (j * 3)).block, (ad2.add (j * 3)).off + 1, none⟩) (by rw [add_block]; exact hab2)).trans hc12
      have e2 := (hb.cell (p := ⟨(ad2.add (j * 3)).block, (ad2.add (j * 3)).off + 2, none⟩) (by rw [add_block]; exact hab2)).trans hc22
      have hbs := hb.size
      have g0 := fun o : Obj => World.cell?_alloc_lt wr o (ad2.add (j * 3)) (by rw [add_block]; omega)
      have g1 := fun o : Obj => World.cell?_alloc_lt wr o ⟨(ad2.add (j * 3)).block, (ad2.add (j * 3)).off + 1, none⟩ (by rw [add_block]; omega)
      have g2 := fun o : Obj => World.cell?_alloc_lt wr o ⟨(ad2.add (j * 3)).block, (ad2.add (j * 3)).off + 2, none⟩ (by rw [add_block]; omega)
      clear hc0 hc1 hc2 hc02 hc12 hc22
      go_wp2_with (first
        | (go_at_call 46; (with_reducible refine (sameType_says _).mono ?_); rintro e w2 ⟨rfl, hb2⟩)
        | fail "none")
      go_roundw
      case rel => exact ⟨j + 1, by omega, by go_num, ((hb.alloc hbs _).alloc (by simp; omega) _).trans (hb2.mono (by simp; omega))⟩
      case measure => simp [intOf]; omega
    · obtain rfl : j = m := by omega
      go_wp2
      go_ret
      exact ⟨rfl, hb⟩
end Go.Proofs.YtiinghgfojicdaaGreat
