/- A part of the proofs of the laws of the deeds: Same. -/
import Derived.Test.YtkmpnfploplpfaaDoorFMem
import Derived.Test.YtkmpnfploplpfaaDoorProg
import Derived.LoopTactic
import Derived.Deep.QuietTactic
import Derived.BigQuiet
import Derived.Outline
import Derived.IntWalk
set_option linter.unusedVariables false
set_option linter.unusedSimpArgs false
namespace Go.Proofs.YtkmpnfploplpfaaDoor
open Go.RowKit Go.Deed Go.RowG
attribute [local go_sem ↓] Go.wp_at_zero Go.wp_at_succ
set_option linter.unusedVariables false

def SameEnds (w : World) (e : Ending) (w' : World) : Prop := e = .returned (.bool true) ∧ Below w.heap.size w w'

def SameSaid (k n : Int) (t : ByteArray) (a : F) : Prop := ∀ (A A' : Option Addr) (c c' : Nat) (w : World), RowAt w (lt w) A a → RowAt w (lt w) A' a → wt a ≤ 100000000 → Calls Tryd.prog 11 #[agg4 k n t A a.len c, agg4 k n t A' a.len c'] w (SameEnds w)

set_option maxRecDepth 100000 in
set_option maxHeartbeats 1000000 in
theorem eqv_says (a : F) (hQ : Each SameSaid a) (A A' : Option Addr) (c c' : Nat) (w : World) (h : RowAt w (lt w) A a) (h' : RowAt w (lt w) A' a) (hn : wt a ≤ 100000000) :
    Calls Tryd.prog 24 #[.slice A a.len c, .slice A' a.len c', .func (.func 11) #[] #[]] w (SameEnds w) := by
  obtain ⟨m, hm⟩ : ∃ m, m = a.len := ⟨_, rfl⟩
  have hml : m ≤ 10000000 := by have := len_wt a; omega
  have hrest := h.rest
  have hrest' := h'.rest
  rw [← hm] at hrest hrest'
  rw [← hm]
  clear hm h h'
  go_enter Tryd.func24, Tryd.ntmps24
  go_wp2
  go_loopw [17] (fun i wr => ∃ (j : Nat) (r : F), j ≤ m ∧ i = .int .i64 j ∧ wt r ≤ 100000000 ∧ Each SameSaid r ∧ Deed.Rest w (lt w) A m j r ∧ Deed.Rest w (lt w) A' m j r ∧ Below w.heap.size w wr) (fun i _ => m - (intOf i).toNat)
  case atStart => exact ⟨0, a, Nat.zero_le _, rfl, hn, hQ, hrest, hrest', Below.refl _ _⟩
  case round =>
    obtain ⟨j, r, hj, rfl, hno, hq, hre, hre2, hb⟩ := hrel
    cases r with
    | nil =>
      obtain rfl : j = m := by have := hre.1; simp only [F.len] at this; omega
      clear hno
      go_wp2
      go_ret
      exact ⟨rfl, hb⟩
    | cons k' n' t' a' r' =>
      have hlt : j < m := by have := hre.1; simp only [F.len] at this; omega
      obtain ⟨ad, R, rc, rfl, hab, hc0, hc1, hc2, hc3, hrl, hrm, hra, hre'⟩ := hre.step
      obtain ⟨ad2, R2, rc2, rfl, hab2, hc02, hc12, hc22, hc32, hrl2, hrm2, hra2, hre2'⟩ := hre2.step
      obtain ⟨hq1, hq2⟩ := hq
      simp only [wt] at hno
      have hcall : ∀ W : World, Below w.heap.size w W → Calls Tryd.prog 11 #[.agg #[.int .i64 k', .int .i64 n', .string t', .slice R a'.len rc], .agg #[.int .i64 k', .int .i64 n', .string t', .slice R2 a'.len rc2]] W (SameEnds W) := fun W hW =>
        hq1 R R2 rc rc2 W (hra.below hW) (hra2.below hW) (by omega)
      obtain ⟨m', hm'⟩ : ∃ m', m' = a'.len := ⟨_, rfl⟩
      rw [← hm'] at hcall hc3 hc32 hrl hrl2
      clear hq1 hm'
      have d0 := (hb.cell (p := ad.add (j * 4)) (by rw [add_block]; exact hab)).trans hc0
      have d1 := (hb.cell (p := ⟨(ad.add (j * 4)).block, (ad.add (j * 4)).off + 1, none⟩) (by rw [add_block]; exact hab)).trans hc1
      have d2 := (hb.cell (p := ⟨(ad.add (j * 4)).block, (ad.add (j * 4)).off + 2, none⟩) (by rw [add_block]; exact hab)).trans hc2
      have d3 := (hb.cell (p := ⟨(ad.add (j * 4)).block, (ad.add (j * 4)).off + 3, none⟩) (by rw [add_block]; exact hab)).trans hc3
      have e0 := (hb.cell (p := ad2.add (j * 4)) (by rw [add_block]; exact hab2)).trans hc02
      have e1 := (hb.cell (p := ⟨(ad2.add (j * 4)).block, (ad2.add (j * 4)).off + 1, none⟩) (by rw [add_block]; exact hab2)).trans hc12
      have e2 := (hb.cell (p := ⟨(ad2.add (j * 4)).block, (ad2.add (j * 4)).off + 2, none⟩) (by rw [add_block]; exact hab2)).trans hc22
      have e3 := (hb.cell (p := ⟨(ad2.add (j * 4)).block, (ad2.add (j * 4)).off + 3, none⟩) (by rw [add_block]; exact hab2)).trans hc32
      clear hc0 hc1 hc2 hc3 hc02 hc12 hc22 hc32
      have hbs := hb.size
      have g0 := fun o : Obj => World.cell?_alloc_lt wr o (ad2.add (j * 4)) (by rw [add_block]; omega)
      have g1 := fun o : Obj => World.cell?_alloc_lt wr o ⟨(ad2.add (j * 4)).block, (ad2.add (j * 4)).off + 1, none⟩ (by rw [add_block]; omega)
      have g2 := fun o : Obj => World.cell?_alloc_lt wr o ⟨(ad2.add (j * 4)).block, (ad2.add (j * 4)).off + 2, none⟩ (by rw [add_block]; omega)
      have g3 := fun o : Obj => World.cell?_alloc_lt wr o ⟨(ad2.add (j * 4)).block, (ad2.add (j * 4)).off + 3, none⟩ (by rw [add_block]; omega)
      go_wp2_with (first
        | (go_at_call 11; (with_reducible refine (hcall _ ((hb.alloc hbs _).alloc (by simp; omega) _)).mono ?_); rintro e w2 ⟨rfl, hb2⟩))
      go_roundw
      case rel => exact ⟨j + 1, r', by omega, by go_num, by omega, hq2, hre', hre2', ((hb.alloc hbs _).alloc (by simp; omega) _).trans (hb2.mono (by simp; omega))⟩
      case measure => simp [intOf]; omega

set_option maxRecDepth 100000 in
set_option maxHeartbeats 1000000 in
theorem same_head (k n : Int) (t : ByteArray) (a : F) (hQ : Each SameSaid a) : SameSaid k n t a := by
  intro A A' c c' w h h' hn
  unfold agg4
  have hcall : ∀ W : World, Below w.heap.size w W → Calls Tryd.prog 24 #[.slice A a.len c, .slice A' a.len c', .func (.func 11) #[] #[]] W (SameEnds W) := fun W hW =>
    eqv_says a hQ A A' c c' W (h.below hW) (h'.below hW) hn
  obtain ⟨m, hm⟩ : ∃ m, m = a.len := ⟨_, rfl⟩
  rw [← hm] at hcall
  rw [← hm]
  clear hm h h' hQ hn
  go_enter Tryd.func11, Tryd.ntmps11
  go_wp2_with (first
    | (go_at_call 24; (with_reducible refine (hcall _ (((Below.refl _ _).alloc (Nat.le_refl _) _).alloc (by simp) _)).mono ?_); rintro e w2 ⟨rfl, hb2⟩))
  go_ret
  exact ⟨rfl, (((Below.refl _ _).alloc (Nat.le_refl _) _).alloc (by simp) _).trans (hb2.mono (by simp; omega))⟩

theorem same_all : ∀ a : F, Each SameSaid a := each_of same_head
end Go.Proofs.YtkmpnfploplpfaaDoor
