/- A part of the proofs of the laws of the arms: Same. No conditions. -/
import Derived.Test.YtiinghgfojicdaaGreatArForest
set_option linter.unusedVariables false
set_option linter.unusedSimpArgs false
namespace Go.Proofs.YtiinghgfojicdaaGreat
open Go.RowKit Go.RowG Go.FRow
set_option linter.unusedVariables false
attribute [local go_sem ↓] Go.wp_at_zero Go.wp_at_succ

def SameSaid (k n : Int) (t : ByteArray) (a : F) : Prop := ∀ (A A' : Option Addr) (c c' : Nat) (w : World), RowAt w w.heap.size A a → RowAt w w.heap.size A' a → a.nodes ≤ 100000 → Calls Tryz.prog 17 #[agg4 k n t A a.len c, agg4 k n t A' a.len c'] w (SameEnds w)

set_option maxRecDepth 100000 in
set_option maxHeartbeats 1000000 in
theorem eqv_says (a : F) (hQ : Each SameSaid a) (A A' : Option Addr) (c c' : Nat) (w : World) (h : RowAt w w.heap.size A a) (h' : RowAt w w.heap.size A' a) (hn : a.nodes ≤ 100000) :
    Calls Tryz.prog 16 #[.slice A a.len c, .slice A' a.len c', .func (.func 17) #[] #[]] w (SameEnds w) := by
  obtain ⟨m, hm⟩ : ∃ m, m = a.len := ⟨_, rfl⟩
  have hml : m ≤ 100000 := by have := a.len_nodes; omega
  have hrest := h.rest
  have hrest' := h'.rest
  rw [← hm] at hrest hrest'
  rw [← hm]
  clear hm h h'
  go_enter Tryz.func16, Tryz.ntmps16
  go_wp2
  go_loopw [17] (fun i wr => ∃ (j : Nat) (r : F), j ≤ m ∧ i = .int .i64 j ∧ r.nodes ≤ 100000 ∧ Each SameSaid r ∧ Rest w w.heap.size A m j r ∧ Rest w w.heap.size A' m j r ∧ Below w.heap.size w wr) (fun i _ => m - (intOf i).toNat)
  case atStart => exact ⟨0, a, Nat.zero_le _, rfl, hn, hQ, hrest, hrest', Below.refl _ _⟩
  case round =>
    obtain ⟨j, r, hj, rfl, hno, hq, hre, hre2, hb⟩ := hrel
    cases r with
    | nil =>
      obtain rfl : j = m := by have := hre.1; simp only [F.len] at this; omega
      clear hno
      go_wp2
      go_ret
      exact ⟨rfl, hb⟩
    | cons k' n' t' a' r' =>
      have hlt : j < m := by have := hre.1; simp only [F.len] at this; omega
      obtain ⟨ad, R, rc, rfl, hab, hc0, hc1, hc2, hc3, hrl, hrm, hra, hre'⟩ := hre.step
      obtain ⟨ad2, R2, rc2, rfl, hab2, hc02, hc12, hc22, hc32, hrl2, hrm2, hra2, hre2'⟩ := hre2.step
      obtain ⟨hq1, hq2⟩ := hq
      simp only [F.nodes] at hno
      have hcall : ∀ W : World, Below w.heap.size w W → Calls Tryz.prog 17 #[.agg #[.int .i64 k', .int .i64 n', .string t', .slice R a'.len rc], .agg #[.int .i64 k', .int .i64 n', .string t', .slice R2 a'.len rc2]] W (SameEnds W) := fun W hW =>
        hq1 R R2 rc rc2 W (hra.keep hW.size fun p hp => hW.cell hp) (hra2.keep hW.size fun p hp => hW.cell hp) (by omega)
      obtain ⟨m', hm'⟩ : ∃ m', m' = a'.len := ⟨_, rfl⟩
      rw [← hm'] at hcall hc3 hc32 hrl hrl2
      clear hq1 hm'
      have d0 := (hb.cell (p := ad.add (j * 4)) (by rw [add_block]; exact hab)).trans hc0
      have d1 := (hb.cell (p := ⟨(ad.add (j * 4)).block, (ad.add (j * 4)).off + 1, none⟩) (by rw [add_block]; exact hab)).trans hc1
      have d2 := (hb.cell (p := ⟨(ad.add (j * 4)).block, (ad.add (j * 4)).off + 2, none⟩) (by rw [add_block]; exact hab)).trans hc2
      have d3 := (hb.cell (p := ⟨(ad.add (j * 4)).block, (ad.add (j * 4)).off + 3, none⟩) (by rw [add_block]; exact hab)).trans hc3
      have e0 := (hb.cell (p := ad2.add (j * 4)) (by rw [add_block]; exact hab2)).trans hc02
      have e1 := (hb.cell (p := ⟨(ad2.add (j * 4)).block, (ad2.add (j * 4)).off + 1, none⟩) (by rw [add_block]; exact hab2)).trans hc12
      have e2 := (hb.cell (p := ⟨(ad2.add (j * 4)).block, (ad2.add (j * 4)).off + 2, none⟩) (by rw [add_block]; exact hab2)).trans hc22
      have e3 := (hb.cell (p := ⟨(ad2.add (j * 4)).block, (ad2.add (j * 4)).off + 3, none⟩) (by rw [add_block]; exact hab2)).trans hc32
      clear hc0 hc1 hc2 hc3 hc02 hc12 hc22 hc32
      have hbs := hb.size
      have g0 := fun o : Obj => World.cell?_alloc_lt wr o (ad2.add (j * 4)) (by rw [add_block]; omega)
      have g1 := fun o : Obj => World.cell?_alloc_lt wr o ⟨(ad2.add (j * 4)).block, (ad2.add (j * 4)).off + 1, none⟩ (by rw [add_block]; omega)
      have g2 := fun o : Obj => World.cell?_alloc_lt wr o ⟨(ad2.add (j * 4)).block, (ad2.add (j * 4)).off + 2, none⟩ (by rw [add_block]; omega)
      have g3 := fun o : Obj => World.cell?_alloc_lt wr o ⟨(ad2.add (j * 4)).block, (ad2.add (j * 4)).off + 3, none⟩ (by rw [add_block]; omega)
      go_wp2_with (first
        | (go_at_call 17; (with_reducible refine (hcall _ ((hb.alloc hbs _).alloc (by simp; omega) _)).mono ?_); rintro e w2 ⟨rfl, hb2⟩))
      go_roundw
      case rel => exact ⟨j + 1, r', by omega, by go_num, by omega, hq2, hre', hre2', ((hb.alloc hbs _).alloc (by simp; omega) _).trans (hb2.mono (by simp; omega))⟩
      case measure => simp [intOf]; omega

set_option maxRecDepth 100000 in
set_option maxHeartbeats 1000000 in
theorem same_head (k n : Int) (t : ByteArray) (a : F) (hQ : Each SameSaid a) : SameSaid k n t a := by
  intro A A' c c' w h h' hn
  unfold agg4
  have hcall : ∀ W : World, Below w.heap.size w W → Calls Tryz.prog 16 #[.slice A a.len c, .slice A' a.len c', .func (.func 17) #[] #[]] W (SameEnds W) := fun W hW =>
    eqv_says a hQ A A' c c' W (h.keep hW.size fun p hp => hW.cell hp) (h'.keep hW.size fun p hp => hW.cell hp) hn
  obtain ⟨m, hm⟩ : ∃ m, m = a.len := ⟨_, rfl⟩
  rw [← hm] at hcall
  rw [← hm]
  clear hm h h' hQ hn
  go_enter Tryz.func17, Tryz.ntmps17
  go_wp2_with (first
    | (go_at_call 16; (with_reducible refine (hcall _ (((Below.refl _ _).alloc (Nat.le_refl _) _).alloc (by simp) _)).mono ?_); rintro e w2 ⟨rfl, hb2⟩))
  go_ret
  exact ⟨rfl, (((Below.refl _ _).alloc (Nat.le_refl _) _).alloc (by simp) _).trans (hb2.mono (by simp; omega))⟩

theorem same_all : ∀ a : F, Each SameSaid a := each_of same_head
theorem binds_all : ∀ a : F, Each BindsSaid a := each_of binds_head
end Go.Proofs.YtiinghgfojicdaaGreat
