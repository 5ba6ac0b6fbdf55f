/- A part of the proofs of the laws of the arms: Asks. No conditions. -/
import Derived.Test.YtiinghgfojicdaaGreatArFirst
set_option linter.unusedVariables false
set_option linter.unusedSimpArgs false
namespace Go.Proofs.YtiinghgfojicdaaGreat
open Go.RowKit Go.RowG Go.FRow
set_option linter.unusedVariables false
attribute [local go_sem ↓] Go.wp_at_zero Go.wp_at_succ

def asksF : F → Nat
  | .nil => 0
  | .cons k _ _ a r => (if k = 1 ∨ k = 2 then 0 else 1 + asksF a) + asksF r
theorem asksF_le : ∀ f, asksF f ≤ f.nodes
  | .nil => Nat.le_refl _
  | .cons k _ _ a r => by
    have h1 := asksF_le a
    have h2 := asksF_le r
    simp only [asksF, F.nodes]
    split <;> omega
def AsksRow (a : F) : Prop := ∀ (A : Option Addr) (c : Nat) (w : World), RowAt w w.heap.size A a → a.nodes ≤ 100000 → Calls Tryz.prog 12 #[.slice A a.len c] w (IntEnds (asksF a) w)

set_option maxRecDepth 100000 in
set_option maxHeartbeats 2000000 in
theorem asks_row (a : F) (hQ : Each (fun _ _ _ a => AsksRow a) a) : AsksRow a := by
  intro A c w h hn
  obtain ⟨m, hm⟩ : ∃ m, m = a.len := ⟨_, rfl⟩
  have hml : m ≤ 100000 := by have := a.len_nodes; omega
  have hrest := h.rest
  rw [← hm] at hrest
  rw [← hm]
  obtain ⟨N, hN⟩ : ∃ N, N = asksF a := ⟨_, rfl⟩
  rw [← hN]
  have HN := Lib.hid hN
  clear hN hm h
  go_enter Tryz.func12, Tryz.ntmps12
  go_wp2
  go_loopw [3, 8] (fun s i wr => ∃ (j sm : Nat) (r : F), j ≤ m ∧ i = .int .i64 j ∧ s = .int .i64 sm ∧ sm + asksF r = N ∧ r.nodes + sm ≤ 100000 ∧ Each (fun _ _ _ a => AsksRow a) r ∧ Rest w w.heap.size A m j r ∧ Below w.heap.size w wr) (fun _ i _ => m - (intOf i).toNat)
  case atStart => exact ⟨0, 0, a, Nat.zero_le _, rfl, rfl, by rw [HN.out]; omega, by omega, hQ, hrest, Below.refl _ _⟩
  case round =>
    obtain ⟨j, sm, r, hj, rfl, rfl, hs, hno, hq, hre, hb⟩ := hrel
    cases r with
    | nil =>
      obtain rfl : j = m := by have := hre.1; simp only [F.len] at this; omega
      simp only [asksF] at hs
      have HS := Lib.hid hs
      clear hs hno
      go_wp2
      go_ret
      refine ⟨?_, hb⟩
      rw [← HS.out]
      rfl
    | cons k' n' t' a' r' =>
      have hlt : j < m := by have := hre.1; simp only [F.len] at this; omega
      obtain ⟨ad, R, rc, rfl, hab, hc0, hc1, hc2, hc3, hrl, hrm, hra, hre'⟩ := hre.step
      obtain ⟨hq1, hq2⟩ := hq
      simp only [F.nodes] at hno
      obtain ⟨b, hbe⟩ : ∃ b, b = asksF a' := ⟨_, rfl⟩
      have hbl : b ≤ a'.nodes := by rw [hbe]; exact asksF_le a'
      have hcall : ∀ W : World, Below w.heap.size w W → Calls Tryz.prog 12 #[.slice R a'.len rc] W (IntEnds (b : Int) W) := fun W hW => by
        rw [hbe]
        exact hq1 R rc W (hra.keep hW.size fun p hp => hW.cell hp) (by omega)
      obtain ⟨m', hm'⟩ : ∃ m', m' = a'.len := ⟨_, rfl⟩
      rw [← hm'] at hcall hc3
      have d0 := (hb.cell (p := ad.add (j * 4)) (by rw [add_block]; exact hab)).trans hc0
      have d1 := (hb.cell (p := ⟨(ad.add (j * 4)).block, (ad.add (j * 4)).off + 1, none⟩) (by rw [add_block]; exact hab)).trans hc1
      have d2 := (hb.cell (p := ⟨(ad.add (j * 4)).block, (ad.add (j * 4)).off + 2, none⟩) (by rw [add_block]; exact hab)).trans hc2
      have d3 := (hb.cell (p := ⟨(ad.add (j * 4)).block, (ad.add (j * 4)).off + 3, none⟩) (by rw [add_block]; exact hab)).trans hc3
      have hbs := hb.size
      clear hc0 hc1 hc2 hc3 hq1 hm'
      by_cases hk : k' = 1 ∨ k' = 2
      · have hs' : sm + asksF r' = N := by rw [← hs]; simp only [asksF, if_pos hk]; omega
        have HS := Lib.hid hs'
        clear hs' hs hcall hbe
        have hk' : (k' != 1 && k' != 2) = false := by rcases hk with rfl | rfl <;> rfl
        rcases hk with rfl | rfl
        · go_wp2
          go_roundw
          case rel => exact ⟨j + 1, sm, r', by omega, by go_num, rfl, HS.out, by omega, hq2, hre', hb.alloc hbs _⟩
          case measure => simp [intOf]; omega
        · go_wp2
          go_roundw
          case rel => exact ⟨j + 1, sm, r', by omega, by go_num, rfl, HS.out, by omega, hq2, hre', hb.alloc hbs _⟩
          case measure => simp [intOf]; omega
      · have hs' : sm + (1 + b) + asksF r' = N := by rw [← hs, hbe]; simp only [asksF, if_neg hk]; omega
        have HS := Lib.hid hs'
        have hk1 : (k' != 1) = true := by simpa using fun e : k' = 1 => hk (.inl e)
        have hk2 : (k' != 2) = true := by simpa using fun e : k' = 2 => hk (.inr e)
        have hk3 : (k' == 1) = false := by simpa using fun e : k' = 1 => hk (.inl e)
        have hk4 : (k' == 2) = false := by simpa using fun e : k' = 2 => hk (.inr e)
        clear hs' hs hbe hk
        go_wp2_with (first
          | (go_at_call 12; (with_reducible refine (hcall _ (hb.alloc hbs _)).mono ?_); rintro e w2 ⟨rfl, hb2⟩))
        go_roundw
        case rel => exact ⟨j + 1, sm + (1 + b), r', by omega, by go_num, by go_num, HS.out, by omega, hq2, hre', (hb.alloc hbs _).trans (hb2.mono (by simp; omega))⟩
        case measure => simp [intOf]; omega
theorem asks_all (f : F) : AsksRow f := asks_row f (each_of (fun _ _ _ a hQ => asks_row a hQ) f)
end Go.Proofs.YtiinghgfojicdaaGreat
