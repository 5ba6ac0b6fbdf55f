/- Rows of patterns and values in memory, below a block. No conditions. -/
import Derived.Test.YtiinghgfojicdaaGreatProg
import Derived.Below
import Derived.Tactics
import Derived.Tactics2
import Derived.WalkKit
import Derived.LoopTactic
import Derived.Deep.QuietTactic
import Derived.BigQuiet
import Derived.Outline
import Derived.Lib.Hide
import Derived.IntWalk
import Derived.Deep.RegionHeld3
import Derived.Test.YtiinghgfojicdaaGreatFRow
set_option linter.unusedVariables false
set_option linter.unusedSimpArgs false
namespace Go.Proofs.YtiinghgfojicdaaGreat
open Go.RowKit Go.RowG Go.FRow
set_option linter.unusedVariables false

abbrev FAt (w : World) (B : Nat) (f : F) (ad : Addr) : Prop := FRow.FAt w (fun b => b < B) f ad
/-- The parts lie at A. -/
abbrev RowAt (w : World) (B : Nat) (A : Option Addr) (f : F) : Prop := FRow.RowAt w (fun b => b < B) A f
theorem RowAt.keep {w w' : World} {B B' : Nat} {A : Option Addr} {f : F} (h : RowAt w B A f) (hB : B ≤ B') (hk : ∀ p : Addr, p.block < B → w'.cell? p = w.cell? p) : RowAt w' B' A f :=
  FRow.RowAt.keep h (fun b (hb : b < B) => (show b < B' by omega)) hk
abbrev Rest (w : World) (B : Nat) (A : Option Addr) (m j : Nat) (r : F) : Prop := FRow.Rest w (fun b => b < B) A m j r
theorem RowAt.rest {w : World} {B : Nat} {A : Option Addr} {f : F} (h : RowAt w B A f) : Rest w B A f.len 0 f := FRow.RowAt.rest h
theorem Rest.step {w : World} {B : Nat} {A : Option Addr} {m j : Nat} {k n : Int} {t : ByteArray} {a r : F} (h : Rest w B A m j (.cons k n t a r)) :
    ∃ ad R c, A = some ad ∧ ad.block < B ∧ w.cell? (ad.add (j * 4)) = some (.int .i64 k) ∧ w.cell? ⟨(ad.add (j * 4)).block, (ad.add (j * 4)).off + 1, none⟩ = some (.int .i64 n) ∧
      w.cell? ⟨(ad.add (j * 4)).block, (ad.add (j * 4)).off + 2, none⟩ = some (.string t) ∧ w.cell? ⟨(ad.add (j * 4)).block, (ad.add (j * 4)).off + 3, none⟩ = some (.slice R a.len c) ∧ a.len ≤ c ∧ c ≤ maxLen ∧ RowAt w B R a ∧
      Rest w B A m (j + 1) r := FRow.Rest.step h
abbrev FCells (w : World) (B : Nat) (f : F) (xs : List Value) : Prop := FRow.FCells w (fun b => b < B) f xs
def TrueEnds (w : World) (e : Ending) (w' : World) : Prop := e = .returned (.bool true) ∧ Below w.heap.size w w'
def SameEnds (w : World) (e : Ending) (w' : World) : Prop := e = .returned (.bool true) ∧ Below w.heap.size w w'
theorem below_drewN {B : Nat} {w w' : World} (h : Below B w w') (n : Nat) : Below B w (w'.drewN n) := ⟨h.os, h.tape, h.output, h.size, h.block⟩
theorem own_slice {w : World} {base : Nat} {v : Value} {m : Nat} {e : TypeId} {sz : Nat} {xs : List Value} (h : w.ownsRow base e sz v m xs) : ∃ A c, v = .slice A m c ∧ m ≤ c ∧ c ≤ maxLen := by
  rcases h.2 with ⟨rfl, rfl⟩ | ⟨g, cap, cur, rfl, _, _, h1, h2, _⟩
  · exact ⟨_, _, rfl, Nat.le_refl _, by simp⟩
  · exact ⟨_, _, rfl, h1, h2⟩
/-- From the place A on the integers L lie, below block B. -/
def IntsAt (w : World) (B : Nat) (A : Option Addr) (L : List Int) : Prop :=
  0 < L.length → ∃ ad, A = some ad ∧ ad.block < B ∧ ∀ j u, L[j]? = some u → w.cell? (ad.add j) = some (.int .i64 u)
theorem IntsAt.keep {w w' : World} {B : Nat} {A : Option Addr} {L : List Int} (h : IntsAt w B A L) (hk : ∀ p : Addr, p.block < B → w'.cell? p = w.cell? p) : IntsAt w' B A L := fun hn => by
  obtain ⟨ad, e, hb, hc⟩ := h hn
  exact ⟨ad, e, hb, fun j u hu => (hk _ (by rw [add_block]; exact hb)).trans (hc j u hu)⟩
theorem IntsAt.at_ {w : World} {B : Nat} {A : Option Addr} {L : List Int} (h : IntsAt w B A L) {k : Nat} (hk : k < L.length) : ∃ ad u, A = some ad ∧ ad.block < B ∧ L[k]? = some u ∧ w.cell? (ad.add k) = some (.int .i64 u) := by
  obtain ⟨ad, e, hb, hc⟩ := h (by omega)
  exact ⟨ad, L[k], e, hb, List.getElem?_eq_getElem hk, hc k _ (List.getElem?_eq_getElem hk)⟩
theorem IntsAt.keep1 {w w' : World} {B B' : Nat} {A : Option Addr} {L : List Int} (h : IntsAt w B A L) (hk : 0 < L.length → ∀ ad, A = some ad → ad.block < B' ∧ w'.heap[ad.block]? = w.heap[ad.block]?) : IntsAt w' B' A L := fun hn => by
  obtain ⟨ad, e, hb, hc⟩ := h hn
  obtain ⟨h1, h2⟩ := hk hn ad e
  exact ⟨ad, e, h1, fun j u hu => (World.cell?_of_block (by rw [add_block]; exact h2)).trans (hc j u hu)⟩


def IntEnds (b : Int) (w : World) (e : Ending) (w' : World) : Prop := e = .returned (.int .i64 b) ∧ Below w.heap.size w w'
def bindsF : F → Nat
  | .nil => 0
  | .cons k _ _ a r => (if k = 2 then 1 else if k = 6 then bindsF a else 0) + bindsF r
def binds1 (k : Int) (a : F) : Nat := if k = 2 then 1 else if k = 6 then bindsF a else 0
theorem bindsF_le : ∀ f, bindsF f ≤ f.nodes
  | .nil => Nat.le_refl _
  | .cons k _ _ a r => by
    have h1 := bindsF_le a
    have h2 := bindsF_le r
    simp only [bindsF, F.nodes]
    split
    · omega
    · split <;> omega

def BindsSaid (k n : Int) (t : ByteArray) (a : F) : Prop := ∀ (A : Option Addr) (c : Nat) (w : World), RowAt w w.heap.size A a → a.len ≤ c → c ≤ maxLen → a.nodes ≤ 100000 → Calls Tryz.prog 15 #[agg4 k n t A a.len c] w (IntEnds (binds1 k a) w)

set_option maxRecDepth 100000 in
set_option maxHeartbeats 1000000 in
theorem binds_head (k n : Int) (t : ByteArray) (a : F) (hQ : Each BindsSaid a) : BindsSaid k n t a := by
  intro A c w h hc hcm hn
  unfold agg4
  by_cases h2 : k = 2
  · subst h2
    go_enter Tryz.func15, Tryz.ntmps15
    go_wp2
    go_ret
    exact ⟨by simp [binds1], (Below.refl _ _).alloc (Nat.le_refl _) _⟩
  · by_cases h6 : k = 6
    · subst h6
      clear h2
      obtain ⟨m, hm⟩ : ∃ m, m = a.len := ⟨_, rfl⟩
      have hml : m ≤ 100000 := by have := a.len_nodes; omega
      have hrest := h.rest
      rw [← hm] at hrest
      rw [← hm]
      clear hm h hc hcm
      obtain ⟨N, hN⟩ : ∃ N, N = bindsF a := ⟨_, rfl⟩
      have HB := Lib.hid (show binds1 6 a = N by rw [hN]; rfl)
      have HN := Lib.hid hN
      clear hN
      go_enter Tryz.func15, Tryz.ntmps15
      go_wp2
      go_loopw [3, 15] (fun s i wr => ∃ (j sm : Nat) (r : F), j ≤ m ∧ i = .int .i64 j ∧ s = .int .i64 sm ∧ sm + bindsF r = N ∧ sm ≤ 100000 ∧ r.nodes + sm ≤ 100000 ∧ Each BindsSaid r ∧ Rest w w.heap.size A m j r ∧ Below w.heap.size w wr) (fun _ i _ => m - (intOf i).toNat)
      case atStart => exact ⟨0, 0, a, Nat.zero_le _, rfl, rfl, by rw [HN.out]; omega, by omega, by omega, hQ, hrest, (Below.refl _ _).alloc (Nat.le_refl _) _⟩
      case round =>
        obtain ⟨j, sm, r, hj, rfl, rfl, hs, hsm, hno, hq, hre, hb⟩ := hrel
        cases r with
        | nil =>
          obtain rfl : j = m := by have := hre.1; simp only [F.len] at this; omega
          simp only [bindsF] at hs
          have HS := Lib.hid hs
          clear hs hno
          go_wp2
          go_ret
          refine ⟨?_, hb⟩
          rw [HB.out, ← HS.out]
          rfl
        | cons k' n' t' a' r' =>
          have hlt : j < m := by have := hre.1; simp only [F.len] at this; omega
          obtain ⟨ad, R, rc, rfl, hab, hc0, hc1, hc2, hc3, hrl, hrm, hra, hre'⟩ := hre.step
          obtain ⟨hq1, hq2⟩ := hq
          simp only [F.nodes] at hno
          obtain ⟨b, hbe⟩ : ∃ b, b = binds1 k' a' := ⟨_, rfl⟩
          have hbl : b ≤ a'.nodes + 1 := by
            have := bindsF_le a'
            rw [hbe]
            unfold binds1
            split
            · omega
            · split <;> omega
          have hs' : sm + b + bindsF r' = N := by
            rw [← hs, hbe]
            simp only [bindsF, binds1]
            omega
          have HS := Lib.hid hs'
          have hcall : ∀ W : World, Below w.heap.size w W → Calls Tryz.prog 15 #[.agg #[.int .i64 k', .int .i64 n', .string t', .slice R a'.len rc]] W (IntEnds (b : Int) W) := fun W hW => by
            rw [hbe]
            exact hq1 R rc W (hra.keep hW.size fun p hp => hW.cell hp) hrl hrm (by omega)
          obtain ⟨m', hm'⟩ : ∃ m', m' = a'.len := ⟨_, rfl⟩
          rw [← hm'] at hcall hc3 hrl
          clear hbe hs hs' hq1 hm'
          have d0 := (hb.cell (p := ad.add (j * 4)) (by rw [add_block]; exact hab)).trans hc0
          have d1 := (hb.cell (p := ⟨(ad.add (j * 4)).block, (ad.add (j * 4)).off + 1, none⟩) (by rw [add_block]; exact hab)).trans hc1
          have d2 := (hb.cell (p := ⟨(ad.add (j * 4)).block, (ad.add (j * 4)).off + 2, none⟩) (by rw [add_block]; exact hab)).trans hc2
          have d3 := (hb.cell (p := ⟨(ad.add (j * 4)).block, (ad.add (j * 4)).off + 3, none⟩) (by rw [add_block]; exact hab)).trans hc3
          clear hc0 hc1 hc2 hc3
          have hbs := hb.size
          go_wp2_with (first
            | (go_at_call 15; (with_reducible refine (hcall _ (hb.alloc hbs _)).mono ?_); rintro e w2 ⟨rfl, hb2⟩))
          go_roundw
          case rel => exact ⟨j + 1, sm + b, r', by omega, by go_num, by go_num, HS.out, by omega, by omega, hq2, hre', (hb.alloc hbs _).trans (hb2.mono (by simp; omega))⟩
          case measure => simp [intOf]; omega
    · go_enter Tryz.func15, Tryz.ntmps15
      go_wp2
      go_ret
      exact ⟨by simp [binds1, h2, h6], (Below.refl _ _).alloc (Nat.le_refl _) _⟩
end Go.Proofs.YtiinghgfojicdaaGreat
