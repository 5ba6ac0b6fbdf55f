/- slices.EqualFunc by CodeSpread's closure returns true of two rows that hold the same arms; all memory that was there stays as it was. For arms that spread to at most 100000 integers. -/
import Derived.Test.YteaennegcnlpgaaGreatCsGather
namespace Go.Proofs.YteaennegcnlpgaaGreat
open Go.RowKit

theorem equal_same (A1 A2 : Option Addr) (n c1 c2 B : Nat) (L : List Int) (w : World) (h1 : IntsAt w B A1 L) (h2 : IntsAt w B A2 L) (l1 : L.length = n) (hm : n ≤ maxLen) :
    Calls Tryz.prog 19 #[.slice A1 n c1, .slice A2 n c2] w (EqEnds true w) := by
  have h := equal_says A1 A2 n c1 c2 B L L w h1 h2 l1 l1 hm
  rwa [decide_eq_true rfl] at h

def SameEnds (w : World) (e : Ending) (w' : World) : Prop := e = .returned (.bool true) ∧ Below w.heap.size w w'
theorem below_drewN {B : Nat} {w w' : World} (h : Below B w w') (n : Nat) : Below B w (w'.drewN n) := ⟨h.os, h.tape, h.output, h.size, h.block⟩

theorem same_says (pc : Int) (A1 A2 : Option Addr) (n c1 c2 B : Nat) (L : List Int) (w : World) (h1 : IntsAt w B A1 L) (h2 : IntsAt w B A2 L) (l1 : L.length = n) (hm : n ≤ maxLen) (hB : B ≤ w.heap.size) :
    Calls Tryz.prog 25 #[.agg #[.int .i64 pc, .slice A1 n c1], .agg #[.int .i64 pc, .slice A2 n c2]] w (SameEnds w) := by
  have HL := Lib.hid l1
  clear l1
  go_enter Tryz.func25, Tryz.ntmps25
  have hk : ∀ o1 o2 : Obj, ∀ p : Addr, p.block < B → ((w.alloc o1).alloc o2).cell? p = w.cell? p := fun o1 o2 p hp => (((Below.refl w.heap.size w).alloc (Nat.le_refl _) o1).alloc (by simp) o2).cell (by omega)
  have HK := Lib.hid hk
  clear hk
  go_wp2_with (first
    | (go_at_call 19; refine (equal_same A1 A2 n c1 c2 B L _ (h1.keep (HK.out _ _)) (h2.keep (HK.out _ _)) HL.out hm).mono ?_; rintro e w' ⟨rfl, d, rfl⟩))
  go_ret
  exact ⟨rfl, below_drewN (((Below.refl _ _).alloc (Nat.le_refl _) _).alloc (by simp) _) _⟩

set_option maxHeartbeats 1000000 in
theorem eqf_says (A1 A2 : Option Addr) (n c1 c2 : Nat) (l : List (Int × List Int)) (w : World) (h1 : ArmsAt w w.heap.size A1 l) (h2 : ArmsAt w w.heap.size A2 l) (hl : l.length = n) (hn : n ≤ 100000) (hs : (spread l).length ≤ 100000) :
    Calls Tryz.prog 24 #[.slice A1 n c1, .slice A2 n c2, .func (.func 25) #[] #[]] w (SameEnds w) := by
  have HL := Lib.hid hl
  clear hl
  go_enter Tryz.func24, Tryz.ntmps24
  go_wp2
  go_loopw [17] (fun i wr => ∃ k : Nat, k ≤ n ∧ i = .int .i64 k ∧ Below w.heap.size w wr) (fun i _ => n - (intOf i).toNat)
  case atStart => exact ⟨0, Nat.zero_le _, rfl, Below.refl _ _⟩
  case round =>
    obtain ⟨k, hk, rfl, hb⟩ := hrel
    by_cases hlt : k < n
    · obtain ⟨a1, pc, L, R1, r1, rfl, hab1, hx, hp1, hc1, hR1⟩ := h1.at_ (k := k) (by have := HL.out; omega)
      obtain ⟨a2, pc', L', R2, r2, rfl, hab2, hx', hp2, hc2, hR2⟩ := h2.at_ (k := k) (by have := HL.out; omega)
      obtain ⟨rfl, rfl⟩ : pc = pc' ∧ L = L' := by
        rw [hx] at hx'
        simpa using hx'
      have hLl : L.length ≤ maxLen := by
        have e := spread_take l (k + 1)
        rw [spread_snoc hx] at e
        simp only [List.length_append] at e
        unfold maxLen
        omega
      clear hx hx'
      have hp1' := (hb.cell (p := a1.add (k * 2)) (by rw [add_block]; exact hab1)).trans hp1
      have hc1' := (hb.cell (p := ⟨(a1.add (k * 2)).block, (a1.add (k * 2)).off + 1, none⟩) (by rw [add_block]; exact hab1)).trans hc1
      have hp2' := (hb.cell (p := a2.add (k * 2)) (by rw [add_block]; exact hab2)).trans hp2
      have hc2' := (hb.cell (p := ⟨(a2.add (k * 2)).block, (a2.add (k * 2)).off + 1, none⟩) (by rw [add_block]; exact hab2)).trans hc2
      have hn1 := fun o : Obj => World.cell?_alloc_lt wr o (a2.add (k * 2)) (by rw [add_block]; have := hb.size; omega)
      have hn2 := fun o : Obj => World.cell?_alloc_lt wr o ⟨(a2.add (k * 2)).block, (a2.add (k * 2)).off + 1, none⟩ (by rw [add_block]; have := hb.size; omega)
      clear hp1 hc1 hp2 hc2
      have hbs := hb.size
      have hk2 : ∀ o1 o2 : Obj, ∀ p : Addr, p.block < w.heap.size → ((wr.alloc o1).alloc o2).cell? p = w.cell? p := fun o1 o2 p hp => ((hb.alloc hbs o1).alloc (by simp; omega) o2).cell hp
      have HK := Lib.hid hk2
      clear hk2
      go_wp2_with (first
        | (go_at_call 25; refine (same_says pc R1 R2 L.length r1 r2 w.heap.size L _ (hR1.keep (HK.out _ _)) (hR2.keep (HK.out _ _)) rfl hLl (by simp; omega)).mono ?_; rintro e w' ⟨rfl, hb2⟩))
      go_roundw
      case rel => exact ⟨k + 1, by omega, by go_num, ((hb.alloc hbs _).alloc (by simp; omega) _).trans (hb2.mono (by simp; omega))⟩
      case measure => simp [intOf]; omega
    · obtain rfl : k = n := by omega
      go_wp2
      go_ret
      exact ⟨rfl, hb⟩
end Go.Proofs.YteaennegcnlpgaaGreat
