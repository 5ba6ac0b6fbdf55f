/- A part of the proofs of the laws of the arms: Pats. No conditions. -/
import Derived.Test.YtiinghgfojicdaaGreatArLeafy
set_option linter.unusedVariables false
set_option linter.unusedSimpArgs false
namespace Go.Proofs.YtiinghgfojicdaaGreat
open Go.RowKit Go.RowG Go.FRow Go.GMem
set_option linter.unusedVariables false
attribute [local go_sem ↓] Go.wp_at_zero Go.wp_at_succ

/-- What pats hands back: some patterns. -/
def PatsEnds (w : World) (e : Ending) (w' : World) : Prop :=
  ∃ (f : F) (A' : Option Addr) (c' : Nat), e = .returned (.slice A' f.len c') ∧ GRow w' (since w.heap.size w') A' f.len (encF f) ∧ f.len ≤ c' ∧ c' ≤ maxLen ∧ f.nodes ≤ 200 ∧ Kin f ∧ Below w.heap.size w w'
theorem Rolled.below {w w' : World} {o : Obj} (h : Rolled w.heap.size (w.alloc o) w') : Below w.heap.size w w' :=
  ⟨h.os, h.tape, h.output, by have := h.size; simp at this; omega, fun k hk => (h.block k (by simp; omega) (by omega)).trans (Below.heap_alloc w o k hk)⟩
theorem IntsAt.after {w w' : World} {A : Option Addr} {L : List Int} (h : IntsAt w w.heap.size A L) (hb : Below w.heap.size w w') : IntsAt w' w'.heap.size A L :=
  h.keep1 fun hn ad e => by
    obtain ⟨ad', e', hlt, _⟩ := h hn
    rw [e] at e'
    obtain rfl := Option.some.inj e'
    exact ⟨by have := hb.size; omega, hb.block _ hlt⟩

set_option maxRecDepth 100000 in
set_option maxHeartbeats 4000000 in
theorem pats_says (A : Option Addr) (n c : Nat) (L : List Int) (w : World) (hL : L.length = n) (hI : IntsAt w w.heap.size A L) (hn : n ≤ 300) : Calls Tryz.prog 10 #[.slice A n c] w (PatsEnds w) := by
  obtain ⟨w1, hw1⟩ : ∃ w1, w1 = w.alloc (.cells #[.slice A n c, .int .i64 0, .bool false] 33) := ⟨_, rfl⟩
  have hC : Rolls w.heap.size A n c w1 := by
    rw [hw1]
    refine rolls_of hL (hI.after ((Below.refl _ _).alloc (Nat.le_refl _) _)) (fun ad e h0 => ?_) hn (by simp)
    obtain ⟨ad', e', hlt, _⟩ := hI (by omega)
    rw [e] at e'
    obtain rfl := Option.some.inj e'
    omega
  have hD : Dice w1 w.heap.size A n c 0 false := by rw [hw1]; exact heap_alloc_new w _
  have hs1 : w1.heap.size = w.heap.size + 1 := by rw [hw1]; simp
  have hroll : Calls Tryz.prog 35 #[.pointer (some ⟨w.heap.size, 0, none⟩), .int .i64 6] w1 (RollEnds w.heap.size A n c 0 false 6 w1) := hC.roll w1 false 0 6 (Rolled.refl _ _) hD (by omega) (by omega) (by omega)
  have HC := Lib.hid hC
  have HS := Lib.hid hs1
  have HW := Lib.hid hw1
  rw [hw1] at hroll
  clear hC hL hI hD hs1
  go_enter Tryz.func10, Tryz.ntmps10
  go_wp2_with (first
    | (go_at_call 35
       (with_reducible refine hroll.mono ?_)
       rintro e w2 ⟨p, k2, hp, hk2, rfl, hd2, hr2, hz2⟩
       rw [← HW.out] at hr2
       clear hroll hz2 hw1))
  go_loopw [4, 11] (fun v i wr => ∃ (j : Nat) (acc : F) (k' : Nat), j ≤ p + 1 ∧ i = .int .i64 j ∧ acc.len = j ∧ Kin acc ∧ OwnG 40 4 wr (w.heap.size + 1) v j (encF acc) ∧ acc.nodes ≤ j * (nodesD 3 + 1) ∧ k' ≤ 1 + j * rollsD 3 ∧ Dice wr w.heap.size A n c k' false ∧ Rolled w.heap.size w1 wr) (fun _ i _ => p + 1 - (intOf i).toNat)
  case atStart => exact ⟨0, .nil, k2, by omega, rfl, rfl, trivial, OwnG.nil _ _ _ _, Nat.zero_le _, by omega, hd2, hr2⟩
  case round =>
    obtain ⟨j, acc, k', hj, rfl, hlen, hkin, hown, hnod, hk', hdr, hR⟩ := hrel
    have hrs : w.heap.size + 1 ≤ wr.heap.size := by have := hR.size; have := HS.out; omega
    obtain ⟨A5, c5, rfl, h51, h52, hrow⟩ := hown.row (by decide)
    have e1 : rollsD 3 = 30 := rfl
    have e2 : nodesD 3 = 30 := rfl
    rw [e1] at hk'
    rw [e2] at hnod
    by_cases hjm : j < p + 1
    · have hjm' : (j : Int) < 1 + (p : Int) := by omega
      have hcall : Calls Tryz.prog 36 #[.pointer (some ⟨w.heap.size, 0, none⟩), .int .i64 3] wr (GenEnds w.heap.size A n c k' false (rollsD 3) (nodesD 3) wr) := pat_says w.heap.size A n c false w1 HC.out 3 (by omega) k' wr hR hdr (by rw [e1]; omega)
      rw [e1, e2] at hcall
      go_wp2_with (first
        | (go_at_call 36
           (with_reducible refine hcall.mono ?_)
           rintro e w5 ⟨kk, nn, tt, f, A6, c6, k5, rfl, hrow6, hc61, hc62, hn6, hkin6, hk5, hd5, hr5⟩
           obtain ⟨xs, hownr, hfc⟩ := OwnG.rolled hown hr5 (by omega)
           have hneg : some w.heap.size ≠ (Value.slice A5 j c5).ownBlock := fun e => by have := (hownr.lt _ e.symm).1; omega
           have hs5 : wr.heap.size ≤ w5.heap.size := hr5.size
           clear hcall)
        | (at_builtin
           refine wpList_append_onez patTy (by decide) w5 [.int .i64 kk, .int .i64 nn, .string tt, .slice A6 f.len c6] 40 w5.heap.size rfl rfl (.tmp 13) (.tmp 16) rfl (w.heap.size + 1) _ j xs rfl hownr rfl rfl (by simp [Value.oneCell']) (by omega) (by omega) ?_
           intro v7 w7 hown7 hg7 hv7))
      go_roundw
      case measure => simp [intOf]; omega
      case rel =>
        have hlow := fun gg (hg : (Value.slice A5 j c5).ownBlock = some gg) => (hownr.lt gg hg).1
        have hlt0 : ∀ gg, (Value.slice A5 j c5).ownBlock = some gg → gg < wr.heap.size := fun gg hg => (hown.low hg).2
        refine ⟨j + 1, acc.snoc kk nn tt f, k5, by omega, by go_num, by rw [F.snoc_len]; omega, Kin.snoc hkin6.2 hkin6.1 hkin, ?_, by rw [F.snoc_nodes, Nat.succ_mul, e2]; omega, by rw [Nat.succ_mul, e1]; omega, (hd5.alloc (.cells #[.int .i64 kk, .int .i64 nn, .string tt, .slice A6 f.len c6] 40)).grown hg7 hneg,
          ((hR.trans hr5).alloc _).grown hg7 (fun gg hg => by have := hlow gg hg; have := HS.out; omega)⟩
        rw [encF_snoc]
        refine OwnG.snoc (o := .cells #[.int .i64 kk, .int .i64 nn, .string tt, .slice A6 f.len c6] 40) hfc ?_ hown7 hg7 hv7
        refine ⟨_, rfl, rfl, _, rfl, rfl, _, rfl, rfl, A6, c6, _, rfl, hc61, hc62, ?_, rfl⟩
        exact GRow.mono hrow6 fun b hb => ⟨by have := hb.1; omega, hb.2, fun e => by
          have := hlt0 b e.symm
          have := hb.1
          omega⟩
    · obtain rfl : j = p + 1 := by omega
      have hjm' : ¬ ((p : Int) + 1 < 1 + (p : Int)) := by omega
      go_wp2
      go_ret
      rw [HW.out] at hR
      refine ⟨acc, A5, c5, by rw [hlen]; rfl, by rw [hlen]; exact hrow.mono fun b hb => ⟨by have := hb.1; omega, hb.2⟩, by rw [hlen]; exact h51, h52, by omega, hkin, Rolled.below hR⟩
end Go.Proofs.YtiinghgfojicdaaGreat
