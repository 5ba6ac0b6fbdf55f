/- A part of the proofs of the laws of the arms: Dice. No conditions. -/
import Derived.Test.YtiinghgfojicdaaGreatArAsks
import Derived.Outline
set_option linter.unusedVariables false
set_option linter.unusedSimpArgs false
namespace Go.Proofs.YtiinghgfojicdaaGreat
open Go.RowKit Go.RowG Go.FRow
set_option linter.unusedVariables false
attribute [local go_sem ↓] Go.wp_at_zero Go.wp_at_succ

/-- Block g are dice: the numbers, and how many have been taken. -/
def Dice (w : World) (g : Nat) (A : Option Addr) (n c k : Nat) (b : Bool) : Prop := w.heap[g]? = some (.cells #[.slice A n c, .int .i64 (k : Int), .bool b] 33 (0, 0))
def RollEnds (g : Nat) (A : Option Addr) (n c k : Nat) (b : Bool) (M : Nat) (w : World) (e : Ending) (w' : World) : Prop :=
  ∃ p k' : Nat, p < M ∧ k' ≤ k + 1 ∧ e = .returned (.int .i64 (p : Int)) ∧ Dice w' g A n c k' b ∧ Rolled g w w' ∧ w'.heap.size = w.heap.size

def pickQ (a k : Int) : Int := RowKit.wrap64 ((IntKind.u64.wrap a).tmod (IntKind.u64.wrap k))
theorem pickQ_few (a : Int) (k : Nat) (h0 : 0 < k) (h1 : k < 1000) : ∃ i : Nat, i < k ∧ pickQ a (k : Int) = (i : Int) := by
  have e1 : IntKind.u64.wrap (k : Int) = (k : Int) := by
    simp only [IntKind.wrap, IntKind.signed, IntKind.bits]
    simp
    omega
  have e2 : 0 ≤ IntKind.u64.wrap a := by
    simp only [IntKind.wrap, IntKind.signed, IntKind.bits]
    simp
    omega
  obtain ⟨m, hm⟩ := Int.eq_ofNat_of_zero_le e2
  refine ⟨m % k, Nat.mod_lt _ h0, ?_⟩
  unfold pickQ
  rw [e1, hm]
  have e3 : Int.tmod (m : Int) (k : Int) = ((m % k : Nat) : Int) := by
    rw [Int.tmod_eq_emod_of_nonneg (by omega)]
    rfl
  rw [e3]
  have := Nat.mod_lt m h0
  unfold RowKit.wrap64
  omega
theorem pick_eq (a : Int) (k : Nat) (h0 : 0 < k) (h1 : k < 1000) (w : World) : Calls Tryz.prog 27 #[.int .i64 a, .int .i64 (k : Int)] w fun e w' => e = .returned (.int .i64 (pickQ a k)) ∧ w' = w := by
  have e1 : IntKind.u64.wrap (k : Int) = (k : Int) := by
    simp only [IntKind.wrap, IntKind.signed, IntKind.bits]
    simp
    omega
  have hk : IntKind.u64.wrap (k : Int) ≠ 0 := by rw [e1]; omega
  have E1 := Lib.hid e1
  clear e1
  go_enter Tryz.func27, Tryz.ntmps27
  go_wp2
  go_ret
  exact ⟨by simp [pickQ, E1.out], rfl⟩

set_option maxRecDepth 100000 in
set_option maxHeartbeats 2000000 in
theorem roll_says (g : Nat) (A : Option Addr) (n c k : Nat) (b : Bool) (M : Nat) (w : World) (L : List Int) (hL : L.length = n) (hd : Dice w g A n c k b) (hI : IntsAt w w.heap.size A L) (hA : ∀ ad, A = some ad → 0 < n → ad.block ≠ g) (hn : n ≤ 300) (hk : k ≤ 100000) (hM : 0 < M) (hM' : M < 1000) :
    Calls Tryz.prog 35 #[.pointer (some ⟨g, 0, none⟩), .int .i64 (M : Int)] w (RollEnds g A n c k b M w) := by
  have c0 := World.news_of_block hd 0 (.slice A n c) rfl
  have c1 := World.news_of_block hd 1 (.int .i64 (k : Int)) rfl
  simp [Addr.add] at c0 c1
  have HL := Lib.hid hL
  have HD := Lib.hid hd
  clear hL hd
  by_cases h0 : n = 0
  · subst h0
    go_enter Tryz.func35, Tryz.ntmps35
    go_wp2
    go_ret
    exact ⟨0, k, hM, by omega, rfl, HD.out, ⟨rfl, rfl, rfl, Nat.le_refl _, fun _ _ _ => rfl⟩, rfl⟩
  · have hn0 : 0 < n := by omega
    have hf : w.frozen? ⟨g, 1, none⟩ = false := by
      have := HD.out
      unfold Dice at this
      simp [World.frozen?, this]
    clear h0
    go_enter Tryz.func35, Tryz.ntmps35
    go_wp2
    obtain ⟨ad, x, rfl, hab, hx, hcx⟩ := hI.at_ (k := k % n) (by have := HL.out; have := Nat.mod_lt k hn0; omega)
    have hag := hA ad rfl hn0
    have s0 : (w.setCell ⟨g, 1, none⟩ (.int .i64 ((k : Int) + 1))).cell? ⟨g, 0, none⟩ = some (.slice (some ad) n c) := by
      rw [World.cell?_setCell_other _ _ _ _ (by simp)]
      exact c0
    have s2 : (w.setCell ⟨g, 1, none⟩ (.int .i64 ((k : Int) + 1))).cell? (ad.add (k % n)) = some (.int .i64 x) := by
      rw [World.cell?_setCell_other _ _ _ _ (fun e => hag (by have := congrArg Addr.block e; rw [add_block] at this; exact this.symm))]
      exact hcx
    obtain ⟨r, hr⟩ : ∃ r, r = k % n := ⟨_, rfl⟩
    obtain ⟨q, hq⟩ : ∃ q, q = k / n := ⟨_, rfl⟩
    have hrn : r < n := by rw [hr]; exact Nat.mod_lt k hn0
    have hqk : q ≤ k := by rw [hq]; exact Nat.div_le_self k n
    rw [← hr] at s2 hcx hx
    have t1 : ((k : Int).tmod (n : Int)) = (r : Int) := by rw [hr, Int.tmod_eq_emod_of_nonneg (by omega)]; rfl
    have t2 : ((k : Int).tdiv (n : Int)) = (q : Int) := by rw [hq, Int.tdiv_eq_ediv_of_nonneg (by omega)]; rfl
    have t3 : IntKind.i64.wrap (k : Int) = (k : Int) := IntWalk.i64_in _ (by omega)
    have t3' : IntKind.i64.wrap ((k : Int) + 1 - 1) = (k : Int) := by rw [Int.add_sub_cancel]; exact t3
    have t4 : IntKind.i64.wrap (r : Int) = (r : Int) := IntWalk.i64_in _ (by omega)
    have t5 : IntKind.i64.wrap (q : Int) = (q : Int) := IntWalk.i64_in _ (by omega)
    have t6 : IntKind.i64.wrap ((q : Int) * 7) = (q : Int) * 7 := IntWalk.i64_in _ (by omega)
    have t7 : (0 : Int) ≤ (r : Int) := Int.natCast_nonneg _
    have t8 : (r : Int) < (n : Int) := by omega
    have t9 : ((n : Int) == 0) = false := by simp; omega
    have HX := Lib.hid hx
    clear hr hq hx hcx
    go_quiet ((go_at_call 27; exact Calls.quiet_of_same (pick_eq _ _ hM hM' _)))
    obtain ⟨p, hp, he⟩ := pickQ_few (wrap64 (x + (q : Int) * 7)) M hM hM'
    have HE := Lib.hid he
    clear he
    go_wp2
    go_ret
    refine ⟨p, k + 1, hp, Nat.le_refl _, by rw [← HE.out]; rfl, ?_, ⟨rfl, rfl, rfl, by simp [World.setCell], fun j hj hg => ?_⟩, by simp [World.setCell]⟩
    · have hd := HD.out
      unfold Dice at hd ⊢
      show (w.setCell ⟨g, 1, none⟩ (.int .i64 ((k : Int) + 1))).heap[g]? = _
      simp [World.setCell, Array.getElem?_modify, hd]
    · exact Below.heap_setCell w ⟨g, 1, none⟩ _ j hg
end Go.Proofs.YtiinghgfojicdaaGreat
