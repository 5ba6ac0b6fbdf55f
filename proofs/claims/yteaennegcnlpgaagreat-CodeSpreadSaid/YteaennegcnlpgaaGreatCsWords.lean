/- slices.Equal says whether two rows of integers are alike, and leaves all memory as it was. For lengths that Go allows. -/
import Derived.Test.YteaennegcnlpgaaGreatProg
import Derived.Below
import Derived.Tactics
import Derived.Tactics2
import Derived.WalkKit
import Derived.LoopTactic
import Derived.Deep.QuietTactic
import Derived.BigQuiet
import Derived.Lib.Hide
import Derived.IntWalk
namespace Go.Proofs.YteaennegcnlpgaaGreat
open Go.RowKit

theorem add_block (a : Addr) (n : Nat) : (a.add n).block = a.block := by unfold Addr.add; split <;> rfl
theorem add_plus (a : Addr) (i j : Nat) : (a.add i).add j = a.add (i + j) := by
  unfold Addr.add
  by_cases hi : i = 0 <;> by_cases hj : j = 0 <;> simp [hi, hj, Nat.add_assoc]

/-- From the place A on the integers L lie, below block B. -/
def IntsAt (w : World) (B : Nat) (A : Option Addr) (L : List Int) : Prop :=
  0 < L.length → ∃ ad, A = some ad ∧ ad.block < B ∧ ∀ j u, L[j]? = some u → w.cell? (ad.add j) = some (.int .i64 u)

theorem IntsAt.keep {w w' : World} {B : Nat} {A : Option Addr} {L : List Int} (h : IntsAt w B A L) (hk : ∀ p : Addr, p.block < B → w'.cell? p = w.cell? p) : IntsAt w' B A L := fun hn => by
  obtain ⟨ad, e, hb, hc⟩ := h hn
  exact ⟨ad, e, hb, fun j u hu => (hk _ (by rw [add_block]; exact hb)).trans (hc j u hu)⟩
theorem IntsAt.at_ {w : World} {B : Nat} {A : Option Addr} {L : List Int} (h : IntsAt w B A L) {k : Nat} (hk : k < L.length) : ∃ ad u, A = some ad ∧ ad.block < B ∧ L[k]? = some u ∧ w.cell? (ad.add k) = some (.int .i64 u) := by
  obtain ⟨ad, e, hb, hc⟩ := h (by omega)
  exact ⟨ad, L[k], e, hb, List.getElem?_eq_getElem hk, hc k _ (List.getElem?_eq_getElem hk)⟩

def EqEnds (b : Bool) (w : World) (e : Ending) (w' : World) : Prop := e = .returned (.bool b) ∧ ∃ n, w' = w.drewN n

set_option maxHeartbeats 400000 in
theorem equal_says (A1 A2 : Option Addr) (n c1 c2 B : Nat) (L1 L2 : List Int) (w : World) (h1 : IntsAt w B A1 L1) (h2 : IntsAt w B A2 L2) (l1 : L1.length = n) (l2 : L2.length = n) (hm : n ≤ maxLen) :
    Calls Tryz.prog 19 #[.slice A1 n c1, .slice A2 n c2] w (EqEnds (decide (L1 = L2)) w) := by
  unfold maxLen at hm
  have H1 := Lib.hid l1
  have H2 := Lib.hid l2
  clear l1 l2
  go_enter Tryz.func19, Tryz.ntmps19
  go_wp2
  go_loopw [13] (fun i wr => ∃ k : Nat, k ≤ n ∧ i = .int .i64 k ∧ L1.take k = L2.take k ∧ ∃ d, wr = w.drewN d) (fun i _ => n - (intOf i).toNat)
  case atStart => exact ⟨0, Nat.zero_le _, rfl, rfl, 0, rfl⟩
  case round =>
    obtain ⟨k, hk, rfl, ht, d, rfl⟩ := hrel
    have HT := Lib.hid ht
    clear ht
    by_cases hlt : k < n
    · obtain ⟨a1, x1, rfl, hb1, hx1, hc1⟩ := h1.at_ (k := k) (by have := H1.out; omega)
      obtain ⟨a2, x2, rfl, hb2, hx2, hc2⟩ := h2.at_ (k := k) (by have := H2.out; omega)
      have HX1 := Lib.hid hx1
      have HX2 := Lib.hid hx2
      clear hx1 hx2
      have hk0 : (0 : Int) ≤ (k : Int) := Int.natCast_nonneg _
      have hk1 : (k : Int) < (n : Int) := by omega
      by_cases hx : x1 = x2
      · subst hx
        go_wp2
        go_quiet (fail)
        go_wp2
        go_roundw
        case rel => exact ⟨k + 1, by omega, by go_num, by rw [List.take_add_one, List.take_add_one, HT.out, HX1.out, HX2.out], d + nq, by simp [World.drewN]⟩
        case measure => simp [intOf]; omega
      · have hne : (x1 != x2) = true := by simpa using hx
        clear hx
        go_wp2
        go_quiet (fail)
        go_wp2
        go_ret
        refine ⟨?_, d + nq, by simp [World.drewN, Nat.add_assoc]⟩
        rw [decide_eq_false (fun h => by
          have e1 := HX1.out
          rw [h, HX2.out] at e1
          simp only [Option.some.injEq] at e1
          rw [e1] at hne
          simp at hne)]
        rfl
    · obtain rfl : k = n := by omega
      go_wp2
      go_ret
      refine ⟨?_, _, rfl⟩
      have e := HT.out
      rw [List.take_of_length_le (by have := H1.out; omega), List.take_of_length_le (by have := H2.out; omega)] at e
      rw [decide_eq_true e]
      rfl

/-- Different lengths. -/
theorem equal_not (A1 A2 : Option Addr) (n1 n2 c1 c2 : Nat) (w : World) (hn : (n1 : Int) ≠ n2) :
    Calls Tryz.prog 19 #[.slice A1 n1 c1, .slice A2 n2 c2] w (EqEnds false w) := by
  go_enter Tryz.func19, Tryz.ntmps19
  go_wp2
  go_ret
  exact ⟨rfl, 0, rfl⟩
end Go.Proofs.YteaennegcnlpgaaGreat
