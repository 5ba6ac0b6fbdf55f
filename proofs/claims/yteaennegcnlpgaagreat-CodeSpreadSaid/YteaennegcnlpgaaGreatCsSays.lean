/- CodeSpread returns true, and all memory that was there stays as it was: for every two rows of integers, from every world, on every tape. -/
import Derived.Test.YteaennegcnlpgaaGreatAwake
import Derived.Test.YteaennegcnlpgaaGreatCsWalk
namespace Go.Proofs.YteaennegcnlpgaaGreat
open Go.RowKit

theorem quiet_below {w w' : World} (h : Quiet w w') : Below w.heap.size w w' := ⟨h.1, h.2.1, h.2.2.1, h.2.2.2.1, h.2.2.2.2⟩
theorem awake_true (w : World) : Calls Tryz.prog 21 #[] w (TrueEnds w) :=
  (awake_says w).mono fun e w' he => by
    cases e with
    | panicked _ => exact he.elim
    | outgrown => exact he.elim
    | returned u =>
      obtain ⟨rfl, hq⟩ := he
      exact ⟨rfl, quiet_below hq⟩
theorem pick_at (a : Int) (w : World) : Calls Tryz.prog 9 #[.int .i64 a, .int .i64 4] w fun e w' => e = .returned (.int .i64 ((pickZ a 4).toNat : Int)) ∧ w = w' := by
  obtain ⟨i, hi, he⟩ := pickZ_few a 4 (by omega) (by omega)
  have e1 : ((pickZ a 4).toNat : Int) = pickZ a 4 := by
    have he' : pickZ a 4 = (i : Int) := he
    rw [he', Int.toNat_natCast]
  have H := Lib.hid e1
  clear e1 he
  go_enter Tryz.func9, Tryz.ntmps9
  go_wp2
  go_ret
  refine ⟨?_, rfl⟩
  have k4 : IntKind.u64.wrap 4 = 4 := by simp [IntKind.wrap, IntKind.signed, IntKind.bits]
  rw [H.out]
  simp [pickZ, k4]
theorem pick_four (a : Int) : (pickZ a 4).toNat < 4 := by
  obtain ⟨i, hi, he⟩ := pickZ_few a 4 (by omega) (by omega)
  have he' : pickZ a 4 = (i : Int) := he
  rw [he', Int.toNat_natCast]
  exact hi

/-- A row of integers as the code holds it. -/
def IntsV (w : World) (v : Value) : Prop := ∃ A n c L, v = .slice A n c ∧ L.length = n ∧ n ≤ c ∧ c ≤ maxLen ∧ IntsAt w w.heap.size A L

theorem spread_true (v v' : Value) (w : World) (h : IntsV w v) (h' : IntsV w v') : Calls Tryz.prog 6 #[v, v'] w (TrueEnds w) := by
  obtain ⟨A, n, c, L, rfl, hl, hc, hm, hI⟩ := h
  obtain ⟨A', n', c', L', rfl, hl', hc', hm', hI'⟩ := h'
  exact code_says (fun a => (pickZ a 4).toNat) pick_four awake_true pick_at A n c L A' n' c' L' w hI hl hc hm hI' hl' (Nat.le_trans hc' hm')
end Go.Proofs.YteaennegcnlpgaaGreat
