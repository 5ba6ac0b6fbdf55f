/- What pick returns: a number out of a few. For every two numbers of which the second is not 0 as an unsigned one. -/
import Derived.Test.YteaennegcnlpgaaGreatUp
namespace Go.Proofs.YteaennegcnlpgaaGreat
open Go.AM
def pickZ (a k : Int) : Int := RowKit.wrap64 ((IntKind.u64.wrap a).tmod (IntKind.u64.wrap k))
theorem quiet_refl (w : World) : Quiet w w := ⟨rfl, rfl, rfl, Nat.le_refl _, fun _ _ => rfl⟩

theorem pick_says (a k : Int) (hk : IntKind.u64.wrap k ≠ 0) (w : World) : Calls Tryz.prog 9 #[.int .i64 a, .int .i64 k] w (Says (.int .i64 (pickZ a k)) w) := by
  go_enter Tryz.func9, Tryz.ntmps9
  go_wp2
  go_ret
  exact ⟨by simp [pickZ], quiet_refl w⟩

theorem pickZ_few (a : Int) (k : Nat) (h0 : 0 < k) (h1 : k < 1000) : ∃ i : Nat, i < k ∧ pickZ a (k : Int) = (i : Int) := by
  have e1 : IntKind.u64.wrap (k : Int) = (k : Int) := by
    simp only [IntKind.wrap, IntKind.signed, IntKind.bits]
    simp
    omega
  have e2 : 0 ≤ IntKind.u64.wrap a := by
    simp only [IntKind.wrap, IntKind.signed, IntKind.bits]
    simp
    omega
  obtain ⟨m, hm⟩ := Int.eq_ofNat_of_zero_le e2
  refine ⟨m % k, Nat.mod_lt _ h0, ?_⟩
  unfold pickZ
  rw [e1, hm]
  have e3 : Int.tmod (m : Int) (k : Int) = ((m % k : Nat) : Int) := by
    rw [Int.tmod_eq_emod_of_nonneg (by omega)]
    rfl
  rw [e3]
  have : m % k < k := Nat.mod_lt _ h0
  unfold RowKit.wrap64
  omega
end Go.Proofs.YteaennegcnlpgaaGreat
