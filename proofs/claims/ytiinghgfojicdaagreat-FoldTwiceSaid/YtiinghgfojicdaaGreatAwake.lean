/- The fact awake returns true from every world, on every tape, and all memory that was there stays as it was. No conditions. -/
import Derived.Test.YtiinghgfojicdaaGreatCmp
namespace Go.Proofs.YtiinghgfojicdaaGreat
open Go.AM

set_option maxRecDepth 100000 in
theorem awake_runs : isTrue (evFF Tryz.prog cmpHook 100000 200 .leaf 8 [] (Heap.ints 400)) = true := by kernel_rfl

theorem awake_says (w : World) : Calls Tryz.prog 8 #[] w (Says (.bool true) w) := by
  obtain ⟨H, hr⟩ := isTrue_of awake_runs
  rw [evFF_eq] at hr
  obtain ⟨c, hc⟩ : ∃ c, Tryz.f8.body = some c := ⟨_, rfl⟩
  exact says_of (fun φ x _ h => by simpa [RV] using h) (evF_calls (us := []) mixed (cmpHook_ok (Phi.ints fun _ => none)) (fun s m h => by simp at h) far_none Tryz.func8 hc hr (by simp [RVs]) w)

/-- What is known in all runs: the fact, and the order of the pairs. -/
noncomputable def factHook : Hook := fun f args => Bool.rec (cmpHook f args) (List.rec (some (.bool true)) (fun _ _ _ => none) args) (Nat.beq f 8)
theorem factHook_ok (φb : Phi) : HookOk Tryz.prog φb factHook := by
  intro f args v φ B H us w bd hr hsub h hra hbd
  unfold factHook at hr
  cases hf : Nat.beq f 8 with
  | false =>
    rw [hf] at hr
    exact cmpHook_ok φb hr hsub h hra hbd
  | true =>
    rw [hf] at hr
    obtain rfl := Nat.eq_of_beq_eq_true hf
    cases args with
    | cons x l => simp at hr
    | nil =>
      obtain rfl := Option.some.inj hr
      simp only [RVs] at hra
      subst hra
      obtain ⟨c, hc⟩ : ∃ c, Tryz.f8.body = some c := ⟨_, rfl⟩
      exact hook_says (u := .bool true) Tryz.func8 hc (by kernel_rfl) (awake_says w) (by simp [RV]) h hbd
end Go.Proofs.YtiinghgfojicdaaGreat
