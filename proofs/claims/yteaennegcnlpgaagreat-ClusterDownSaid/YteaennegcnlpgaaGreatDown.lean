/- ClusterDown returns true for every three truth values, from every world, on every tape. No conditions. -/
import Derived.Test.YteaennegcnlpgaaGreatUp2
namespace Go.Proofs.YteaennegcnlpgaaGreat
open Go.AM

/-- What is known: the fact. -/
def upHook : Hook := fun f args => match Nat.beq f 8 with
  | true => match args with
    | [] => some (.bool true)
    | _ => none
  | false => none

theorem upHook_ok (φb : Phi) : HookOk Tryz.prog φb upHook := by
  intro f args v φ B H us w bd hr hsub h hra hbd
  unfold upHook at hr
  split at hr <;> try (simp at hr; done)
  rename_i hf
  obtain rfl := Nat.eq_of_beq_eq_true hf
  split at hr <;> try (simp at hr; done)
  obtain rfl := Option.some.inj hr
  simp only [RVs] at hra
  subst hra
  obtain ⟨c, hc⟩ : ∃ c, Tryz.f8.body = some c := ⟨_, rfl⟩
  exact hook_of_leaves (u := .bool true) Tryz.func8 hc (by kernel_rfl) ((up_says w).mono fun e w' he => by cases e <;> exact he) (by simp [RV]) h hbd

set_option maxRecDepth 100000 in
theorem down_runs_true_true_true : isTrue (evFF Tryz.prog upHook 100000 100 .leaf 4 [.bool true, .bool true, .bool true] (Heap.ints 0)) = true := by kernel_rfl
set_option maxRecDepth 100000 in
theorem down_runs_true_true_false : isTrue (evFF Tryz.prog upHook 100000 100 .leaf 4 [.bool true, .bool true, .bool false] (Heap.ints 0)) = true := by kernel_rfl
set_option maxRecDepth 100000 in
theorem down_runs_true_false_true : isTrue (evFF Tryz.prog upHook 100000 100 .leaf 4 [.bool true, .bool false, .bool true] (Heap.ints 0)) = true := by kernel_rfl
set_option maxRecDepth 100000 in
theorem down_runs_true_false_false : isTrue (evFF Tryz.prog upHook 100000 100 .leaf 4 [.bool true, .bool false, .bool false] (Heap.ints 0)) = true := by kernel_rfl
set_option maxRecDepth 100000 in
theorem down_runs_false_true_true : isTrue (evFF Tryz.prog upHook 100000 100 .leaf 4 [.bool false, .bool true, .bool true] (Heap.ints 0)) = true := by kernel_rfl
set_option maxRecDepth 100000 in
theorem down_runs_false_true_false : isTrue (evFF Tryz.prog upHook 100000 100 .leaf 4 [.bool false, .bool true, .bool false] (Heap.ints 0)) = true := by kernel_rfl
set_option maxRecDepth 100000 in
theorem down_runs_false_false_true : isTrue (evFF Tryz.prog upHook 100000 100 .leaf 4 [.bool false, .bool false, .bool true] (Heap.ints 0)) = true := by kernel_rfl
set_option maxRecDepth 100000 in
theorem down_runs_false_false_false : isTrue (evFF Tryz.prog upHook 100000 100 .leaf 4 [.bool false, .bool false, .bool false] (Heap.ints 0)) = true := by kernel_rfl

theorem down_run (x y z : Bool) : isTrue (evFF Tryz.prog upHook 100000 100 .leaf 4 [.bool x, .bool y, .bool z] (Heap.ints 0)) = true := by
  cases x <;> cases y <;> cases z
  · exact down_runs_false_false_false
  · exact down_runs_false_false_true
  · exact down_runs_false_true_false
  · exact down_runs_false_true_true
  · exact down_runs_true_false_false
  · exact down_runs_true_false_true
  · exact down_runs_true_true_false
  · exact down_runs_true_true_true

theorem down_says (x y z : Bool) (w : World) : Calls Tryz.prog 4 #[.bool x, .bool y, .bool z] w (Says (.bool true) w) := by
  obtain ⟨H, hr⟩ := isTrue_of (down_run x y z)
  rw [evFF_eq] at hr
  obtain ⟨c, hc⟩ : ∃ c, Tryz.f4.body = some c := ⟨_, rfl⟩
  refine says_of (fun φ x _ h => by simpa [RV] using h) (evF_calls (us := [.bool x, .bool y, .bool z]) mixed (upHook_ok (Phi.ints fun _ => none)) (fun s m h => by simp at h) Tryz.func4 hc hr ?_ w)
  simp only [RVs, RV]
  exact ⟨_, _, rfl, rfl, _, _, rfl, rfl, _, _, rfl, rfl, rfl⟩
end Go.Proofs.YteaennegcnlpgaaGreat
