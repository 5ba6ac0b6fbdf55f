/- ClusterTicks returns true for every two numbers, from every world, on every tape. No conditions. -/
import Derived.Test.YteaennegcnlpgaaGreatPick
namespace Go.Proofs.YteaennegcnlpgaaGreat
open Go.AM

/-- What is known: the fact, and the numbers that are picked out of the two parameters. -/
def tickHook (i j : Nat) : Hook := fun f args => match Nat.beq f 8 with
  | true => match args with
    | [] => some (.bool true)
    | _ => none
  | false => match Nat.beq f 9 with
    | true => match args with
      | [.stamp s, .int .i64 4] => match s with
        | 0 => some (.int .i64 (Int.ofNat i))
        | 1 => some (.int .i64 (Int.ofNat j))
        | _ => none
      | _ => none
    | false => none

set_option maxRecDepth 100000 in
theorem tick_runs0 : ([0, 1, 2, 3].all fun j => isTrue (evF Tryz.prog (tickHook 0 j) 100000 100 .leaf 3 [.stamp 0, .stamp 1] (Heap.ints 2))) = true := by kernel_rfl
set_option maxRecDepth 100000 in
theorem tick_runs1 : ([0, 1, 2, 3].all fun j => isTrue (evF Tryz.prog (tickHook 1 j) 100000 100 .leaf 3 [.stamp 0, .stamp 1] (Heap.ints 2))) = true := by kernel_rfl
set_option maxRecDepth 100000 in
theorem tick_runs2 : ([0, 1, 2, 3].all fun j => isTrue (evF Tryz.prog (tickHook 2 j) 100000 100 .leaf 3 [.stamp 0, .stamp 1] (Heap.ints 2))) = true := by kernel_rfl
set_option maxRecDepth 100000 in
theorem tick_runs3 : ([0, 1, 2, 3].all fun j => isTrue (evF Tryz.prog (tickHook 3 j) 100000 100 .leaf 3 [.stamp 0, .stamp 1] (Heap.ints 2))) = true := by kernel_rfl

theorem tick_run {i j : Nat} (hi : i < 4) (hj : j < 4) : isTrue (evF Tryz.prog (tickHook i j) 100000 100 .leaf 3 [.stamp 0, .stamp 1] (Heap.ints 2)) = true := by
  have hm : ∀ j, j < 4 → j ∈ [0, 1, 2, 3] := by intro j hj; simp; omega
  have h0 := List.all_eq_true.1 tick_runs0 j (hm j hj)
  have h1 := List.all_eq_true.1 tick_runs1 j (hm j hj)
  have h2 := List.all_eq_true.1 tick_runs2 j (hm j hj)
  have h3 := List.all_eq_true.1 tick_runs3 j (hm j hj)
  match i, hi with
  | 0, _ => exact h0
  | 1, _ => exact h1
  | 2, _ => exact h2
  | 3, _ => exact h3

def tickSt (a b : Int) : Nat → Option Int
  | 0 => some a
  | 1 => some b
  | _ => none

theorem tickHook_ok {a b : Int} {i j : Nat} (ha : pickZ a 4 = (i : Int)) (hb : pickZ b 4 = (j : Int)) : HookOk Tryz.prog (Phi.ints (tickSt a b)) (tickHook i j) := by
  intro f args v φ B H us w bd hr hsub h hra hbd
  unfold tickHook at hr
  split at hr
  · rename_i hf
    obtain rfl := Nat.eq_of_beq_eq_true hf
    split at hr <;> try (simp at hr; done)
    obtain rfl := Option.some.inj hr
    simp only [RVs] at hra
    subst hra
    obtain ⟨c, hc⟩ : ∃ c, Tryz.f8.body = some c := ⟨_, rfl⟩
    exact hook_of_leaves (u := .bool true) Tryz.func8 hc (by kernel_rfl) ((up_says w).mono fun e w' he => by cases e <;> exact he) (by simp [RV]) h hbd
  · split at hr <;> try (simp at hr; done)
    rename_i hf
    obtain rfl := Nat.eq_of_beq_eq_true hf
    split at hr <;> try (simp at hr; done)
    rename_i s
    simp only [RVs, RV] at hra
    obtain ⟨u, us', rfl, ⟨m, hm, rfl⟩, u', us'', rfl, rfl, rfl⟩ := hra
    obtain ⟨c, hc⟩ : ∃ c, Tryz.f9.body = some c := ⟨_, rfl⟩
    have go : ∀ {x : Int} {n : Nat}, m = x → pickZ x 4 = (n : Int) → v = .int .i64 (Int.ofNat n) → CallRun Tryz.prog 9 [Value.int IntKind.i64 m, Value.int IntKind.i64 4].toArray w (Got bd φ B H w v H) := by
      intro x n hx hn hv
      subst hx
      refine hook_of_leaves (u := .int .i64 (pickZ m 4)) Tryz.func9 hc (by kernel_rfl) ((pick_says m 4 (by decide) w).mono fun e w' he => by cases e <;> exact he) ?_ h hbd
      rw [hv, hn]
      simp [RV]
    split at hr <;> try (simp at hr; done)
    · have := hsub.st (s := 0) (m := a) rfl
      rw [hm] at this
      exact go (Option.some.inj this) ha (Option.some.inj hr).symm
    · have := hsub.st (s := 1) (m := b) rfl
      rw [hm] at this
      exact go (Option.some.inj this) hb (Option.some.inj hr).symm

theorem ticks_says (a b : Int) (w : World) : Calls Tryz.prog 3 #[.int .i64 a, .int .i64 b] w (Says (.bool true) w) := by
  obtain ⟨i, hi, hpi⟩ := pickZ_few a 4 (by omega) (by omega)
  obtain ⟨j, hj, hpj⟩ := pickZ_few b 4 (by omega) (by omega)
  obtain ⟨H, hr⟩ := isTrue_of (tick_run hi hj)
  obtain ⟨c, hc⟩ : ∃ c, Tryz.f3.body = some c := ⟨_, rfl⟩
  refine says_of (fun φ x _ h => by simpa [RV] using h) (evF_calls (us := [.int .i64 a, .int .i64 b]) mixed (tickHook_ok hpi hpj) (fun s m h => ?_) Tryz.func3 hc hr ?_ w)
  · match s, h with
    | 0, _ => omega
    | 1, _ => omega
    | _ + 2, h => simp [tickSt] at h
  · simp only [RVs, RV]
    exact ⟨_, _, rfl, ⟨a, rfl, rfl⟩, _, _, rfl, ⟨b, rfl, rfl⟩, rfl⟩
end Go.Proofs.YteaennegcnlpgaaGreat
