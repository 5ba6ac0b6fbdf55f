/- ActReckons returns true for every three numbers, from every world, on every tape. No conditions. -/
import Derived.Test.YtpaalbcnccbpmaaGreatAwake
namespace Go.Proofs.YtpaalbcnccbpmaaGreat
open Go.AM

/-- What is known: what is known in all runs, and the number that is picked out of the third parameter. -/
noncomputable def reckHook (j : Nat) : Hook := fun f args => match Nat.beq f 8 with
  | true => match args with
    | [.stamp s, .int .i64 5] => match Nat.beq s 4 with
      | true => some (.int .i64 (Int.ofNat j))
      | false => none
    | _ => none
  | false => factHook f args

def reckBase (x : Option Int) (a b op : Int) : Nat → Option Int
  | 2 => x
  | 4 => some op
  | 5 => some a
  | 6 => some b
  | _ => none
theorem reckHook_ok {x : Option Int} {a b op : Int} {j : Nat} (hj : pickZ op 5 = (j : Int)) : HookOk Tryz.prog (Phi.ints (symSt (reckBase x a b op))) (reckHook j) := by
  intro f args v φ B H us w bd hr hsub h hra hbd
  unfold reckHook at hr
  split at hr
  · rename_i hf
    obtain rfl := Nat.eq_of_beq_eq_true hf
    split at hr <;> try (simp at hr; done)
    rename_i s
    split at hr <;> try (simp at hr; done)
    rename_i hs
    obtain rfl := Nat.eq_of_beq_eq_true hs
    simp only [RVs, RV] at hra
    obtain ⟨u, us', rfl, ⟨m, hm, rfl⟩, u', us'', rfl, rfl, rfl⟩ := hra
    have := hsub.st (s := 4) (m := op) rfl
    rw [hm] at this
    obtain rfl := Option.some.inj this
    obtain ⟨c, hc⟩ : ∃ c, Tryz.f8.body = some c := ⟨_, rfl⟩
    obtain rfl := Option.some.inj hr
    exact hook_says (u := .int .i64 (pickZ m 5)) Tryz.func8 hc (by kernel_rfl) (pick_says m 5 (by decide) w) (by rw [hj]; simp [RV]) h hbd
  · exact factHook_ok _ hr hsub h hra hbd

set_option maxRecDepth 100000 in
theorem reck_runs0 : isTrue (evFF Tryz.prog (reckHook 0) 100000 200 .leaf 3 [.stamp 5, .stamp 6, .stamp 4] (Heap.ints 400)) = true := by kernel_rfl
set_option maxRecDepth 100000 in
theorem reck_runs1 : isTrue (evFF Tryz.prog (reckHook 1) 100000 200 .leaf 3 [.stamp 5, .stamp 6, .stamp 4] (Heap.ints 400)) = true := by kernel_rfl
set_option maxRecDepth 100000 in
theorem reck_runs2 : isTrue (evFF Tryz.prog (reckHook 2) 100000 200 .leaf 3 [.stamp 5, .stamp 6, .stamp 4] (Heap.ints 400)) = true := by kernel_rfl
set_option maxRecDepth 100000 in
theorem reck_runs3_far : isTrue (evFF Tryz.prog (reckHook 3) 100000 200 .leaf 3 [.stamp 5, .stamp 2, .stamp 4] (Heap.ints 400)) = true := by kernel_rfl
set_option maxRecDepth 100000 in
theorem reck_runs3_zero : isTrue (evFF Tryz.prog (reckHook 3) 100000 200 .leaf 3 [.stamp 2, .int .i64 (Int.ofNat 0), .stamp 4] (Heap.ints 400)) = true := by kernel_rfl
set_option maxRecDepth 100000 in
theorem reck_runs3_zeros : isTrue (evFF Tryz.prog (reckHook 3) 100000 200 .leaf 3 [.int .i64 (Int.ofNat 0), .int .i64 (Int.ofNat 0), .stamp 4] (Heap.ints 400)) = true := by kernel_rfl
set_option maxRecDepth 100000 in
theorem reck_runs4_far : isTrue (evFF Tryz.prog (reckHook 4) 100000 200 .leaf 3 [.stamp 5, .stamp 2, .stamp 4] (Heap.ints 400)) = true := by kernel_rfl
set_option maxRecDepth 100000 in
theorem reck_runs4_zero : isTrue (evFF Tryz.prog (reckHook 4) 100000 200 .leaf 3 [.stamp 2, .int .i64 (Int.ofNat 0), .stamp 4] (Heap.ints 400)) = true := by kernel_rfl
set_option maxRecDepth 100000 in
theorem reck_runs4_zeros : isTrue (evFF Tryz.prog (reckHook 4) 100000 200 .leaf 3 [.int .i64 (Int.ofNat 0), .int .i64 (Int.ofNat 0), .stamp 4] (Heap.ints 400)) = true := by kernel_rfl

theorem reck_of {x : Option Int} {a b op : Int} {j : Nat} {va vb : AV} (hj : pickZ op 5 = (j : Int)) (hx : ∀ m, x = some m → m ≠ 0) (ha : RV (Phi.ints (symSt (reckBase x a b op))) va (.int .i64 a)) (hb : RV (Phi.ints (symSt (reckBase x a b op))) vb (.int .i64 b))
    (hrun : isTrue (evFF Tryz.prog (reckHook j) 100000 200 .leaf 3 [va, vb, .stamp 4] (Heap.ints 400)) = true) (w : World) : Calls Tryz.prog 3 #[.int .i64 a, .int .i64 b, .int .i64 op] w (Says (.bool true) w) := by
  obtain ⟨H, hr⟩ := isTrue_of hrun
  rw [evFF_eq] at hr
  obtain ⟨c, hc⟩ : ∃ c, Tryz.f3.body = some c := ⟨_, rfl⟩
  refine says_of (fun φ x _ h => by simpa [RV] using h) (evF_calls (us := [.int .i64 a, .int .i64 b, .int .i64 op]) (st := symSt (reckBase x a b op)) mixed (reckHook_ok (x := x) (a := a) (b := b) hj) (fun s m h => symSt_lt h) (symSt_far (base := reckBase x a b op) rfl rfl (fun m h => hx m h) rfl) Tryz.func3 hc hr ?_ w)
  simp only [RVs]
  exact ⟨_, _, rfl, ha, _, _, rfl, hb, _, _, rfl, by simp only [RV]; exact ⟨op, rfl, rfl⟩, rfl⟩

theorem reck_says (a b op : Int) (w : World) : Calls Tryz.prog 3 #[.int .i64 a, .int .i64 b, .int .i64 op] w (Says (.bool true) w) := by
  obtain ⟨j, hj, hp⟩ := pickZ_few op 5 (by omega) (by omega)
  have ra : ∀ {x : Option Int}, RV (Phi.ints (symSt (reckBase x a b op))) (.stamp 5) (.int .i64 a) := by intro x; simp only [RV]; exact ⟨a, rfl, rfl⟩
  have rb : ∀ {x : Option Int}, RV (Phi.ints (symSt (reckBase x a b op))) (.stamp 6) (.int .i64 b) := by intro x; simp only [RV]; exact ⟨b, rfl, rfl⟩
  have lit : ∀ {n : Int} {x : Option Int}, n = 0 → RV (Phi.ints (symSt (reckBase x a b op))) (.int .i64 (Int.ofNat 0)) (.int .i64 n) := by intro n x h; subst h; simp [RV]
  have some2 : ∀ {x n : Int}, x = n → RV (Phi.ints (symSt (reckBase (some x) a b op))) (.stamp 2) (.int .i64 n) := by intro x n h; subst h; simp only [RV]; exact ⟨_, rfl, rfl⟩
  match j, hj with
  | 0, _ => exact reck_of (x := none) hp (by simp) ra rb reck_runs0 w
  | 1, _ => exact reck_of (x := none) hp (by simp) ra rb reck_runs1 w
  | 2, _ => exact reck_of (x := none) hp (by simp) ra rb reck_runs2 w
  | 3, _ =>
    by_cases hb : b = 0
    · by_cases ha : a = 0
      · exact reck_of (x := none) hp (by simp) (lit ha) (lit hb) reck_runs3_zeros w
      · exact reck_of (x := some a) hp (fun m h => by simp only [Option.some.injEq] at h; rw [← h]; exact ha) (some2 rfl) (lit hb) reck_runs3_zero w
    · exact reck_of (x := some b) hp (fun m h => by simp only [Option.some.injEq] at h; rw [← h]; exact hb) ra (some2 rfl) reck_runs3_far w
  | 4, _ =>
    by_cases hb : b = 0
    · by_cases ha : a = 0
      · exact reck_of (x := none) hp (by simp) (lit ha) (lit hb) reck_runs4_zeros w
      · exact reck_of (x := some a) hp (fun m h => by simp only [Option.some.injEq] at h; rw [← h]; exact ha) (some2 rfl) (lit hb) reck_runs4_zero w
    · exact reck_of (x := some b) hp (fun m h => by simp only [Option.some.injEq] at h; rw [← h]; exact hb) ra (some2 rfl) reck_runs4_far w
end Go.Proofs.YtpaalbcnccbpmaaGreat
