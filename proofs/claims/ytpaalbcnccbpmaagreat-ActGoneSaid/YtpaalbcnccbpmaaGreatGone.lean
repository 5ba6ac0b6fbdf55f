/- ActGone returns true for every two numbers, from every world, on every tape. No conditions. -/
import Derived.Test.YtpaalbcnccbpmaaGreatAwake
namespace Go.Proofs.YtpaalbcnccbpmaaGreat
open Go.AM

/-- What is known: what is known in all runs, and the number that is picked out of the second parameter. -/
noncomputable def goneHook (j : Nat) : Hook := fun f args => match Nat.beq f 8 with
  | true => match args with
    | [.stamp s, .int .i64 4] => match Nat.beq s 4 with
      | true => some (.int .i64 (Int.ofNat j))
      | false => none
    | _ => none
  | false => factHook f args

/-- The first parameter: one of which nothing is known; one that is no 1; the second. -/
def goneSt (near : Bool) (n how : Int) : Nat → Option Int
  | 0 => match near with | true => none | false => some n
  | 4 => some how
  | 5 => some n
  | _ => none
theorem goneSt_far {near : Bool} {n how : Int} (h : near = false → n ≠ 1) : Far (goneSt near n how) := by
  have h0 : ∀ s m, goneSt near n how s = some m → s < 4 → s = 0 := by
    intro s m hm hs
    match s, hs with
    | 0, _ => rfl
    | 1, _ => simp [goneSt] at hm
    | 2, _ => simp [goneSt] at hm
    | 3, _ => simp [goneSt] at hm
  refine ⟨fun s m hm hs => ?_, fun s s' m m' hm hm' hs hs' hne => absurd ((h0 s m hm hs).trans (h0 s' m' hm' hs').symm) hne⟩
  obtain rfl := h0 s m hm hs
  cases near with
  | true => simp [goneSt] at hm
  | false =>
    simp only [goneSt, Option.some.injEq] at hm
    subst hm
    exact h rfl

theorem goneHook_ok {near : Bool} {n how : Int} {j : Nat} (hj : pickZ how 4 = (j : Int)) : HookOk Tryz.prog (Phi.ints (goneSt near n how)) (goneHook j) := by
  intro f args v φ B H us w bd hr hsub h hra hbd
  unfold goneHook at hr
  split at hr
  · rename_i hf
    obtain rfl := Nat.eq_of_beq_eq_true hf
    split at hr <;> try (simp at hr; done)
    rename_i s
    split at hr <;> try (simp at hr; done)
    rename_i hs
    obtain rfl := Nat.eq_of_beq_eq_true hs
    simp only [RVs, RV] at hra
    obtain ⟨u, us', rfl, ⟨m, hm, rfl⟩, u', us'', rfl, rfl, rfl⟩ := hra
    have := hsub.st (s := 4) (m := how) rfl
    rw [hm] at this
    obtain rfl := Option.some.inj this
    obtain ⟨c, hc⟩ : ∃ c, Tryz.f8.body = some c := ⟨_, rfl⟩
    obtain rfl := Option.some.inj hr
    exact hook_says (u := .int .i64 (pickZ m 4)) Tryz.func8 hc (by kernel_rfl) (pick_says m 4 (by decide) w) (by rw [hj]; simp [RV]) h hbd
  · exact factHook_ok _ hr hsub h hra hbd

set_option maxRecDepth 100000 in
theorem gone_runs0 : isTrue (evFF Tryz.prog (goneHook 0) 100000 200 .leaf 5 [.stamp 5, .stamp 4] (Heap.ints 8)) = true := by kernel_rfl
set_option maxRecDepth 100000 in
theorem gone_runs2 : isTrue (evFF Tryz.prog (goneHook 2) 100000 200 .leaf 5 [.stamp 5, .stamp 4] (Heap.ints 8)) = true := by kernel_rfl
set_option maxRecDepth 100000 in
theorem gone_runs3 : isTrue (evFF Tryz.prog (goneHook 3) 100000 200 .leaf 5 [.stamp 5, .stamp 4] (Heap.ints 8)) = true := by kernel_rfl
set_option maxRecDepth 100000 in
theorem gone_runs1 : isTrue (evFF Tryz.prog (goneHook 1) 100000 200 .leaf 5 [.stamp 0, .stamp 4] (Heap.ints 8)) = true := by kernel_rfl
set_option maxRecDepth 100000 in
theorem gone_runs_one : isTrue (evFF Tryz.prog (goneHook 1) 100000 200 .leaf 5 [.int .i64 (Int.ofNat 1), .stamp 4] (Heap.ints 8)) = true := by kernel_rfl

theorem goneSt_lt {near : Bool} {n how : Int} (s : Nat) (m : Int) (h : goneSt near n how s = some m) : s < 8 := by
  by_cases hs : s < 8
  · exact hs
  · exfalso
    have : goneSt near n how s = none := by
      match s, hs with
      | 0, h => omega
      | 1, h => omega
      | 2, h => omega
      | 3, h => omega
      | 4, h => omega
      | 5, h => omega
      | _ + 6, _ => rfl
    rw [this] at h
    simp at h

theorem gone_of {near : Bool} {n how : Int} {j : Nat} {a : AV} (hj : pickZ how 4 = (j : Int)) (hfar : near = false → n ≠ 1) (ha : RV (Phi.ints (goneSt near n how)) a (.int .i64 n))
    (hrun : isTrue (evFF Tryz.prog (goneHook j) 100000 200 .leaf 5 [a, .stamp 4] (Heap.ints 8)) = true) (w : World) : Calls Tryz.prog 5 #[.int .i64 n, .int .i64 how] w (Says (.bool true) w) := by
  obtain ⟨H, hr⟩ := isTrue_of hrun
  rw [evFF_eq] at hr
  obtain ⟨c, hc⟩ : ∃ c, Tryz.f5.body = some c := ⟨_, rfl⟩
  refine says_of (fun φ x _ h => by simpa [RV] using h) (evF_calls (us := [.int .i64 n, .int .i64 how]) mixed (goneHook_ok hj) (fun s m h => goneSt_lt s m h) (goneSt_far hfar) Tryz.func5 hc hr ?_ w)
  simp only [RVs]
  exact ⟨_, _, rfl, ha, _, _, rfl, by simp only [RV]; exact ⟨how, rfl, rfl⟩, rfl⟩

theorem gone_says (n how : Int) (w : World) : Calls Tryz.prog 5 #[.int .i64 n, .int .i64 how] w (Says (.bool true) w) := by
  obtain ⟨j, hj, hp⟩ := pickZ_few how 4 (by omega) (by omega)
  have any : RV (Phi.ints (goneSt true n how)) (.stamp 5) (.int .i64 n) := by simp only [RV]; exact ⟨n, rfl, rfl⟩
  match j, hj with
  | 0, _ => exact gone_of hp (by simp) any gone_runs0 w
  | 2, _ => exact gone_of hp (by simp) any gone_runs2 w
  | 3, _ => exact gone_of hp (by simp) any gone_runs3 w
  | 1, _ =>
    by_cases hn : n = 1
    · subst hn
      exact gone_of (near := true) (a := .int .i64 (Int.ofNat 1)) hp (by simp) (by simp [RV]) gone_runs_one w
    · exact gone_of (near := false) (a := .stamp 0) hp (fun _ => hn) (by simp only [RV]; exact ⟨n, rfl, rfl⟩) gone_runs1 w
end Go.Proofs.YtpaalbcnccbpmaaGreat
