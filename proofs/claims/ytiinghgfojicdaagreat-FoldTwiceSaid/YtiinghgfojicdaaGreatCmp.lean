/- What cmp.Compare returns of two integers, and what the order of regs.Clash returns of two pairs. For every integers, worlds and tapes. -/
import Derived.Test.YtiinghgfojicdaaGreatBase
namespace Go.Proofs.YtiinghgfojicdaaGreat
open Go.AM

def sgnZ (a b : Int) : Int := if a < b then -1 else if b < a then 1 else 0
theorem cmp_says (a b : Int) (w : World) : Calls Tryz.prog 186 #[.int .i64 a, .int .i64 b] w (Says (.int .i64 (sgnZ a b)) w) := by
  by_cases h1 : a < b
  · go_enter Tryz.func186, Tryz.ntmps186
    go_wp2
    go_ret
    exact ⟨by simp [sgnZ, h1], quiet_refl w⟩
  · by_cases h2 : b < a
    · go_enter Tryz.func186, Tryz.ntmps186
      go_wp2
      go_ret
      exact ⟨by simp [sgnZ, h1, h2], quiet_refl w⟩
    · go_enter Tryz.func186, Tryz.ntmps186
      go_wp2
      go_ret
      exact ⟨by have e1 : ¬ a < b := by omega
                have e2 : ¬ b < a := by omega
                simp [sgnZ, e1, e2], quiet_refl w⟩

/-- What is known: how the first numbers of two pairs lie, and the second. -/
def lexHook (c d : Int) : Hook := fun f args => match Nat.beq f 186 with
  | true => match args with
    | [.stamp s, .stamp s'] => match Nat.beq s 4 && Nat.beq s' 6 with
      | true => some (.int .i64 c)
      | false => match Nat.beq s 5 && Nat.beq s' 7 with
        | true => some (.int .i64 d)
        | false => none
    | _ => none
  | false => none
def lexBase (a0 a1 b0 b1 : Int) : Nat → Option Int
  | 4 => some a0
  | 5 => some a1
  | 6 => some b0
  | 7 => some b1
  | _ => none
def lexSt (a0 a1 b0 b1 : Int) : Nat → Option Int := symSt (lexBase a0 a1 b0 b1)
theorem lexSt_far (a0 a1 b0 b1 : Int) : Far (lexSt a0 a1 b0 b1) := symSt_far rfl rfl (fun m h => by simp [lexBase] at h) rfl
theorem lexHook_ok (a0 a1 b0 b1 : Int) : HookOk Tryz.prog (Phi.ints (lexSt a0 a1 b0 b1)) (lexHook (sgnZ a0 b0) (sgnZ a1 b1)) := by
  intro f args v φ B H us w bd hr hsub h hra hbd
  unfold lexHook at hr
  split at hr <;> try (simp at hr; done)
  rename_i hf
  obtain rfl := Nat.eq_of_beq_eq_true hf
  split at hr <;> try (simp at hr; done)
  rename_i s s'
  simp only [RVs, RV] at hra
  obtain ⟨u, us', rfl, ⟨m, hm, rfl⟩, u', us'', rfl, ⟨m', hm', rfl⟩, rfl⟩ := hra
  obtain ⟨c, hc⟩ : ∃ c, Tryz.f186.body = some c := ⟨_, rfl⟩
  have go : ∀ {x y : Int}, m = x → m' = y → v = .int .i64 (sgnZ x y) → CallRun Tryz.prog 186 [Value.int IntKind.i64 m, Value.int IntKind.i64 m'].toArray w (Got bd φ B H w v H) := by
    intro x y hx hy hv
    subst hx hy
    exact hook_says (u := .int .i64 (sgnZ m m')) Tryz.func186 hc (by kernel_rfl) (cmp_says m m' w) (by rw [hv]; simp [RV]) h hbd
  have at' : ∀ {s : Nat} {m x : Int}, φ.st s = some m → lexSt a0 a1 b0 b1 s = some x → m = x := by
    intro s m x h1 h2
    have := hsub.st (s := s) (m := x) h2
    rw [h1] at this
    exact Option.some.inj this
  split at hr
  · rename_i hb
    simp only [Bool.and_eq_true] at hb
    have e1 := Nat.eq_of_beq_eq_true hb.1
    have e2 := Nat.eq_of_beq_eq_true hb.2
    subst e1 e2
    exact go (at' hm (x := a0) rfl) (at' hm' (x := b0) rfl) (Option.some.inj hr).symm
  · split at hr <;> try (simp at hr; done)
    rename_i hb
    simp only [Bool.and_eq_true] at hb
    have e1 := Nat.eq_of_beq_eq_true hb.1
    have e2 := Nat.eq_of_beq_eq_true hb.2
    subst e1 e2
    exact go (at' hm (x := a1) rfl) (at' hm' (x := b1) rfl) (Option.some.inj hr).symm

def lexZ (a0 a1 b0 b1 : Int) : Int := if a0 < b0 then -1 else if b0 < a0 then 1 else sgnZ a1 b1

set_option maxRecDepth 100000 in
theorem lex_runs : (([-1, 1] : List Int).all fun c => ([-1, 0, 1] : List Int).all fun d => isInt c (evFF Tryz.prog (lexHook c d) 100000 100 .leaf 160 [.agg [.stamp 4, .stamp 5], .agg [.stamp 6, .stamp 7]] (Heap.ints 400))) = true := by kernel_rfl
set_option maxRecDepth 100000 in
theorem lex_runs0 : (([-1, 0, 1] : List Int).all fun d => isInt d (evFF Tryz.prog (lexHook 0 d) 100000 100 .leaf 160 [.agg [.stamp 4, .stamp 5], .agg [.stamp 6, .stamp 7]] (Heap.ints 400))) = true := by kernel_rfl

theorem sgnZ_mem (a b : Int) : sgnZ a b ∈ ([-1, 0, 1] : List Int) := by
  unfold sgnZ
  split
  · simp
  · split <;> simp

/-- The order of the pairs. -/
theorem lex_says (a0 a1 b0 b1 : Int) (w : World) : Calls Tryz.prog 160 #[.agg #[.int .i64 a0, .int .i64 a1], .agg #[.int .i64 b0, .int .i64 b1]] w (Says (.int .i64 (lexZ a0 a1 b0 b1)) w) := by
  have hrun : isInt (lexZ a0 a1 b0 b1) (evFF Tryz.prog (lexHook (sgnZ a0 b0) (sgnZ a1 b1)) 100000 100 .leaf 160 [.agg [.stamp 4, .stamp 5], .agg [.stamp 6, .stamp 7]] (Heap.ints 400)) = true := by
    by_cases h1 : a0 < b0
    · have e : sgnZ a0 b0 = -1 := by simp [sgnZ, h1]
      have e' : lexZ a0 a1 b0 b1 = -1 := by simp [lexZ, h1]
      rw [e, e']
      exact List.all_eq_true.1 (List.all_eq_true.1 lex_runs (-1) (by simp)) _ (sgnZ_mem a1 b1)
    · by_cases h2 : b0 < a0
      · have e : sgnZ a0 b0 = 1 := by simp [sgnZ, h1, h2]
        have e' : lexZ a0 a1 b0 b1 = 1 := by simp [lexZ, h1, h2]
        rw [e, e']
        exact List.all_eq_true.1 (List.all_eq_true.1 lex_runs 1 (by simp)) _ (sgnZ_mem a1 b1)
      · have e : sgnZ a0 b0 = 0 := by simp only [sgnZ, h1, h2, if_false]
        have e' : lexZ a0 a1 b0 b1 = sgnZ a1 b1 := by simp only [lexZ, h1, h2, if_false]
        rw [e, e']
        exact List.all_eq_true.1 lex_runs0 _ (sgnZ_mem a1 b1)
  obtain ⟨H, hr⟩ := isInt_of hrun
  rw [evFF_eq] at hr
  obtain ⟨c, hc⟩ : ∃ c, Tryz.f160.body = some c := ⟨_, rfl⟩
  refine says_of (fun φ x _ h => by simpa [RV] using h) (evF_calls (us := [.agg #[.int .i64 a0, .int .i64 a1], .agg #[.int .i64 b0, .int .i64 b1]]) mixed (lexHook_ok a0 a1 b0 b1) (fun s m h => ?_) (lexSt_far a0 a1 b0 b1) Tryz.func160 hc hr ?_ w)
  · exact symSt_lt h
  · simp only [RVs, RV]
    refine ⟨_, _, rfl, ⟨[.int .i64 a0, .int .i64 a1], rfl, ⟨_, _, rfl, ⟨a0, rfl, rfl⟩, _, _, rfl, ⟨a1, rfl, rfl⟩, rfl⟩, by simp [AV.isCell]⟩, _, _, rfl, ⟨[.int .i64 b0, .int .i64 b1], rfl, ⟨_, _, rfl, ⟨b0, rfl, rfl⟩, _, _, rfl, ⟨b1, rfl, rfl⟩, rfl⟩, by simp [AV.isCell]⟩, rfl⟩

-- for runs
noncomputable def sgnF (a b : Int) : Int := Bool.rec (Bool.rec (Int.ofNat 0) (Int.ofNat 1) (ltI b a)) (Int.negSucc 0) (ltI a b)
noncomputable def lexF (a0 a1 b0 b1 : Int) : Int := Bool.rec (Bool.rec (sgnF a1 b1) (Int.ofNat 1) (ltI b0 a0)) (Int.negSucc 0) (ltI a0 b0)
theorem sgnF_eq (a b : Int) : sgnF a b = sgnZ a b := by
  unfold sgnF sgnZ
  rw [ltI_eq, ltI_eq]
  by_cases h1 : a < b
  · simp [h1]
  · by_cases h2 : b < a
    · simp [h1, h2]
    · simp [h1, h2]
theorem lexF_eq (a0 a1 b0 b1 : Int) : lexF a0 a1 b0 b1 = lexZ a0 a1 b0 b1 := by
  unfold lexF lexZ
  rw [ltI_eq, ltI_eq, sgnF_eq]
  by_cases h1 : a0 < b0
  · simp [h1]
  · by_cases h2 : b0 < a0
    · simp [h1, h2]
    · simp [h1, h2]
noncomputable def clashHook (args : List AV) : Option AV := match args with
  | [.agg [.int .i64 a0, .int .i64 a1], .agg [.int .i64 b0, .int .i64 b1]] => some (.int .i64 (lexF a0 a1 b0 b1))
  | _ => none
theorem clashHook_ok {args : List AV} {v : AV} {φ : Phi} {B : Tree ABlk} {H : Heap} {us : List Value} {w : World} {bd : Nat} (hr : clashHook args = some v) (h : Rel φ B H w) (hra : RVs φ args us) (hbd : bd ≤ w.heap.size) :
    CallRun Tryz.prog 160 us.toArray w (Got bd φ B H w v H) := by
  unfold clashHook at hr
  split at hr <;> try (simp at hr; done)
  rename_i a0 a1 b0 b1
  simp only [RVs, RV] at hra
  obtain ⟨u, us', rfl, ⟨x, rfl, ⟨_, _, rfl, rfl, _, _, rfl, rfl, rfl⟩, _⟩, u', us'', rfl, ⟨y, rfl, ⟨_, _, rfl, rfl, _, _, rfl, rfl, rfl⟩, _⟩, rfl⟩ := hra
  obtain ⟨c, hc⟩ : ∃ c, Tryz.f160.body = some c := ⟨_, rfl⟩
  obtain rfl := Option.some.inj hr
  exact hook_says (u := .int .i64 (lexZ a0 a1 b0 b1)) Tryz.func160 hc (by kernel_rfl) (lex_says a0 a1 b0 b1 w) (by rw [lexF_eq]; simp [RV]) h hbd

noncomputable def cmpHook : Hook := fun f args => Bool.rec none (clashHook args) (Nat.beq f 160)
theorem cmpHook_ok (φb : Phi) : HookOk Tryz.prog φb cmpHook := by
  intro f args v φ B H us w bd hr hsub h hra hbd
  unfold cmpHook at hr
  cases hf : Nat.beq f 160 with
  | false => rw [hf] at hr; simp at hr
  | true =>
    rw [hf] at hr
    obtain rfl := Nat.eq_of_beq_eq_true hf
    exact clashHook_ok hr h hra hbd
end Go.Proofs.YtiinghgfojicdaaGreat
