/- What a run of the abstract machine says of a call, in the words of the rows; and what pick returns. No conditions but that pick's second number is not 0 as an unsigned one. -/
import Derived.Test.YtiinghgfojicdaaGreatRows
import Derived.WalkKit
import Derived.ProofKit
import Derived.OpenShut
import Derived.Test.YtiinghgfojicdaaGreatAmE
namespace Go.Proofs.YtiinghgfojicdaaGreat
open Go.AM

/-- A run that comes to true. -/
def isTrue : Res → Bool
  | some (.bool b, _) => b
  | _ => false
theorem isTrue_of {r : Res} (h : isTrue r = true) : ∃ H, r = some (.bool true, H) := by
  unfold isTrue at h
  split at h
  · rename_i b H
    rw [h]; exact ⟨H, rfl⟩
  · simp at h
/-- A run that comes to an integer. -/
def isInt (n : Int) : Res → Bool
  | some (.int .i64 m, _) => decide (m = n)
  | _ => false
theorem isInt_of {n : Int} {r : Res} (h : isInt n r = true) : ∃ H, r = some (.int .i64 n, H) := by
  unfold isInt at h
  split at h
  · rename_i m H
    rw [of_decide_eq_true h]; exact ⟨H, rfl⟩
  · simp at h

theorem mixed : Tryz.prog.follows .mixedOrders = true := by kernel_rfl

def Quiet (w w' : World) : Prop := w'.os = w.os ∧ w'.tape = w.tape ∧ w'.output = w.output ∧ w.heap.size ≤ w'.heap.size ∧ ∀ k, k < w.heap.size → w'.heap[k]? = w.heap[k]?
theorem quiet_refl (w : World) : Quiet w w := ⟨rfl, rfl, rfl, Nat.le_refl _, fun _ _ => rfl⟩
def Says (u : Value) (w : World) : Ending → World → Prop
  | .returned u', w' => u' = u ∧ Quiet w w'
  | _, _ => False

theorem says_of {v : AV} {u : Value} {φ0 : Phi} {w : World} (hv : ∀ φ x, Sub φ0 φ → RV φ v x → x = u) {P : Program} {f : FuncId} {args : Array Value} (h : Calls P f args w (LeavesAM v φ0 w)) : Calls P f args w (Says u w) :=
  h.mono fun e w' he => by
    cases e with
    | returned x => exact ⟨hv _ _ he.1.choose_spec.2 he.1.choose_spec.1, he.2⟩
    | panicked _ => exact he
    | outgrown => exact he

theorem keptBut_quiet {w w' : World} (h : Quiet w w') (may : MemPlace → Prop) : w.keptBut w' may := by
  refine ⟨h.1, h.2.2.1, fun i hi => ?_⟩
  rw [h.2.2.2.2 i hi]
  split
  · rename_i c t fr c' t' fr' h1 h2
    rw [h1] at h2
    simp only [Option.some.injEq, Obj.cells.injEq] at h2
    obtain ⟨rfl, rfl, rfl⟩ := h2
    exact ⟨rfl, rfl, rfl, fun _ _ => rfl⟩
  · rename_i es cl es' cl' h1 h2
    rw [h1] at h2
    simp only [Option.some.injEq, Obj.map.injEq] at h2
    exact .inr ⟨h2.1.symm, h2.2.symm⟩
  · rfl

theorem post_kept {H : Type} {enc : TypeId × Value → H} {P : Program} {f : Func} {s : ChangeSpec} {apart fresh handsOn : Bool} {W W' : World} {args : Array Value} {v : Value} {ds gs : List (DataW H)} {before pa pv : List MemPlace}
    (hW : DataW.Whole enc P f.params.toList s.vars apart W args.toList ds gs before)
    (hres : ∀ (b : Nat) (sp : Nat → Bool) (hd : Bool), DataW.TrodAll enc P W' b sp hd f.resultTypes.toList (v.resultList f.resultTypes.size) (s.fn H (ds ++ gs)).results [])
    (hargs : ∀ sp : Nat → Bool, (∀ p ∈ before, sp p.block = true) → DataW.TrodAll enc P W' 0 sp true f.params.toList args.toList (s.fn H (ds ++ gs)).args pa)
    (hvars : ∀ sp : Nat → Bool, (∀ p ∈ before, sp p.block = true) → DataW.TrodVars enc P W' sp s.vars (s.fn H (ds ++ gs)).vars pv)
    (hps : before = pa ++ pv) (hk : W.keptBut W' (· ∈ before)) :
    s.post enc P f apart fresh handsOn false W args v W' := by
  have hold : ∀ p ∈ before, (fun b => decide (b < W.heap.size)) p.block = true := fun p hp => by simpa using hW.lt p hp
  refine ⟨ds, gs, before, [], pa, pv, hW, hres _ _ _, hargs _ hold, hvars _ hold, World.keptBut_mono (fun p hp => ⟨hp, ?_⟩) hk, fun h => by simp at h⟩
  rw [hps, List.mem_append] at hp
  exact Or.inr hp

/-- A hook out of a contract. -/
theorem hook_says {f : FuncId} {fn : Func} {c : Code} (hf : Tryz.prog.funcs[f]? = some fn) (hb : fn.body = some c) (hn : (fn.name == "runtime.NumGoroutine") = false) {us : List Value} {v : AV} {u : Value} {φ : Phi} {B : Tree ABlk} {H : Heap} {w : World} {bd : Nat}
    (hc : Calls Tryz.prog f us.toArray w (Says u w)) (hv : RV φ v u) (h : Rel φ B H w) (hbd : bd ≤ w.heap.size) : CallRun Tryz.prog f us.toArray w (Got bd φ B H w v H) :=
  hook_of_leaves (u := u) hf hb hn (hc.mono fun e w' he => by cases e <;> exact he) hv h hbd

theorem far_none : Far fun _ => none := ⟨fun h => by simp at h, fun h => by simp at h, fun _ h => by simp at h⟩

/-- Integers by their numbers, and what comes of two of them. -/
def opOf : Nat → BinOp
  | 0 => .add
  | 1 => .sub
  | 2 => .mul
  | 3 => .quo
  | _ => .rem
def symSt (base : Nat → Option Int) (c : Nat) : Option Int :=
  if c < 8 then base c else if c < 328 then match base ((c - 8) / 8 % 8), base ((c - 8) % 8) with
    | some m, some m' => some (arithZ (opOf ((c - 8) / 64)) m m')
    | _, _ => none
  else none
theorem symSt_low {base : Nat → Option Int} {c : Nat} (h : c < 8) : symSt base c = base c := by simp [symSt, h]
theorem symSt_lt {base : Nat → Option Int} {s : Nat} {m : Int} (h : symSt base s = some m) : s < 400 := by
  unfold symSt at h
  split at h
  · omega
  · split at h
    · omega
    · simp at h
theorem symSt_far {base : Nat → Option Int} (h0 : base 0 = none) (h1 : base 1 = none) (h2 : ∀ m, base 2 = some m → m ≠ 0) (h3 : base 3 = none) : Far (symSt base) := by
  refine ⟨fun {s m} hs hl => ?_, fun {s m} hs hl hl' => ?_, fun {op s s' c m m'} hc hs hs' => ?_⟩
  · rw [symSt_low (by omega)] at hs
    match s, hl with
    | 0, _ => rw [h0] at hs; simp at hs
    | 1, _ => rw [h1] at hs; simp at hs
  · rw [symSt_low (by omega)] at hs
    match s, hl, hl' with
    | 2, _, _ => exact h2 m hs
    | 3, _, _ => rw [h3] at hs; simp at hs
  · obtain ⟨q1, q2, q3, _⟩ := symOp_of hc
    unfold symOp at hc
    cases hi : symIdx op with
    | none => rw [hi] at hc; simp at hc
    | some i =>
      rw [hi] at hc
      simp only at hc
      split at hc <;> try (simp at hc; done)
      simp only [Option.some.injEq] at hc
      have hop : opOf i = op ∧ i < 5 := by cases op <;> simp [symIdx] at hi <;> subst hi <;> exact ⟨rfl, by omega⟩
      rw [symSt_low q1] at hs
      rw [symSt_low q2] at hs'
      unfold symSt
      rw [if_neg (by omega), if_pos (by omega)]
      have e1 : (c - 8) / 8 % 8 = s := by omega
      have e2 : (c - 8) % 8 = s' := by omega
      have e3 : (c - 8) / 64 = i := by omega
      rw [e1, e2, e3, hs, hs']
      simp only [hop.1]

def pickZ (a k : Int) : Int := RowKit.wrap64 ((IntKind.u64.wrap a).tmod (IntKind.u64.wrap k))

theorem pick_says (a k : Int) (hk : IntKind.u64.wrap k ≠ 0) (w : World) : Calls Tryz.prog 27 #[.int .i64 a, .int .i64 k] w (Says (.int .i64 (pickZ a k)) w) := by
  go_enter Tryz.func27, Tryz.ntmps27
  go_wp2
  go_ret
  exact ⟨by simp [pickZ], quiet_refl w⟩

theorem pickZ_few (a : Int) (k : Nat) (h0 : 0 < k) (h1 : k < 1000) : ∃ i : Nat, i < k ∧ pickZ a (k : Int) = (i : Int) := by
  have e1 : IntKind.u64.wrap (k : Int) = (k : Int) := by
    simp only [IntKind.wrap, IntKind.signed, IntKind.bits]
    simp
    omega
  have e2 : 0 ≤ IntKind.u64.wrap a := by
    simp only [IntKind.wrap, IntKind.signed, IntKind.bits]
    simp
    omega
  obtain ⟨m, hm⟩ := Int.eq_ofNat_of_zero_le e2
  refine ⟨m % k, Nat.mod_lt _ h0, ?_⟩
  unfold pickZ
  rw [e1, hm]
  have e3 : Int.tmod (m : Int) (k : Int) = ((m % k : Nat) : Int) := by
    rw [Int.tmod_eq_emod_of_nonneg (by omega)]
    rfl
  rw [e3]
  have : m % k < k := Nat.mod_lt _ h0
  unfold RowKit.wrap64
  omega
end Go.Proofs.YtiinghgfojicdaaGreat
