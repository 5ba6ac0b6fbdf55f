/- The fact up returns true from every world, on every tape, and all memory that was there stays as it was. No conditions. -/
import Derived.Test.YteaennegcnlpgaaGreatRows
import Derived.WalkKit
import Derived.ProofKit
import Derived.OpenShut
import Derived.Test.YteaennegcnlpgaaGreatAmE
namespace Go.Proofs.YteaennegcnlpgaaGreat
open Go.AM

/-- A run that comes to true. -/
def isTrue : Res → Bool
  | some (.bool b, _) => b
  | _ => false
theorem isTrue_of {r : Res} (h : isTrue r = true) : ∃ H, r = some (.bool true, H) := by
  unfold isTrue at h
  split at h
  · rename_i b H
    rw [h]; exact ⟨H, rfl⟩
  · simp at h

theorem mixed : Tryz.prog.follows .mixedOrders = true := by kernel_rfl

def Quiet (w w' : World) : Prop := w'.os = w.os ∧ w'.tape = w.tape ∧ w'.output = w.output ∧ w.heap.size ≤ w'.heap.size ∧ ∀ k, k < w.heap.size → w'.heap[k]? = w.heap[k]?
def Says (u : Value) (w : World) : Ending → World → Prop
  | .returned u', w' => u' = u ∧ Quiet w w'
  | _, _ => False

theorem says_of {v : AV} {u : Value} {φ0 : Phi} {w : World} (hv : ∀ φ x, Sub φ0 φ → RV φ v x → x = u) {P : Program} {f : FuncId} {args : Array Value} (h : Calls P f args w (LeavesAM v φ0 w)) : Calls P f args w (Says u w) :=
  h.mono fun e w' he => by
    cases e with
    | returned x => exact ⟨hv _ _ he.1.choose_spec.2 he.1.choose_spec.1, he.2⟩
    | panicked _ => exact he
    | outgrown => exact he

set_option maxRecDepth 100000 in
theorem up_runs : isTrue (evFF Tryz.prog noHook 100000 100 .leaf 8 [] (Heap.ints 0)) = true := by kernel_rfl

theorem up_says (w : World) : Calls Tryz.prog 8 #[] w (Says (.bool true) w) := by
  obtain ⟨H, hr⟩ := isTrue_of up_runs
  rw [evFF_eq] at hr
  have hb : ∃ c, Tryz.f8.body = some c := ⟨_, rfl⟩
  obtain ⟨c, hb⟩ := hb
  exact says_of (fun φ x _ h => by simpa [RV] using h) (evF_calls (us := []) mixed (noHook_ok (Phi.ints fun _ => none)) (fun s m h => by simp at h) Tryz.func8 hb hr (by simp [RVs]) w)

theorem keptBut_quiet {w w' : World} (h : Quiet w w') (may : MemPlace → Prop) : w.keptBut w' may := by
  refine ⟨h.1, h.2.2.1, fun i hi => ?_⟩
  rw [h.2.2.2.2 i hi]
  split
  · rename_i c t fr c' t' fr' h1 h2
    rw [h1] at h2
    simp only [Option.some.injEq, Obj.cells.injEq] at h2
    obtain ⟨rfl, rfl, rfl⟩ := h2
    exact ⟨rfl, rfl, rfl, fun _ _ => rfl⟩
  · rename_i es cl es' cl' h1 h2
    rw [h1] at h2
    simp only [Option.some.injEq, Obj.map.injEq] at h2
    exact .inr ⟨h2.1.symm, h2.2.symm⟩
  · rfl

theorem post_kept {H : Type} {enc : TypeId × Value → H} {P : Program} {f : Func} {s : ChangeSpec} {apart fresh handsOn : Bool} {W W' : World} {args : Array Value} {v : Value} {ds gs : List (DataW H)} {before pa pv : List MemPlace}
    (hW : DataW.Whole enc P f.params.toList s.vars apart W args.toList ds gs before)
    (hres : ∀ (b : Nat) (sp : Nat → Bool) (hd : Bool), DataW.TrodAll enc P W' b sp hd f.resultTypes.toList (v.resultList f.resultTypes.size) (s.fn H (ds ++ gs)).results [])
    (hargs : ∀ sp : Nat → Bool, (∀ p ∈ before, sp p.block = true) → DataW.TrodAll enc P W' 0 sp true f.params.toList args.toList (s.fn H (ds ++ gs)).args pa)
    (hvars : ∀ sp : Nat → Bool, (∀ p ∈ before, sp p.block = true) → DataW.TrodVars enc P W' sp s.vars (s.fn H (ds ++ gs)).vars pv)
    (hps : before = pa ++ pv) (hk : W.keptBut W' (· ∈ before)) :
    s.post enc P f apart fresh handsOn false W args v W' := by
  have hold : ∀ p ∈ before, (fun b => decide (b < W.heap.size)) p.block = true := fun p hp => by simpa using hW.lt p hp
  refine ⟨ds, gs, before, [], pa, pv, hW, hres _ _ _, hargs _ hold, hvars _ hold, World.keptBut_mono (fun p hp => ⟨hp, ?_⟩) hk, fun h => by simp at h⟩
  rw [hps, List.mem_append] at hp
  exact Or.inr hp
end Go.Proofs.YteaennegcnlpgaaGreat
