/- A part of the proofs of the laws of the deeds: Value. -/
import Derived.Test.YtkmpnfploplpfaaDoorDdParts
import Derived.Test.YtkmpnfploplpfaaDoorLater
set_option linter.unusedVariables false
set_option linter.unusedSimpArgs false
namespace Go.Proofs.YtkmpnfploplpfaaDoor
open Go.RowKit Go.Deed Go.RowG
attribute [local go_sem ↓] Go.wp_at_zero Go.wp_at_succ
set_option linter.unusedVariables false

/-- What Value hands back. -/
def VEnds (r : Option V) (w : World) (e : Ending) (w' : World) : Prop := Below w.heap.size w w' ∧ match r with
  | some v => ∃ A c, e = .returned (.tuple #[agg4 v.k v.n v.t A v.a.len c, .int .i64 0]) ∧ RowAt w' (fresh w w') A v.a ∧ v.a.len ≤ c ∧ c ≤ maxLen
  | none => e = .returned (.tuple #[agg4 0 0 ⟨#[]⟩ none 0 0, .int .i64 10])
set_option maxHeartbeats 2000000 in
theorem Value_says (s : L) (w : World) (hs : s.length ≤ 90000000) (hE : Env w) : Calls Tryd.prog 10 #[.string (toB s)] w (VEnds (value1 s) w) := by
  have hcall : ∀ o : Obj, Calls Tryd.prog 23 #[.string (toB s), .int .i64 40] (w.alloc o) (ValueEnds (valueL 40 s) (w.alloc o)) := fun o => value_says 40 (by omega) s (w.alloc o) hs (hE.keep ((Below.refl _ _).alloc (Nat.le_refl _) o))
  unfold value1
  clear hE
  cases hv : valueL 40 s with
  | none =>
    rw [hv] at hcall
    clear hv
    go_enter Tryd.func10, Tryd.ntmps10
    go_wp2_with (first
      | (go_at_call 23; (with_reducible refine (hcall _).mono ?_); rintro e w2 ⟨hb2, k4, n4, t4, A4, m4, c4, s4, rfl⟩
         have hbw : Below w.heap.size w w2 := ((Below.refl _ _).alloc (Nat.le_refl _) _).trans (hb2.mono (by simp))
         have ho := Own4.keep (z := w.heap.size) (e := 34) (v0 := .int .i64 0) (v1 := .int .i64 0) (v2 := .string ⟨#[]⟩) (v3 := .slice none 0 0) (heap_alloc_new w _) hb2
         obtain ⟨⟨o0, o1, o2, o3⟩, f0, f1, f2, f3⟩ := ho.cells
         have hz2 := ho.lt))
    refine bodyPost_ret (v := .tuple #[agg4 0 0 ⟨#[]⟩ none 0 0, .int .i64 10]) (by simp [results, Tryd.results10, go_sem, agg4, *]) rfl ?_
    exact ⟨(fill4_below hbw (Nat.le_refl _) _ _ _ _).alloc (by rw [fill4_size]; omega) _, rfl⟩
  | some x =>
    obtain ⟨v, rest⟩ := x
    rw [hv] at hcall
    clear hv
    cases rest with
    | nil =>
      go_enter Tryd.func10, Tryd.ntmps10
      have he : (toB []).toList = [] := by rw [toB_toList]
      have he2 : (toB []).toList.isEmpty = true := by rw [he]; rfl
      go_wp2_with (first
        | (go_at_call 23; (with_reducible refine (hcall _).mono ?_); rintro e w2 ⟨hb2, A4, c4, rfl, hrow, hc4, hc4'⟩
           have hbw : Below w.heap.size w w2 := ((Below.refl _ _).alloc (Nat.le_refl _) _).trans (hb2.mono (by simp))
           have ho := Own4.keep (z := w.heap.size) (e := 34) (v0 := .int .i64 0) (v1 := .int .i64 0) (v2 := .string ⟨#[]⟩) (v3 := .slice none 0 0) (heap_alloc_new w _) hb2
           obtain ⟨⟨o0, o1, o2, o3⟩, f0, f1, f2, f3⟩ := ho.cells
           have hz2 := ho.lt))
      refine bodyPost_ret (v := .tuple #[agg4 v.k v.n v.t A4 v.a.len c4, .int .i64 0]) (by simp [results, Tryd.results10, go_sem, agg4, *]) rfl ?_
      refine ⟨(fill4_below hbw (Nat.le_refl _) _ _ _ _).alloc (by rw [fill4_size]; omega) _, A4, c4, rfl, ?_, hc4, hc4'⟩
      exact (row_fill hrow (Nat.le_refl _) (by simp) _ _ _ _).keep (fun b hb => ⟨hb.1, by have := hb.2; simp [World.setCell, fill4] at this ⊢; omega⟩) fun p hp => World.cell?_of_block (Below.heap_alloc _ _ _ hp.2)
    | cons b rest =>
      have he : (toB (b :: rest)).toList.isEmpty = false := by rw [toB_toList]; rfl
      have he2 : (toB (b :: rest)).toList ≠ [] := by rw [toB_toList]; simp
      go_enter Tryd.func10, Tryd.ntmps10
      go_wp2_with (first
        | (go_at_call 23; (with_reducible refine (hcall _).mono ?_); rintro e w2 ⟨hb2, A4, c4, rfl, hrow, hc4, hc4'⟩
           have hbw : Below w.heap.size w w2 := ((Below.refl _ _).alloc (Nat.le_refl _) _).trans (hb2.mono (by simp))
           have ho := Own4.keep (z := w.heap.size) (e := 34) (v0 := .int .i64 0) (v1 := .int .i64 0) (v2 := .string ⟨#[]⟩) (v3 := .slice none 0 0) (heap_alloc_new w _) hb2
           obtain ⟨⟨o0, o1, o2, o3⟩, f0, f1, f2, f3⟩ := ho.cells
           have hz2 := ho.lt))
      refine bodyPost_ret (v := .tuple #[agg4 0 0 ⟨#[]⟩ none 0 0, .int .i64 10]) (by simp [results, Tryd.results10, go_sem, agg4, *]) rfl ?_
      exact ⟨(fill4_below hbw (Nat.le_refl _) _ _ _ _).alloc (by rw [fill4_size]; omega) _, rfl⟩
end Go.Proofs.YtkmpnfploplpfaaDoor
