/- A part of the proofs of the laws of the deeds: Lined. -/
import Derived.Test.YtkmpnfploplpfaaDoorDdPrintAll
import Derived.Test.YtkmpnfploplpfaaDoorDdParse
set_option linter.unusedVariables false
set_option linter.unusedSimpArgs false
namespace Go.Proofs.YtkmpnfploplpfaaDoor
open Go.RowKit Go.Deed Go.RowG
attribute [local go_sem ↓] Go.wp_at_zero Go.wp_at_succ
set_option linter.unusedVariables false
abbrev S0 : ByteArray := ⟨#[116, 101, 108, 108, 32, 49, 48, 48, 49, 32, 66, 40, 51, 44, 39, 97, 32, 98, 39, 41]⟩
def argB : F := .cons 2 3 ⟨#[]⟩ .nil (.cons 4 0 ⟨#[97, 32, 98]⟩ .nil .nil)
def args0 : F := .cons 5 0 ⟨#[66]⟩ argB .nil
theorem parse0 : parseL S0.data.toList = some ⟨2, 1001, 0, [], args0⟩ := by kernel_rfl
theorem print0 : printL ⟨2, 1001, 0, [], args0⟩ = some S0.data.toList := parse_print parse0
theorem rng0 : Rng args0 := by
  unfold args0 argB
  simp [Rng, R64]
theorem wt0 : wt args0 ≤ 100000000 := by decide
/-- The cells of the two values in one. -/
theorem args0_cells {w : World} {S : Nat → Prop} {A : Option Addr} (h : RowAt w S A args0) : ∃ ad ad' c, A = some ad ∧ S ad.block ∧ w.cell? ⟨ad.block, ad.off + 3, none⟩ = some (.slice (some ad') 2 c) ∧ S ad'.block ∧ w.cell? ⟨ad'.block, ad'.off + 6, none⟩ = some (.string ⟨#[97, 32, 98]⟩) ∧ 2 ≤ c := by
  obtain ⟨ad, rfl, hb, h⟩ := h (by decide)
  unfold args0 at h
  obtain ⟨_, _, _, ⟨R, c, h3, hc, _, hsub⟩, _⟩ := h
  obtain ⟨ad', rfl, hb', h'⟩ := hsub (by decide)
  unfold argB at h'
  obtain ⟨_, _, _, _, h'⟩ := h'
  obtain ⟨_, _, h2, _, _⟩ := h'
  refine ⟨ad, ad', c, rfl, hb, h3, hb', ?_, hc⟩
  have e : (ad'.add 4).off + 2 = ad'.off + 6 := by
    unfold Addr.add
    simp
  rw [add_block, e] at h2
  exact h2
theorem lined_says (w : World) (hE : Env w) : Calls Tryd.prog 6 #[] w (fun e w' => e = .returned (.bool true) ∧ Below w.heap.size w w') := by
  have hp : Calls Tryd.prog 8 #[.string S0] w fun e w' => ∃ A c, Below w.heap.size w w' ∧ e = .returned (.tuple #[agg5 2 1001 0 ⟨#[]⟩ A 1 c, .int .i64 0]) ∧ RowAt w' (fresh w w') A args0 ∧ 1 ≤ c ∧ c ≤ maxLen := by
    have := Parse_says S0 w (by decide) hE
    rw [parse0] at this
    exact this.mono fun e w' ⟨hb, A, c, he, h⟩ => ⟨A, c, hb, he, h⟩
  have hpr : ∀ (w2 : World) (A : Option Addr) (c : Nat), Below w.heap.size w w2 → RowAt w2 (lt w2) A args0 → 1 ≤ c → c ≤ maxLen → Calls Tryd.prog 7 #[agg5 2 1001 0 ⟨#[]⟩ A 1 c] w2 fun e w' => e = .returned (.tuple #[.string S0, .int .i64 0]) ∧ Below w2.heap.size w2 w' := fun w2 A c hb hrow h1 h2 => by
    have := Print_says 2 1001 0 ⟨#[]⟩ args0 A c w2 (by decide) (by unfold R64; omega) (by unfold R64; omega) (hE.keep hb) hrow h1 h2 rng0 wt0
    rw [show (⟨#[]⟩ : ByteArray).data.toList = [] from rfl, print0] at this
    refine this.mono fun e w' ⟨hb, he⟩ => ⟨?_, hb⟩
    rw [he, toB_of]
  have HE := Lib.hid hE
  clear hE
  go_enter Tryd.func6, Tryd.ntmps6
  go_wp2_with (first
    | (go_at_call 8; (with_reducible refine hp.mono ?_); rintro e w2 ⟨A, c, hb2, rfl, hrow, hc, hcm⟩
       obtain ⟨ad, ad', c', rfl, hb', h3, hb'', h6, hc'⟩ := args0_cells hrow
       have hk := hpr (w2.alloc (.cells #[.int .i64 2, .int .i64 1001, .int .i64 0, .string ⟨#[]⟩, .slice (some ad) 1 c] 24)) (some ad) c (hb2.alloc hb2.size _) (hrow.keep (fun b hb => by have := hb.2; simp; omega) fun p hp => World.cell?_of_block (Below.heap_alloc _ _ _ hp.2)) hc hcm
       have hz := heap_alloc_new w2 (.cells #[.int .i64 2, .int .i64 1001, .int .i64 0, .string ⟨#[]⟩, .slice (some ad) 1 c] 24))
    | (go_at_call 7; (with_reducible refine hk.mono ?_); rintro e w3 ⟨rfl, hb3⟩
       have hZ := Own5.keep (by exact hz) hb3
       obtain ⟨⟨z0, z1, z2, z3, z4⟩, q0, q1, q2, q3, q4⟩ := hZ.cells
       have h31 : w3.cell? ⟨ad.block, ad.off + 3, none⟩ = some (.slice (some ad') 2 c') := (hb3.cell (p := ⟨ad.block, ad.off + 3, none⟩) (by have := hb'.2; simp; omega)).trans ((World.cell?_alloc_lt w2 _ ⟨ad.block, ad.off + 3, none⟩ hb'.2).trans h3)
       have h61 : w3.cell? ⟨ad'.block, ad'.off + 6, none⟩ = some (.string ⟨#[97, 32, 98]⟩) := (hb3.cell (p := ⟨ad'.block, ad'.off + 6, none⟩) (by have := hb''.2; simp; omega)).trans ((World.cell?_alloc_lt w2 _ ⟨ad'.block, ad'.off + 6, none⟩ hb''.2).trans h6)))
  go_ret
  exact ⟨rfl, (hb2.alloc hb2.size _).trans (hb3.mono (by have := hb2.size; simp; omega))⟩
end Go.Proofs.YtkmpnfploplpfaaDoor
