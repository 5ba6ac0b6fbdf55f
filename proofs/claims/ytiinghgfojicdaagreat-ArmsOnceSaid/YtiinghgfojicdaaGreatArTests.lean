/- arms.tests: the tests of a pattern. No conditions. -/
import Derived.Test.YtiinghgfojicdaaGreatArTm
import Derived.Deep.Cut
set_option linter.unusedVariables false
set_option linter.unusedSimpArgs false
namespace Go.Proofs.YtiinghgfojicdaaGreat
open Go.RowKit Go.RowG Go.FRow Go.GMem
set_option linter.unusedVariables false
set_option maxRecDepth 100000
attribute [local go_sem ↓] Go.wp_at_zero Go.wp_at_succ

def TestsEnds (ts : List T) (w : World) (e : Ending) (w' : World) : Prop :=
  ∃ A c, e = .returned (.slice A ts.length c) ∧ GRow w' (since w.heap.size w') A ts.length (encTs ts) ∧ ts.length ≤ c ∧ c ≤ maxLen ∧ Below w.heap.size w w'
def TestsSaid (k n : Int) (t : ByteArray) (a : F) : Prop := ∀ (A B : Option Addr) (c d : Nat) (P : List Nat) (w : World), RowAt w w.heap.size A a → a.len ≤ c → c ≤ maxLen → GRow w (lt w) B P.length (encI P) → (B = none → P.length = 0 ∧ d = 0) → P.length + a.nodes ≤ 900 →
  Calls Tryz.prog 51 #[agg4 k n t A a.len c, .slice B P.length d] w (TestsEnds (tests1 k n t a P) w)
/-- One test, in a block of its own. -/
theorem one_owned {w0 w5 : World} {P : List Nat} {A5 : Option Addr} {c5 : Nat} (hb : Below w0.heap.size w0 w5) (hrow : GRow w5 (since w0.heap.size w5) A5 P.length (encI P)) (h1 : P.length ≤ c5) (h2 : c5 ≤ maxLen) (k n : Int) (t : ByteArray) :
    OwnG 56 5 (w5.alloc (.cells #[.slice A5 P.length c5, .int .i64 k, .int .i64 n, .string t, .slice none 0 0] 56)) w0.heap.size (.slice (some ⟨w5.heap.size, 0, none⟩) 1 1) 1 (encTs [⟨P, k, n, t⟩]) := by
  refine ⟨[.slice A5 P.length c5, .int .i64 k, .int .i64 n, .string t, .slice none 0 0], ⟨rfl, Or.inr ⟨w5.heap.size, 1, #[.slice A5 P.length c5, .int .i64 k, .int .i64 n, .string t, .slice none 0 0], rfl, hb.size, heap_alloc_new w5 _, Nat.le_refl _, by unfold maxLen; omega, rfl, rfl⟩⟩, ?_⟩
  refine ⟨A5, c5, _, rfl, h1, h2, ?_, _, rfl, rfl, _, rfl, rfl, _, rfl, rfl, _, rfl, rfl, rfl⟩
  exact hrow.keep (fun b hb => ⟨hb.1, Nat.lt_of_lt_of_le hb.2 (by show w5.heap.size ≤ (w5.heap.push _).size; simp), fun e => by have h1 : b < w5.heap.size := hb.2; have h2 : b = w5.heap.size := Option.some.inj e; omega⟩) fun p hp => World.cell?_of_block (Below.heap_alloc _ _ _ hp.2)
theorem one_test {w0 w5 : World} {P : List Nat} {A5 : Option Addr} {c5 : Nat} (hb : Below w0.heap.size w0 w5) (hrow : GRow w5 (since w0.heap.size w5) A5 P.length (encI P)) (h1 : P.length ≤ c5) (h2 : c5 ≤ maxLen) (k n : Int) (t : ByteArray) :
    TestsEnds [⟨P, k, n, t⟩] w0 (.returned (.slice (some ⟨w5.heap.size, 0, none⟩) 1 1)) (w5.alloc (.cells #[.slice A5 P.length c5, .int .i64 k, .int .i64 n, .string t, .slice none 0 0] 56)) := by
  obtain ⟨A, c, e, h3, h4, h5⟩ := (one_owned hb hrow h1 h2 k n t).row (by decide)
  exact ⟨A, c, by rw [e]; rfl, h5, h3, h4, hb.alloc hb.size _⟩

set_option maxHeartbeats 2000000 in
theorem tests_num (k n : Int) (t : ByteArray) (m : Nat) (hk : k = 3 ∨ k = 4) (A B : Option Addr) (c d : Nat) (P : List Nat) (w : World) (hB : GRow w (lt w) B P.length (encI P)) (h0 : B = none → P.length = 0 ∧ d = 0) (hP : P.length ≤ 900) :
    Calls Tryz.prog 51 #[agg4 k n t A m c, .slice B P.length d] w (TestsEnds [⟨P, k, n, ⟨#[]⟩⟩] w) := by
  have hcl : ∀ o : Obj, Calls Tryz.prog 77 #[.slice B P.length d] (w.alloc o).drew (CloneEnds 3 1 P.length (encI P) (w.alloc o).drew) := fun o =>
    cloneI_says P B d (w.alloc o).drew (hB.keep (fun b hb => by have : b < w.heap.size := hb; show b < (w.alloc o).heap.size; simp; omega) fun p hp => World.cell?_of_block (Below.heap_alloc _ _ _ hp)) h0 (by omega)
  obtain ⟨pl, hpl⟩ : ∃ pl, pl = P.length := ⟨_, rfl⟩
  rw [← hpl] at hcl
  rw [← hpl]
  have HP := Lib.hid hpl
  clear hB h0 hP hpl
  rcases hk with rfl | rfl
  all_goals
    go_enter Tryz.func51, Tryz.ntmps51
    go_wp2
    go_region_with (first
      | (go_at_call 77
         (with_reducible refine (hcl _).mono ?_)
         rintro e w5 ⟨v5, rfl, hown5, hb5⟩
         obtain ⟨A5, c5, rfl, h51, h52, hrow5'⟩ := hown5.ints.row (by decide)
         have hrow5 : GRow w5 (since w.heap.size w5) A5 _ (encI P) := hrow5'.mono fun b hb => ⟨by have := hb.1; simp at this; omega, hb.2⟩
         clear hrow5'
         have hb5' : Below w.heap.size w w5 := ((Below.refl _ _).alloc (Nat.le_refl _) _).drew.trans (hb5.mono (by show w.heap.size ≤ (w.heap.push _).size; simp))
         have hz5 := hb5.block w.heap.size (by show w.heap.size < (w.heap.push _).size; simp)
         have hZ : Own4 w5 w.heap.size 40 _ _ _ _ := hz5.trans (heap_alloc_new w _)
         obtain ⟨⟨z0, z1, z2, z3⟩, _, _, _, _⟩ := hZ.cells))
    all_goals
      go_wp2
      go_ret
      rw [HP.out] at h51 hrow5 ⊢
      exact one_test hb5' hrow5 h51 h52 _ _ _
set_option maxHeartbeats 2000000 in
theorem tests_text (n : Int) (t : ByteArray) (m : Nat) (A B : Option Addr) (c d : Nat) (P : List Nat) (w : World) (hB : GRow w (lt w) B P.length (encI P)) (h0 : B = none → P.length = 0 ∧ d = 0) (hP : P.length ≤ 900) :
    Calls Tryz.prog 51 #[agg4 5 n t A m c, .slice B P.length d] w (TestsEnds [⟨P, 5, 0, t⟩] w) := by
  have hcl : ∀ o : Obj, Calls Tryz.prog 77 #[.slice B P.length d] (w.alloc o).drew (CloneEnds 3 1 P.length (encI P) (w.alloc o).drew) := fun o =>
    cloneI_says P B d (w.alloc o).drew (hB.keep (fun b hb => by have : b < w.heap.size := hb; show b < (w.alloc o).heap.size; simp; omega) fun p hp => World.cell?_of_block (Below.heap_alloc _ _ _ hp)) h0 (by omega)
  obtain ⟨pl, hpl⟩ : ∃ pl, pl = P.length := ⟨_, rfl⟩
  rw [← hpl] at hcl
  rw [← hpl]
  have HP := Lib.hid hpl
  clear hB h0 hP hpl
  go_enter Tryz.func51, Tryz.ntmps51
  go_wp2
  go_region_with (first
    | (go_at_call 77
       (with_reducible refine (hcl _).mono ?_)
       rintro e w5 ⟨v5, rfl, hown5, hb5⟩
       obtain ⟨A5, c5, rfl, h51, h52, hrow5'⟩ := hown5.ints.row (by decide)
       have hrow5 : GRow w5 (since w.heap.size w5) A5 _ (encI P) := hrow5'.mono fun b hb => ⟨by have := hb.1; simp at this; omega, hb.2⟩
       clear hrow5'
       have hb5' : Below w.heap.size w w5 := ((Below.refl _ _).alloc (Nat.le_refl _) _).drew.trans (hb5.mono (by show w.heap.size ≤ (w.heap.push _).size; simp))
       have hz5 := hb5.block w.heap.size (by show w.heap.size < (w.heap.push _).size; simp)
       have hZ : Own4 w5 w.heap.size 40 _ _ _ _ := hz5.trans (heap_alloc_new w _)
       obtain ⟨⟨z0, z1, z2, z3⟩, _, _, _, _⟩ := hZ.cells))
  all_goals
    go_wp2
    go_ret
    rw [HP.out] at h51 hrow5 ⊢
    exact one_test hb5' hrow5 h51 h52 _ _ _
theorem tests_none (k n : Int) (t : ByteArray) (m : Nat) (h3 : k ≠ 3) (h4 : k ≠ 4) (h5 : k ≠ 5) (h6 : k ≠ 6) (A : Option Addr) (c : Nat) (pv : Value) (w : World) : Calls Tryz.prog 51 #[agg4 k n t A m c, pv] w (TestsEnds [] w) := by
  have e3 : (k == 3) = false := by simpa using h3
  have e4 : (k == 4) = false := by simpa using h4
  have e5 : (k == 5) = false := by simpa using h5
  have e6 : (k == 6) = false := by simpa using h6
  clear h3 h4 h5 h6
  go_enter Tryz.func51, Tryz.ntmps51
  go_wp2
  go_ret
  exact ⟨none, 0, rfl, GRow.nil _ _ _ _, Nat.le_refl _, by simp, (Below.refl _ _).alloc (Nat.le_refl _) _⟩
end Go.Proofs.YtiinghgfojicdaaGreat
