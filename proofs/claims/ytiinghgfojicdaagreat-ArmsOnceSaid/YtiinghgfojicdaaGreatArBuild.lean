/- arms.build: the tree of rows of tests. No conditions. -/
import Derived.Test.YtiinghgfojicdaaGreatArTree
import Derived.Deep.Cut
import Derived.Deep.RegionHeld3
import Derived.Deep.RegionLaw
set_option linter.unusedVariables false
set_option linter.unusedSimpArgs false
namespace Go.Proofs.YtiinghgfojicdaaGreat
open Go.RowKit Go.RowG Go.FRow Go.GMem
set_option linter.unusedVariables false
set_option maxRecDepth 100000
attribute [local go_sem ↓] Go.wp_at_zero Go.wp_at_succ

theorem rowTy : RowTy Tryz.prog 123 126 2 32 := RowTy.of Tryz.underlying123 (by kernel_rfl) (by decide)
/-- What is left of rows of tests, from the j-th on. -/
def RRest (w : World) (S : Nat → Prop) (A : Option Addr) (m j : Nat) (l : List R) : Prop :=
  l.length + j = m ∧ (0 < l.length → ∃ b o zs, A = some ⟨b, o, none⟩ ∧ S b ∧ GCells w S (encRs l) zs ∧ ∀ i u, zs[i]? = some u → w.cell? ⟨b, o + j * 2 + i, none⟩ = some u)
theorem GRow.rrest {w : World} {S : Nat → Prop} {A : Option Addr} {l : List R} (h : GRow w S A l.length (encRs l)) : RRest w S A l.length 0 l := ⟨rfl, fun hl => by
  obtain ⟨b, o, zs, e, hb, hz, hc⟩ := h hl
  exact ⟨b, o, zs, e, hb, hz, fun i u hu => by simpa using hc i u hu⟩⟩
theorem RRest.step {w : World} {S : Nat → Prop} {A : Option Addr} {m j : Nat} {x : R} {l : List R} (h : RRest w S A m j (x :: l)) :
    ∃ ad B c, A = some ad ∧ S ad.block ∧ w.cell? (ad.add (j * 2)) = some (.int .i64 (x.1 : Int)) ∧ w.cell? ⟨(ad.add (j * 2)).block, (ad.add (j * 2)).off + 1, none⟩ = some (.slice B x.2.length c) ∧ x.2.length ≤ c ∧ c ≤ maxLen ∧ GRow w S B x.2.length (encTs x.2) ∧ RRest w S A m (j + 1) l := by
  obtain ⟨hl, h2⟩ := h
  obtain ⟨b, o, zs, e, hb, hz, hc⟩ := h2 (by simp)
  obtain ⟨_, e0, _, B, c, _, e1, h3, h4, h5, hz'⟩ := hz
  subst e1 e0
  refine ⟨⟨b, o, none⟩, B, c, e, hb, ?_, ?_, h3, h4, h5, by simp at hl; omega, fun _ => ⟨b, o, _, e, hb, hz', fun i u hu => ?_⟩⟩
  · rw [add_at]; exact hc 0 _ rfl
  · rw [add_at]; exact hc 1 _ rfl
  · rw [show o + (j + 1) * 2 + i = o + j * 2 + (i + 2) by omega]
    exact hc (i + 2) u (by simpa using hu)

def BuildSaid (f : Nat) : Prop := ∀ (l : List R) (A : Option Addr) (c : Nat) (w : World) (S : Nat → Prop), (∀ b, S b → b < w.heap.size) → total l < f → l.length ≤ 1000 → (∀ x ∈ l, x.2.length ≤ 1000 ∧ ∀ y ∈ x.2, y.path.length ≤ 1000) → GRow w S A l.length (encRs l) →
  Calls Tryz.prog 52 #[.slice A l.length c] w (TreeEnds S (buildR f l) w)
theorem build_none (f : Nat) (S : Nat → Prop) (A : Option Addr) (c : Nat) (w : World) : Calls Tryz.prog 52 #[.slice A 0 c] w (TreeEnds S (.leaf (-1)) w) := by
  go_enter Tryz.func52, Tryz.ntmps52
  go_wp2
  refine bodyPost_ret (v := .agg #[.bool true, .int .i64 (-1), .slice none 0 0, .int .i64 0, .int .i64 0, .string ⟨#[]⟩, .slice none 0 0, .slice none 0 0, .slice none 0 0]) (by simp [results, Tryz.results52, go_sem, *]) rfl ?_
  refine ⟨[.bool true, .int .i64 (-1), .slice none 0 0, .int .i64 0, .int .i64 0, .string ⟨#[]⟩, .slice none 0 0, .slice none 0 0, .slice none 0 0], rfl, ?_, (Below.refl _ _).alloc (Nat.le_refl _) _⟩
  exact ⟨_, rfl, rfl, _, rfl, rfl, _, rfl, rfl, _, rfl, rfl, _, rfl, rfl, _, rfl, rfl, _, rfl, rfl, _, rfl, rfl, _, rfl, rfl, rfl⟩
theorem build_leaf (f a : Nat) (l : List R) (A : Option Addr) (c : Nat) (w : World) (S : Nat → Prop) (hS : ∀ b, S b → b < w.heap.size) (h : GRow w S A ((a, []) :: l : List R).length (encRs ((a, []) :: l))) : Calls Tryz.prog 52 #[.slice A ((a, []) :: l : List R).length c] w (TreeEnds S (.leaf a) w) := by
  obtain ⟨ad, B, rc, rfl, hab, hc0, hc1, _, _, _, _⟩ := (GRow.rrest h).step
  obtain ⟨n, hn⟩ : ∃ n, n = ((a, []) :: l : List R).length := ⟨_, rfl⟩
  have hn0 : 0 < n := by rw [hn]; simp
  have hn1 : ((n : Int) == 0) = false := by simp; omega
  have hn2 : (0 : Int) < (n : Int) := by omega
  rw [← hn]
  simp only [Nat.zero_mul, List.length_nil] at hc0 hc1
  have ha0 : ad.add 0 = ad := by simp [Addr.add]
  rw [ha0] at hc0 hc1
  have hk : ∀ o : Obj, (w.alloc o).cell? ad = w.cell? ad := fun o => World.cell?_alloc_lt w o ad (hS _ hab)
  have hk1 : ∀ o : Obj, (w.alloc o).cell? ⟨ad.block, ad.off + 1, none⟩ = w.cell? ⟨ad.block, ad.off + 1, none⟩ := fun o => World.cell?_alloc_lt w o _ (hS _ hab)
  have hab' : ad.block < w.heap.size := hS _ hab
  clear h hn
  go_enter Tryz.func52, Tryz.ntmps52
  go_wp2
  refine bodyPost_ret (v := .agg #[.bool true, .int .i64 (a : Int), .slice none 0 0, .int .i64 0, .int .i64 0, .string ⟨#[]⟩, .slice none 0 0, .slice none 0 0, .slice none 0 0]) (by simp [results, Tryz.results52, go_sem, *]) rfl ?_
  refine ⟨[.bool true, .int .i64 (a : Int), .slice none 0 0, .int .i64 0, .int .i64 0, .string ⟨#[]⟩, .slice none 0 0, .slice none 0 0, .slice none 0 0], rfl, ?_, (Below.refl _ _).alloc (Nat.le_refl _) _⟩
  exact ⟨_, rfl, rfl, _, rfl, rfl, _, rfl, rfl, _, rfl, rfl, _, rfl, rfl, _, rfl, rfl, _, rfl, rfl, _, rfl, rfl, _, rfl, rfl, rfl⟩
end Go.Proofs.YtiinghgfojicdaaGreat
