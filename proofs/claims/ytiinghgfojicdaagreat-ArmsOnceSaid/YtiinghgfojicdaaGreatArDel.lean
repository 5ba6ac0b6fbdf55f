/- slices.Delete of one test out of a row of the call's own. No conditions. -/
import Derived.Test.YtiinghgfojicdaaGreatArIdx
import Derived.Laws.IdiomCopy
import Derived.Lib.SliceRun
set_option linter.unusedVariables false
set_option linter.unusedSimpArgs false
namespace Go.Proofs.YtiinghgfojicdaaGreat
open Go.RowKit Go.RowG Go.FRow Go.GMem
set_option linter.unusedVariables false
set_option maxRecDepth 100000
attribute [local go_sem ↓] Go.wp_at_zero Go.wp_at_succ

theorem setCells_kept (b : Nat) : ∀ (vs : List Value) (o : Nat) (w : World), w.grownBy (w.setCells b o vs) (some b)
  | [], _, w => World.grownBy.refl w _
  | v :: r, o, w => by
    have h := setCells_kept b r (o + 1) (w.setCell ⟨b, o, none⟩ v)
    have e : (w.setCell ⟨b, o, none⟩ v).heap.size = w.heap.size := by simp [World.setCell]
    exact ⟨h.os, h.tape, h.output, e ▸ h.size, fun k hk hne => (h.block k (by simpa [World.setCell] using hk) hne).trans (Below.heap_setCell w ⟨b, o, none⟩ v k (fun e => hne (by rw [e])))⟩
theorem zeroT (w : World) : (zeroValue 56).run Tryz.prog w = .ok (.agg #[.slice none 0 0, .int .i64 0, .int .i64 0, .string ⟨#[]⟩, .slice none 0 0]) w := by kernel_rfl
abbrev zeros : List Value := [.slice none 0 0, .int .i64 0, .int .i64 0, .string ⟨#[]⟩, .slice none 0 0]
theorem run_clear_one (w : World) (ty : TypeId) (b o c : Nat) (hc : ∀ j, j < 5 → (w.cell? ⟨b, o + j, none⟩).isSome = true) (hf : ∀ j, j < 5 → w.frozen? ⟨b, o + j, none⟩ = false) :
    (Builtin.clear_ #[61] ty #[.slice (some ⟨b, o, none⟩) 1 c]).run Tryz.prog w = .ok (.tuple #[]) (w.setCells b o zeros) := by
  have hst := run_storeCells_cells (P := Tryz.prog) b o zeros 0 w (by simpa using hc) (by simpa using hf) (by simp [Value.oneCell'])
  simp only [Nat.add_zero] at hst
  have hz : (Builtin.zeroCells (Value.agg #[.slice none 0 0, .int .i64 0, .int .i64 0, .string ⟨#[]⟩, .slice none 0 0]).cells 1).toList = zeros := by kernel_rfl
  simp [Builtin.clear_, run_underlying Tryz.underlying61, zeroT, hz, hst]
/-- All cells of block g are there, c elements. -/
def Blk (w : World) (g c : Nat) : Prop := ∀ j, j < c * 5 → (w.cell? ⟨g, j, none⟩).isSome = true ∧ w.frozen? ⟨g, j, none⟩ = false
theorem Blk.set {w : World} {g c : Nat} (h : Blk w g c) : ∀ (vs : List Value) (o : Nat), Blk (w.setCells g o vs) g c := fun vs o j hj => by
  refine ⟨?_, by rw [World.frozen?_setCells]; exact (h j hj).2⟩
  induction vs generalizing o w with
  | nil => exact (h j hj).1
  | cons v r ih =>
    refine ih (w := w.setCell ⟨g, o, none⟩ v) (fun k hk => ⟨?_, by rw [World.frozen?_setCell]; exact (h k hk).2⟩) (o + 1)
    by_cases e : k = o
    · subst e
      obtain ⟨u, hu⟩ := Option.isSome_iff_exists.1 (h k hk).1
      rw [World.cell?_setCell_same _ _ _ hu]
      rfl
    · rw [World.cell?_setCell_other _ _ _ _ (fun e' => e (by have := congrArg Addr.off e'; simpa using this.symm))]
      exact (h k hk).1

set_option maxHeartbeats 4000000 in
theorem delete_says (l1 l2 : List T) (x : T) (g c base : Nat) (w : World) (S : Nat → Prop) (hS : ∀ b, S b → b < w.heap.size ∧ b ≠ g) (xs : List Value) (hrow : w.ownsRow base 56 5 (.slice (some ⟨g, 0, none⟩) (l1 ++ x :: l2).length c) (l1 ++ x :: l2).length xs) (hfc : GCells w S (encTs (l1 ++ x :: l2)) xs) (hn : (l1 ++ x :: l2).length ≤ 100000) :
    Calls Tryz.prog 81 #[.slice (some ⟨g, 0, none⟩) (l1 ++ x :: l2).length c, .int .i64 (l1.length : Int), .int .i64 ((l1.length : Int) + 1)] w fun e w' =>
      e = .returned (.slice (some ⟨g, 0, none⟩) (l1 ++ l2).length c) ∧ (∃ zs, GCells w' S (encTs (l1 ++ l2)) zs ∧ ∀ j u, zs[j]? = some u → w'.cell? ⟨g, 0 + j, none⟩ = some u) ∧ w.grownBy w' (some g) := by
  have hcells := hrow.cells (g := g) rfl
  obtain ⟨cur, hcur, hcc, hcm⟩ : ∃ cur, w.heap[g]? = some (.cells cur 56 (0, 0)) ∧ (l1 ++ x :: l2).length ≤ c ∧ cur.size = c * 5 := by
    rcases hrow.2 with ⟨h, _⟩ | ⟨g', cap, cur, hv, _, h1, h2, h3, h4, _⟩
    · cases h
    · injection hv with e1 e2 e3
      injection e1 with e1
      injection e1 with e1
      subst e1 e3
      exact ⟨cur, h1, h2, h4⟩
  have hgl : g < w.heap.size := (Array.getElem?_eq_some_iff.1 hcur).1
  have hblk : Blk w g c := fun j hj => by
    have : j < cur.size := by omega
    simp [World.cell?, World.frozen?, hcur, Array.getElem?_eq_getElem this]
  rw [encTs_app, show encTs (x :: l2) = encT x (encTs l2) from rfl] at hfc
  obtain ⟨ys, zs, rfl, hy, hz⟩ := hfc.split
  obtain ⟨_, _, q1, rfl, _, _, _, q2, rfl, _, q3, rfl, _, q4, rfl, _, q5, rfl, _, hz⟩ := hz
  have hyl := hy.length
  have hzl := hz.length
  rw [encTs_len] at hyl hzl
  obtain ⟨i, hi⟩ : ∃ i, i = l1.length := ⟨_, rfl⟩
  obtain ⟨m, hm⟩ : ∃ m, m = l2.length := ⟨_, rfl⟩
  have hlen : (l1 ++ x :: l2).length = i + 1 + m := by simp; omega
  have hlen2 : (l1 ++ l2).length = i + m := by simp; omega
  rw [hlen] at hcc hn ⊢
  rw [hlen2, ← hi]
  rw [← hi] at hyl
  rw [← hm] at hzl
  -- the worlds behind the append and behind the clear
  obtain ⟨W1, hW1⟩ : ∃ W1, W1 = w.drew.setCells g (i * 5) q5 := ⟨_, rfl⟩
  obtain ⟨W2, hW2⟩ : ∃ W2, W2 = W1.setCells g ((i + m) * 5) zeros := ⟨_, rfl⟩
  have hblk1 : Blk W1 g c := by rw [hW1]; exact Blk.set (w := w.drew) hblk _ _
  have hg1 : w.grownBy W1 (some g) := by
    have h := setCells_kept g q5 (i * 5) w.drew
    rw [hW1]
    exact ⟨h.os, h.tape, h.output, h.size, h.block⟩
  have hg2 : w.grownBy W2 (some g) := by
    have h := setCells_kept g zeros ((i + m) * 5) W1
    rw [hW2]
    exact ⟨h.os.trans hg1.os, h.tape.trans hg1.tape, h.output.trans hg1.output, Nat.le_trans hg1.size h.size, fun k hk hne => (h.block k (Nat.lt_of_lt_of_le hk hg1.size) hne).trans (hg1.block k hk hne)⟩
  have hfin : ∃ zs, GCells W2 S (encTs (l1 ++ l2)) zs ∧ ∀ j u, zs[j]? = some u → W2.cell? ⟨g, 0 + j, none⟩ = some u := by
    refine ⟨ys ++ q5, ?_, fun j u hu => ?_⟩
    · rw [encTs_app]
      exact (hy.app hz).keep (fun _ h => h) fun p hp => World.cell?_of_block (hg2.block p.block (hS _ hp).1 (fun e => (hS _ hp).2 (Option.some.inj e)))
    · have hj := (List.getElem?_eq_some_iff.1 hu).1
      rw [List.length_append, hyl, hzl] at hj
      rw [Nat.zero_add, hW2, World.cell?_setCells_out g _ _ _ _ (fun _ _ => Or.inl (by show j < _; omega)), hW1]
      by_cases hji : j < i * 5
      · rw [World.cell?_setCells_out g _ _ _ _ (fun _ _ => Or.inl hji)]
        have h2 := hcells j u (by rw [← hu, List.getElem?_append_left (by omega), List.getElem?_append_left (by omega)])
        rw [add_at, Nat.zero_add] at h2
        exact h2
      · have h3 := World.cell?_setCells_in g q5 (i * 5) w.drew (fun k hk => by
          have := (hblk (i * 5 + k) (by omega)).1
          exact this) (j - i * 5) (by omega)
        rw [show i * 5 + (j - i * 5) = j by omega] at h3
        rw [h3]
        rw [List.getElem?_append_right (by omega), hyl] at hu
        rw [← hu, List.getElem?_eq_getElem]
  have hq51 : ∀ u ∈ q5, u.oneCell' = true := hz.one
  have hsrc : ∃ A : Addr, (if c = i + 1 then some (⟨g, 0, none⟩ : Addr) else some ⟨g, (i + 1) * 5, none⟩) = some A ∧ Hid (∀ t u, q5[t]? = some u → w.drew.cell? (A.add t) = some u) := by
    by_cases h : c = i + 1
    · refine ⟨⟨g, 0, none⟩, by simp [h], fun t u hu => ?_⟩
      have h0 : q5.length = 0 := by omega
      rw [List.length_eq_zero_iff.1 h0] at hu
      simp at hu
    · refine ⟨⟨g, (i + 1) * 5, none⟩, by simp [h], fun t u hu => ?_⟩
      rw [add_at]
      have h2 := hcells (i * 5 + 5 + t) u (by
        rw [List.getElem?_append_right (by omega), hyl, show i * 5 + 5 + t - i * 5 = t + 5 by omega]
        exact hu)
      rw [add_at, Nat.zero_add] at h2
      rw [show (i + 1) * 5 + t = i * 5 + 5 + t by omega]
      exact h2
  obtain ⟨AS, hAS, hsrc⟩ := hsrc
  have s1 : Hid (q5.length = m * 5) := hzl
  have s2 : Hid (∀ u ∈ q5, u.oneCell' = true) := hq51
  have s3 : Hid (∀ t, t < q5.length → (w.drew.cell? ⟨g, 0 + i * 5 + t, none⟩).isSome = true ∧ w.drew.frozen? ⟨g, 0 + i * 5 + t, none⟩ = false) := fun t ht => by
    rw [hzl] at ht
    rw [Nat.zero_add]
    exact hblk (i * 5 + t) (by omega)
  have hcl : ∀ ty, (Builtin.clear_ #[61] ty #[.slice (some ⟨g, (i + m) * 5, none⟩) (i + 1 + m - (i + m)) (c - (i + m))]).run Tryz.prog W1 = .ok (.tuple #[]) W2 := fun ty => by
    rw [hW2, show i + 1 + m - (i + m) = 1 by omega]
    exact run_clear_one W1 ty g ((i + m) * 5) _ (fun j hj => (hblk1 _ (by omega)).1) (fun j hj => (hblk1 _ (by omega)).2)
  have hW : Hid (W1 = w.drew.setCells g (0 + i * 5) q5) := by rw [Nat.zero_add]; exact hW1
  have HF := Lib.hid hfin
  have HG := Lib.hid hg2
  obtain ⟨inf, hinf, hinf2⟩ : ∃ inf, Tryz.prog.info? 56 = some inf ∧ inf.size = 5 := by
    obtain ⟨inf, z, h1, _, h3, _⟩ := tstTy.info
    exact ⟨inf, h1, h3⟩
  clear hW1 hW2 hblk hblk1 hg1 hg2 hfin hcells hrow hy hz hq51 hcur hzl hlen hlen2 hi hm
  have hic : i ≤ c := by omega
  have hjc : i + 1 ≤ c := by omega
  have ha1 : (0 : Int) ≤ (i : Int) + 1 := by omega
  have ha2 : (i : Int) + 1 ≤ (i : Int) + 1 + (m : Int) := by omega
  have ha3 : (0 : Int) ≤ (i : Int) + (m : Int) := by omega
  have ha4 : (i : Int) + (m : Int) ≤ (i : Int) + 1 + (m : Int) := by omega
  have ha5 : (i : Int) + 1 + (m : Int) ≤ (c : Int) := by omega
  go_enter Tryz.func81, Tryz.ntmps81
  go_wp2
  go_region_law (refine step_append_room rfl (.tmp 22) (.tmp 25) 61 rfl 56 inf 5 Tryz.underlying61 hinf hinf2 g 0 i c (by simp [Act.eval, Act.put]) AS m (c - (i + 1)) q5 (by simp [Act.eval, Act.put]) s1.out hsrc.out s2.out (by omega) s3.out ?_; rw [← hW.out])
  go_wp2
  go_ret
  exact ⟨rfl, HF.out, HG.out⟩
end Go.Proofs.YtiinghgfojicdaaGreat
