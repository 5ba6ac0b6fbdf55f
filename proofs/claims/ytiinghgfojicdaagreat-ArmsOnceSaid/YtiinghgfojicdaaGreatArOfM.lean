/- arms.build and arms.Of: the tree of patterns. No conditions. -/
import Derived.Test.YtiinghgfojicdaaGreatArBuildM
import Derived.Test.YtiinghgfojicdaaGreatArPlain
import Derived.Test.YtiinghgfojicdaaGreatArTestsM
set_option linter.unusedVariables false
set_option linter.unusedSimpArgs false
namespace Go.Proofs.YtiinghgfojicdaaGreat
open Go.RowKit Go.RowG Go.FRow Go.GMem
set_option linter.unusedVariables false
set_option maxRecDepth 100000
attribute [local go_sem ↓] Go.wp_at_zero Go.wp_at_succ

theorem build_says : ∀ f, BuildSaid f
  | 0 => fun _ _ _ _ _ _ h => absurd h (Nat.not_lt_zero _)
  | f + 1 => by
    have hI := build_says f
    intro l A c w S hS htot hlen hfew h
    rcases l with _ | ⟨⟨a, ts⟩, l⟩
    · exact build_none f S A c w
    · rcases ts with _ | ⟨t, ts⟩
      · exact build_leaf f a l A c w S hS h
      · exact build_ask f hI a t ts l A c w S hS htot hlen hfew h
theorem rows_few {P : F} (hn : P.nodes ≤ 200) : ∀ x ∈ rowsF P 0, x.2.length ≤ 1000 ∧ ∀ y ∈ x.2, y.path.length ≤ 1000 := fun x hx => by
  obtain ⟨_, k, n, t, a, e, h1, h2⟩ := rowsF_mem hx
  rw [e]
  refine ⟨by have := tests1_nodes k n t a []; omega, fun y hy => ?_⟩
  have := (tests1_path hy).2.1
  simp at this
  omega
/-- One row: where it stands, and its tests. -/
theorem one_row {w : World} {S : Nat → Prop} {j : Nat} {ts : List T} {A : Option Addr} {c : Nat} (h : GRow w S A ts.length (encTs ts)) (h1 : ts.length ≤ c) (h2 : c ≤ maxLen) : GCells w S (encRs [(j, ts)]) [.int .i64 (j : Int), .slice A ts.length c] :=
  ⟨_, rfl, rfl, A, c, _, rfl, h1, h2, h, rfl⟩

set_option maxHeartbeats 8000000 in
theorem armsOf_says (P : F) (A : Option Addr) (c : Nat) (w : World) (h : RowAt w w.heap.size A P) (hn : P.nodes ≤ 200) (f : Nat) (hf : total (rowsF P 0) < f) : Calls Tryz.prog 22 #[.slice A P.len c] w (TreeEnds (fun _ => False) (buildR f (rowsF P 0)) w) := by
  obtain ⟨m, hm⟩ : ∃ m, m = P.len := ⟨_, rfl⟩
  have hml : m ≤ 200 := by have := P.len_nodes; omega
  have hrest := h.rest
  rw [← hm] at hrest
  rw [← hm]
  have HB := Lib.hid (build_says f)
  have HF := Lib.hid hf
  have HFEW := Lib.hid (rows_few hn)
  have HLEN := Lib.hid (show (rowsF P 0).length = m by rw [rowsF_len, hm])
  obtain ⟨W1, hW1⟩ : ∃ W1, W1 = w.alloc (.cells #[.bool false, .int .i64 0, .slice none 0 0, .int .i64 0, .int .i64 0, .string ⟨#[]⟩, .slice none 0 0, .slice none 0 0, .slice none 0 0] 59) := ⟨_, rfl⟩
  have hO : W1.heap[w.heap.size]? = some (.cells #[.bool false, .int .i64 0, .slice none 0 0, .int .i64 0, .int .i64 0, .string ⟨#[]⟩, .slice none 0 0, .slice none 0 0, .slice none 0 0] 59 (0, 0)) := by
    rw [hW1]
    exact heap_alloc_new w _
  have hb1 : Below w.heap.size w W1 := by rw [hW1]; exact (Below.refl _ _).alloc (Nat.le_refl _) _
  have hz1 : W1.heap.size = w.heap.size + 1 := by rw [hW1]; simp
  have HW1 := Lib.hid hW1
  have HO := Lib.hid hO
  clear hW1 hO hf h hm
  go_enter Tryz.func22, Tryz.ntmps22
  go_wp2
  go_loopw [3, 8] (fun v i wr => ∃ (j : Nat) (acc : List R) (r : F), j ≤ m ∧ i = .int .i64 j ∧ acc.length = j ∧ rowsF P 0 = acc ++ rowsF r j ∧ OwnG 126 2 wr (w.heap.size + 1) v j (encRs acc) ∧ Rest w w.heap.size A m j r ∧ r.nodes ≤ 200 ∧ Below W1.heap.size W1 wr) (fun _ i _ => m - (intOf i).toNat)
  case atStart => exact ⟨0, [], P, Nat.zero_le _, rfl, rfl, rfl, OwnG.nil _ _ _ _, hrest, hn, by rw [HW1.out]; exact Below.refl _ _⟩
  case round =>
    obtain ⟨j, acc, r, hj, rfl, hlen, hacc, hown, hre, hno, hb⟩ := hrel
    have hbs := hb.size
    have hbw : Below w.heap.size w wr := hb1.trans (hb.mono hb1.size)
    obtain ⟨A5, c5, rfl, h51, h52, hrow⟩ := hown.row (by decide)
    cases r with
    | nil =>
      obtain rfl : j = m := by have := hre.1; simp only [F.len] at this; omega
      simp only [rowsF, List.append_nil] at hacc
      have hcall : Calls Tryz.prog 52 #[.slice A5 j c5] wr (TreeEnds (fun b => w.heap.size + 1 ≤ b ∧ b < wr.heap.size) (buildR f acc) wr) := by
        have := HB.out acc A5 c5 wr (fun b => w.heap.size + 1 ≤ b ∧ b < wr.heap.size) (fun b h => h.2) (by rw [← hacc]; exact HF.out) (by omega) (by rw [← hacc]; exact HFEW.out) (by rw [hlen]; exact hrow)
        rwa [hlen] at this
      rw [← hacc] at hcall
      have hzr : wr.heap[w.heap.size]? = some (.cells #[.bool false, .int .i64 0, .slice none 0 0, .int .i64 0, .int .i64 0, .string ⟨#[]⟩, .slice none 0 0, .slice none 0 0, .slice none 0 0] 59 (0, 0)) := (hb.block _ (by omega)).trans HO.out
      clear hacc hown hrow hre
      go_wp2_with (first
        | (go_at_call 52
           (with_reducible refine hcall.mono ?_)
           rintro e w5 ⟨xs5, rfl, hg5, hb5⟩
           obtain ⟨b7, a7, A7, n7, c7, k7, m7, s7, A71, n71, c71, A72, n72, c72, rfl⟩ := tree_nine hg5
           have hz5 : w.heap.size < w5.heap.size := by have := hb5.size; omega
           have hzo := (hb5.block w.heap.size (by omega)).trans hzr
           have hx9 := own_nine hzo
           have y0 := hx9.1.1
           have y1 := hx9.1.2.1
           have y2 := hx9.1.2.2.1
           have y3 := hx9.1.2.2.2.1
           have y4 := hx9.1.2.2.2.2.1
           have y5 := hx9.1.2.2.2.2.2.1
           have y6 := hx9.1.2.2.2.2.2.2.1
           have y7 := hx9.1.2.2.2.2.2.2.2.1
           have y8 := hx9.1.2.2.2.2.2.2.2.2
           have f0 := hx9.2.1
           have f1 := hx9.2.2.1
           have f2 := hx9.2.2.2.1
           have f3 := hx9.2.2.2.2.1
           have f4 := hx9.2.2.2.2.2.1
           have f5 := hx9.2.2.2.2.2.2.1
           have f6 := hx9.2.2.2.2.2.2.2.1
           have f7 := hx9.2.2.2.2.2.2.2.2.1
           have f8 := hx9.2.2.2.2.2.2.2.2.2
           have HZO := Lib.hid hzo
           clear hx9 hzo hzr)
        | fail "none")
      refine bodyPost_ret (v := .agg #[.bool b7, .int .i64 a7, .slice A7 n7 c7, .int .i64 k7, .int .i64 m7, .string s7, .slice none 0 0, .slice A71 n71 c71, .slice A72 n72 c72]) (by simp [results, Tryz.results22, go_sem, *]) rfl ?_
      have hF := Filled.base HZO.out (v0 := .bool b7) (v1 := .int .i64 a7) (v2 := .slice A7 n7 c7) (v3 := .int .i64 k7) (v4 := .int .i64 m7) (v5 := .string s7) (v6 := .slice none 0 0) (v7 := .slice A71 n71 c71) (v8 := .slice A72 n72 c72)
      have hb5w : Below w.heap.size w w5 := hbw.trans (hb5.mono hbw.size)
      refine ⟨_, rfl, hg5.keep (fun b hb => Or.inr ?_) (fun p hp => World.cell?_of_block (hF.rest _ ?_ ?_)), hb5w.trans hF.below⟩
      · rcases hb with ⟨h1, h2⟩ | ⟨h1, h2⟩
        · exact ⟨by omega, by have := hF.size; have := hb5.size; omega⟩
        · exact ⟨by have := hbw.size; omega, by have := hF.size; omega⟩
      · rcases hp with ⟨h1, h2⟩ | ⟨h1, h2⟩
        · have := hb5.size; omega
        · exact h2
      · rcases hp with ⟨h1, h2⟩ | ⟨h1, h2⟩
        · omega
        · omega
    | cons k n t a r =>
      have hjm : j < m := by have := hre.1; simp only [F.len] at this; omega
      obtain ⟨ad, B, rc, rfl, hab, hc0, hc1, hc2, hc3, hrl, hrm, hra, hre'⟩ := hre.step
      simp only [F.nodes] at hno
      have hjm' : (j : Int) < (m : Int) := by omega
      have hj0 : (0 : Int) ≤ (j : Int) := Int.natCast_nonneg _
      have hcall : ∀ W : World, Below w.heap.size w W → Calls Tryz.prog 51 #[agg4 k n t B a.len rc, .slice none 0 0] W (TestsEnds (tests1 k n t a []) W) := fun W hW =>
        tests_head k n t a (tests_all a) B none rc 0 [] W (hra.keep hW.size fun p hp => hW.cell hp) hrl hrm (GRow.nil _ _ _ _) (fun _ => ⟨rfl, rfl⟩) (by simp; omega)
      obtain ⟨ts, hts⟩ : ∃ ts, ts = tests1 k n t a [] := ⟨_, rfl⟩
      have hacc' : rowsF P 0 = (acc ++ [(j, ts)]) ++ rowsF r (j + 1) := by rw [hacc, hts]; simp [rowsF]
      rw [← hts] at hcall
      have HACC := Lib.hid hacc'
      obtain ⟨tl, htl⟩ : ∃ tl, tl = ts.length := ⟨_, rfl⟩
      have HTL := Lib.hid htl
      obtain ⟨m', hm'⟩ : ∃ m', m' = a.len := ⟨_, rfl⟩
      rw [← hm'] at hcall hc3
      have d0 := (hbw.cell (p := ad.add (j * 4)) (by rw [add_block]; exact hab)).trans hc0
      have d1 := (hbw.cell (p := ⟨(ad.add (j * 4)).block, (ad.add (j * 4)).off + 1, none⟩) (by rw [add_block]; exact hab)).trans hc1
      have d2 := (hbw.cell (p := ⟨(ad.add (j * 4)).block, (ad.add (j * 4)).off + 2, none⟩) (by rw [add_block]; exact hab)).trans hc2
      have d3 := (hbw.cell (p := ⟨(ad.add (j * 4)).block, (ad.add (j * 4)).off + 3, none⟩) (by rw [add_block]; exact hab)).trans hc3
      have hbws := hbw.size
      clear hc0 hc1 hc2 hc3 hm' hts hacc hacc' htl
      go_wp2_with (first
        | (go_at_call 51
           (with_reducible refine (hcall _ (hbw.alloc hbws _)).mono ?_)
           rintro e w5 ⟨A6, c6, rfl, hrow6, h61, h62, hb6⟩
           rw [← HTL.out]
           rw [← HTL.out] at hrow6 h61
           have hb5 : Below wr.heap.size wr w5 := ((Below.refl _ _).alloc (Nat.le_refl _) _).trans (hb6.mono (by simp))
           obtain ⟨xs, hownr, hfc⟩ := hown.kept hb5
           have hs5 : wr.heap.size + 1 ≤ w5.heap.size := by have := hb6.size; simpa using this)
        | (at_builtin
           refine wpList_append_onez rowTy (by decide) w5 [.int .i64 (j : Int), .slice A6 tl c6] 126 w5.heap.size rfl rfl (.tmp 13) (.tmp 18) rfl (w.heap.size + 1) _ j xs rfl hownr rfl rfl (by simp [Value.oneCell']) (by omega) (by omega) ?_
           intro v7 w7 hown7 hg7 hv7)
        | fail "none")
      go_roundw
      case measure => simp [intOf]; omega
      case rel =>
        have hlt0 : ∀ gg, (Value.slice A5 j c5).ownBlock = some gg → gg < wr.heap.size := fun gg hg => (hown.low hg).2
        have hlow := fun gg (hg : (Value.slice A5 j c5).ownBlock = some gg) => (hownr.lt gg hg).1
        refine ⟨j + 1, acc ++ [(j, ts)], r, by omega, by go_num, by simp [hlen], HACC.out, ?_, hre', by omega, ?_⟩
        · rw [encRs_app]
          refine OwnG.snoc (o := .cells #[.int .i64 (j : Int), .slice A6 tl c6] 126) hfc ?_ hown7 hg7 hv7
          rw [HTL.out] at h61 hrow6 ⊢
          refine one_row (hrow6.mono fun b hb => ⟨by have := hb.1; simp at this; omega, hb.2, fun e => ?_⟩) h61 h62
          have := hlt0 b e.symm
          have := hb.1
          simp at this
          omega
        · exact ((hb.trans (hb5.mono hbs)).alloc (by omega) _).grown hg7 (by simp; omega) (fun b hb => by have := hlow b hb; omega)
end Go.Proofs.YtiinghgfojicdaaGreat
