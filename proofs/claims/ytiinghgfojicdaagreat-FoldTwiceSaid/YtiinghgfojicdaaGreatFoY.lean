/- A part of the proof of FoldTwice: slices.Repeat. No conditions. -/
import Derived.Laws.CopyOwn
import Derived.Test.YtiinghgfojicdaaGreatFoT
import Derived.Deep.RegionLaw
set_option linter.unusedVariables false
set_option linter.unusedSimpArgs false
namespace Go.Proofs.YtiinghgfojicdaaGreat
open Go.RowKit Go.RowG Go.FRow Go.GMem
set_option linter.unusedVariables false
attribute [local go_sem ↓] Go.wp_at_zero Go.wp_at_succ
def MulEnds (m : Int) (w : World) (e : Ending) (w' : World) : Prop := e = .returned (.tuple #[.int .u64 0, .int .u64 m]) ∧ w' = w
set_option maxRecDepth 100000 in
set_option maxHeartbeats 4000000 in
theorem mul64_says (m : Int) (hm : m = 0 ∨ m = 1 ∨ m = 2) (w : World) : Calls Tryz.prog 131 #[.int .u64 1, .int .u64 m] w (MulEnds m w) := by
  rcases hm with rfl | rfl | rfl
  · go_enter Tryz.func131, Tryz.ntmps131
    go_wp2
    refine bodyPost_ret (v := .tuple #[.int .u64 0, .int .u64 0]) (by
      simp [results, Tryz.results131, go_sem, *]
      decide +kernel) rfl ?_
    exact ⟨rfl, rfl⟩
  · go_enter Tryz.func131, Tryz.ntmps131
    go_wp2
    refine bodyPost_ret (v := .tuple #[.int .u64 0, .int .u64 1]) (by
      simp [results, Tryz.results131, go_sem, *]
      decide +kernel) rfl ?_
    exact ⟨rfl, rfl⟩
  · go_enter Tryz.func131, Tryz.ntmps131
    go_wp2
    refine bodyPost_ret (v := .tuple #[.int .u64 0, .int .u64 2]) (by
      simp [results, Tryz.results131, go_sem, *]
      decide +kernel) rfl ?_
    exact ⟨rfl, rfl⟩
set_option maxRecDepth 100000 in
set_option maxHeartbeats 4000000 in
theorem mul_says (m : Int) (hm : m = 0 ∨ m = 1 ∨ m = 2) (w : World) : Calls Tryz.prog 101 #[.int .u64 1, .int .u64 m] w (MulEnds m w) := by
  have h64 := mul64_says m hm w
  go_enter Tryz.func101, Tryz.ntmps101
  go_wp2_with (first
    | (go_at_call 131
       (with_reducible refine h64.mono ?_)
       rintro e w2 ⟨rfl, rfl⟩)
    | fail "none")
  refine bodyPost_ret (v := .tuple #[.int .u64 0, .int .u64 m]) (by simp [results, Tryz.results101, go_sem, *]; done) rfl ?_
  exact ⟨rfl, rfl⟩
theorem mk0 (w : World) : (Instr.makeSlice 46 (.int .i64 0) (.int .i64 0)).run Tryz.prog w = .ok (.slice (some ⟨w.heap.size, 0, none⟩) 0 0) (w.alloc (.cells #[] 72)) := by kernel_rfl
theorem mk1 (w : World) : (Instr.makeSlice 46 (.int .i64 1) (.int .i64 1)).run Tryz.prog w = .ok (.slice (some ⟨w.heap.size, 0, none⟩) 1 1) (w.alloc (.cells #[.int .i64 0, .string ⟨#[]⟩, .slice none 0 0] 72)) := by kernel_rfl
theorem mk2 (w : World) : (Instr.makeSlice 46 (.int .i64 2) (.int .i64 2)).run Tryz.prog w = .ok (.slice (some ⟨w.heap.size, 0, none⟩) 2 2) (w.alloc (.cells #[.int .i64 0, .string ⟨#[]⟩, .slice none 0 0, .int .i64 0, .string ⟨#[]⟩, .slice none 0 0] 72)) := by kernel_rfl
abbrev oneT : List Value := [.int .i64 1, .string ⟨#[]⟩, .slice none 0 0]
theorem size_tType : (Tryz.prog.info? 72).map (·.size) = some 3 := by kernel_rfl
theorem run_copyT (w : World) (ty : TypeId) (g o dLen dCap : Nat) (a : Addr) (sLen sCap : Nat) (cur : Array Value) (hg : w.heap[g]? = some (.cells cur 72 (0, 0))) (hn : Nat.min sLen dLen = 1)
    (hsrc : ∀ j v, oneT[j]? = some v → w.cell? (a.add j) = some v) (hfit : o + 3 ≤ cur.size) :
    (Builtin.copy_ #[46, 46] ty #[.slice (some ⟨g, o, none⟩) dLen dCap, .slice (some a) sLen sCap]).run Tryz.prog w = .ok (goInt 1) (w.setRow g (cur.toList.take o ++ oneT ++ cur.toList.drop (o + 3)).toArray) := by
  have hl := run_loadCells_list (P := Tryz.prog) w a oneT hsrc
  have hst := run_storeCells_at Tryz.prog g o 72 oneT 0 cur w hg (by simpa using hfit) (by simp [Value.oneCell'])
  have hs := size_tType
  cases hq : Tryz.prog.info? 72 with
  | none => simp [hq] at hs
  | some i =>
    have hi : i.size = 3 := by simpa [hq] using hs
    have hl' : (loadCells a 3).run Tryz.prog w = .ok oneT.toArray w := hl
    simp [Builtin.copy_, run_underlying Tryz.underlying46, Builtin.lenOf, Builtin.firstCells, sizeOf, typeInfo, hq, hi, hn, hl', hst]
theorem run_copy0 (w : World) (ty : TypeId) (d a : Option Addr) (dLen dCap sLen sCap : Nat) (hn : Nat.min sLen dLen = 0) :
    (Builtin.copy_ #[46, 46] ty #[.slice d dLen dCap, .slice a sLen sCap]).run Tryz.prog w = .ok (goInt 0) w := by
  have hs := size_tType
  cases hq : Tryz.prog.info? 72 with
  | none => simp [hq] at hs
  | some i =>
    have hi : i.size = 3 := by simpa [hq] using hs
    have h0 : ∀ a, (loadCells a 0).run Tryz.prog w = .ok #[] w := fun a => run_loadCells_list (P := Tryz.prog) w a [] (by simp)
    cases d <;> cases a <;> simp [Builtin.copy_, run_underlying Tryz.underlying46, Builtin.lenOf, Builtin.firstCells, sizeOf, typeInfo, hq, hn, h0, storeCells]
theorem wpList_copyT {w : World} {ops : Array Oper} {rest : List Oper} {o : Oper} {a : Act} {Q : Exit → Act → World → Prop} (hgd : o.guard = none) (d s : Operand)
    (ho : o.op = .call { callee := .builtin .copy, args := #[d, s], argTypes := #[46, 46] }) (x y v : Value) (w' : World) (hd : a.eval d = x) (hs : a.eval s = y) (hrun : (Builtin.copy_ #[46, 46] o.type #[x, y]).run Tryz.prog w = .ok v w')
    (h : wpList Tryz.prog ops Q rest (a.put o.dst v) w') : wpList Tryz.prog ops Q (o :: rest) a w := by
  refine wpList_plain hgd fun K hK => ?_
  unfold Oper.wp
  simp [execOp, ho, resolve, invoke, builtin, hd, hs, hrun, Result.andThen]
  exact hK _ _ h
theorem step_copyT {ops : Array Oper} {o : Oper} {a : Act} {w : World} {K : Act → World → Prop} {Q : Exit → Act → World → Prop} {E : Prop} (hgd : o.guard = none) (d s : Operand)
    (ho : o.op = .call { callee := .builtin .copy, args := #[d, s], argTypes := #[46, 46] }) (x y v : Value) (w' : World) (hd : a.eval d = x) (hs : a.eval s = y) (hrun : (Builtin.copy_ #[46, 46] o.type #[x, y]).run Tryz.prog w = .ok v w')
    (h : K (a.put o.dst v) w') : if Region.wanted o (yielded ops a.tmps) = true then Oper.wp Tryz.prog o a w K Q else E := by
  have hw : Region.wanted o (yielded ops a.tmps) = true := by simp [Region.wanted, hgd]
  rw [if_pos hw]
  unfold Oper.wp
  simp [execOp, ho, resolve, invoke, builtin, hd, hs, hrun, Result.andThen]
  exact h
end Go.Proofs.YtiinghgfojicdaaGreat
namespace Go.Proofs.YtiinghgfojicdaaGreat
open Go.RowKit Go.RowG Go.FRow Go.GMem
set_option linter.unusedVariables false
attribute [local go_sem ↓] Go.wp_at_zero Go.wp_at_succ
def RepEnds (m : Nat) (w : World) (e : Ending) (w' : World) : Prop := ∃ A c, e = .returned (.slice A m c) ∧ GRow w' (since w.heap.size w') A m (encY m) ∧ m ≤ c ∧ c ≤ maxLen ∧ Below w.heap.size w w'
theorem types_row {w : World} {g B : Nat} (hB : B ≤ g) : ∀ {m : Nat} {cur : List Value}, w.heap[g]? = some (.cells cur.toArray 72 (0, 0)) → GCells w (since B w) (encY m) cur → GRow w (since B w) (some ⟨g, 0, none⟩) m (encY m) := by
  intro m cur hg hc _
  exact ⟨g, 0, cur, rfl, ⟨hB, (Array.getElem?_eq_some_iff.1 hg).1⟩, hc, fun i u hu => by
    rw [Nat.zero_add]
    simp [World.cell?, hg, hu]⟩
set_option maxRecDepth 100000 in
set_option maxHeartbeats 4000000 in
theorem rep0 (w : World) (z : Nat) : Calls Tryz.prog 72 #[.slice (some ⟨z, 0, none⟩) 1 1, .int .i64 0] w (RepEnds 0 w) := by
  have hmk := mk0 w
  have hmul := mul_says 0 (Or.inl rfl) w
  have hcp : ∀ ty, (Builtin.copy_ #[46, 46] ty #[.slice (some ⟨w.heap.size, 0, none⟩) 0 0, .slice (some ⟨z, 0, none⟩) 1 1]).run Tryz.prog (w.alloc (.cells #[] 72)) = .ok (goInt 0) (w.alloc (.cells #[] 72)) := fun ty => run_copy0 _ _ _ _ _ _ _ _ rfl
  go_enter Tryz.func72, Tryz.ntmps72
  go_wp2_with (first
    | (go_at_call 101
       (with_reducible refine hmul.mono ?_)
       rintro e w2 ⟨rfl, hw⟩
       rw [hw])
    | (at_builtin
       refine wpList_copyT rfl (.tmp 31) (.tmp 32) rfl _ _ _ _ rfl rfl (hcp _) ?_)
    | fail "none")
  go_loopw [8] (fun i wr => i = .int .i64 0 ∧ wr = w.alloc (.cells #[] 72)) (fun _ _ => 0)
  case atStart => exact ⟨rfl, rfl⟩
  case round =>
    obtain ⟨rfl, rfl⟩ := hrel
    go_wp2
    go_ret
    exact ⟨_, _, rfl, GRow.nil _ _ _ _, Nat.le_refl _, Nat.zero_le _, (Below.refl _ _).alloc (Nat.le_refl _) _⟩
set_option maxRecDepth 100000 in
set_option maxHeartbeats 4000000 in
theorem rep1 (w : World) (z : Nat) (hz : w.heap[z]? = some (.cells #[.int .i64 1, .string ⟨#[]⟩, .slice none 0 0] 72 (0, 0))) : Calls Tryz.prog 72 #[.slice (some ⟨z, 0, none⟩) 1 1, .int .i64 1] w (RepEnds 1 w) := by
  have hzl : z < w.heap.size := (Array.getElem?_eq_some_iff.1 hz).1
  have hmk := mk1 w
  have hmul := mul_says 1 (Or.inr (Or.inl rfl)) w
  obtain ⟨W1, hW1⟩ : ∃ W1, W1 = (w.alloc (.cells #[.int .i64 0, .string ⟨#[]⟩, .slice none 0 0] 72)).setRow w.heap.size #[.int .i64 1, .string ⟨#[]⟩, .slice none 0 0] := ⟨_, rfl⟩
  have hcp : ∀ ty, (Builtin.copy_ #[46, 46] ty #[.slice (some ⟨w.heap.size, 0, none⟩) 1 1, .slice (some ⟨z, 0, none⟩) 1 1]).run Tryz.prog (w.alloc (.cells #[.int .i64 0, .string ⟨#[]⟩, .slice none 0 0] 72)) = .ok (goInt 1) W1 := fun ty => by
    rw [hW1]
    exact run_copyT _ _ _ 0 _ _ ⟨z, 0, none⟩ _ _ #[.int .i64 0, .string ⟨#[]⟩, .slice none 0 0] (heap_alloc_new w _) rfl (fun j v hj => World.news_of_block ((heap_alloc_old w _ hzl).trans hz) j v hj) (by decide)
  have hg1 : W1.heap[w.heap.size]? = some (.cells #[.int .i64 1, .string ⟨#[]⟩, .slice none 0 0] 72 (0, 0)) := by rw [hW1]; exact setRow_heap _ _ _ _ _ _ (heap_alloc_new w _)
  have hb1 : Below w.heap.size w W1 := by rw [hW1]; exact below_setRow ((Below.refl _ _).alloc (Nat.le_refl _) _) (Nat.le_refl _) _
  have HW := Lib.hid hW1
  have HG := Lib.hid hg1
  clear hW1 hg1
  go_enter Tryz.func72, Tryz.ntmps72
  go_wp2_with (first
    | (go_at_call 101
       (with_reducible refine hmul.mono ?_)
       rintro e w2 ⟨rfl, hw⟩
       rw [hw])
    | (at_builtin
       refine wpList_copyT rfl (.tmp 31) (.tmp 32) rfl _ _ _ _ rfl rfl (hcp _) ?_)
    | fail "none")
  go_loopw [8] (fun i wr => i = .int .i64 1 ∧ wr = W1) (fun _ _ => 0)
  case atStart => exact ⟨rfl, rfl⟩
  case round =>
    obtain ⟨rfl, rfl⟩ := hrel
    go_wp2
    go_ret
    exact ⟨_, _, rfl, types_row (Nat.le_refl _) (cur := [.int .i64 1, .string ⟨#[]⟩, .slice none 0 0]) HG.out ⟨_, rfl, rfl, _, rfl, rfl, _, rfl, rfl, rfl⟩, Nat.le_refl _, by decide, hb1⟩
set_option maxRecDepth 100000 in
set_option maxHeartbeats 4000000 in
theorem rep2 (w : World) (z : Nat) (hz : w.heap[z]? = some (.cells #[.int .i64 1, .string ⟨#[]⟩, .slice none 0 0] 72 (0, 0))) : Calls Tryz.prog 72 #[.slice (some ⟨z, 0, none⟩) 1 1, .int .i64 2] w (RepEnds 2 w) := by
  have hzl : z < w.heap.size := (Array.getElem?_eq_some_iff.1 hz).1
  have hmk := mk2 w
  have hmul := mul_says 2 (Or.inr (Or.inr rfl)) w
  obtain ⟨W1, hW1⟩ : ∃ W1, W1 = (w.alloc (.cells #[.int .i64 0, .string ⟨#[]⟩, .slice none 0 0, .int .i64 0, .string ⟨#[]⟩, .slice none 0 0] 72)).setRow w.heap.size #[.int .i64 1, .string ⟨#[]⟩, .slice none 0 0, .int .i64 0, .string ⟨#[]⟩, .slice none 0 0] := ⟨_, rfl⟩
  have hcp : ∀ ty, (Builtin.copy_ #[46, 46] ty #[.slice (some ⟨w.heap.size, 0, none⟩) 2 2, .slice (some ⟨z, 0, none⟩) 1 1]).run Tryz.prog (w.alloc (.cells #[.int .i64 0, .string ⟨#[]⟩, .slice none 0 0, .int .i64 0, .string ⟨#[]⟩, .slice none 0 0] 72)) = .ok (goInt 1) W1 := fun ty => by
    rw [hW1]
    exact run_copyT _ _ _ 0 _ _ ⟨z, 0, none⟩ _ _ #[.int .i64 0, .string ⟨#[]⟩, .slice none 0 0, .int .i64 0, .string ⟨#[]⟩, .slice none 0 0] (heap_alloc_new w _) rfl (fun j v hj => World.news_of_block ((heap_alloc_old w _ hzl).trans hz) j v hj) (by decide)
  have hg1 : W1.heap[w.heap.size]? = some (.cells #[.int .i64 1, .string ⟨#[]⟩, .slice none 0 0, .int .i64 0, .string ⟨#[]⟩, .slice none 0 0] 72 (0, 0)) := by rw [hW1]; exact setRow_heap _ _ _ _ _ _ (heap_alloc_new w _)
  have hb1 : Below w.heap.size w W1 := by rw [hW1]; exact below_setRow ((Below.refl _ _).alloc (Nat.le_refl _) _) (Nat.le_refl _) _
  obtain ⟨W2, hW2⟩ : ∃ W2, W2 = W1.drew.setRow w.heap.size #[.int .i64 1, .string ⟨#[]⟩, .slice none 0 0, .int .i64 1, .string ⟨#[]⟩, .slice none 0 0] := ⟨_, rfl⟩
  have hcp2 : ∀ ty, (Builtin.copy_ #[46, 46] ty #[.slice (some ⟨w.heap.size, 3, none⟩) 1 1, .slice (some ⟨w.heap.size, 0, none⟩) 1 2]).run Tryz.prog W1.drew = .ok (goInt 1) W2 := fun ty => by
    rw [hW2]
    exact run_copyT _ _ _ 3 _ _ ⟨w.heap.size, 0, none⟩ _ _ #[.int .i64 1, .string ⟨#[]⟩, .slice none 0 0, .int .i64 0, .string ⟨#[]⟩, .slice none 0 0] hg1 rfl (fun j v hj => World.news_of_block (w := W1.drew) hg1 j v (by
      have hl := (List.getElem?_eq_some_iff.1 hj).1
      have : j = 0 ∨ j = 1 ∨ j = 2 := by simp at hl; omega
      rcases this with rfl | rfl | rfl <;> exact hj)) (by decide)
  have hg2 : W2.heap[w.heap.size]? = some (.cells #[.int .i64 1, .string ⟨#[]⟩, .slice none 0 0, .int .i64 1, .string ⟨#[]⟩, .slice none 0 0] 72 (0, 0)) := by rw [hW2]; exact setRow_heap _ _ _ _ _ (0, 0) hg1
  have hb2 : Below w.heap.size w W2 := by rw [hW2]; exact below_setRow hb1.drew (Nat.le_refl _) _
  have HW := Lib.hid hW1
  have HG := Lib.hid hg2
  clear hW1 hg1 hW2 hg2
  go_enter Tryz.func72, Tryz.ntmps72
  go_wp2_with (first
    | (go_at_call 101
       (with_reducible refine hmul.mono ?_)
       rintro e w2 ⟨rfl, hw⟩
       rw [hw])
    | (at_builtin
       refine wpList_copyT rfl (.tmp 31) (.tmp 32) rfl _ _ _ _ rfl rfl (hcp _) ?_)
    | fail "none")
  go_loopw [8] (fun i wr => (i = .int .i64 1 ∧ wr = W1) ∨ (i = .int .i64 2 ∧ wr = W2)) (fun i _ => 2 - (intOf i).toNat)
  case atStart => exact Or.inl ⟨rfl, rfl⟩
  case round =>
    rcases hrel with ⟨rfl, rfl⟩ | ⟨rfl, rfl⟩
    · go_wp2
      go_region_law (first
        | (refine step_copyT rfl (.tmp 41) (.tmp 44) rfl (.slice (some ⟨w.heap.size, 3, none⟩) 1 1) (.slice (some ⟨w.heap.size, 0, none⟩) 1 2) _ _ (by simp [Act.eval, Act.put]) (by simp [Act.eval, Act.put]) (hcp2 _) ?_)
        | fail "none")
      all_goals
        have hw2 : IntKind.i64.wrap 2 = 2 := by decide
        go_simp
        go_wp2
        go_roundw
        case measure => simp [intOf]
        case rel => exact Or.inr ⟨rfl, trivial⟩
    · go_wp2
      go_ret
      exact ⟨_, _, rfl, types_row (Nat.le_refl _) (cur := [.int .i64 1, .string ⟨#[]⟩, .slice none 0 0, .int .i64 1, .string ⟨#[]⟩, .slice none 0 0]) HG.out ⟨_, rfl, rfl, _, rfl, rfl, _, rfl, rfl, _, rfl, rfl, _, rfl, rfl, _, rfl, rfl, rfl⟩, Nat.le_refl _, by decide, hb2⟩
theorem rep_says (m : Nat) (hm : m ≤ 2) (w : World) (z : Nat) (hz : w.heap[z]? = some (.cells #[.int .i64 1, .string ⟨#[]⟩, .slice none 0 0] 72 (0, 0))) : Calls Tryz.prog 72 #[.slice (some ⟨z, 0, none⟩) 1 1, .int .i64 (m : Int)] w (RepEnds m w) := by
  have h3 : m = 0 ∨ m = 1 ∨ m = 2 := by omega
  rcases h3 with rfl | rfl | rfl
  · exact rep0 w z
  · exact rep1 w z hz
  · exact rep2 w z hz
set_option maxRecDepth 100000 in
theorem ty_says (w : World) : Calls Tryz.prog 29 #[.int .i64 1, .slice none 0 0] w fun e w' => e = .returned (.agg #[.int .i64 1, .string ⟨#[]⟩, .slice none 0 0]) ∧ Below w.heap.size w w' := by
  go_enter Tryz.func29, Tryz.ntmps29
  go_wp2
  refine bodyPost_ret (v := .agg #[.int .i64 1, .string ⟨#[]⟩, .slice none 0 0]) (by simp [results, Tryz.results29, go_sem, *]) rfl ?_
  exact ⟨rfl, (Below.refl _ _).alloc (Nat.le_refl _) _⟩
end Go.Proofs.YtiinghgfojicdaaGreat
namespace Go.Proofs.YtiinghgfojicdaaGreat
open Go.RowKit Go.RowG Go.FRow Go.GMem
set_option linter.unusedVariables false
theorem Dice.flag {w : World} {g : Nat} {A : Option Addr} {n c k : Nat} {b : Bool} (h : Dice w g A n c k b) (b' : Bool) : Dice (w.setCell ⟨g, 2, none⟩ (.bool b')) g A n c k b' := by
  unfold Dice at *
  simp [World.setCell, Array.getElem?_modify, h]
theorem Mk.flag {g n c k z : Nat} {A : Option Addr} {w0 w W : World} {K : Int} {b : Bool} {v1 v2 v3 v4 v5 v6 : Value} (h : Mk g A n c w0 w z K k b W v1 v2 v3 v4 v5 v6) (b' : Bool) : Mk g A n c w0 w z K k b' (W.setCell ⟨g, 2, none⟩ (.bool b')) v1 v2 v3 v4 v5 v6 :=
  h.rolled (Rolled.setz W g 2 (.bool b')) (h.dice.flag b')
/-- The names' block. -/
structure NR (w : World) (z : Nat) (W : World) (zx : Nat) : Prop where
  heap : W.heap[zx]? = some (.cells #[.string ⟨#[120]⟩, .string ⟨#[121]⟩] 9 (0, 0))
  lo : w.heap.size < zx
  ne : zx ≠ z
theorem NR.new {w W : World} {z : Nat} (hw : w.heap.size < z) (hz : z < W.heap.size) : NR w z (W.alloc (.cells #[.string ⟨#[120]⟩, .string ⟨#[121]⟩] 9)) W.heap.size := ⟨heap_alloc_new W _, by omega, by omega⟩
theorem NR.alloc {w W : World} {z zx : Nat} (h : NR w z W zx) (o : Obj) : NR w z (W.alloc o) zx := ⟨(heap_alloc_old W o (Array.getElem?_eq_some_iff.1 h.heap).1).trans h.heap, h.lo, h.ne⟩
theorem NR.rolled {w W W' : World} {z zx g : Nat} (h : NR w z W zx) (hr : Rolled g W W') (hg : g < w.heap.size) : NR w z W' zx := ⟨(hr.block zx (Array.getElem?_eq_some_iff.1 h.heap).1 (by have := h.lo; omega)).trans h.heap, h.lo, h.ne⟩
theorem NR.set {w W : World} {z zx : Nat} (h : NR w z W zx) (i : Nat) (v : Value) : NR w z (W.setCell ⟨z, i, none⟩ v) zx := ⟨(Below.heap_setCell W ⟨z, i, none⟩ v zx h.ne).trans h.heap, h.lo, h.ne⟩
theorem NR.row {w W : World} {z zx : Nat} (h : NR w z W zx) (p : Nat) (hp : p ≤ 2) : ∃ ns : List ByteArray, ns.length = p ∧ RowM w z W (some ⟨zx, 0, none⟩) p (encS ns) := by
  have hzx := (Array.getElem?_eq_some_iff.1 h.heap).1
  have h3 : p = 0 ∨ p = 1 ∨ p = 2 := by omega
  rcases h3 with rfl | rfl | rfl
  · exact ⟨[], rfl, GRow.nil _ _ _ _⟩
  · refine ⟨[⟨#[120]⟩], rfl, fun _ => ⟨zx, 0, [.string ⟨#[120]⟩], rfl, ⟨h.lo, hzx, h.ne⟩, ⟨_, rfl, rfl, rfl⟩, fun i u hu => ?_⟩⟩
    have hl := (List.getElem?_eq_some_iff.1 hu).1
    obtain rfl : i = 0 := by simp at hl; omega
    simp at hu
    subst hu
    simp [World.cell?, h.heap]
  · refine ⟨[⟨#[120]⟩, ⟨#[121]⟩], rfl, fun _ => ⟨zx, 0, [.string ⟨#[120]⟩, .string ⟨#[121]⟩], rfl, ⟨h.lo, hzx, h.ne⟩, ⟨_, rfl, rfl, _, rfl, rfl, rfl⟩, fun i u hu => ?_⟩⟩
    have hl := (List.getElem?_eq_some_iff.1 hu).1
    have h2 : i = 0 ∨ i = 1 := by simp at hl; omega
    rcases h2 with rfl | rfl
    · simp at hu
      subst hu
      simp [World.cell?, h.heap]
    · simp at hu
      subst hu
      simp [World.cell?, h.heap]
/-- Behind the names and the body. -/
def Fun1 (g : Nat) (A : Option Addr) (n c : Nat) (w0 w : World) (z k2 R N : Nat) (b : Bool) (W : World) : Prop :=
  ∃ (p : Nat) (An : Option Addr) (cn k4 : Nat) (ns : List ByteArray) (x : X) (A4 : Option Addr) (c4 : Nat), p ≤ 2 ∧ ns.length = p ∧ p ≤ cn ∧ cn ≤ maxLen ∧ RowM w z W An p (encS ns) ∧ RowM w z W A4 1 (encX false x) ∧ x.len = 1 ∧ 1 ≤ c4 ∧ c4 ≤ maxLen ∧ sizeX false x ≤ 1 * N ∧ smallX x ∧ k4 ≤ k2 + 1 + 1 * R ∧
    Mk g A n c w0 w z 10 k4 b W (.int .i64 0) (.string ⟨#[]⟩) (.slice An p cn) (.slice none 0 0) (.slice A4 1 c4) (.slice none 0 0)
theorem Fun1.of {g n c z k2 k4 R N p zx : Nat} {A A4 : Option Addr} {c4 : Nat} {w0 w W : World} {b : Bool} {x : X} (hp : p < 3) (hM : Mk g A n c w0 w z 10 k4 b W (.int .i64 0) (.string ⟨#[]⟩) (.slice (some ⟨zx, 0, none⟩) p 2) (.slice none 0 0) (.slice A4 1 c4) (.slice none 0 0)) (hN : NR w z W zx) (hr : RowM w z W A4 1 (encX false x)) (hl : x.len = 1) (h1 : 1 ≤ c4) (h2 : c4 ≤ maxLen) (hs : sizeX false x ≤ 1 * N) (hsm : smallX x) (hk : k4 ≤ k2 + 1 + 1 * R) : Fun1 g A n c w0 w z k2 R N b W := by
  obtain ⟨ns, hns, hrow⟩ := hN.row p (by omega)
  exact ⟨p, _, 2, k4, ns, x, A4, c4, by omega, hns, by omega, by decide, hrow, hr, hl, h1, h2, hs, hsm, hk, hM⟩
theorem Fun1.flag {g n c z k2 R N : Nat} {A : Option Addr} {w0 w W : World} {b : Bool} (h : Fun1 g A n c w0 w z k2 R N b W) (b' : Bool) : Fun1 g A n c w0 w z k2 R N b' (W.setCell ⟨g, 2, none⟩ (.bool b')) := by
  obtain ⟨p, An, cn, k4, ns, x, A4, c4, h1, h2, h3, h4, h5, h6, h7, h8, h9, h10, h11, h12, h13⟩ := h
  have hr := Rolled.setz W g 2 (.bool b')
  exact ⟨p, An, cn, k4, ns, x, A4, c4, h1, h2, h3, h4, h5.rolled hr h13.lo, h6.rolled hr h13.lo, h7, h8, h9, h10, h11, h12, h13.flag b'⟩
theorem Mk.below {g n c k z : Nat} {A : Option Addr} {w0 w W : World} {K : Int} {b : Bool} {v1 v2 v3 v4 v5 v6 : Value} {W' : World} (h : Mk g A n c w0 w z K k b W v1 v2 v3 v4 v5 v6) (hb : Below W.heap.size W W') : Mk g A n c w0 w z K k b W' v1 v2 v3 v4 v5 v6 := h.rolled (Rolled.of_below hb) (h.dice.keep hb)
theorem Mk.close_fun {g n c k z : Nat} {A : Option Addr} {w0 w W : World} {K : Int} {b : Bool} {v1 v2 v3 v4 v5 v6 : Value} {k0 R N m cn ct c4 : Nat} {An At A4 : Option Addr} {ns : List ByteArray} {x : X} (h : Mk g A n c w0 w z K k b W v1 v2 v3 v4 v5 v6) (hk : k ≤ k0 + R) (hm : m ≤ 100) (hrn : RowM w z W An m (encS ns)) (hns : ns.length = m) (h1 : m ≤ cn) (h2 : cn ≤ maxLen) (hrt : RowM w z W At m (encY m)) (h3 : m ≤ ct) (h4 : ct ≤ maxLen) (hra : RowM w z W A4 1 (encX false x)) (hl : x.len = 1) (h5 : 1 ≤ c4) (h6 : c4 ≤ maxLen) (hN : 1 + sizeX false x ≤ N) (hs : smallX x) (u0 u1 u2 u3 u4 u5 u6 u7 : Value) :
    ExGen g A n c k0 b R N w (.returned (.agg #[.int .i64 10, .int .i64 0, .string ⟨#[]⟩, .slice An m cn, .slice At m ct, .slice A4 1 c4, .slice none 0 0, .int .i64 0])) ((((((((W.setCell ⟨w.heap.size, 0, none⟩ u0).setCell ⟨w.heap.size, 1, none⟩ u1).setCell ⟨w.heap.size, 2, none⟩ u2).setCell ⟨w.heap.size, 3, none⟩ u3).setCell ⟨w.heap.size, 4, none⟩ u4).setCell ⟨w.heap.size, 5, none⟩ u5).setCell ⟨w.heap.size, 6, none⟩ u6).setCell ⟨w.heap.size, 7, none⟩ u7) := by
  subst hns
  have hra' : RowM w z W A4 x.len (encX false x) := by rw [hl]; exact hra
  have := h.close (E := ⟨⟨10, 0, ⟨#[]⟩, ns, ns.length⟩, x, .nil⟩) (q := ⟨An, cn, At, ct, A4, c4, none, 0⟩) hk ⟨hrn.open, hrt.open, hra'.open, GRow.nil _ _ _ _, ⟨h1, h2⟩, ⟨h3, h4⟩, ⟨by rw [hl]; exact h5, h6⟩, ⟨Nat.le_refl _, Nat.zero_le _⟩⟩ (by simpa [Ex.size, sizeX] using hN) ⟨⟨hm, hm, (show (⟨#[]⟩ : ByteArray).size ≤ 100 by decide)⟩, hs, trivial⟩ u0 u1 u2 u3 u4 u5 u6 u7
  simp only [agg8, hl] at this
  exact this
end Go.Proofs.YtiinghgfojicdaaGreat
