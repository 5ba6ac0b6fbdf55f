/- code.Spread of arms is a new row of integers, the arms one behind the other; all memory that was there stays as it was. For arms that spread to at most 100000 integers. -/
import Derived.Test.YteaennegcnlpgaaGreatCsWords
import Derived.Maps.AppendAt
import Derived.Deep.AppendLies
import Derived.Deep.RegionHeld3
import Derived.Deep.DrawnRows
import Derived.RegionTactic
import Derived.OwnWalk
import Derived.Lib.Hide
namespace Go.Proofs.YteaennegcnlpgaaGreat
open Go.RowKit

def intsV (L : List Int) : List Value := L.map (Value.int .i64)
theorem intsV_length (L : List Int) : (intsV L).length = L.length := by simp [intsV]
theorem intsV_append (L M : List Int) : intsV (L ++ M) = intsV L ++ intsV M := by simp [intsV]
theorem intsV_get {L : List Int} {j : Nat} {u : Value} (h : (intsV L)[j]? = some u) : ∃ x, L[j]? = some x ∧ u = .int .i64 x := by
  simp only [intsV, List.getElem?_map, Option.map_eq_some_iff] at h
  obtain ⟨x, h1, h2⟩ := h
  exact ⟨x, h1, h2.symm⟩
theorem IntsAt.cell {w : World} {B : Nat} {ad : Addr} {L : List Int} (h : IntsAt w B (some ad) L) : ∀ j u, (intsV L)[j]? = some u → w.cell? (ad.add j) = some u := fun j u hu => by
  obtain ⟨x, hx, rfl⟩ := intsV_get hu
  have hl : 0 < L.length := by have := (List.getElem?_eq_some_iff.1 hx).1; omega
  obtain ⟨ad', e, _, hc⟩ := h hl
  obtain rfl := Option.some.inj e
  exact hc j x hx
theorem IntsAt.of_own {w : World} {base : Nat} {A : Option Addr} {n c : Nat} {L : List Int} (h : w.ownsRow base 3 1 (.slice A n c) n (intsV L)) : L.length = n ∧ IntsAt w w.heap.size A L := by
  have hl : L.length = n := by have := h.1; rw [intsV_length] at this; omega
  refine ⟨hl, fun hn => ?_⟩
  obtain ⟨g, cap, hv, _, hlt⟩ := h.form (by omega)
  injection hv with hA
  subst hA
  refine ⟨_, rfl, hlt, fun j u hu => ?_⟩
  exact h.cells (g := g) rfl j _ (by simp [intsV, hu])

theorem int_info3 : (Tryz.prog.info? 3).map (fun i => (i.zero, i.size, i.bytes)) = some (some (.int .i64 0), 1, 8) := by kernel_rfl
theorem arm_info56 : (Tryz.prog.info? 56).map (fun i => (i.zero, i.size, i.bytes)) = some (some (.agg #[.int .i64 0, .slice none 0 0]), 2, 32) := by kernel_rfl

/-- append of integers, nil ones too. -/
theorem run_append_ints (w : World) (ty : TypeId) (base : Nat) (v : Value) (n : Nat) (X L : List Int) (hown : w.ownsRow base 3 1 v n (intsV X)) (A : Option Addr) (m c B : Nat) (hm : L.length = m) (hr : IntsAt w B A L)
    (h63 : n + m ≤ 1000000) (hbase : base ≤ w.heap.size) :
    ∃ v' w', (Builtin.append_ #[43, 43] ty #[v, .slice A m c]).run Tryz.prog w = .ok v' w' ∧ w'.ownsRow base 3 1 v' (n + m) (intsV (X ++ L)) ∧ w.grownBy w' v.ownBlock ∧ (v'.ownBlock = v.ownBlock ∨ v'.ownBlock = some w.heap.size) := by
  obtain ⟨i0, hi0, hz0, hz1, hz2⟩ := info_parts int_info3
  have hgo : ∀ ad : Addr, A = some ad → IntsAt w B A L → ∃ v' w', (Builtin.append_ #[43, 43] ty #[v, .slice (some ad) m c]).run Tryz.prog w = .ok v' w' ∧ w'.ownsRow base 3 1 v' (n + m) (intsV (X ++ L)) ∧ w.grownBy w' v.ownBlock ∧ (v'.ownBlock = v.ownBlock ∨ v'.ownBlock = some w.heap.size) := by
    rintro ad rfl hr
    obtain ⟨v', w', hrun, h2, h3, _, h5⟩ := run_append_own_at (P := Tryz.prog) w base 43 ty 3 i0 (.int .i64 0) 1 8 Tryz.underlying43 hi0 hz0 hz1 hz2 rfl (by omega) v n (intsV X) hown ad m c (intsV L) (by rw [intsV_length]; omega) hr.cell
      (by simp [intsV, Value.oneCell']) (by unfold maxLen; omega) (by omega) hbase
    exact ⟨v', w', hrun, by rw [intsV_append]; exact h2, h3, h5⟩
  rcases A with _ | ad
  · have h0 : m = 0 := by
      rcases Nat.eq_zero_or_pos m with h | h
      · exact h
      · obtain ⟨_, h', _⟩ := hr (by omega)
        cases h'
    subst h0
    obtain rfl := List.eq_nil_of_length_eq_zero hm
    refine ⟨v, w, ?_, by simpa using hown, World.grownBy.refl w _, .inl rfl⟩
    rcases hown.2 with ⟨rfl, rfl⟩ | ⟨g, cap, cur, rfl, _, _, hnc, _⟩
    · simp [Builtin.append_, run_underlying Tryz.underlying43, sizeOf, typeInfo, hi0, Builtin.lenOf, Builtin.firstCells]
    · simp [Builtin.append_, run_underlying Tryz.underlying43, sizeOf, typeInfo, hi0, Builtin.lenOf, Builtin.firstCells, hnc, storeCells]
  · exact hgo ad rfl hr

theorem step_append_ints {ops : Array Oper} {o : Oper} {a : Act} {K : Act → World → Prop} {Q : Exit → Act → World → Prop} {E : Prop} (w : World) (hgd : o.guard = none) (s x : Operand)
    (ho : o.op = .call { callee := .builtin .append, args := #[s, x], argTypes := #[43, 43] })
    (base : Nat) (v : Value) (n : Nat) (X L : List Int) (hs : a.eval s = v) (hown : w.ownsRow base 3 1 v n (intsV X)) (A : Option Addr) (m c B : Nat) (hx : a.eval x = .slice A m c) (hm : L.length = m) (hr : IntsAt w B A L)
    (h63 : n + m ≤ 1000000) (hbase : base ≤ w.heap.size)
    (h : ∀ v' w', w'.ownsRow base 3 1 v' (n + m) (intsV (X ++ L)) → w.grownBy w' v.ownBlock → (v'.ownBlock = v.ownBlock ∨ v'.ownBlock = some w.heap.size) → K (a.put o.dst v') w') :
    if Region.wanted o (yielded ops a.tmps) = true then Oper.wp Tryz.prog o a w K Q else E := by
  have hw : Region.wanted o (yielded ops a.tmps) = true := by simp [Region.wanted, hgd]
  rw [if_pos hw]
  obtain ⟨v', w', hrun, h2, h3, h4⟩ := run_append_ints w o.type base v n X L hown A m c B hm hr h63 hbase
  unfold Oper.wp execOp
  simp only [ho, resolve, invoke, builtin, Sem.run_bind, Sem.run_pure, Result.andThen_ok, List.map_toArray, List.map_cons, List.map_nil, hs, hx, hrun]
  exact h v' w' h2 h3 h4

/-- From the place A on arms lie, below block B. -/
def ArmsAt (w : World) (B : Nat) (A : Option Addr) (l : List (Int × List Int)) : Prop :=
  0 < l.length → ∃ ad, A = some ad ∧ ad.block < B ∧ ∀ j a, l[j]? = some a → w.cell? (ad.add (j * 2)) = some (.int .i64 a.1) ∧ ∃ R c, w.cell? (ad.add (j * 2 + 1)) = some (.slice R a.2.length c) ∧ IntsAt w B R a.2
theorem ArmsAt.keep {w w' : World} {B : Nat} {A : Option Addr} {l : List (Int × List Int)} (h : ArmsAt w B A l) (hk : ∀ p : Addr, p.block < B → w'.cell? p = w.cell? p) : ArmsAt w' B A l := fun hn => by
  obtain ⟨ad, e, hb, hc⟩ := h hn
  refine ⟨ad, e, hb, fun j a ha => ?_⟩
  obtain ⟨h1, R, c, h2, h3⟩ := hc j a ha
  exact ⟨(hk _ (by rw [add_block]; exact hb)).trans h1, R, c, (hk _ (by rw [add_block]; exact hb)).trans h2, h3.keep hk⟩
theorem add_one (a : Addr) : a.add 1 = ⟨a.block, a.off + 1, none⟩ := by simp [Addr.add]
theorem ArmsAt.at_ {w : World} {B : Nat} {A : Option Addr} {l : List (Int × List Int)} (h : ArmsAt w B A l) {k : Nat} (hk : k < l.length) :
    ∃ ad pc L R c, A = some ad ∧ ad.block < B ∧ l[k]? = some (pc, L) ∧ w.cell? (ad.add (k * 2)) = some (.int .i64 pc) ∧ w.cell? ⟨(ad.add (k * 2)).block, (ad.add (k * 2)).off + 1, none⟩ = some (.slice R L.length c) ∧ IntsAt w B R L := by
  obtain ⟨ad, e, hb, hc⟩ := h (by omega)
  obtain ⟨h1, R, c, h2, h3⟩ := hc k _ (List.getElem?_eq_getElem hk)
  rw [← add_plus, add_one] at h2
  exact ⟨ad, _, _, R, c, e, hb, List.getElem?_eq_getElem hk, h1, h2, h3⟩

def spread : List (Int × List Int) → List Int
  | [] => []
  | a :: l => a.1 :: (a.2.length : Int) :: a.2 ++ spread l
theorem spread_append (l m : List (Int × List Int)) : spread (l ++ m) = spread l ++ spread m := by
  induction l with
  | nil => rfl
  | cons a l ih => simp [spread, ih]
theorem spread_snoc {l : List (Int × List Int)} {k : Nat} {pc : Int} {L : List Int} (h : l[k]? = some (pc, L)) : spread (l.take (k + 1)) = (spread (l.take k) ++ [pc, (L.length : Int)]) ++ L := by
  rw [List.take_add_one, h, spread_append]
  simp [spread]

theorem spread_take (l : List (Int × List Int)) (k : Nat) : (spread (l.take k)).length ≤ (spread l).length := by
  have h := spread_append (l.take k) (l.drop k)
  rw [List.take_append_drop] at h
  rw [h, List.length_append]
  omega
theorem ints_new {w : World} {g : Nat} {x y : Int} (h : w.heap[g]? = some (.cells #[.int .i64 x, .int .i64 y] 3 (0, 0))) {B : Nat} (hB : g < B) : IntsAt w B (some ⟨g, 0, none⟩) [x, y] :=
  fun _ => ⟨_, rfl, hB, fun j u hu => by
    have := World.news_of_block h j (.int .i64 u)
    apply this
    match j, hu with
    | 0, hu => simpa using hu
    | 1, hu => simpa using hu⟩
theorem ints_new2 (w : World) (o : Obj) (x y : Int) : IntsAt ((w.alloc o).alloc (.cells #[.int .i64 x, .int .i64 y] 3 (0, 0))).drew (w.heap.size + 2) (some ⟨w.heap.size + 1, 0, none⟩) [x, y] :=
  ints_new (by
    have h := heap_alloc_new (w.alloc o) (.cells #[.int .i64 x, .int .i64 y] 3 (0, 0))
    have e : (w.alloc o).heap.size = w.heap.size + 1 := by simp
    rw [e] at h
    exact h) (by omega)
theorem own_slice {w : World} {base : Nat} {v : Value} {m : Nat} {e : TypeId} {sz : Nat} {xs : List Value} (h : w.ownsRow base e sz v m xs) : ∃ A c, v = .slice A m c ∧ m ≤ c ∧ c ≤ maxLen := by
  rcases h.2 with ⟨rfl, rfl⟩ | ⟨g, cap, cur, rfl, _, _, h1, h2, _⟩
  · exact ⟨_, _, rfl, Nat.le_refl _, by simp⟩
  · exact ⟨_, _, rfl, h1, h2⟩
def SpreadEnds (l : List (Int × List Int)) (w : World) (e : Ending) (w' : World) : Prop :=
  ∃ A c, e = .returned (.slice A (spread l).length c) ∧ IntsAt w' w'.heap.size A (spread l) ∧ (spread l).length ≤ c ∧ c ≤ maxLen ∧ Below w.heap.size w w'

attribute [local go_sem ↓] Go.wp_at_zero Go.wp_at_succ

set_option maxHeartbeats 1000000 in
theorem spread_says (A : Option Addr) (n c : Nat) (l : List (Int × List Int)) (w : World) (h : ArmsAt w w.heap.size A l) (hl : l.length = n) (hn : (spread l).length ≤ 100000) (hn' : n ≤ 100000) :
    Calls Tryz.prog 23 #[.slice A n c] w (SpreadEnds l w) := by
  have HL := Lib.hid hl
  clear hl
  go_enter Tryz.func23, Tryz.ntmps23
  go_wp2
  go_loopw [3, 8] (fun v i wr => ∃ k m : Nat, k ≤ n ∧ i = .int .i64 k ∧ m = (spread (l.take k)).length ∧ wr.ownsRow w.heap.size 3 1 v m (intsV (spread (l.take k))) ∧ Below w.heap.size w wr) (fun _ i _ => n - (intOf i).toNat)
  case atStart => exact ⟨0, 0, Nat.zero_le _, rfl, rfl, World.ownsRow_nil _ _ _ _, Below.refl _ _⟩
  case round =>
    obtain ⟨k, m, hk, rfl, hm, hown, hb⟩ := hrel
    have HM := Lib.hid hm
    clear hm
    by_cases hlt : k < n
    · obtain ⟨ad, pc, L, R, rc, rfl, hab, hx, hc1, hc2, hR⟩ := h.at_ (k := k) (by have := HL.out; omega)
      have HX := Lib.hid hx
      clear hx
      have hc1' := (hb.cell (p := ad.add (k * 2)) (by rw [add_block]; exact hab)).trans hc1
      have hc2' := (hb.cell (p := ⟨(ad.add (k * 2)).block, (ad.add (k * 2)).off + 1, none⟩) (by rw [add_block]; exact hab)).trans hc2
      have hR' := hR.keep fun p hp => hb.cell hp
      clear hc1 hc2 hR'
      have hML : m + 2 + L.length ≤ 100000 := by
        have e := spread_take l (k + 1)
        rw [spread_snoc HX.out] at e
        simp only [List.length_append, List.length_cons, List.length_nil] at e
        have := HM.out
        omega
      have hbs := hb.size
      have hne : some wr.heap.size ≠ u3.ownBlock := fun e => by have := (hown.lt _ e.symm).2; omega
      go_wp2
      go_region_held3 (fun w' => w'.cell? ⟨wr.heap.size, 0, none⟩ = some (.int .i64 pc) ∧ w'.cell? ⟨wr.heap.size, 1, none⟩ = some (.slice R L.length rc))
        (first
          | go_keep
          | (go_split_ands; refine ⟨?_, ?_⟩ <;> (rw [hg2.cell_far _ (by simp; omega) hne1]; assumption))
          | (go_split_ands; refine ⟨?_, ?_⟩ <;> (rw [hg1.cell_far _ (by simp; omega) hne]; simp [*])))
        (first
          | (refine step_append_ints _ (by rfl) (.tmp 12) (.tmp 18) (by rfl) w.heap.size u3 m (spread (l.take k)) [pc, (L.length : Int)] (by rfl) ((hown.alloc _).alloc _).drew (some ⟨wr.heap.size + 1, 0, none⟩) 2 2 (wr.heap.size + 2) (by rfl) (by rfl)
              (ints_new2 wr _ pc _) (by omega) (by simp; omega) ?_
             intro v1 w1 hown1 hg1 hat1
             have hz1 : wr.heap.size < w1.heap.size := by have := hg1.size; simp at this; omega
             have hne1 : some wr.heap.size ≠ v1.ownBlock := by
               rcases hat1 with e | e
               · rw [e]; exact hne
               · rw [e]; simp; omega)
          | (refine step_append_ints _ (by rfl) (.tmp 19) (.tmp 21) (by rfl) w.heap.size v1 (m + 2) (spread (l.take k) ++ [pc, (L.length : Int)]) L (by rfl) hown1 R L.length rc w.heap.size (by rfl) (by rfl)
              (hR.keep fun p hp => (((hb.alloc hbs _).alloc (by simp; omega) _).drew.grown hg1 (by simp; omega) (fun g hg => (hown.lt g hg).1)).cell hp) (by omega) (by have := hg1.size; simp at this; omega) ?_
             intro v2 w2 hown2 hg2 hat2))
      go_wp2
      go_roundw
      case rel => exact ⟨k + 1, m + 2 + L.length, by omega, by go_num, by rw [spread_snoc HX.out]; simp only [List.length_append, List.length_cons, List.length_nil]; rw [HM.out], by rw [spread_snoc HX.out]; exact hown2,
        (((hb.alloc hbs _).alloc (by simp; omega) _).drew.grown hg1 (by simp; omega) (fun g hg => (hown.lt g hg).1)).grown hg2 (by have := hg1.size; simp at this; omega) (fun g hg => (hown1.lt g hg).1)⟩
      case measure => simp [intOf]; omega
    · obtain rfl : k = n := by omega
      obtain ⟨A3, c3, rfl, hc3, hc3'⟩ := own_slice hown
      have hfull : l.take k = l := List.take_of_length_le (by have := HL.out; omega)
      have HF := Lib.hid hfull
      clear hfull
      go_wp2
      go_ret
      have e := HM.out
      rw [HF.out] at e hown
      subst e
      exact ⟨A3, c3, rfl, (IntsAt.of_own hown).2, hc3, hc3', hb⟩
end Go.Proofs.YteaennegcnlpgaaGreat
