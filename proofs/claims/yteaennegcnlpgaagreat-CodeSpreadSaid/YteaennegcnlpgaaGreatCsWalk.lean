/- CodeSpread returns true, and all memory that was there stays as it was, where awake returns true and pick a number below 4. For every two rows of integers. -/
import Derived.Test.YteaennegcnlpgaaGreatCsEqf
namespace Go.Proofs.YteaennegcnlpgaaGreat
open Go.RowKit

def TrueEnds (w : World) (e : Ending) (w' : World) : Prop := e = .returned (.bool true) ∧ Below w.heap.size w w'

theorem IntsAt.grow {w w' : World} {A : Option Addr} {L : List Int} (h : IntsAt w w.heap.size A L) (hb : Below w.heap.size w w') : IntsAt w' w'.heap.size A L :=
  h.keep1 fun hn ad e => by
    obtain ⟨ad', e', h1, _⟩ := h hn
    rw [e] at e'
    obtain rfl := Option.some.inj e'
    exact ⟨by have := hb.size; omega, hb.block _ h1⟩
theorem ArmsAt.grow {w w' : World} {A : Option Addr} {l : List (Int × List Int)} (h : ArmsAt w w.heap.size A l) (hb : Below w.heap.size w w') : ArmsAt w' w'.heap.size A l := fun hn => by
  obtain ⟨ad, e, hlt, hc⟩ := h hn
  refine ⟨ad, e, by have := hb.size; omega, fun j a ha => ?_⟩
  obtain ⟨h1, R, c, h2, h3⟩ := hc j a ha
  exact ⟨(hb.cell (by rw [add_block]; exact hlt)).trans h1, R, c, (hb.cell (by rw [add_block]; exact hlt)).trans h2, h3.grow hb⟩

def GOk (l : List (Int × List Int)) (w : World) (e : Ending) (w' : World) : Prop :=
  ∃ A c, e = .returned (.tuple #[.slice A l.length c, .int .i64 0]) ∧ ArmsAt w' w'.heap.size A l ∧ l.length ≤ c ∧ c ≤ maxLen ∧ Below w.heap.size w w'
theorem gather_ok (A : Option Addr) (n c : Nat) (l : List (Int × List Int)) (w : World) (h : IntsAt w w.heap.size A (spread l)) (hl : (spread l).length = n) (hn : n ≤ 100000) (hc : n ≤ c) (hcm : c ≤ maxLen) :
    Calls Tryz.prog 22 #[.slice A n c] w (GOk l w) :=
  (gather_says A n c (spread l) w h hl hn hc hcm).mono fun e w' ⟨he, hb⟩ => by
    rcases he with ⟨l', A', c', hs, rfl, ha, h1, h2⟩ | ⟨hno, _⟩
    · obtain rfl := spread_inj hs
      exact ⟨A', c', rfl, ha, h1, h2, hb⟩
    · exact absurd rfl (hno l)
def GNo (w : World) (e : Ending) (w' : World) : Prop := e = .returned (.tuple #[.slice none 0 0, .int .i64 3]) ∧ Below w.heap.size w w'
theorem gather_no (A : Option Addr) (n c : Nat) (L : List Int) (w : World) (h : IntsAt w w.heap.size A L) (hl : L.length = n) (hn : n ≤ 100000) (hc : n ≤ c) (hcm : c ≤ maxLen) (hno : ∀ l, spread l ≠ L) :
    Calls Tryz.prog 22 #[.slice A n c] w (GNo w) :=
  (gather_says A n c L w h hl hn hc hcm).mono fun e w' ⟨he, hb⟩ => by
    rcases he with ⟨l', A', c', hs, _⟩ | ⟨_, rfl⟩
    · exact absurd hs (hno l')
    · exact ⟨rfl, hb⟩

/-- What has been spread out: arms whose registers lie below base. -/
def Out2 (w0 w : World) (base : Nat) (v : Value) (d : List (Int × List Int)) : Prop :=
  ∃ xs, w.ownsRow base 56 2 v d.length xs ∧ ∀ j a, d[j]? = some a → xs[j * 2]? = some (.int .i64 a.1) ∧ ∃ R c, xs[j * 2 + 1]? = some (.slice R a.2.length c) ∧ IntsAt w0 base R a.2
theorem Out2.arms {w0 w : World} {v : Value} {d : List (Int × List Int)} (h : Out2 w0 w w0.heap.size v d) (hb : Below w0.heap.size w0 w) : ∃ A c, v = .slice A d.length c ∧ ArmsAt w w.heap.size A d := by
  obtain ⟨xs, hown, hx⟩ := h
  obtain ⟨A, c, rfl, h1, h2⟩ := own_slice hown
  refine ⟨A, c, rfl, fun hn => ?_⟩
  obtain ⟨g, cap, hv, _, hlt⟩ := hown.form hn
  injection hv with hA
  subst hA
  refine ⟨_, rfl, hlt, fun j a ha => ?_⟩
  obtain ⟨e1, R, rc, e2, e3⟩ := hx j a ha
  exact ⟨hown.cells (g := g) rfl _ _ e1, R, rc, hown.cells (g := g) rfl _ _ e2, e3.grow hb⟩
theorem out2_step {w0 w2 : World} {base g cap rc m : Nat} {d : List (Int × List Int)} {xs : List Value} {y : Int} {T : List Int} {R : Option Addr} (hT : T.length = m) (hl : xs.length = d.length * 2)
    (hxs : ∀ j a, d[j]? = some a → xs[j * 2]? = some (.int .i64 a.1) ∧ ∃ R c, xs[j * 2 + 1]? = some (.slice R a.2.length c) ∧ IntsAt w0 base R a.2) (hI : IntsAt w0 base R T)
    (hown2 : w2.ownsRow base 56 2 (.slice (some ⟨g, 0, none⟩) (d.length + 1) cap) (d.length + 1) (xs ++ [.int .i64 y, .slice R m rc])) :
    Out2 w0 w2 base (.slice (some ⟨g, 0, none⟩) (d.length + 1) cap) (d ++ [(y, T)]) := by
  subst hT
  refine ⟨_, by simpa using hown2, fun j a ha => ?_⟩
  rcases Nat.lt_or_ge j d.length with hj | hj
  · rw [List.getElem?_append_left hj] at ha
    obtain ⟨h1, R', c', h2, h3⟩ := hxs j a ha
    exact ⟨by rw [List.getElem?_append_left (by omega)]; exact h1, R', c', by rw [List.getElem?_append_left (by omega)]; exact h2, h3⟩
  · have hjl : j < (d ++ [(y, T)]).length := (List.getElem?_eq_some_iff.1 ha).1
    simp at hjl
    obtain rfl : j = d.length := by omega
    simp at ha
    subst ha
    exact ⟨by rw [List.getElem?_append_right (by omega), show d.length * 2 - xs.length = 0 by omega]; rfl, R, rc, by rw [List.getElem?_append_right (by omega), show d.length * 2 + 1 - xs.length = 1 by omega]; rfl, hI⟩

theorem slice_cut (A : Option Addr) (n c lo hi : Nat) (h : lo ≤ hi) (h2 : hi ≤ c) (w : World) : (Instr.slice 43 (.slice A n c) (some (.int .i64 (lo : Int))) (some (.int .i64 (hi : Int))) none).run Tryz.prog w = .ok (.slice (if c = lo then A else A.map (·.add lo)) (hi - lo) (c - lo)) w := by
  rw [run_slice_lh w 43 A n c elem43 .i64 .i64 (lo : Int) (hi : Int) (by omega) (by omega) (by omega), size43]
  show Result.ok (sliced A (lo : Int).toNat (hi : Int).toNat c 1) w = _
  rw [Int.toNat_natCast, Int.toNat_natCast]
  simp [sliced]
theorem min_nat (a b : Nat) (w : World) : (Builtin.min_ #[3, 3] 3 #[.int .i64 (a : Int), .int .i64 (b : Int)]).run Tryz.prog w = .ok (.int .i64 ((min a b : Nat) : Int)) w := by
  rw [run_min_int2]
  have : (if (b : Int) < (a : Int) then (b : Int) else (a : Int)) = ((min a b : Nat) : Int) := by split <;> omega
  rw [this]

set_option maxRecDepth 100000 in
set_option maxHeartbeats 1000000 in
theorem code_says (P : Int → Nat) (hP : ∀ a, P a < 4) (awake_says : ∀ w : World, Calls Tryz.prog 21 #[] w (TrueEnds w)) (pick_says : ∀ (a : Int) (w : World), Calls Tryz.prog 9 #[.int .i64 a, .int .i64 4] w fun e w' => e = .returned (.int .i64 (P a : Int)) ∧ w = w')
    (A : Option Addr) (n c : Nat) (L : List Int) (A' : Option Addr) (n' c' : Nat) (L' : List Int) (w : World) (h : IntsAt w w.heap.size A L) (hl : L.length = n) (hc : n ≤ c) (hcm : c ≤ maxLen)
    (h' : IntsAt w w.heap.size A' L') (hl' : L'.length = n') (hcm' : n' ≤ maxLen) :
    Calls Tryz.prog 6 #[.slice A n c, .slice A' n' c'] w (TrueEnds w) := by
  have HL := Lib.hid hl
  have HL' := Lib.hid hl'
  clear hl hl'
  unfold maxLen at hcm hcm'
  by_cases hbig : 100 < n
  · go_enter Tryz.func6, Tryz.ntmps6
    go_wp2_with (first | (go_at_call 21; refine (awake_says _).mono ?_; rintro e w' ⟨rfl, hb⟩))
    go_ret
    exact ⟨rfl, hb⟩
  · by_cases hbig' : 20 < n'
    · go_enter Tryz.func6, Tryz.ntmps6
      go_wp2_with (first | (go_at_call 21; refine (awake_says _).mono ?_; rintro e w' ⟨rfl, hb⟩))
      go_ret
      exact ⟨rfl, hb⟩
    · have hn : n ≤ 100 := by omega
      have hn' : n' ≤ 20 := by omega
      clear hbig hbig'
      go_enter Tryz.func6, Tryz.ntmps6
      go_wp2_with (first | (go_at_call 21; refine (awake_says _).mono ?_; rintro e w0 ⟨rfl, hb0⟩))
      go_loopw [5, 24] (fun v i wr => ∃ (k : Nat) (d : List (Int × List Int)), k ≤ n' ∧ i = .int .i64 k ∧ d.length = k ∧ Out2 w wr w.heap.size v d ∧ (spread d).length ≤ 5 * k ∧ Below w.heap.size w wr) (fun _ i _ => n' - (intOf i).toNat)
      case atStart => exact ⟨0, [], Nat.zero_le _, rfl, rfl, ⟨[], World.ownsRow_nil _ _ _ _, by simp⟩, by simp [spread], hb0⟩
      case round =>
        obtain ⟨k, d, hk, rfl, hd, ho, hsl, hb⟩ := hrel
        by_cases hlt : k < n'
        · obtain ⟨ad, pc, rfl, hab, hx, hcx⟩ := h'.at_ (k := k) (by have := HL'.out; omega)
          have hcx' := (hb.cell (p := ad.add k) (by rw [add_block]; exact hab)).trans hcx
          clear hcx hx
          have hq := hP pc
          obtain ⟨q, hqe⟩ : ∃ q, q = P pc := ⟨_, rfl⟩
          rw [← hqe] at hq
          have hpick : ∀ w : World, Calls Tryz.prog 9 #[.int .i64 pc, .int .i64 4] w fun e w' => e = .returned (.int .i64 (q : Int)) ∧ w = w' := fun w => by rw [hqe]; exact pick_says pc w
          clear hqe
          obtain ⟨lo, hlo⟩ : ∃ lo, lo = min n k := ⟨_, rfl⟩
          obtain ⟨hi, hhi⟩ : ∃ hi, hi = min n (k + q) := ⟨_, rfl⟩
          obtain ⟨m, hm⟩ : ∃ m, m = hi - lo := ⟨_, rfl⟩
          have hlh : lo ≤ hi := by omega
          have hhn : hi ≤ n := by omega
          have hmq : m ≤ 3 := by omega
          have hm1 : ∀ wx : World, (Builtin.min_ #[3, 3] 3 #[.int .i64 (n : Int), .int .i64 (k : Int)]).run Tryz.prog wx = .ok (.int .i64 (lo : Int)) wx := fun wx => by rw [hlo]; exact min_nat _ _ wx
          have hm2 : ∀ wx : World, (Builtin.min_ #[3, 3] 3 #[.int .i64 (n : Int), .int .i64 ((k : Int) + (q : Int))]).run Tryz.prog wx = .ok (.int .i64 (hi : Int)) wx := fun wx => by rw [hhi]; exact min_nat n (k + q) wx
          obtain ⟨AS, hAS⟩ : ∃ AS, AS = if c = lo then A else A.map (·.add lo) := ⟨_, rfl⟩
          have hsc : ∀ wx : World, (Instr.slice 43 (.slice A n c) (some (.int .i64 (lo : Int))) (some (.int .i64 (hi : Int))) none).run Tryz.prog wx = .ok (.slice AS m (c - lo)) wx := fun wx => by
            rw [hAS, hm]
            exact slice_cut _ _ _ _ _ hlh (by omega) wx
          obtain ⟨T, hT⟩ : ∃ T, T = (L.drop lo).take m := ⟨_, rfl⟩
          have hI : IntsAt w w.heap.size AS T := by
            rw [hAS, hT]
            exact (h.cut (by rw [HL.out]; exact hc)).take m
          have htl : T.length = m := by
            rw [hT, List.length_take, List.length_drop, HL.out]
            omega
          have HTL := Lib.hid htl
          have HD := Lib.hid hd
          obtain ⟨xs, hown, hxs⟩ := ho
          have HXS := Lib.hid hxs
          rw [hd] at hown
          have hadd : ∀ _ : Nat, IntKind.i64.wrap ((k : Int) + (q : Int)) = (k : Int) + (q : Int) := fun _ => IntWalk.i64_in _ (by omega)
          have HADD := Lib.hid hadd
          clear hlo hhi hm hAS hT htl hd hxs hadd
          obtain ⟨i0, hi0, hz0, hz1, hz2⟩ := info_parts arm_info56
          have hbs := hb.size
          go_wp2_with (first
            | (go_at_call 9; refine (hpick _).mono ?_; rintro e w2 ⟨rfl, rfl⟩)
            | (at_builtin
               refine wpList_append_lies _ rfl (.tmp 29) (.tmp 45) 54 rfl w.heap.size 56 i0 _ 2 32 Tryz.underlying54 hi0 hz0 hz1 hz2 rfl (by omega) _ k xs rfl (hown.alloc _)
                ⟨wr.heap.size, 0, none⟩ 1 1 [.int .i64 pc, .slice AS m (c - lo)] rfl rfl (World.news_of_block (cs := #[.int .i64 pc, .slice AS m (c - lo)]) (t := 56) (fr := (0, 0)) (heap_alloc_new wr _)) (by simp [Value.oneCell'])
                (by omega) (by unfold maxLen; omega) (by omega) (by simp; omega) (wr.heap.size + 1) (by simp) ?_
               intro g cap w3 hown3 hg3 hat3 hlt3))
          go_roundw
          case rel =>
            obtain rfl := HD.out
            refine ⟨d.length + 1, d ++ [(pc, T)], by omega, by go_num, by simp, out2_step HTL.out hown.1 HXS.out hI hown3, ?_, (hb.alloc hbs _).grown hg3 (by simp; omega) (fun g hg => (hown.lt g hg).1)⟩
            rw [spread_append, List.length_append]
            simp only [spread, List.length_cons, List.append_nil, HTL.out]
            omega
          case measure => simp [intOf]; omega
        · obtain rfl : k = n' := by omega
          clear hlt hk
          obtain ⟨A3, c3, rfl, ha3⟩ := ho.arms hb
          have hsl' : (spread d).length ≤ 100000 := by omega
          have hdl : d.length ≤ 100000 := by omega
          obtain rfl : d.length = k := hd
          by_cases hG : ∃ l, spread l = L
          · obtain ⟨lG, rfl⟩ := hG
            have hgl : (spread lG).length ≤ 100000 := by have := HL.out; omega
            have hgl' : lG.length ≤ 100000 := by have := spread_two lG; omega
            go_wp2_with (first
              | (go_at_call 23
                 (with_reducible refine (spread_says A3 d.length c3 d _ ha3 rfl hsl' hdl).mono ?_)
                 rintro e w4 ⟨A4, c4, rfl, ha4, hc4, hc4', hb4⟩
                 have hw4 : Below w.heap.size w w4 := hb.trans (hb4.mono hb.size))
              | (go_at_call 22
                 (with_reducible refine (gather_ok A4 _ c4 d _ ha4 rfl hsl' hc4 hc4').mono ?_)
                 rintro e w5 ⟨A5, c5, rfl, ha5, hc5, hc5', hb5⟩
                 have hw5 : Below w.heap.size w w5 := hw4.trans (hb5.mono hw4.size))
              | (go_at_call 24
                 (with_reducible refine (eqf_says A3 A5 d.length c3 c5 d _ ((ha3.grow hb4).grow hb5) ha5 rfl hdl hsl').mono ?_)
                 rintro e w6 ⟨rfl, hb6⟩
                 have hw6 : Below w.heap.size w w6 := hw5.trans (hb6.mono hw5.size))
              | (go_at_call 22
                 (with_reducible refine (gather_ok A n c lG _ (h.grow hw6) HL.out (by omega) hc (by unfold maxLen; omega)).mono ?_)
                 rintro e w7 ⟨A7, c7, rfl, ha7, hc7, hc7', hb7⟩
                 have hw7 : Below w.heap.size w w7 := hw6.trans (hb7.mono hw6.size))
              | (go_at_call 23
                 (with_reducible refine (spread_says A7 lG.length c7 lG _ ha7 rfl hgl hgl').mono ?_)
                 rintro e w8 ⟨A8, c8, rfl, ha8, hc8, hc8', hb8⟩
                 have hw8 : Below w.heap.size w w8 := hw7.trans (hb8.mono hw7.size)
                 have HL8 := HL.out
                 rw [HL8]
                 clear HL8)
              | (go_at_call 19
                 (with_reducible refine (equal_same A8 A n c8 c _ (spread lG) _ ha8 (h.grow hw8) HL.out (by unfold maxLen; omega)).mono ?_)
                 rintro e w9 ⟨rfl, dd, rfl⟩))
            go_ret
            exact ⟨rfl, below_drewN hw8 dd⟩
          · have hno : ∀ l, spread l ≠ L := fun l e => hG ⟨l, e⟩
            have HNO := Lib.hid hno
            clear hno hG
            go_wp2_with (first
              | (go_at_call 23
                 (with_reducible refine (spread_says A3 d.length c3 d _ ha3 rfl hsl' hdl).mono ?_)
                 rintro e w4 ⟨A4, c4, rfl, ha4, hc4, hc4', hb4⟩
                 have hw4 : Below w.heap.size w w4 := hb.trans (hb4.mono hb.size))
              | (go_at_call 22
                 (with_reducible refine (gather_ok A4 _ c4 d _ ha4 rfl hsl' hc4 hc4').mono ?_)
                 rintro e w5 ⟨A5, c5, rfl, ha5, hc5, hc5', hb5⟩
                 have hw5 : Below w.heap.size w w5 := hw4.trans (hb5.mono hw4.size))
              | (go_at_call 24
                 (with_reducible refine (eqf_says A3 A5 d.length c3 c5 d _ ((ha3.grow hb4).grow hb5) ha5 rfl hdl hsl').mono ?_)
                 rintro e w6 ⟨rfl, hb6⟩
                 have hw6 : Below w.heap.size w w6 := hw5.trans (hb6.mono hw5.size))
              | (go_at_call 22
                 (with_reducible refine (gather_no A n c L _ (h.grow hw6) HL.out (by omega) hc (by unfold maxLen; omega) HNO.out).mono ?_)
                 rintro e w7 ⟨rfl, hb7⟩
                 have hw7 : Below w.heap.size w w7 := hw6.trans (hb7.mono hw6.size)))
            go_ret
            exact ⟨rfl, hw7⟩
end Go.Proofs.YteaennegcnlpgaaGreat
