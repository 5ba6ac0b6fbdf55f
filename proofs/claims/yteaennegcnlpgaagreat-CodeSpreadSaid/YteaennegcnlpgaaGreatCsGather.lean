/- code.Gather of a row of integers: new arms that spread to it, or the refusal where no arms do; all memory that was there stays as it was. For at most 100000 integers. -/
import Derived.Test.YteaennegcnlpgaaGreatCsSpread
namespace Go.Proofs.YteaennegcnlpgaaGreat
open Go.RowKit

theorem spread_prefix : ∀ {d : List (Int × List Int)} {r : List Int} {l : List (Int × List Int)}, spread d ++ r = spread l → ∃ m, l = d ++ m ∧ r = spread m
  | [], r, l, h => ⟨l, rfl, h⟩
  | a :: d, r, [], h => by simp [spread] at h
  | a :: d, r, b :: l, h => by
    simp only [spread, List.cons_append, List.cons.injEq, List.append_assoc] at h
    obtain ⟨h1, h2, h3⟩ := h
    have hl : a.2.length = b.2.length := by omega
    obtain ⟨h4, h5⟩ := List.append_inj h3 hl
    obtain ⟨m, rfl, hr⟩ := spread_prefix h5
    exact ⟨m, by rw [show a = b from Prod.ext h1 h4]; rfl, hr⟩
theorem spread_inj {d l : List (Int × List Int)} (h : spread d = spread l) : d = l := by
  obtain ⟨m, rfl, hm⟩ := spread_prefix (d := d) (r := []) (l := l) (by simpa using h)
  match m, hm with
  | [], _ => simp
  | a :: m, hm => simp [spread] at hm
/-- What can't be gathered. -/
theorem spread_not {d : List (Int × List Int)} {r : List Int} (h0 : 0 < r.length) (h : r.length < 2 ∨ ∃ x, r[1]? = some x ∧ (x < 0 ∨ (r.length : Int) - 2 < x)) (l : List (Int × List Int)) : spread l ≠ spread d ++ r := fun e => by
  obtain ⟨m, _, hr⟩ := spread_prefix e.symm
  match m, hr with
  | [], hr => subst hr; simp [spread] at h0
  | a :: m, hr =>
    subst hr
    simp [spread] at h
    omega

theorem IntsAt.cut {w : World} {B : Nat} {A : Option Addr} {L : List Int} (h : IntsAt w B A L) {k cap : Nat} (hc : L.length ≤ cap) : IntsAt w B (if cap = k then A else A.map (·.add k)) (L.drop k) := fun hn => by
  rw [List.length_drop] at hn
  obtain ⟨ad, rfl, hb, hcell⟩ := h (by omega)
  rw [if_neg (by omega)]
  refine ⟨ad.add k, rfl, by rw [add_block]; exact hb, fun j u hu => ?_⟩
  rw [add_plus]
  exact hcell _ u (by rw [← hu, List.getElem?_drop])
theorem IntsAt.take {w : World} {B : Nat} {A : Option Addr} {L : List Int} (h : IntsAt w B A L) (k : Nat) : IntsAt w B A (L.take k) := fun hn => by
  rw [List.length_take] at hn
  obtain ⟨ad, rfl, hb, hcell⟩ := h (by omega)
  refine ⟨ad, rfl, hb, fun j u hu => ?_⟩
  rw [List.getElem?_take] at hu
  split at hu
  · exact hcell j u hu
  · simp at hu

/-- What has been gathered: a row of the call's own. -/
def Out (w : World) (base : Nat) (v : Value) (d : List (Int × List Int)) : Prop :=
  ∃ xs, w.ownsRow base 56 2 v d.length xs ∧ ∀ j a, d[j]? = some a → xs[j * 2]? = some (.int .i64 a.1) ∧ ∃ R c, xs[j * 2 + 1]? = some (.slice R a.2.length c) ∧ IntsAt w w.heap.size R a.2 ∧ (0 < a.2.length → ∀ ad, R = some ad → ad.block < w.heap.size ∧ some ad.block ≠ v.ownBlock)

theorem Out.arms {w : World} {base : Nat} {v : Value} {d : List (Int × List Int)} (h : Out w base v d) : ∃ A c, v = .slice A d.length c ∧ d.length ≤ c ∧ c ≤ maxLen ∧ ArmsAt w w.heap.size A d := by
  obtain ⟨xs, hown, hx⟩ := h
  obtain ⟨A, c, rfl, h1, h2⟩ := own_slice hown
  refine ⟨A, c, rfl, h1, h2, fun hn => ?_⟩
  obtain ⟨g, cap, hv, _, hlt⟩ := hown.form hn
  injection hv with hA
  subst hA
  refine ⟨_, rfl, hlt, fun j a ha => ?_⟩
  obtain ⟨e1, R, rc, e2, e3, _⟩ := hx j a ha
  exact ⟨hown.cells (g := g) rfl _ _ e1, R, rc, hown.cells (g := g) rfl _ _ e2, e3⟩

def GatherEnds (L : List Int) (w : World) (e : Ending) (w' : World) : Prop :=
  ((∃ l A c, spread l = L ∧ e = .returned (.tuple #[.slice A l.length c, .int .i64 0]) ∧ ArmsAt w' w'.heap.size A l ∧ l.length ≤ c ∧ c ≤ maxLen) ∨ ((∀ l, spread l ≠ L) ∧ e = .returned (.tuple #[.slice none 0 0, .int .i64 3]))) ∧ Below w.heap.size w w'

theorem size43 (w : World) : (sizeOf (Tryz.prog.elem 43)).run Tryz.prog w = .ok 1 w := by kernel_rfl
theorem elem43 : Tryz.prog.underlying 43 = some (.slice (Tryz.prog.elem 43)) := by kernel_rfl
/-- 'l[2 : 2+q]'. -/
theorem slice_mid (A : Option Addr) (n c q : Nat) (h : 2 + q ≤ c) (w : World) : (Instr.slice 43 (.slice A n c) (some (.int .i64 2)) (some (.int .i64 (2 + (q : Int)))) none).run Tryz.prog w = .ok (.slice (if c = 2 then A else A.map (·.add 2)) q (c - 2)) w := by
  rw [run_slice_lh w 43 A n c elem43 .i64 .i64 2 (2 + (q : Int)) (by omega) (by omega) (by omega), size43]
  show Result.ok (sliced A (2 : Int).toNat (2 + (q : Int)).toNat c 1) w = _
  have e1 : (2 + (q : Int)).toNat = 2 + q := by omega
  rw [e1]
  simp [sliced]
/-- 'l[2+q:]'. -/
theorem slice_end (A : Option Addr) (n c q : Nat) (h : 2 + q ≤ n) (w : World) : (Instr.slice 43 (.slice A n c) (some (.int .i64 (2 + (q : Int)))) none none).run Tryz.prog w = .ok (.slice (if c = 2 + q then A else A.map (·.add (2 + q))) (n - (2 + q)) (c - (2 + q))) w := by
  rw [run_slice_l w 43 A n c elem43 .i64 (2 + (q : Int)) (by omega) (by omega), size43]
  have e1 : (2 + (q : Int)).toNat = 2 + q := by omega
  show Result.ok (sliced A (2 + (q : Int)).toNat n c 1) w = _
  rw [e1]
  simp [sliced]

theorem spread_two (d : List (Int × List Int)) : 2 * d.length ≤ (spread d).length := by
  induction d with
  | nil => simp [spread]
  | cons a d ih => simp [spread]; omega
theorem head_two {r : List Int} {x y : Int} (h0 : r[0]? = some y) (h1 : r[1]? = some x) : r = y :: x :: r.drop 2 := by
  match r, h0, h1 with
  | [], h0, _ => simp at h0
  | [_], _, h1 => simp at h1
  | a :: b :: r, h0, h1 =>
    simp at h0 h1
    subst h0 h1
    rfl
theorem undrew {w w' : World} {r : Option Nat} (h : w.drew.grownBy w' r) : w.grownBy w' r := ⟨h.os, h.tape, h.output, h.size, h.block⟩
theorem IntsAt.keep1 {w w' : World} {B B' : Nat} {A : Option Addr} {L : List Int} (h : IntsAt w B A L) (hk : 0 < L.length → ∀ ad, A = some ad → ad.block < B' ∧ w'.heap[ad.block]? = w.heap[ad.block]?) : IntsAt w' B' A L := fun hn => by
  obtain ⟨ad, e, hb, hc⟩ := h hn
  obtain ⟨h1, h2⟩ := hk hn ad e
  exact ⟨ad, e, h1, fun j u hu => (World.cell?_of_block (by rw [add_block]; exact h2)).trans (hc j u hu)⟩
theorem out_step {wr w1 w2 : World} {base g cap rc : Nat} {u4 : Value} {d : List (Int × List Int)} {xs : List Value} {y : Int} {T : List Int} {R : Option Addr} {o : Obj}
    (hown : wr.ownsRow base 56 2 u4 d.length xs)
    (hxs : ∀ j a, d[j]? = some a → xs[j * 2]? = some (.int .i64 a.1) ∧ ∃ R c, xs[j * 2 + 1]? = some (.slice R a.2.length c) ∧ IntsAt wr wr.heap.size R a.2 ∧ (0 < a.2.length → ∀ ad, R = some ad → ad.block < wr.heap.size ∧ some ad.block ≠ u4.ownBlock))
    (hg1 : wr.grownBy w1 none) (hown1 : w1.ownsRow wr.heap.size 3 1 (.slice R T.length rc) T.length (intsV T)) (hg2 : (w1.alloc o).grownBy w2 u4.ownBlock)
    (hown2 : w2.ownsRow base 56 2 (.slice (some ⟨g, 0, none⟩) (d.length + 1) cap) (d.length + 1) (xs ++ [.int .i64 y, .slice R T.length rc])) (hat : u4.ownBlock = some g ∨ g = w1.heap.size + 1) :
    Out w2 base (.slice (some ⟨g, 0, none⟩) (d.length + 1) cap) (d ++ [(y, T)]) := by
  have hs1 := hg1.size
  have hs2 : w1.heap.size + 1 ≤ w2.heap.size := by have := hg2.size; simpa using this
  have hl : xs.length = d.length * 2 := hown.1
  have hfar : ∀ b, b < w1.heap.size → some b ≠ u4.ownBlock → w2.heap[b]? = w1.heap[b]? := fun b hb hne => by
    rw [hg2.block b (by simp; omega) hne]
    exact Below.heap_alloc _ _ _ hb
  refine ⟨_, by simpa using hown2, fun j a ha => ?_⟩
  rcases Nat.lt_or_ge j d.length with hj | hj
  · rw [List.getElem?_append_left hj] at ha
    obtain ⟨h1, R', c', h2, h3, h4⟩ := hxs j a ha
    refine ⟨by rw [List.getElem?_append_left (by omega)]; exact h1, R', c', by rw [List.getElem?_append_left (by omega)]; exact h2, h3.keep1 fun hn ad e => ?_, fun hn ad e => ?_⟩
    · obtain ⟨h5, h6⟩ := h4 hn ad e
      exact ⟨by omega, (hfar _ (by omega) h6).trans (hg1.block _ h5 (by simp))⟩
    · obtain ⟨h5, h6⟩ := h4 hn ad e
      refine ⟨by omega, fun e' => ?_⟩
      simp only [Value.ownBlock, Option.some.injEq] at e'
      rcases hat with h7 | h7
      · exact h6 (by rw [h7, e'])
      · omega
  · have hjl : j < (d ++ [(y, T)]).length := (List.getElem?_eq_some_iff.1 ha).1
    simp at hjl
    obtain rfl : j = d.length := by omega
    simp at ha
    subst ha
    refine ⟨by rw [List.getElem?_append_right (by omega), show d.length * 2 - xs.length = 0 by omega]; rfl, R, rc, by rw [List.getElem?_append_right (by omega), show d.length * 2 + 1 - xs.length = 1 by omega]; rfl, ?_⟩
    have hI := (IntsAt.of_own hown1).2
    have hlt : ∀ ad, R = some ad → wr.heap.size ≤ ad.block ∧ ad.block < w1.heap.size := fun ad e => hown1.lt ad.block (by rw [e]; rfl)
    have hne : ∀ ad, R = some ad → some ad.block ≠ u4.ownBlock := fun ad e e' => by
      have := (hown.lt _ e'.symm).2
      have := (hlt ad e).1
      omega
    refine ⟨hI.keep1 fun hn ad e => ⟨by have := hlt ad e; omega, hfar _ (hlt ad e).2 (hne ad e)⟩, fun hn ad e => ⟨by have := hlt ad e; omega, fun e' => ?_⟩⟩
    simp only [Value.ownBlock, Option.some.injEq] at e'
    rcases hat with h7 | h7
    · exact hne ad e (by rw [h7, e'])
    · have := hlt ad e; omega

def lenV : Value → Nat | .slice _ n _ => n | _ => 0

def GRel (L : List Int) (w : World) (v0 v4 : Value) (wr : World) : Prop :=
  ∃ A n c r d, v0 = .slice A n c ∧ n ≤ c ∧ c ≤ maxLen ∧ r.length = n ∧ IntsAt w w.heap.size A r ∧ spread d ++ r = L ∧ Out wr w.heap.size v4 d ∧ Below w.heap.size w wr

attribute [local go_sem ↓] Go.wp_at_zero Go.wp_at_succ

set_option maxHeartbeats 1000000 in
theorem gather_says (A : Option Addr) (n c : Nat) (L : List Int) (w : World) (h : IntsAt w w.heap.size A L) (hl : L.length = n) (hn : n ≤ 100000) (hc : n ≤ c) (hcm : c ≤ maxLen) :
    Calls Tryz.prog 22 #[.slice A n c] w (GatherEnds L w) := by
  have HL := Lib.hid hl
  clear hl
  have HG := Lib.hid (show GRel L w (.slice A n c) (.slice none 0 0) w from ⟨A, n, c, L, [], rfl, hc, hcm, HL.out, h, rfl, ⟨[], World.ownsRow_nil _ _ _ _, by simp⟩, Below.refl _ _⟩)
  clear h hcm
  go_enter Tryz.func22, Tryz.ntmps22
  go_wp2
  go_loopw [0, 4] (fun v0 v4 wr => GRel L w v0 v4 wr) (fun v0 _ _ => lenV v0)
  case atStart => exact HG.out
  case round =>
    obtain ⟨A', n', c', r, d, rfl, hc', hcm', hr, hI, hs, ho, hb⟩ := hrel
    clear HG
    have HR := Lib.hid hr
    have HS := Lib.hid hs
    clear hr hs hc
    have hnn : n' ≤ 100000 := by
      have e := congrArg List.length HS.out
      rw [List.length_append, HL.out, HR.out] at e
      omega
    by_cases h0 : n' = 0
    · subst h0
      obtain ⟨A4, c4, rfl, h4, h4', ha⟩ := ho.arms
      go_wp2
      go_ret2
      refine ⟨.inl ⟨d, A4, c4, ?_, rfl, ha, h4, h4'⟩, hb⟩
      have e := HS.out
      rw [List.eq_nil_of_length_eq_zero HR.out, List.append_nil] at e
      exact e
    · have hn0 : 0 < n' := by omega
      clear h0
      by_cases h1 : n' < 2
      · go_wp2
        go_ret2
        refine ⟨.inr ⟨fun l => ?_, rfl⟩, hb⟩
        rw [← HS.out]
        exact spread_not (by rw [HR.out]; exact hn0) (.inl (by rw [HR.out]; exact h1)) l
      · have h2 : 2 ≤ n' := by omega
        clear h1 hn0
        obtain ⟨ad, x, rfl, hab, hx, hcx⟩ := hI.at_ (k := 1) (by have := HR.out; omega)
        obtain ⟨ad', y, e, _, hy, hcy⟩ := hI.at_ (k := 0) (by have := HR.out; omega)
        obtain rfl := Option.some.inj e
        clear e
        have HX := Lib.hid hx
        have HY := Lib.hid hy
        clear hx hy
        rw [add_one] at hcx
        have hcx' := (hb.cell (p := ⟨ad.block, ad.off + 1, none⟩) hab).trans hcx
        rw [show ad.add 0 = ad by simp [Addr.add]] at hcy
        have hcy' := (hb.cell (p := ad) hab).trans hcy
        clear hcx hcy
        by_cases hneg : x < 0
        · go_wp2
          go_ret2
          refine ⟨.inr ⟨fun l => ?_, rfl⟩, hb⟩
          rw [← HS.out]
          exact spread_not (by rw [HR.out]; omega) (.inr ⟨x, HX.out, .inl hneg⟩) l
        · by_cases hbig : (n' : Int) - 2 < x
          · go_wp2
            go_ret2
            refine ⟨.inr ⟨fun l => ?_, rfl⟩, hb⟩
            rw [← HS.out]
            exact spread_not (by rw [HR.out]; omega) (.inr ⟨x, HX.out, .inr (by rw [HR.out]; exact hbig)⟩) l
          · obtain ⟨q, rfl⟩ := Int.eq_ofNat_of_zero_le (show 0 ≤ x by omega)
            have hq : q + 2 ≤ n' := by omega
            clear hneg hbig
            go_wp2
            obtain ⟨A2, hA2⟩ : ∃ A2, A2 = if c' = 2 then some ad else (some ad).map (·.add 2) := ⟨_, rfl⟩
            obtain ⟨A3, hA3⟩ : ∃ A3, A3 = if c' = 2 + q then some ad else (some ad).map (·.add (2 + q)) := ⟨_, rfl⟩
            have hwr : IntKind.i64.wrap (2 + (q : Int)) = 2 + (q : Int) := IntWalk.i64_in _ (by omega)
            have hs1 : ∀ wx : World, (Instr.slice 43 (.slice (some ad) n' c') (some (.int .i64 2)) (some (.int .i64 (2 + (q : Int)))) none).run Tryz.prog wx = .ok (.slice A2 q (c' - 2)) wx := fun wx => by
              rw [hA2]
              exact slice_mid _ _ _ _ (by omega) wx
            have hs2 : ∀ wx : World, (Instr.slice 43 (.slice (some ad) n' c') (some (.int .i64 (2 + (q : Int)))) none none).run Tryz.prog wx = .ok (.slice A3 (n' - (2 + q)) (c' - (2 + q))) wx := fun wx => by
              rw [hA3]
              exact slice_end _ _ _ _ (by omega) wx
            obtain ⟨T, hT⟩ : ∃ T, T = (r.drop 2).take q := ⟨_, rfl⟩
            have hI2 : IntsAt w w.heap.size A2 T := by
              rw [hA2, hT]
              exact (hI.cut (by rw [HR.out]; exact hc')).take q
            have hI3 : IntsAt w w.heap.size A3 (r.drop (2 + q)) := by
              rw [hA3]
              exact hI.cut (by rw [HR.out]; exact hc')
            have htl : T.length = q := by
              rw [hT, List.length_take, List.length_drop, HR.out]
              omega
            have hmore : spread (d ++ [(y, T)]) ++ r.drop (2 + q) = L := by
              rw [← HS.out]
              conv => rhs; rw [head_two HY.out HX.out]
              rw [spread_append, show r.drop (2 + q) = (r.drop 2).drop q by rw [List.drop_drop]]
              simp only [spread, htl, List.append_nil, List.append_assoc, List.cons_append]
              rw [hT, List.take_append_drop]
            have hdl : d.length ≤ 100000 := by
              have e := congrArg List.length HS.out
              rw [List.length_append, HL.out] at e
              have := spread_two d
              omega
            have HTL := Lib.hid htl
            have HMORE := Lib.hid hmore
            clear hA2 hA3 hT htl hmore
            obtain ⟨xs, hown, hxs⟩ := ho
            have HXS := Lib.hid hxs
            clear hxs
            obtain ⟨i0, hi0, hz0, hz1, hz2⟩ := info_parts arm_info56
            have hne0 : u4.ownBlock = none ∨ u4.ownBlock ≠ none := Classical.em _
            have hadr : ad.block < wr.heap.size := by have := hb.size; omega
            have hadn : some ad.block ≠ u4.ownBlock := fun e => by have := (hown.lt _ e.symm).1; omega
            have hbs := hb.size
            go_region_held3 (fun w' => w'.cell? ad = some (.int .i64 y))
              (first
                | go_keep
                | (rw [hg1.cell_far _ (by simp; omega) (by simp [Value.ownBlock])]; simp [*])
                | (rw [hg2.cell_far _ (by simp; omega) hadn]; simp [*]))
              (first
                | (refine step_append_ints _ (by rfl) (.const (.slice none 0 0)) (.tmp 37) (by rfl) wr.heap.size (.slice none 0 0) 0 [] T (by rfl) (World.ownsRow_nil _ _ _ _) A2 q (c' - 2) w.heap.size (by rfl) HTL.out
                    (hI2.keep fun p hp => hb.cell hp) (by omega) (by simp) ?_
                   intro v1 w1 hown1 hg1 hat1
                   obtain ⟨R, rc, rfl, hrc, hrc'⟩ := own_slice hown1
                   simp only [Nat.zero_add, List.nil_append] at hown1
                   have hzz : wr.heap.size ≤ w1.heap.size := by have := hg1.size; simpa using this
                   have hadr1 : ad.block < w1.heap.size := by omega)
                | (refine step_append_lies _ (by rfl) (.tmp 30) (.tmp 40) 54 (by rfl) w.heap.size 56 i0 _ 2 32 Tryz.underlying54 hi0 hz0 hz1 hz2 rfl (by omega) u4 d.length xs (by rfl) ((hown.kept (undrew hg1) hne0).alloc _)
                    ⟨w1.heap.size, 0, none⟩ 1 1 [.int .i64 y, .slice R q rc] (by rfl) (by rfl) (World.news_of_block (cs := #[.int .i64 y, .slice R q rc]) (t := 56) (fr := (0, 0)) (heap_alloc_new w1 _)) (by simp [Value.oneCell'])
                    (by omega) (by unfold maxLen; omega) (by omega) (by simp; omega) (w1.heap.size + 1) (by simp) ?_
                   intro g cap w2 hown2 hg2 hat2 hlt2))
            go_wp2
            go_roundw
            case rel =>
              obtain rfl := HTL.out
              exact ⟨A3, n' - (2 + T.length), c' - (2 + T.length), r.drop (2 + T.length), d ++ [(y, T)], rfl, by omega, by omega, by rw [List.length_drop, HR.out], hI3, HMORE.out,
                out_step hown HXS.out (undrew hg1) hown1 hg2 hown2 hat2,
                ((hb.drew.grown hg1 hbs (by simp [Value.ownBlock])).alloc (by omega) _).grown hg2 (by simp; omega) (fun g hg => (hown.lt g hg).1)⟩
            case measure => simp [lenV]; omega
end Go.Proofs.YteaennegcnlpgaaGreat
