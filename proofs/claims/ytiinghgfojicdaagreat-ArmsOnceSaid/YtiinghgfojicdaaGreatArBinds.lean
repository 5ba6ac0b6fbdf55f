/- A part of the proofs of the laws of the arms: Binds. No conditions. -/
import Derived.Test.YtiinghgfojicdaaGreatArPats
import Derived.Deep.RegionWith
set_option linter.unusedVariables false
set_option linter.unusedSimpArgs false
namespace Go.Proofs.YtiinghgfojicdaaGreat
open Go.RowKit Go.RowG Go.FRow Go.GMem
set_option linter.unusedVariables false
attribute [local go_sem ↓] Go.wp_at_zero Go.wp_at_succ

theorem short_says (A : Option Addr) (n c : Nat) (w : World) : Calls Tryz.prog 9 #[.slice A n c] w fun e w' => e = .returned (.bool (decide ((n : Int) ≤ 300))) ∧ w' = w := by
  go_enter Tryz.func9, Tryz.ntmps9
  go_wp2
  go_ret
  exact ⟨rfl, rfl⟩
theorem fat_add {w : World} {S : Nat → Prop} : ∀ {f : F} {xs : List Value} {ad : Addr}, FRow.FCells w S f xs → (∀ j u, xs[j]? = some u → w.cell? (ad.add j) = some u) → FRow.FAt w S f ad
  | .nil, _, _, _, _ => trivial
  | .cons k n t a r, _, ad, ⟨R, c, ys, e, h1, h2, h3, h⟩, hc => by
    subst e
    refine ⟨by simpa [Addr.add] using hc 0 _ rfl, by simpa [Addr.add] using hc 1 _ rfl, by simpa [Addr.add] using hc 2 _ rfl, ⟨R, c, by simpa [Addr.add] using hc 3 _ rfl, h1, h2, h3⟩, ?_⟩
    refine fat_add h fun j u hu => ?_
    rw [add_plus, Nat.add_comm]
    exact hc (j + 4) u (by simpa using hu)
theorem TopAt.row {w w' : World} {B : Nat} {A : Option Addr} {f : F} (h : TopAt w B w' A f) (hB : B ≤ w.heap.size) (hb : Below w.heap.size w w') : RowAt w' w'.heap.size A f := fun hl => by
  obtain ⟨xs, h1, h2⟩ := h
  obtain ⟨ad, e, hlt, hc⟩ := h2 hl
  refine ⟨ad, e, hlt, fat_add (FRow.FCells.keep (fun b (hb' : b < B) => ?_) (fun p (hp : p.block < B) => hb.cell (by omega)) h1) hc⟩
  have := hb.size
  show b < w'.heap.size
  omega
/-- What leafy hands back on dice of its own. -/
def LeafyEnds (w : World) (e : Ending) (w' : World) : Prop :=
  ∃ (kk nn : Int) (tt : ByteArray) (f : F) (A' : Option Addr) (c' : Nat), e = .returned (agg4 kk nn tt A' f.len c') ∧ GRow w' (since w.heap.size w') A' f.len (encF f) ∧ f.len ≤ c' ∧ c' ≤ maxLen ∧ f.nodes ≤ 200 ∧ (Kin f ∧ 1 ≤ kk ∧ kk ≤ 6) ∧ Below w.heap.size w w'
theorem leafy_made (A : Option Addr) (n c : Nat) (L : List Int) (w : World) (hL : L.length = n) (hI : IntsAt w w.heap.size A L) (hn : n ≤ 300) :
    Calls Tryz.prog 11 #[.pointer (some ⟨w.heap.size, 0, none⟩), .int .i64 4] (w.alloc (.cells #[.slice A n c, .int .i64 0, .bool false] 33)) (LeafyEnds w) := by
  have hC : Rolls w.heap.size A n c (w.alloc (.cells #[.slice A n c, .int .i64 0, .bool false] 33)) := by
    refine rolls_of hL (hI.after ((Below.refl _ _).alloc (Nat.le_refl _) _)) (fun ad e h0 => ?_) hn (by simp)
    obtain ⟨ad', e', hlt, _⟩ := hI (by omega)
    rw [e] at e'
    obtain rfl := Option.some.inj e'
    omega
  refine (leafy_says w.heap.size A n c false _ hC 4 (by omega) 0 _ (Rolled.refl _ _) (heap_alloc_new w _) (by decide)).mono fun e w' h => ?_
  obtain ⟨kk, nn, tt, f, A', c', k', h1, h2, h3, h4, h5, hkin, h6, h7, h8⟩ := h
  exact ⟨kk, nn, tt, f, A', c', h1, h2.mono fun b hb => ⟨by have := hb.1; simp at this; omega, hb.2⟩, h3, h4, Nat.le_trans h5 (by decide), hkin, Rolled.below h8⟩

set_option maxRecDepth 100000 in
set_option maxHeartbeats 8000000 in
theorem binds_says (haw : ∀ w : World, Calls Tryz.prog 8 #[] w (TrueEnds w)) (A1 A2 : Option Addr) (n1 c1 n2 c2 : Nat) (L1 L2 : List Int) (w : World) (h1 : L1.length = n1) (h2 : L2.length = n2) (hI1 : IntsAt w w.heap.size A1 L1) (hI2 : IntsAt w w.heap.size A2 L2) :
    Calls Tryz.prog 3 #[.slice A1 n1 c1, .slice A2 n2 c2] w (TrueEnds w) := by
  have hs1 := fun w => short_says A1 n1 c1 w
  have hs2 := fun w => short_says A2 n2 c2 w
  by_cases hn1 : n1 ≤ 300
  · have d1 : decide ((n1 : Int) ≤ 300) = true := decide_eq_true (by omega)
    rw [d1] at hs1
    by_cases hn2 : n2 ≤ 300
    · have d2 : decide ((n2 : Int) ≤ 300) = true := decide_eq_true (by omega)
      rw [d2] at hs2
      have HP := Lib.hid fun (W : World) (hb : Below w.heap.size w W) => pats_says A1 n1 c1 L1 W h1 (hI1.after hb) hn1
      have HL := Lib.hid fun (W : World) (hb : Below w.heap.size w W) => leafy_made A2 n2 c2 L2 W h2 (hI2.after hb) hn2
      clear h1 h2 hI1 hI2 hn1 hn2 d1 d2
      go_enter Tryz.func3, Tryz.ntmps3
      go_wp2_with (first
        | (go_at_call 8; (with_reducible refine (haw _).mono ?_); rintro e w2 ⟨rfl, hb2⟩)
        | (go_at_call 9; (with_reducible refine (hs1 _).mono ?_); rintro e w3 ⟨rfl, rfl⟩)
        | (go_at_call 9; (with_reducible refine (hs2 _).mono ?_); rintro e w3 ⟨rfl, rfl⟩)
        | (go_at_call 10; (with_reducible refine (HP.out _ hb2).mono ?_); rintro e w4 ⟨P, AP, cP, rfl, hP, hPc, hPm, hPn, hPk, hb4⟩
           have hb4' : Below w.heap.size w w4 := hb2.trans (hb4.mono hb2.size))
        | (go_at_call 11; (with_reducible refine (HL.out _ hb4').mono ?_); rintro e w5 ⟨xk, xn, xt, xf, AX, cX, rfl, hX, hXc, hXm, hXn, hXk, hb5⟩
           have hb5' : Below w.heap.size w w5 := hb4'.trans (hb5.mono hb4'.size)
           have hbs5 := hb5'.size
           obtain ⟨wX, hwX⟩ : ∃ wX, wX = w5.alloc (.cells #[.int .i64 xk, .int .i64 xn, .string xt, .slice AX xf.len cX] 29) := ⟨_, rfl⟩
           have hb45 : Below w4.heap.size w4 wX := by rw [hwX]; exact hb5.alloc hb5.size _
           have hbX : Below w.heap.size w wX := by rw [hwX]; exact hb5'.alloc hbs5 _
           have hxX : Own4 wX w5.heap.size 29 (.int .i64 xk) (.int .i64 xn) (.string xt) (.slice AX xf.len cX) := by rw [hwX]; exact heap_alloc_new w5 _
           have hPr : RowAt wX wX.heap.size AP P := (row_of hP).keep (fun b hb => Nat.lt_of_lt_of_le hb.2 hb45.size) (fun p hp => hb45.cell hp.2)
           have hXr : RowAt wX w5.heap.size AX xf := (row_of hX).keep (fun b hb => hb.2) (fun p hp => by rw [hwX]; exact World.cell?_of_block (Below.heap_alloc _ _ _ hp.2))
           have hlx : w5.heap.size < wX.heap.size := hxX.lt
           have hask := asks_all P AP cP wX hPr (by omega)
           have hfirst : ∀ W, Below wX.heap.size wX W → Calls Tryz.prog 13 #[.slice AP P.len cP, agg4 xk xn xt AX xf.len cX] W (FirstEnds w5.heap.size (firstF xk xn xt xf P 0) W) := fun W hW =>
             first_says P xk xn xt xf AP AX cP cX w5.heap.size W (hPr.keep hW.size fun p hp => hW.cell hp) (hXr.keep (Nat.le_refl _) fun p hp => hW.cell (by omega)) (by have := hW.size; omega) hXc hXm (by omega) (by omega)
           have hbindX : ∀ (pk pn : Int) (pt : ByteArray) (pf : F) (Ap : Option Addr) (cp : Nat) (W : World), Below wX.heap.size wX W → RowAt wX wX.heap.size Ap pf → pf.nodes ≤ 200 → Calls Tryz.prog 14 #[agg4 pk pn pt Ap pf.len cp, agg4 xk xn xt AX xf.len cX] W (BindEnds w5.heap.size (bind1 pk pn pt pf xk xn xt xf) W) := fun pk pn pt pf Ap cp W hW hp hpn =>
             bind_head pk pn pt pf (bind_all pf) xk xn xt xf Ap AX cp cX w5.heap.size W (hp.keep hW.size fun p hp => hW.cell hp) (hXr.keep (Nat.le_refl _) fun p hp => hW.cell (by omega)) (by have := hW.size; omega) hXc hXm (by omega) (by omega)
           obtain ⟨q, hq⟩ : ∃ q, q = asksF P := ⟨_, rfl⟩
           rw [← hq] at hask
           obtain ⟨res, hres⟩ : ∃ res, res = firstF xk xn xt xf P 0 := ⟨_, rfl⟩
           rw [← hres] at hfirst
           have HRES := Lib.hid hres
           have HWX := Lib.hid hwX
           have HPN := Lib.hid hPn
           have HBX := Lib.hid hbindX
           have HXN := Lib.hid hXn
           have hrest := RowAt.rest hPr
           obtain ⟨m, hm⟩ : ∃ m, m = P.len := ⟨_, rfl⟩
           rw [← hm] at hask hfirst hPc hrest
           obtain ⟨xm, hxm⟩ : ∃ xm, xm = xf.len := ⟨_, rfl⟩
           rw [← hxm] at hfirst hbindX hxX HBX HWX
           simp only [← hm, ← hxm]
           have hml : m ≤ 200 := by have := F.len_nodes P; omega
           have HM := Lib.hid hm
           have HXM := Lib.hid hxm
           clear hq hres hwX hPn hXn hXr hX hP hb45 hm hxm hPr)
        | (rw [← HWX.out]; go_at_call 12; (with_reducible refine hask.mono ?_); rintro e w6 ⟨rfl, hb6⟩
           obtain ⟨⟨x0, x1, x2, x3⟩, _, _, _, _⟩ := (hxX.keep hb6).cells
           have hf6 := hfirst w6 hb6
           clear hask hfirst)
        | (go_at_call 13; (with_reducible refine hf6.mono ?_); rintro e w7 ⟨hfe, hb7⟩
           rcases res with _ | ⟨i, bf⟩
           focus
             simp only [] at hfe
             subst hfe
           rotate_left
           focus
             obtain ⟨A7, c7, rfl, htop⟩ := hfe
             have him : i < m := by have := first_lt HRES.out.symm; have := HM.out; omega
             have him' : (i : Int) < (m : Int) := by omega
             have hi0 : ¬ ((i : Int) < -1) := by omega
             have hi1 : ¬ ((i : Int) < 0) := by omega
             have hd0 : decide ((i : Int) < -1) = false := decide_eq_false hi0
             have hd1 : decide (m ≤ i) = false := decide_eq_false (by omega)
             have hd2 : decide ((m : Int) ≤ (i : Int)) = false := decide_eq_false (by omega)
             have hd3 : decide ((i : Int) < 0) = false := decide_eq_false hi1
           rotate_left))
      · go_ret
        exact ⟨rfl, hbX.trans (hb6.mono hbX.size)⟩
      · go_ret
        exact ⟨rfl, (hbX.trans (hb6.mono hbX.size)).trans (hb7.mono (by have := hbX.size; have := hb6.size; omega))⟩
      · have hX7 : Below wX.heap.size wX w7 := hb6.trans (hb7.mono hb6.size)
        have hX7s := hX7.size
        have hwX7 : w.heap.size ≤ wX.heap.size := hbX.size
        clear hs1 hs2 haw hf6 x0 x1 x2 x3 him him' hi0 hi1
        go_loopw [53] (fun i' wr => ∃ (j : Nat) (r : F), j ≤ i ∧ i' = .int .i64 j ∧ Rest wX wX.heap.size AP m j r ∧ firstF xk xn xt xf r j = some (i, bf) ∧ r.nodes ≤ 200 ∧ Below w7.heap.size w7 wr) (fun i' _ => i - (intOf i').toNat)
        case atStart => exact ⟨0, P, Nat.zero_le _, rfl, hrest, HRES.out.symm, HPN.out, Below.refl _ _⟩
        case round =>
          obtain ⟨j, r, hj, rfl, hre, hfj, hrn, hb⟩ := hrel
          cases r with
          | nil => simp [firstF] at hfj
          | cons pk pn pt pf r' =>
            have hjm : j < m := by have := hre.1; simp only [F.len] at this; omega
            obtain ⟨ad, R, rc, rfl, hab, hc0, hc1, hc2, hc3, hrl, hrm, hra, hre'⟩ := hre.step
            simp only [F.nodes] at hrn
            have hXr : Below wX.heap.size wX wr := hX7.trans (hb.mono hX7s)
            have hbs := hb.size
            have d0 := (hXr.cell (p := ad.add (j * 4)) (by rw [add_block]; exact hab)).trans hc0
            have d1 := (hXr.cell (p := ⟨(ad.add (j * 4)).block, (ad.add (j * 4)).off + 1, none⟩) (by rw [add_block]; exact hab)).trans hc1
            have d2 := (hXr.cell (p := ⟨(ad.add (j * 4)).block, (ad.add (j * 4)).off + 2, none⟩) (by rw [add_block]; exact hab)).trans hc2
            have d3 := (hXr.cell (p := ⟨(ad.add (j * 4)).block, (ad.add (j * 4)).off + 3, none⟩) (by rw [add_block]; exact hab)).trans hc3
            obtain ⟨⟨y0, y1, y2, y3⟩, _, _, _, _⟩ := (hxX.keep hXr).cells
            have hcall := HBX.out pk pn pt pf R rc wr.drew hXr.drew hra (by omega)
            have hbindsC : ∀ W, Below wX.heap.size wX W → Calls Tryz.prog 15 #[agg4 pk pn pt R pf.len rc] W (IntEnds (binds1 pk pf) W) := fun W hW => binds_head pk pn pt pf (binds_all pf) R rc W (hra.keep hW.size fun p hp => hW.cell hp) hrl hrm (by omega)
            have HBC := Lib.hid hbindsC
            obtain ⟨pm, hpm⟩ : ∃ pm, pm = pf.len := ⟨_, rfl⟩
            rw [← hpm] at d3 hcall HBC
            have hj0 : (0 : Int) ≤ (j : Int) := Int.natCast_nonneg _
            have hj1 : (j : Int) < (m : Int) := by omega
            clear hc0 hc1 hc2 hc3 hrl hrm hra hpm hbindsC
            by_cases hji : j < i
            · obtain ⟨hb1, hfj'⟩ := first_before hfj hji
              rw [hb1] at hcall
              have hji' : (j : Int) < (i : Int) := by omega
              have HF := Lib.hid hfj'
              clear hfj hfj' hb1 HBC
              go_wp2
              go_region_with (first
                | (go_at_call 14; (with_reducible refine hcall.mono ?_); rintro e w8 ⟨rfl, hb8⟩))
              all_goals
                go_wp2
                go_roundw
                case rel =>
                  exact ⟨j + 1, r', by omega, by go_num, hre', HF.out, by omega, hb.drew.trans (hb8.mono hbs)⟩
                case measure => simp [intOf]; omega
            · obtain rfl : j = i := by omega
              have hb1 := first_at hfj
              have hcnt := bind1_count _ _ _ _ _ _ _ _ _ hb1
              have hnod := bind1_nodes _ _ _ _ _ _ _ _ _ hb1
              rw [hb1] at hcall
              rw [← hcnt] at HBC
              have hcall' : Calls Tryz.prog 14 #[agg4 pk pn pt R pm rc, agg4 xk xn xt AX xm cX] wr.drew (BindSome w5.heap.size bf wr.drew) := hcall.mono fun e w' ⟨⟨A, c, h1, h2, _, _⟩, h5⟩ => ⟨A, c, h1, h2, h5⟩
              have hxn := HXN.out
              have hnod' : bf.nodes ≤ 100000 := by omega
              have hrow7 : RowAt w7 w7.heap.size A7 bf := TopAt.row htop (by have := hb6.size; omega) hb7
              have hdm : decide (j < m) = true := decide_eq_true hjm
              clear hfj hb1 hcnt hcall hxn hnod
              go_wp2
              go_region_with (first
                | (go_at_call 14; (with_reducible refine hcall'.mono ?_); rintro e w8 ⟨A8, c8, rfl, htop8, hb8⟩
                   have hX8 : Below wX.heap.size wX w8 := hXr.drew.trans (hb8.mono hXr.size)
                   have h78 : Below w7.heap.size w7 w8 := hb.drew.trans (hb8.mono hbs)
                   have hrow8 : RowAt w8 w8.heap.size A8 bf := TopAt.row htop8 (by show w5.heap.size ≤ wr.heap.size; omega) hb8))
              all_goals
                clear y0 y1 y2 y3
                have e0 := (hb8.cell (p := ad.add (j * 4)) (by rw [add_block]; show _ < wr.heap.size; omega)).trans d0
                have e1 := (hb8.cell (p := ⟨(ad.add (j * 4)).block, (ad.add (j * 4)).off + 1, none⟩) (by rw [add_block]; show _ < wr.heap.size; omega)).trans d1
                have e2 := (hb8.cell (p := ⟨(ad.add (j * 4)).block, (ad.add (j * 4)).off + 2, none⟩) (by rw [add_block]; show _ < wr.heap.size; omega)).trans d2
                have e3 := (hb8.cell (p := ⟨(ad.add (j * 4)).block, (ad.add (j * 4)).off + 3, none⟩) (by rw [add_block]; show _ < wr.heap.size; omega)).trans d3
                clear d0 d1 d2 d3 hcall'
                have hbc := HBC.out w8 hX8
                obtain ⟨bn, hbn⟩ : ∃ bn, bn = bf.len := ⟨_, rfl⟩
                have heq : ∀ W, Below w8.heap.size w8 W → Calls Tryz.prog 16 #[.slice A7 bn c7, .slice A8 bn c8, .func (.func 17) #[] #[]] W (SameEnds W) := fun W hW => by
                  rw [hbn]
                  exact eqv_says bf (same_all bf) A7 A8 c7 c8 W ((hrow7.keep h78.size fun p hp => h78.cell hp).keep hW.size fun p hp => hW.cell hp) (hrow8.keep hW.size fun p hp => hW.cell hp) hnod'
                rw [← hbn] at hbc
                simp only [← hbn]
                clear hbn
                go_wp2_with (first
                  | (go_at_call 15; (with_reducible refine hbc.mono ?_); rintro e w9 ⟨rfl, hb9⟩
                     have heq9 := heq w9 hb9)
                  | (go_at_call 16; (with_reducible refine heq9.mono ?_); rintro e w10 ⟨rfl, hb10⟩))
                go_ret
                refine ⟨rfl, ?_⟩
                exact ((hbX.trans (hX8.mono hwX7)).trans (hb9.mono (by have := hX8.size; omega))).trans (hb10.mono (by have := hX8.size; have := hb9.size; omega))
    · have d2 : decide ((n2 : Int) ≤ 300) = false := decide_eq_false (by omega)
      rw [d2] at hs2
      clear h1 h2 hI1 hI2 hn1 hn2 d1 d2
      go_enter Tryz.func3, Tryz.ntmps3
      go_wp2_with (first
        | (go_at_call 8; (with_reducible refine (haw _).mono ?_); rintro e w2 ⟨rfl, hb2⟩)
        | (go_at_call 9; (with_reducible refine (hs1 _).mono ?_); rintro e w3 ⟨rfl, rfl⟩)
        | (go_at_call 9; (with_reducible refine (hs2 _).mono ?_); rintro e w3 ⟨rfl, rfl⟩))
      go_ret
      exact ⟨rfl, hb2⟩
  · have d1 : decide ((n1 : Int) ≤ 300) = false := decide_eq_false (by omega)
    rw [d1] at hs1
    clear h1 h2 hI1 hI2 hn1 d1
    go_enter Tryz.func3, Tryz.ntmps3
    go_wp2_with (first
      | (go_at_call 8; (with_reducible refine (haw _).mono ?_); rintro e w2 ⟨rfl, hb2⟩)
      | (go_at_call 9; (with_reducible refine (hs1 _).mono ?_); rintro e w3 ⟨rfl, rfl⟩))
    go_ret
    exact ⟨rfl, hb2⟩
end Go.Proofs.YtiinghgfojicdaaGreat
