/- ArmsOnce: no question is asked twice on the way to a leaf. No conditions. -/
import Derived.Test.YtiinghgfojicdaaGreatArPicks
import Derived.Test.YtiinghgfojicdaaGreatArOnceA
set_option linter.unusedVariables false
set_option linter.unusedSimpArgs false
namespace Go.Proofs.YtiinghgfojicdaaGreat
open Go.RowKit Go.RowG Go.FRow Go.GMem
set_option linter.unusedVariables false
set_option maxRecDepth 100000
attribute [local go_sem ↓] Go.wp_at_zero Go.wp_at_succ

theorem ask_nine2 {w : World} {S : Nat → Prop} {t : T} {y n : Tr} {xs : List Value} (h : GCells w S (encTr (.ask t y n) .nil) xs) : ∃ Rp cp Ay cy An cn, xs = [.bool false, .int .i64 0, .slice Rp t.path.length cp, .int .i64 t.k, .int .i64 t.n, .string t.t, .slice none 0 0, .slice Ay 1 cy, .slice An 1 cn] ∧
    GRow w S Rp t.path.length (encI t.path) ∧ 1 ≤ cy ∧ cy ≤ maxLen ∧ GRow w S Ay 1 (encTr y .nil) ∧ 1 ≤ cn ∧ cn ≤ maxLen ∧ GRow w S An 1 (encTr n .nil) ∧ t.path.length ≤ cp ∧ cp ≤ maxLen := by
  obtain ⟨_, e, _, _, e1, _, A, c, _, e2, h1, h2, h3, _, e3, _, _, e4, _, _, e5, _, _, e6, _, A1, c1, _, e7, h4, h5, h6, A2, c2, _, e8, h7, h8, h9, e9⟩ := h
  subst e9 e8 e7 e6 e5 e4 e3 e2 e1 e
  exact ⟨A, c, A1, c1, A2, c2, rfl, h3, h4, h5, h6, h7, h8, h9, h1, h2⟩
/-- What ArmsOnce's loop holds to. -/
structure Onced (z q m : Nat) (W8 : World) (t : Tr) (seen : List T) (ys xs : List Value) (v : Value) (wr : World) (kk : Nat) : Prop where
  cells : GCells W8 (fun b => b < z) (encTr t .nil) ys
  tree : wr.heap[z]? = some (.cells ys.toArray 59 (0, 0))
  own : wr.ownsRow (z + 1) 56 5 v seen.length xs
  row : GCells W8 (fun b => b < z) (encTs seen) xs
  once : onceT t seen
  short : ∀ s ∈ seen, s.path.length ≤ 1000
  few : fewT t
  high : highT t + kk ≤ q + 1
  arms : armsT m t
  len : seen.length = kk
  below : Below z W8 wr

set_option maxHeartbeats 16000000 in
theorem onces_says (haw : ∀ w : World, Calls Tryz.prog 8 #[] w (TrueEnds w)) (A1 A2 : Option Addr) (n1 c1 n2 c2 : Nat) (L1 L2 : List Int) (w : World) (h1 : L1.length = n1) (h2 : L2.length = n2) (hI1 : IntsAt w w.heap.size A1 L1) (hI2 : IntsAt w w.heap.size A2 L2) :
    Calls Tryz.prog 5 #[.slice A1 n1 c1, .slice A2 n2 c2] w (TrueEnds w) := by
  have hs1 := fun w => short_says A1 n1 c1 w
  have hs2 := fun w => short_says A2 n2 c2 w
  by_cases hn1 : n1 ≤ 300
  · have d1 : decide ((n1 : Int) ≤ 300) = true := decide_eq_true (by omega)
    rw [d1] at hs1
    by_cases hn2 : n2 ≤ 300
    · have d2 : decide ((n2 : Int) ≤ 300) = true := decide_eq_true (by omega)
      rw [d2] at hs2
      have HP := Lib.hid fun (W : World) (hb : Below w.heap.size w W) => pats_says A1 n1 c1 L1 W h1 (hI1.after hb) hn1
      have HL := Lib.hid fun (W : World) (hb : Below w.heap.size w W) => leafy_made A2 n2 c2 L2 W h2 (hI2.after hb) hn2
      clear h1 h2 hI1 hI2 hn1 hn2 d1 d2
      go_enter Tryz.func5, Tryz.ntmps5
      go_wp2_with (first
        | (go_at_call 8; (with_reducible refine (haw _).mono ?_); rintro e w2 ⟨rfl, hb2⟩)
        | (go_at_call 9; (with_reducible refine (hs1 _).mono ?_); rintro e w3 ⟨rfl, rfl⟩)
        | (go_at_call 9; (with_reducible refine (hs2 _).mono ?_); rintro e w3 ⟨rfl, rfl⟩)
        | (go_at_call 10; (with_reducible refine (HP.out _ hb2).mono ?_); rintro e w4 ⟨P, AP, cP, rfl, hP, hPc, hPm, hPn, hPk, hb4⟩
           have hb4' : Below w.heap.size w w4 := hb2.trans (hb4.mono hb2.size))
        | (go_at_call 11; (with_reducible refine (HL.out _ hb4').mono ?_); rintro e w5 ⟨xk, xn, xt, xf, AX, cX, rfl, hX, hXc, hXm, hXn, hXk, hb5⟩
           have hb5' : Below w.heap.size w w5 := hb4'.trans (hb5.mono hb4'.size)
           have hbs5 := hb5'.size
           obtain ⟨wX, hwX⟩ : ∃ wX, wX = w5.alloc (.cells #[.int .i64 xk, .int .i64 xn, .string xt, .slice AX xf.len cX] 29) := ⟨_, rfl⟩
           have hb45 : Below w4.heap.size w4 wX := by rw [hwX]; exact hb5.alloc hb5.size _
           have hbX : Below w.heap.size w wX := by rw [hwX]; exact hb5'.alloc hbs5 _
           have hxX : Own4 wX w5.heap.size 29 (.int .i64 xk) (.int .i64 xn) (.string xt) (.slice AX xf.len cX) := by rw [hwX]; exact heap_alloc_new w5 _
           have hPr : RowAt wX wX.heap.size AP P := (row_of hP).keep (fun b hb => Nat.lt_of_lt_of_le hb.2 hb45.size) (fun p hp => hb45.cell hp.2)
           have hXr : RowAt wX wX.heap.size AX xf := (row_of hX).keep (fun b hb => by rw [hwX]; exact Nat.lt_of_lt_of_le hb.2 (by simp)) (fun p hp => by rw [hwX]; exact World.cell?_of_block (Below.heap_alloc _ _ _ hp.2))
           have hK : Known wX P AP P.len cP xk xn xt xf AX xf.len cX := known hPr hPn hPk hXr hXc hXm hXn
           have HWX := Lib.hid hwX
           obtain ⟨m, hm⟩ : ∃ m, m = P.len := ⟨_, rfl⟩
           obtain ⟨xm, hxm⟩ : ∃ xm, xm = xf.len := ⟨_, rfl⟩
           rw [← hm, ← hxm] at hK
           rw [← hxm] at hxX HWX
           simp only [← hm, ← hxm]
           have hask := hK.asks wX (Below.refl _ _)
           have hml := P.len_nodes
           have harms := rows_arms (asksF P + 1) P
           have honce := rows_once (asksF P + 1) P
           have hfews := few_build (asksF P + 1) _ fun x hx => (rows_few hPn x hx).2
           have hhigh := high_build (asksF P + 1) (rowsF P 0)
           have hhold := fun (t : T) (Rp : Option Addr) (cp : Nat) (W : World) (hb : Below wX.heap.size wX W) (hp : GRow W (lt W) Rp t.path.length (encI t.path)) (hl : t.path.length ≤ 1000) =>
             holds_says t.path t.k t.n t.t Rp cp xk xn xt xf AX cX W hp hl (RowAt.keep hXr hb.size fun p hp => hb.cell hp) hXc hXm (by omega)
           rw [← hxm] at hhold
           have hof := hK.of
           obtain ⟨tr, htr⟩ : ∃ tr, tr = buildR (asksF P + 1) (rowsF P 0) := ⟨_, rfl⟩
           rw [← htr] at harms honce hfews hhigh hof
           rw [← hm] at harms hml
           obtain ⟨q, hq⟩ : ∃ q, q = asksF P := ⟨_, rfl⟩
           rw [← hq] at hask hhigh
           have hm200 : m ≤ 200 := by omega
           have HARMS := Lib.hid harms
           have HONCE := Lib.hid honce
           have HFEWS := Lib.hid hfews
           have HH := Lib.hid hhold
           have HOF := Lib.hid hof
           have hlx : w5.heap.size < wX.heap.size := hxX.lt
           clear hof hhold hK hwX hPr hXr hP hX hb45 hm hxm hq htr harms honce hfews hml hPn)
        | (rw [← HWX.out]; go_at_call 12; (with_reducible refine hask.mono ?_); rintro e w6 ⟨rfl, hb6⟩
           have hxX6 := hxX.keep hb6
           obtain ⟨⟨x0, x1, x2, x3⟩, _, _, _, _⟩ := hxX6.cells
           have hof6 := HOF.out w6 hb6)
        | (go_at_call 22
           (with_reducible refine hof6.mono ?_)
           rintro e w7 ⟨xs7, rfl, hg7, hb7⟩
           obtain ⟨b7, a7, A7, n7, c7, k7, m7, s7, A71, n71, c71, A72, n72, c72, rfl⟩ := tree_nine hg7
           have hb7X : Below wX.heap.size wX w7 := hb6.trans (hb7.mono hb6.size)
           have hb7s := hb7X.size
           obtain ⟨W8, hW8⟩ : ∃ W8, W8 = w7.alloc (.cells #[.bool b7, .int .i64 a7, .slice A7 n7 c7, .int .i64 k7, .int .i64 m7, .string s7, .slice none 0 0, .slice A71 n71 c71, .slice A72 n72 c72] 59) := ⟨_, rfl⟩
           have hz8 : W8.heap[w7.heap.size]? = some (.cells [.bool b7, .int .i64 a7, .slice A7 n7 c7, .int .i64 k7, .int .i64 m7, .string s7, .slice none 0 0, .slice A71 n71 c71, .slice A72 n72 c72].toArray 59 (0, 0)) := by rw [hW8]; exact heap_alloc_new w7 _
           have hs8 : W8.heap.size = w7.heap.size + 1 := by rw [hW8]; simp
           have hg8 : GCells W8 (fun b => b < w7.heap.size) (encTr tr .nil) [.bool b7, .int .i64 a7, .slice A7 n7 c7, .int .i64 k7, .int .i64 m7, .string s7, .slice none 0 0, .slice A71 n71 c71, .slice A72 n72 c72] := by
             rw [hW8]
             exact hg7.keep (fun b hb => by rcases hb with h | h; exact h.elim; exact h.2) fun p hp => World.cell?_of_block (Below.heap_alloc _ _ _ (by rcases hp with h | h; exact h.elim; exact h.2))
           have hb8X : Below wX.heap.size wX W8 := by rw [hW8]; exact hb7X.alloc hb7s _
           have HW8 := Lib.hid hW8
           have HZ8 := Lib.hid hz8
           have HG8 := Lib.hid hg8
           clear hg7 hW8 hz8 hg8)
        | fail "none")
      · go_ret
        exact ⟨rfl, hbX.trans (hb6.mono hbX.size)⟩
      · have hq16 : q ≤ 16 := by omega
        clear hask hs1 hs2 haw hXn x0 x1 x2 x3 hof6
        go_loopw [8, 9] (fun v i wr => ∃ (kk : Nat) (t : Tr) (seen : List T) (ys xs : List Value), i = .int .i64 (kk : Int) ∧ Onced w7.heap.size q m W8 t seen ys xs v wr kk) (fun _ i _ => 200 - (intOf i).toNat)
        case atStart => exact ⟨0, tr, [], _, [], rfl, ⟨HG8.out, by rw [← HW8.out]; exact HZ8.out, World.ownsRow_nil _ _ _ _, rfl, HONCE.out, by simp, HFEWS.out, by omega, HARMS.out, rfl, by rw [← HW8.out]; exact Below.refl _ _⟩⟩
        case round =>
          obtain ⟨kk, t, seen, ys, xs, rfl, hcs, htree, hown, hsc, hon, hsh, hfw, hhi, har, hln, hb⟩ := hrel
          have hzl : w7.heap.size < wr.heap.size := (Array.getElem?_eq_some_iff.1 htree).1
          have hbX8 : Below wX.heap.size wX wr := hb8X.trans (hb.mono hb7s)
          cases t with
          | leaf a =>
            obtain rfl := leaf_nine hcs
            obtain ⟨⟨y0, y1, y2, y3, y4, y5, y6, y7, y8⟩, _⟩ := own_nine htree
            have g1 : decide ((-1 : Int) ≤ a) = true := decide_eq_true har.1
            have g2 : decide (a < (m : Int)) = true := decide_eq_true har.2
            clear htree hcs hown hsc
            go_wp2
            go_ret
            exact ⟨rfl, hbX.trans (hbX8.mono hbX.size)⟩
          | ask t y n =>
            obtain ⟨Rp, cp, Ay, cy, An, cn, rfl, hRp, hy1, hy2, hgy, hn1, hn2, hgn, hp1, hp2⟩ := ask_nine2 hcs
            obtain ⟨hon1, hon2, hon3⟩ := hon
            obtain ⟨hfw1, hfw2, hfw3⟩ := hfw
            obtain ⟨har1, har2⟩ := har
            simp only [highT] at hhi
            have hkk : decide ((kk : Int) < 200) = true := decide_eq_true (by omega)
            obtain ⟨A5, c5, rfl, h51, h52, h53⟩ := CellsAt.of_own hown
            have hrow : GRow wr (lt wr) A5 seen.length (encTs seen) := fun hl => by
              obtain ⟨b, o, rfl, hg, hc⟩ := h53 (by rw [hown.1]; omega)
              exact ⟨b, o, xs, rfl, hg, hsc.keep (fun b hb => Nat.lt_trans hb hzl) (fun p hp => hb.cell hp), hc⟩
            have hRpr : ∀ W, Below w7.heap.size W8 W → w7.heap.size < W.heap.size → GRow W (lt W) Rp t.path.length (encI t.path) := fun W hW hl => hRp.keep (fun b hb => Nat.lt_trans hb hl) fun p hp => hW.cell hp
            have hcon := contains_says seen t A5 Rp c5 cp w7.heap.size false 0 Ay An 1 cy 1 cn wr hrow (hRpr wr hb hzl) hsh (by omega) htree hon1
            have hH := fun (W : World) (h1 : Below wX.heap.size wX W) (h2 : GRow W (lt W) Rp t.path.length (encI t.path)) => HH.out t Rp cp W h1 h2 hfw1
            have hsh' : ∀ s ∈ seen ++ [t], s.path.length ≤ 1000 := fun s hs => by
              rcases List.mem_append.1 hs with h | h
              · exact hsh s h
              · obtain rfl : s = t := by simpa using h
                exact hfw1
            have hcell : GCells W8 (fun b => b < w7.heap.size) (encTs (seen ++ [t])) (xs ++ [.slice Rp t.path.length cp, .int .i64 t.k, .int .i64 t.n, .string t.t, .slice none 0 0]) := by
              rw [encTs_app]
              exact hsc.app ⟨Rp, cp, _, rfl, hp1, hp2, hRp, _, rfl, rfl, _, rfl, rfl, _, rfl, rfl, _, rfl, rfl, rfl⟩
            have hlen' : (seen ++ [t]).length = kk + 1 := by simp [hln]
            rw [hln] at hcon hown
            rw [hln]
            obtain ⟨⟨y0, y1, y2, y3, y4, y5, y6, y7, y8⟩, _⟩ := own_nine htree
            obtain ⟨PP, tk, tn, tt⟩ := t
            simp only at hcon hH hRpr y2 y3 y4 y5 htree hcell hp1
            obtain ⟨pl, hpl⟩ : ∃ pl, pl = PP.length := ⟨_, rfl⟩
            rw [← hpl] at hH hRpr y2 htree hcell
            obtain ⟨hold, hhold⟩ : ∃ hold, hold = holdsT ⟨PP, tk, tn, tt⟩ ⟨xk, xn, xt, xf⟩ := ⟨_, rfl⟩
            rw [← hhold] at hH
            have HHH := Lib.hid hH
            have HRR := Lib.hid hRpr
            have HON2 := Lib.hid hon2
            have HON3 := Lib.hid hon3
            have HSH := Lib.hid hsh'
            have HCL := Lib.hid hcell
            have HTR := Lib.hid htree
            have HLE := Lib.hid hlen'
            clear hH hRpr hon1 hon2 hon3 hsh hsh' hcell htree hrow h53 hcs hsc hRp hlen' hhold hpl hln
            cases hold with
            | true =>
              obtain ⟨bb, o, b9, a9, A9, n9, c9, k9, m9, s9, A91, n91, c91, A92, n92, c92, rfl, hSb, hg9, e0, e1, e2, e3, e4, e5, e6, e7, e8⟩ := row_nine hgy
              clear hgy hgn
              go_wp2_with (first
                | (go_at_call 23
                   (with_reducible refine hcon.mono ?_)
                   rintro e w9 ⟨rfl, hb9⟩
                   have hX9 : Below wX.heap.size wX w9 := hbX8.trans (hb9.mono hbX8.size)
                   have hZ9 : Below w7.heap.size W8 w9 := hb.trans (hb9.mono (Nat.le_of_lt hzl))
                   have hown9 := hown.kept ⟨hb9.os, hb9.tape, hb9.output, hb9.size, fun k hk _ => hb9.block k hk⟩ (Classical.em _)
                   have hz9 := (hb9.block w7.heap.size hzl).trans HTR.out
                   have hzl9 : w7.heap.size < w9.heap.size := Nat.lt_of_lt_of_le hzl hb9.size
                   obtain ⟨⟨u0, u1, u2, u3, u4, u5, u6, u7, u8⟩, _⟩ := own_nine hz9
                   clear y0 y1 y2 y3 y4 y5 y6 y7 y8 hcon)
                | (at_builtin
                   refine wpList_append_onez tstTy (by decide) w9 [.slice Rp pl cp, .int .i64 tk, .int .i64 tn, .string tt, .slice none 0 0] 56 w9.heap.size rfl rfl (.tmp 44) (.tmp 47) rfl (w7.heap.size + 1) _ kk xs rfl hown9 rfl rfl (by simp [Value.oneCell']) (by omega) (by omega) ?_
                   intro v11 w11 hown11 hg11 hv11
                   have hlow := fun gg hg => (hown9.lt gg hg).1
                   have hX11 : Below wX.heap.size wX w11 := (hX9.alloc hX9.size _).grown hg11 (by have := hX9.size; simp; omega) (fun k hk => by have := hlow k hk; omega)
                   have hZ11 : Below w7.heap.size W8 w11 := (hZ9.alloc (Nat.le_of_lt hzl9) _).grown hg11 (by simp; omega) (fun k hk => by have := hlow k hk; omega)
                   have hz11 := (hg11.block w7.heap.size (by simp; omega) (fun e => by have := hlow _ e.symm; omega)).trans ((heap_alloc_old w9 _ hzl9).trans hz9)
                   have hzl11 : w7.heap.size < w11.heap.size := (Array.getElem?_eq_some_iff.1 hz11).1
                   obtain ⟨⟨q0, q1, q2, q3, q4, q5, q6, q7, q8⟩, _⟩ := own_nine hz11
                   obtain ⟨⟨k0, k1, k2, k3⟩, _, _, _, _⟩ := (hxX.keep hX11).cells
                   have hcall := HHH.out w11 hX11 (HRR.out w11 hZ11 hzl11)
                   clear u0 u1 u2 u3 u4 u5 u6 u7 u8)
                | (go_at_call 26
                   (with_reducible refine hcall.mono ?_)
                   rintro e w12 ⟨rfl, hb12⟩
                   have hZ12 : Below w7.heap.size W8 w12 := hZ11.trans (hb12.mono (Nat.le_of_lt hzl11))
                   have hz12 := (hb12.block w7.heap.size hzl11).trans hz11
                   have hzl12 : w7.heap.size < w12.heap.size := Nat.lt_of_lt_of_le hzl11 hb12.size
                   have hx9 := own_nine hz12
                   have x0 := hx9.1.1
                   have x1 := hx9.1.2.1
                   have x2 := hx9.1.2.2.1
                   have x3 := hx9.1.2.2.2.1
                   have x4 := hx9.1.2.2.2.2.1
                   have x5 := hx9.1.2.2.2.2.2.1
                   have x6 := hx9.1.2.2.2.2.2.2.1
                   have x7 := hx9.1.2.2.2.2.2.2.2.1
                   have x8 := hx9.1.2.2.2.2.2.2.2.2
                   have f0 := hx9.2.1
                   have f1 := hx9.2.2.1
                   have f2 := hx9.2.2.2.1
                   have f3 := hx9.2.2.2.2.1
                   have f4 := hx9.2.2.2.2.2.1
                   have f5 := hx9.2.2.2.2.2.2.1
                   have f6 := hx9.2.2.2.2.2.2.2.1
                   have f7 := hx9.2.2.2.2.2.2.2.2.1
                   have f8 := hx9.2.2.2.2.2.2.2.2.2
                   have u0 := (hZ12.cell (p := ⟨bb, o, none⟩) hSb).trans e0
                   have u1 := (hZ12.cell (p := ⟨bb, o + 1, none⟩) hSb).trans e1
                   have u2 := (hZ12.cell (p := ⟨bb, o + 2, none⟩) hSb).trans e2
                   have u3 := (hZ12.cell (p := ⟨bb, o + 3, none⟩) hSb).trans e3
                   have u4 := (hZ12.cell (p := ⟨bb, o + 4, none⟩) hSb).trans e4
                   have u5 := (hZ12.cell (p := ⟨bb, o + 5, none⟩) hSb).trans e5
                   have u6 := (hZ12.cell (p := ⟨bb, o + 6, none⟩) hSb).trans e6
                   have u7 := (hZ12.cell (p := ⟨bb, o + 7, none⟩) hSb).trans e7
                   have u8 := (hZ12.cell (p := ⟨bb, o + 8, none⟩) hSb).trans e8
                   have HZ12 := Lib.hid hz12
                   clear hx9 hz12 e0 e1 e2 e3 e4 e5 e6 e7 e8 hcall q0 q1 q2 q3 q4 q5 q6 q7 q8)
                | fail "none")
              go_roundw
              case measure => simp [intOf]; omega
              case rel =>
                have hF := Filled.base HZ12.out (v0 := .bool b9) (v1 := .int .i64 a9) (v2 := .slice A9 n9 c9) (v3 := .int .i64 k9) (v4 := .int .i64 m9) (v5 := .string s9) (v6 := .slice none 0 0) (v7 := .slice A91 n91 c91) (v8 := .slice A92 n92 c92)
                have ho12 := hown11.kept ⟨hb12.os, hb12.tape, hb12.output, hb12.size, fun k hk _ => hb12.block k hk⟩ (Classical.em _)
                have ho13 := ho12.kept (row := some w7.heap.size) ⟨hF.below.os, hF.below.tape, hF.below.output, hF.size, fun k hk hne => hF.rest k hk fun e => hne (by rw [e])⟩ (Or.inr fun e => by have := (ho12.lt _ e).1; omega)
                exact ⟨kk + 1, y, seen ++ [⟨PP, tk, tn, tt⟩], _, _, by go_num, ⟨hg9, hF.own, by rw [HLE.out]; exact ho13, HCL.out, HON2.out, HSH.out, hfw2, by omega, har1, HLE.out, hZ12.trans hF.below⟩⟩
            | false =>
              obtain ⟨bb, o, b9, a9, A9, n9, c9, k9, m9, s9, A91, n91, c91, A92, n92, c92, rfl, hSb, hg9, e0, e1, e2, e3, e4, e5, e6, e7, e8⟩ := row_nine hgn
              clear hgy hgn
              go_wp2_with (first
                | (go_at_call 23
                   (with_reducible refine hcon.mono ?_)
                   rintro e w9 ⟨rfl, hb9⟩
                   have hX9 : Below wX.heap.size wX w9 := hbX8.trans (hb9.mono hbX8.size)
                   have hZ9 : Below w7.heap.size W8 w9 := hb.trans (hb9.mono (Nat.le_of_lt hzl))
                   have hown9 := hown.kept ⟨hb9.os, hb9.tape, hb9.output, hb9.size, fun k hk _ => hb9.block k hk⟩ (Classical.em _)
                   have hz9 := (hb9.block w7.heap.size hzl).trans HTR.out
                   have hzl9 : w7.heap.size < w9.heap.size := Nat.lt_of_lt_of_le hzl hb9.size
                   obtain ⟨⟨u0, u1, u2, u3, u4, u5, u6, u7, u8⟩, _⟩ := own_nine hz9
                   clear y0 y1 y2 y3 y4 y5 y6 y7 y8 hcon)
                | (at_builtin
                   refine wpList_append_onez tstTy (by decide) w9 [.slice Rp pl cp, .int .i64 tk, .int .i64 tn, .string tt, .slice none 0 0] 56 w9.heap.size rfl rfl (.tmp 44) (.tmp 47) rfl (w7.heap.size + 1) _ kk xs rfl hown9 rfl rfl (by simp [Value.oneCell']) (by omega) (by omega) ?_
                   intro v11 w11 hown11 hg11 hv11
                   have hlow := fun gg hg => (hown9.lt gg hg).1
                   have hX11 : Below wX.heap.size wX w11 := (hX9.alloc hX9.size _).grown hg11 (by have := hX9.size; simp; omega) (fun k hk => by have := hlow k hk; omega)
                   have hZ11 : Below w7.heap.size W8 w11 := (hZ9.alloc (Nat.le_of_lt hzl9) _).grown hg11 (by simp; omega) (fun k hk => by have := hlow k hk; omega)
                   have hz11 := (hg11.block w7.heap.size (by simp; omega) (fun e => by have := hlow _ e.symm; omega)).trans ((heap_alloc_old w9 _ hzl9).trans hz9)
                   have hzl11 : w7.heap.size < w11.heap.size := (Array.getElem?_eq_some_iff.1 hz11).1
                   obtain ⟨⟨q0, q1, q2, q3, q4, q5, q6, q7, q8⟩, _⟩ := own_nine hz11
                   obtain ⟨⟨k0, k1, k2, k3⟩, _, _, _, _⟩ := (hxX.keep hX11).cells
                   have hcall := HHH.out w11 hX11 (HRR.out w11 hZ11 hzl11)
                   clear u0 u1 u2 u3 u4 u5 u6 u7 u8)
                | (go_at_call 26
                   (with_reducible refine hcall.mono ?_)
                   rintro e w12 ⟨rfl, hb12⟩
                   have hZ12 : Below w7.heap.size W8 w12 := hZ11.trans (hb12.mono (Nat.le_of_lt hzl11))
                   have hz12 := (hb12.block w7.heap.size hzl11).trans hz11
                   have hzl12 : w7.heap.size < w12.heap.size := Nat.lt_of_lt_of_le hzl11 hb12.size
                   have hx9 := own_nine hz12
                   have x0 := hx9.1.1
                   have x1 := hx9.1.2.1
                   have x2 := hx9.1.2.2.1
                   have x3 := hx9.1.2.2.2.1
                   have x4 := hx9.1.2.2.2.2.1
                   have x5 := hx9.1.2.2.2.2.2.1
                   have x6 := hx9.1.2.2.2.2.2.2.1
                   have x7 := hx9.1.2.2.2.2.2.2.2.1
                   have x8 := hx9.1.2.2.2.2.2.2.2.2
                   have f0 := hx9.2.1
                   have f1 := hx9.2.2.1
                   have f2 := hx9.2.2.2.1
                   have f3 := hx9.2.2.2.2.1
                   have f4 := hx9.2.2.2.2.2.1
                   have f5 := hx9.2.2.2.2.2.2.1
                   have f6 := hx9.2.2.2.2.2.2.2.1
                   have f7 := hx9.2.2.2.2.2.2.2.2.1
                   have f8 := hx9.2.2.2.2.2.2.2.2.2
                   have u0 := (hZ12.cell (p := ⟨bb, o, none⟩) hSb).trans e0
                   have u1 := (hZ12.cell (p := ⟨bb, o + 1, none⟩) hSb).trans e1
                   have u2 := (hZ12.cell (p := ⟨bb, o + 2, none⟩) hSb).trans e2
                   have u3 := (hZ12.cell (p := ⟨bb, o + 3, none⟩) hSb).trans e3
                   have u4 := (hZ12.cell (p := ⟨bb, o + 4, none⟩) hSb).trans e4
                   have u5 := (hZ12.cell (p := ⟨bb, o + 5, none⟩) hSb).trans e5
                   have u6 := (hZ12.cell (p := ⟨bb, o + 6, none⟩) hSb).trans e6
                   have u7 := (hZ12.cell (p := ⟨bb, o + 7, none⟩) hSb).trans e7
                   have u8 := (hZ12.cell (p := ⟨bb, o + 8, none⟩) hSb).trans e8
                   have HZ12 := Lib.hid hz12
                   clear hx9 hz12 e0 e1 e2 e3 e4 e5 e6 e7 e8 hcall q0 q1 q2 q3 q4 q5 q6 q7 q8)
                | fail "none")
              go_roundw
              case measure => simp [intOf]; omega
              case rel =>
                have hF := Filled.base HZ12.out (v0 := .bool b9) (v1 := .int .i64 a9) (v2 := .slice A9 n9 c9) (v3 := .int .i64 k9) (v4 := .int .i64 m9) (v5 := .string s9) (v6 := .slice none 0 0) (v7 := .slice A91 n91 c91) (v8 := .slice A92 n92 c92)
                have ho12 := hown11.kept ⟨hb12.os, hb12.tape, hb12.output, hb12.size, fun k hk _ => hb12.block k hk⟩ (Classical.em _)
                have ho13 := ho12.kept (row := some w7.heap.size) ⟨hF.below.os, hF.below.tape, hF.below.output, hF.size, fun k hk hne => hF.rest k hk fun e => hne (by rw [e])⟩ (Or.inr fun e => by have := (ho12.lt _ e).1; omega)
                exact ⟨kk + 1, n, seen ++ [⟨PP, tk, tn, tt⟩], _, _, by go_num, ⟨hg9, hF.own, by rw [HLE.out]; exact ho13, HCL.out, HON3.out, HSH.out, hfw3, by omega, har2, HLE.out, hZ12.trans hF.below⟩⟩
    · have d2 : decide ((n2 : Int) ≤ 300) = false := decide_eq_false (by omega)
      rw [d2] at hs2
      clear h1 h2 hI1 hI2 hn1 hn2 d1 d2
      go_enter Tryz.func5, Tryz.ntmps5
      go_wp2_with (first
        | (go_at_call 8; (with_reducible refine (haw _).mono ?_); rintro e w2 ⟨rfl, hb2⟩)
        | (go_at_call 9; (with_reducible refine (hs1 _).mono ?_); rintro e w3 ⟨rfl, rfl⟩)
        | (go_at_call 9; (with_reducible refine (hs2 _).mono ?_); rintro e w3 ⟨rfl, rfl⟩)
        | fail "none")
      go_ret
      exact ⟨rfl, hb2⟩
  · have d1 : decide ((n1 : Int) ≤ 300) = false := decide_eq_false (by omega)
    rw [d1] at hs1
    clear h1 h2 hI1 hI2 hn1 d1
    go_enter Tryz.func5, Tryz.ntmps5
    go_wp2_with (first
      | (go_at_call 8; (with_reducible refine (haw _).mono ?_); rintro e w2 ⟨rfl, hb2⟩)
      | (go_at_call 9; (with_reducible refine (hs1 _).mono ?_); rintro e w3 ⟨rfl, rfl⟩)
      | fail "none")
    go_ret
    exact ⟨rfl, hb2⟩
end Go.Proofs.YtiinghgfojicdaaGreat
