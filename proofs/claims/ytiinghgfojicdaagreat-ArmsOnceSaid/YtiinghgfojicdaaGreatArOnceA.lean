/- What ArmsOnce asks of each test: is it among the seen. No conditions. -/
import Derived.Test.YtiinghgfojicdaaGreatArPlain
import Derived.Test.YtiinghgfojicdaaGreatArPut
import Derived.Test.YtiinghgfojicdaaGreatArIdx
set_option linter.unusedVariables false
set_option linter.unusedSimpArgs false
namespace Go.Proofs.YtiinghgfojicdaaGreat
open Go.RowKit Go.RowG Go.FRow Go.GMem
set_option linter.unusedVariables false
set_option maxRecDepth 100000
attribute [local go_sem ↓] Go.wp_at_zero Go.wp_at_succ

set_option maxHeartbeats 4000000 in
/-- ArmsOnce$1: is x the test t of the tree in block z? -/
theorem onceA_says (x t : T) (A1 A2 : Option Addr) (c1 c2 z : Nat) (b7 : Bool) (a7 : Int) (A71 A72 : Option Addr) (n71 c71 n72 c72 : Nat) (w : World) (h1 : GRow w (lt w) A1 x.path.length (encI x.path)) (h2 : GRow w (lt w) A2 t.path.length (encI t.path)) (hm : x.path.length ≤ 1000) (hz : w.heap[z]? = some (.cells #[.bool b7, .int .i64 a7, .slice A2 t.path.length c2, .int .i64 t.k, .int .i64 t.n, .string t.t, .slice none 0 0, .slice A71 n71 c71, .slice A72 n72 c72] 59 (0, 0))) :
    Calls Tryz.prog 24 #[aggT A1 c1 x, .pointer (some ⟨z, 0, none⟩)] w (BoolEnds (sameT x t) w) := by
  have heq : ∀ W, Below w.heap.size w W → Calls Tryz.prog 25 #[.slice A1 x.path.length c1, .slice A2 t.path.length c2] W (BoolEnds (decide (x.path = t.path)) W) := fun W hW => eqI_says x.path t.path A1 A2 c1 c2 W (h1.below hW) (h2.below hW) hm
  obtain ⟨P1, k1, n1, t1⟩ := x
  obtain ⟨P2, k2, n2, t2⟩ := t
  simp only [sameT, aggT] at heq hz ⊢
  obtain ⟨l1, hl1⟩ : ∃ l, l = P1.length := ⟨_, rfl⟩
  obtain ⟨l2, hl2⟩ : ∃ l, l = P2.length := ⟨_, rfl⟩
  rw [← hl1, ← hl2] at heq
  rw [← hl1]
  rw [← hl2] at hz
  have hzl : z < w.heap.size := (Array.getElem?_eq_some_iff.1 hz).1
  obtain ⟨b, hb⟩ : ∃ b, b = decide (P1 = P2) := ⟨_, rfl⟩
  rw [← hb] at heq ⊢
  clear hb hl1 hl2 h1 h2 hm
  have hbl := (Below.refl w.heap.size w).alloc (Nat.le_refl _) (.cells #[.slice A1 l1 c1, .int .i64 k1, .int .i64 n1, .string t1, .slice none 0 0] 56)
  have hcall := heq _ hbl
  have hz1 := (heap_alloc_new w (.cells #[.slice A1 l1 c1, .int .i64 k1, .int .i64 n1, .string t1, .slice none 0 0] 56))
  have hz2 := (heap_alloc_old w (.cells #[.slice A1 l1 c1, .int .i64 k1, .int .i64 n1, .string t1, .slice none 0 0] 56) hzl).trans hz
  have hsz : w.heap.size < (w.alloc (.cells #[.slice A1 l1 c1, .int .i64 k1, .int .i64 n1, .string t1, .slice none 0 0] 56)).heap.size := by simp
  obtain ⟨⟨y0, y1, y2, y3, y4, y5, y6, y7, y8⟩, _⟩ := own_nine hz2
  have HZ1 := Lib.hid hz1
  have HZ2 := Lib.hid hz2
  have HSZ := Lib.hid hsz
  clear heq hz hz1 hz2 hsz
  cases b with
  | false =>
    go_enter Tryz.func24, Tryz.ntmps24
    go_wp2_with (first
      | (go_at_call 25; (with_reducible refine hcall.mono ?_); rintro e w2 ⟨rfl, hb2⟩)
      | fail "none")
    go_ret
    exact ⟨rfl, hbl.trans (hb2.mono (by simp))⟩
  | true =>
    by_cases hk : k1 = k2
    · subst hk
      by_cases hn : n1 = n2
      · subst hn
        obtain ⟨tb, htb⟩ : ∃ tb, tb = (t1.toList == t2.toList) := ⟨_, rfl⟩
        have HTB := Lib.hid htb
        rw [← htb]
        clear htb
        go_enter Tryz.func24, Tryz.ntmps24
        go_wp2_with (first
          | (go_at_call 25; (with_reducible refine hcall.mono ?_); rintro e w2 ⟨rfl, hb2⟩
             obtain ⟨a0, a1, a2, a3, a4⟩ := five ((hb2.block w.heap.size HSZ.out).trans HZ1.out)
             obtain ⟨⟨u0, u1, u2, u3, u4, u5, u6, u7, u8⟩, _⟩ := own_nine ((hb2.block z (by have := HSZ.out; omega)).trans HZ2.out)
             clear hcall y0 y1 y2 y3 y4 y5 y6 y7 y8)
          | fail "none")
        go_ret
        refine ⟨?_, hbl.trans (hb2.mono (by simp))⟩
        simp [HTB.out]
      · have hd : decide (n1 = n2) = false := decide_eq_false hn
        have hd2 : (n1 == n2) = false := by simpa using hn
        clear hn
        go_enter Tryz.func24, Tryz.ntmps24
        go_wp2_with (first
          | (go_at_call 25; (with_reducible refine hcall.mono ?_); rintro e w2 ⟨rfl, hb2⟩
             obtain ⟨a0, a1, a2, a3, a4⟩ := five ((hb2.block w.heap.size HSZ.out).trans HZ1.out)
             obtain ⟨⟨u0, u1, u2, u3, u4, u5, u6, u7, u8⟩, _⟩ := own_nine ((hb2.block z (by have := HSZ.out; omega)).trans HZ2.out)
             clear hcall y0 y1 y2 y3 y4 y5 y6 y7 y8)
          | fail "none")
        go_ret
        exact ⟨by simp [hd], hbl.trans (hb2.mono (by simp))⟩
    · have hd : decide (k1 = k2) = false := decide_eq_false hk
      have hd2 : (k1 == k2) = false := by simpa using hk
      clear hk
      go_enter Tryz.func24, Tryz.ntmps24
      go_wp2_with (first
        | (go_at_call 25; (with_reducible refine hcall.mono ?_); rintro e w2 ⟨rfl, hb2⟩
           obtain ⟨a0, a1, a2, a3, a4⟩ := five ((hb2.block w.heap.size HSZ.out).trans HZ1.out)
           obtain ⟨⟨u0, u1, u2, u3, u4, u5, u6, u7, u8⟩, _⟩ := own_nine ((hb2.block z (by have := HSZ.out; omega)).trans HZ2.out)
           clear hcall y0 y1 y2 y3 y4 y5 y6 y7 y8)
        | fail "none")
      go_ret
      exact ⟨by simp [hd], hbl.trans (hb2.mono (by simp))⟩
set_option maxHeartbeats 2000000 in
theorem idxO_says (ts : List T) (t : T) (A A2 : Option Addr) (c c2 z : Nat) (b7 : Bool) (a7 : Int) (A71 A72 : Option Addr) (n71 c71 n72 c72 : Nat) (w : World) (h : GRow w (lt w) A ts.length (encTs ts)) (h2 : GRow w (lt w) A2 t.path.length (encI t.path)) (hm : ∀ x ∈ ts, x.path.length ≤ 1000) (hn : ts.length ≤ 100000) (hz : w.heap[z]? = some (.cells #[.bool b7, .int .i64 a7, .slice A2 t.path.length c2, .int .i64 t.k, .int .i64 t.n, .string t.t, .slice none 0 0, .slice A71 n71 c71, .slice A72 n72 c72] 59 (0, 0))) :
    Calls Tryz.prog 53 #[.slice A ts.length c, .func (.func 24) #[] #[.pointer (some ⟨z, 0, none⟩)]] w (NumEnds (idxT (fun x => sameT x t) ts 0) w) := by
  have hzl : z < w.heap.size := (Array.getElem?_eq_some_iff.1 hz).1
  have hrest := GRow.trest h
  have hcall : ∀ (x : T) (R : Option Addr) (rc : Nat) (W : World), Below w.heap.size w W → GRow w (lt w) R x.path.length (encI x.path) → x.path.length ≤ 1000 → Calls Tryz.prog 24 #[aggT R rc x, .pointer (some ⟨z, 0, none⟩)] W (BoolEnds (sameT x t) W) := fun x R rc W hW hg hl =>
    onceA_says x t R A2 rc c2 z b7 a7 A71 A72 n71 c71 n72 c72 W (hg.below hW) (h2.below hW) hl ((hW.block z hzl).trans hz)
  have HC := Lib.hid hcall
  obtain ⟨m, hmm⟩ : ∃ m, m = ts.length := ⟨_, rfl⟩
  rw [← hmm] at hrest hn
  rw [← hmm]
  obtain ⟨res, hres⟩ : ∃ res, res = idxT (fun x => sameT x t) ts 0 := ⟨_, rfl⟩
  rw [← hres]
  have HRES := Lib.hid hres
  clear hcall h h2 hz hmm hres
  go_enter Tryz.func53, Tryz.ntmps53
  go_wp2
  go_loopw [8] (fun i wr => ∃ (j : Nat) (l : List T), j ≤ m ∧ i = .int .i64 j ∧ idxT (fun x => sameT x t) l j = res ∧ (∀ x ∈ l, x.path.length ≤ 1000) ∧ TRest w (lt w) A m j l ∧ Below w.heap.size w wr) (fun i _ => m - (intOf i).toNat)
  case atStart => exact ⟨0, ts, Nat.zero_le _, rfl, HRES.out.symm, hm, hrest, Below.refl _ _⟩
  case round =>
    obtain ⟨j, l, hj, rfl, hr, hl, hre, hb⟩ := hrel
    have hbs := hb.size
    cases l with
    | nil =>
      obtain rfl : j = m := by have := hre.1; simp at this; omega
      simp only [idxT] at hr
      subst hr
      go_wp2
      go_ret
      exact ⟨rfl, hb⟩
    | cons x l =>
      have hlt : j < m := by have := hre.1; simp at this; omega
      obtain ⟨ad, R, rc, rfl, hab, hc0, hc1, hc2, hc3, hc4, _, _, hg, hre'⟩ := hre.step
      have hcall := HC.out x R rc wr hb hg (hl x (by simp))
      have d0 := (hb.cell (p := ad.add (j * 5)) (by rw [add_block]; exact hab)).trans hc0
      have d1 := (hb.cell (p := ⟨(ad.add (j * 5)).block, (ad.add (j * 5)).off + 1, none⟩) (by rw [add_block]; exact hab)).trans hc1
      have d2 := (hb.cell (p := ⟨(ad.add (j * 5)).block, (ad.add (j * 5)).off + 2, none⟩) (by rw [add_block]; exact hab)).trans hc2
      have d3 := (hb.cell (p := ⟨(ad.add (j * 5)).block, (ad.add (j * 5)).off + 3, none⟩) (by rw [add_block]; exact hab)).trans hc3
      have d4 := (hb.cell (p := ⟨(ad.add (j * 5)).block, (ad.add (j * 5)).off + 4, none⟩) (by rw [add_block]; exact hab)).trans hc4
      have hl' : ∀ y ∈ l, y.path.length ≤ 1000 := fun y hy => hl y (by simp [hy])
      have hj0 : (0 : Int) ≤ (j : Int) := Int.natCast_nonneg _
      have hj1 : (j : Int) < (m : Int) := by omega
      clear hc0 hc1 hc2 hc3 hc4 hl
      simp only [idxT] at hr
      obtain ⟨xl, hxl⟩ : ∃ xl, xl = x.path.length := ⟨_, rfl⟩
      simp only [aggT] at hcall
      rw [← hxl] at hcall d0
      clear hxl hg
      cases hp : sameT x t with
      | true =>
        rw [hp] at hcall
        simp only [hp, if_true] at hr
        subst hr
        clear hp
        go_wp2_with (first
          | (go_at_call 24; (with_reducible refine hcall.mono ?_); rintro e w2 ⟨rfl, hb2⟩))
        go_ret
        exact ⟨rfl, hb.trans (hb2.mono hbs)⟩
      | false =>
        rw [hp] at hcall
        simp only [hp, Bool.false_eq_true, if_false] at hr
        have HR := Lib.hid hr
        clear hp hr
        go_wp2_with (first
          | (go_at_call 24; (with_reducible refine hcall.mono ?_); rintro e w2 ⟨rfl, hb2⟩))
        go_roundw
        case rel => exact ⟨j + 1, l, by omega, by go_num, HR.out, hl', hre', hb.trans (hb2.mono hbs)⟩
        case measure => simp [intOf]; omega
/-- slices.ContainsFunc, where none of the seen is the test. -/
theorem contains_says (ts : List T) (t : T) (A A2 : Option Addr) (c c2 z : Nat) (b7 : Bool) (a7 : Int) (A71 A72 : Option Addr) (n71 c71 n72 c72 : Nat) (w : World) (h : GRow w (lt w) A ts.length (encTs ts)) (h2 : GRow w (lt w) A2 t.path.length (encI t.path)) (hm : ∀ x ∈ ts, x.path.length ≤ 1000) (hn : ts.length ≤ 100000) (hz : w.heap[z]? = some (.cells #[.bool b7, .int .i64 a7, .slice A2 t.path.length c2, .int .i64 t.k, .int .i64 t.n, .string t.t, .slice none 0 0, .slice A71 n71 c71, .slice A72 n72 c72] 59 (0, 0))) (hno : ∀ s ∈ ts, sameT s t = false) :
    Calls Tryz.prog 23 #[.slice A ts.length c, .func (.func 24) #[] #[.pointer (some ⟨z, 0, none⟩)]] w (BoolEnds false w) := by
  have hcall := idxO_says ts t A A2 c c2 z b7 a7 A71 A72 n71 c71 n72 c72 w h h2 hm hn hz
  have e : idxT (fun x => sameT x t) ts 0 = -1 := by
    rcases idx_split (fun x => sameT x t) ts 0 with ⟨h1, _⟩ | ⟨k, y, h1, h2, _⟩
    · exact h1
    · have h3 := hno y (List.mem_of_getElem? h1)
      rw [h3] at h2
      cases h2
  rw [e] at hcall
  obtain ⟨m, hmm⟩ : ∃ m, m = ts.length := ⟨_, rfl⟩
  rw [← hmm] at hcall ⊢
  clear hmm h h2 hm hn hz hno e
  go_enter Tryz.func23, Tryz.ntmps23
  go_wp2_with (first
    | (go_at_call 53; (with_reducible refine hcall.mono ?_); rintro e w2 ⟨rfl, hb2⟩)
    | fail "none")
  go_ret
  exact ⟨rfl, hb2⟩
end Go.Proofs.YtiinghgfojicdaaGreat
