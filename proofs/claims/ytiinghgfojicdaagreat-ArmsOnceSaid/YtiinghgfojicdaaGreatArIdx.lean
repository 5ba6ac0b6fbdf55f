/- slices.IndexFunc over tests, with the closures of arms.build. No conditions. -/
import Derived.Test.YtiinghgfojicdaaGreatArSmall
set_option linter.unusedVariables false
set_option linter.unusedSimpArgs false
namespace Go.Proofs.YtiinghgfojicdaaGreat
open Go.RowKit Go.RowG Go.FRow Go.GMem
set_option linter.unusedVariables false
set_option maxRecDepth 100000
attribute [local go_sem ↓] Go.wp_at_zero Go.wp_at_succ

/-- What is left of a row of tests, from the j-th on. -/
def TRest (w : World) (S : Nat → Prop) (A : Option Addr) (m j : Nat) (l : List T) : Prop :=
  l.length + j = m ∧ (0 < l.length → ∃ b o zs, A = some ⟨b, o, none⟩ ∧ S b ∧ GCells w S (encTs l) zs ∧ ∀ i u, zs[i]? = some u → w.cell? ⟨b, o + j * 5 + i, none⟩ = some u)
theorem GRow.trest {w : World} {S : Nat → Prop} {A : Option Addr} {l : List T} (h : GRow w S A l.length (encTs l)) : TRest w S A l.length 0 l := ⟨rfl, fun hl => by
  obtain ⟨b, o, zs, e, hb, hz, hc⟩ := h hl
  exact ⟨b, o, zs, e, hb, hz, fun i u hu => by simpa using hc i u hu⟩⟩
theorem TRest.step {w : World} {S : Nat → Prop} {A : Option Addr} {m j : Nat} {x : T} {l : List T} (h : TRest w S A m j (x :: l)) :
    ∃ ad R c, A = some ad ∧ S ad.block ∧ w.cell? (ad.add (j * 5)) = some (.slice R x.path.length c) ∧ w.cell? ⟨(ad.add (j * 5)).block, (ad.add (j * 5)).off + 1, none⟩ = some (.int .i64 x.k) ∧ w.cell? ⟨(ad.add (j * 5)).block, (ad.add (j * 5)).off + 2, none⟩ = some (.int .i64 x.n) ∧
      w.cell? ⟨(ad.add (j * 5)).block, (ad.add (j * 5)).off + 3, none⟩ = some (.string x.t) ∧ w.cell? ⟨(ad.add (j * 5)).block, (ad.add (j * 5)).off + 4, none⟩ = some (.slice none 0 0) ∧ x.path.length ≤ c ∧ c ≤ maxLen ∧ GRow w S R x.path.length (encI x.path) ∧ TRest w S A m (j + 1) l := by
  obtain ⟨hl, h2⟩ := h
  obtain ⟨b, o, zs, e, hb, hz, hc⟩ := h2 (by simp)
  obtain ⟨R, c, _, e0, h3, h4, h5, _, e1, _, _, e2, _, _, e3, _, _, e4, _, hz'⟩ := hz
  subst e4 e3 e2 e1 e0
  refine ⟨⟨b, o, none⟩, R, c, e, hb, ?_, ?_, ?_, ?_, ?_, h3, h4, h5, by simp at hl; omega, fun _ => ⟨b, o, _, e, hb, hz', fun i u hu => ?_⟩⟩
  · rw [add_at]; exact hc 0 _ rfl
  · rw [add_at]; exact hc 1 _ rfl
  · rw [add_at]; exact hc 2 _ rfl
  · rw [add_at]; exact hc 3 _ rfl
  · rw [add_at]; exact hc 4 _ rfl
  · rw [show o + (j + 1) * 5 + i = o + j * 5 + (i + 5) by omega]
    exact hc (i + 5) u (by simpa using hu)
/-- The first that p holds of, counted from i on. -/
def idxT (p : T → Bool) : List T → Nat → Int
  | [], _ => -1
  | x :: l, i => if p x = true then i else idxT p l (i + 1)
def NumEnds (n : Int) (w : World) (e : Ending) (w' : World) : Prop := e = .returned (.int .i64 n) ∧ Below w.heap.size w w'
set_option maxHeartbeats 2000000 in
theorem idxA_says (ts : List T) (t : T) (A A2 : Option Addr) (c c2 z : Nat) (w : World) (h : GRow w (lt w) A ts.length (encTs ts)) (h2 : GRow w (lt w) A2 t.path.length (encI t.path)) (hm : ∀ x ∈ ts, x.path.length ≤ 1000) (hn : ts.length ≤ 100000) (hz : w.heap[z]? = some (.cells #[.slice A2 t.path.length c2, .int .i64 t.k, .int .i64 t.n, .string t.t, .slice none 0 0] 56 (0, 0))) :
    Calls Tryz.prog 53 #[.slice A ts.length c, .func (.func 78) #[] #[.pointer (some ⟨z, 0, none⟩)]] w (NumEnds (idxT (fun x => sameT x t) ts 0) w) := by
  have hzl : z < w.heap.size := (Array.getElem?_eq_some_iff.1 hz).1
  have hrest := GRow.trest h
  have hcall : ∀ (x : T) (R : Option Addr) (rc : Nat) (W : World), Below w.heap.size w W → GRow w (lt w) R x.path.length (encI x.path) → x.path.length ≤ 1000 → Calls Tryz.prog 78 #[aggT R rc x, .pointer (some ⟨z, 0, none⟩)] W (BoolEnds (sameT x t) W) := fun x R rc W hW hg hl =>
    buildA_says x t R A2 rc c2 z W (hg.below hW) (h2.below hW) hl ((hW.block z hzl).trans hz)
  have HC := Lib.hid hcall
  obtain ⟨m, hmm⟩ : ∃ m, m = ts.length := ⟨_, rfl⟩
  rw [← hmm] at hrest hn
  rw [← hmm]
  obtain ⟨res, hres⟩ : ∃ res, res = idxT (fun x => sameT x t) ts 0 := ⟨_, rfl⟩
  rw [← hres]
  have HRES := Lib.hid hres
  clear hcall h h2 hz hmm hres
  go_enter Tryz.func53, Tryz.ntmps53
  go_wp2
  go_loopw [8] (fun i wr => ∃ (j : Nat) (l : List T), j ≤ m ∧ i = .int .i64 j ∧ idxT (fun x => sameT x t) l j = res ∧ (∀ x ∈ l, x.path.length ≤ 1000) ∧ TRest w (lt w) A m j l ∧ Below w.heap.size w wr) (fun i _ => m - (intOf i).toNat)
  case atStart => exact ⟨0, ts, Nat.zero_le _, rfl, HRES.out.symm, hm, hrest, Below.refl _ _⟩
  case round =>
    obtain ⟨j, l, hj, rfl, hr, hl, hre, hb⟩ := hrel
    have hbs := hb.size
    cases l with
    | nil =>
      obtain rfl : j = m := by have := hre.1; simp at this; omega
      simp only [idxT] at hr
      subst hr
      go_wp2
      go_ret
      exact ⟨rfl, hb⟩
    | cons x l =>
      have hlt : j < m := by have := hre.1; simp at this; omega
      obtain ⟨ad, R, rc, rfl, hab, hc0, hc1, hc2, hc3, hc4, _, _, hg, hre'⟩ := hre.step
      have hcall := HC.out x R rc wr hb hg (hl x (by simp))
      have d0 := (hb.cell (p := ad.add (j * 5)) (by rw [add_block]; exact hab)).trans hc0
      have d1 := (hb.cell (p := ⟨(ad.add (j * 5)).block, (ad.add (j * 5)).off + 1, none⟩) (by rw [add_block]; exact hab)).trans hc1
      have d2 := (hb.cell (p := ⟨(ad.add (j * 5)).block, (ad.add (j * 5)).off + 2, none⟩) (by rw [add_block]; exact hab)).trans hc2
      have d3 := (hb.cell (p := ⟨(ad.add (j * 5)).block, (ad.add (j * 5)).off + 3, none⟩) (by rw [add_block]; exact hab)).trans hc3
      have d4 := (hb.cell (p := ⟨(ad.add (j * 5)).block, (ad.add (j * 5)).off + 4, none⟩) (by rw [add_block]; exact hab)).trans hc4
      have hl' : ∀ y ∈ l, y.path.length ≤ 1000 := fun y hy => hl y (by simp [hy])
      have hj0 : (0 : Int) ≤ (j : Int) := Int.natCast_nonneg _
      have hj1 : (j : Int) < (m : Int) := by omega
      clear hc0 hc1 hc2 hc3 hc4 hl
      simp only [idxT] at hr
      obtain ⟨xl, hxl⟩ : ∃ xl, xl = x.path.length := ⟨_, rfl⟩
      simp only [aggT] at hcall
      rw [← hxl] at hcall d0
      clear hxl hg
      cases hp : sameT x t with
      | true =>
        rw [hp] at hcall
        simp only [hp, if_true] at hr
        subst hr
        clear hp
        go_wp2_with (first
          | (go_at_call 78; (with_reducible refine hcall.mono ?_); rintro e w2 ⟨rfl, hb2⟩))
        go_ret
        exact ⟨rfl, hb.trans (hb2.mono hbs)⟩
      | false =>
        rw [hp] at hcall
        simp only [hp, Bool.false_eq_true, if_false] at hr
        have HR := Lib.hid hr
        clear hp hr
        go_wp2_with (first
          | (go_at_call 78; (with_reducible refine hcall.mono ?_); rintro e w2 ⟨rfl, hb2⟩))
        go_roundw
        case rel => exact ⟨j + 1, l, by omega, by go_num, HR.out, hl', hre', hb.trans (hb2.mono hbs)⟩
        case measure => simp [intOf]; omega
set_option maxHeartbeats 2000000 in
theorem idxB_says (ts : List T) (t : T) (A A2 : Option Addr) (c c2 z : Nat) (w : World) (h : GRow w (lt w) A ts.length (encTs ts)) (h2 : GRow w (lt w) A2 t.path.length (encI t.path)) (hm : ∀ x ∈ ts, x.path.length ≤ 1000) (hn : ts.length ≤ 100000) (hz : w.heap[z]? = some (.cells #[.slice A2 t.path.length c2, .int .i64 t.k, .int .i64 t.n, .string t.t, .slice none 0 0] 56 (0, 0))) :
    Calls Tryz.prog 53 #[.slice A ts.length c, .func (.func 80) #[] #[.pointer (some ⟨z, 0, none⟩)]] w (NumEnds (idxT (fun x => decide (x.path = t.path)) ts 0) w) := by
  have hzl : z < w.heap.size := (Array.getElem?_eq_some_iff.1 hz).1
  have hrest := GRow.trest h
  have hcall : ∀ (x : T) (R : Option Addr) (rc : Nat) (W : World), Below w.heap.size w W → GRow w (lt w) R x.path.length (encI x.path) → x.path.length ≤ 1000 → Calls Tryz.prog 80 #[aggT R rc x, .pointer (some ⟨z, 0, none⟩)] W (BoolEnds (decide (x.path = t.path)) W) := fun x R rc W hW hg hl =>
    buildB_says x t R A2 rc c2 z W (hg.below hW) (h2.below hW) hl ((hW.block z hzl).trans hz)
  have HC := Lib.hid hcall
  obtain ⟨m, hmm⟩ : ∃ m, m = ts.length := ⟨_, rfl⟩
  rw [← hmm] at hrest hn
  rw [← hmm]
  obtain ⟨res, hres⟩ : ∃ res, res = idxT (fun x => decide (x.path = t.path)) ts 0 := ⟨_, rfl⟩
  rw [← hres]
  have HRES := Lib.hid hres
  clear hcall h h2 hz hmm hres
  go_enter Tryz.func53, Tryz.ntmps53
  go_wp2
  go_loopw [8] (fun i wr => ∃ (j : Nat) (l : List T), j ≤ m ∧ i = .int .i64 j ∧ idxT (fun x => decide (x.path = t.path)) l j = res ∧ (∀ x ∈ l, x.path.length ≤ 1000) ∧ TRest w (lt w) A m j l ∧ Below w.heap.size w wr) (fun i _ => m - (intOf i).toNat)
  case atStart => exact ⟨0, ts, Nat.zero_le _, rfl, HRES.out.symm, hm, hrest, Below.refl _ _⟩
  case round =>
    obtain ⟨j, l, hj, rfl, hr, hl, hre, hb⟩ := hrel
    have hbs := hb.size
    cases l with
    | nil =>
      obtain rfl : j = m := by have := hre.1; simp at this; omega
      simp only [idxT] at hr
      subst hr
      go_wp2
      go_ret
      exact ⟨rfl, hb⟩
    | cons x l =>
      have hlt : j < m := by have := hre.1; simp at this; omega
      obtain ⟨ad, R, rc, rfl, hab, hc0, hc1, hc2, hc3, hc4, _, _, hg, hre'⟩ := hre.step
      have hcall := HC.out x R rc wr hb hg (hl x (by simp))
      have d0 := (hb.cell (p := ad.add (j * 5)) (by rw [add_block]; exact hab)).trans hc0
      have d1 := (hb.cell (p := ⟨(ad.add (j * 5)).block, (ad.add (j * 5)).off + 1, none⟩) (by rw [add_block]; exact hab)).trans hc1
      have d2 := (hb.cell (p := ⟨(ad.add (j * 5)).block, (ad.add (j * 5)).off + 2, none⟩) (by rw [add_block]; exact hab)).trans hc2
      have d3 := (hb.cell (p := ⟨(ad.add (j * 5)).block, (ad.add (j * 5)).off + 3, none⟩) (by rw [add_block]; exact hab)).trans hc3
      have d4 := (hb.cell (p := ⟨(ad.add (j * 5)).block, (ad.add (j * 5)).off + 4, none⟩) (by rw [add_block]; exact hab)).trans hc4
      have hl' : ∀ y ∈ l, y.path.length ≤ 1000 := fun y hy => hl y (by simp [hy])
      have hj0 : (0 : Int) ≤ (j : Int) := Int.natCast_nonneg _
      have hj1 : (j : Int) < (m : Int) := by omega
      clear hc0 hc1 hc2 hc3 hc4 hl
      simp only [idxT] at hr
      obtain ⟨xl, hxl⟩ : ∃ xl, xl = x.path.length := ⟨_, rfl⟩
      simp only [aggT] at hcall
      rw [← hxl] at hcall d0
      clear hxl hg
      cases hp : decide (x.path = t.path) with
      | true =>
        rw [hp] at hcall
        simp only [hp, if_true] at hr
        subst hr
        clear hp
        go_wp2_with (first
          | (go_at_call 80; (with_reducible refine hcall.mono ?_); rintro e w2 ⟨rfl, hb2⟩))
        go_ret
        exact ⟨rfl, hb.trans (hb2.mono hbs)⟩
      | false =>
        rw [hp] at hcall
        simp only [hp, Bool.false_eq_true, if_false] at hr
        have HR := Lib.hid hr
        clear hp hr
        go_wp2_with (first
          | (go_at_call 80; (with_reducible refine hcall.mono ?_); rintro e w2 ⟨rfl, hb2⟩))
        go_roundw
        case rel => exact ⟨j + 1, l, by omega, by go_num, HR.out, hl', hre', hb.trans (hb2.mono hbs)⟩
        case measure => simp [intOf]; omega
end Go.Proofs.YtiinghgfojicdaaGreat
