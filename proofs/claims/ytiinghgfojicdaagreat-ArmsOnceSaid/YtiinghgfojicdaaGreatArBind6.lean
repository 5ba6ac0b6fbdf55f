/- A part of the proofs of the laws of the arms: Bind6. No conditions. -/
import Derived.Test.YtiinghgfojicdaaGreatArMake
set_option linter.unusedVariables false
set_option linter.unusedSimpArgs false
namespace Go.Proofs.YtiinghgfojicdaaGreat
open Go.RowKit Go.RowG Go.FRow
set_option linter.unusedVariables false
attribute [local go_sem ↓] Go.wp_at_zero Go.wp_at_succ

set_option maxRecDepth 100000 in
set_option maxHeartbeats 1000000 in
/-- The head of PMake does not fit. -/
theorem bind_not (n k' n' : Int) (t t' : ByteArray) (A A' : Option Addr) (m m' c c' B : Nat) (w : World) (hne : ¬ (k' = 5 ∧ t'.toList = t.toList ∧ m' = m)) :
    Calls Tryz.prog 14 #[agg4 6 n t A m c, agg4 k' n' t' A' m' c'] w (BindEnds B none w) := by
  unfold agg4
  by_cases h5 : k' = 5
  · subst h5
    by_cases ht : t'.toList = t.toList
    · have hm : m' ≠ m := fun e => hne ⟨rfl, ht, e⟩
      have htt : (t'.toList == t.toList) = true := by simpa using ht
      have hmm : ((m' : Int) == (m : Int)) = false := by simpa using fun e : (m' : Int) = m => hm (by omega)
      have hmn : ((m' : Int) != (m : Int)) = true := by simpa using fun e : (m' : Int) = m => hm (by omega)
      clear ht hm hne
      go_enter Tryz.func14, Tryz.ntmps14
      go_wp2
      go_ret2
      exact ⟨rfl, ((Below.refl _ _).alloc (Nat.le_refl _) _).alloc (by simp) _⟩
    · have htt : (t'.toList == t.toList) = false := by simpa using ht
      clear ht hne
      go_enter Tryz.func14, Tryz.ntmps14
      go_wp2
      go_ret2
      exact ⟨rfl, ((Below.refl _ _).alloc (Nat.le_refl _) _).alloc (by simp) _⟩
  · have h1 : (k' == 5) = false := by simpa using h5
    have h2 : (k' != 5) = true := by simpa using h5
    clear h5 hne
    go_enter Tryz.func14, Tryz.ntmps14
    go_wp2
    go_ret2
    exact ⟨rfl, ((Below.refl _ _).alloc (Nat.le_refl _) _).alloc (by simp) _⟩

theorem bind1_len {k n : Int} {t : ByteArray} {a : F} {k' n' : Int} {t' : ByteArray} {a' b : F} (h : bind1 k n t a k' n' t' a' = some b) : b.len ≤ a'.nodes + 1 := by
  have := bindF_len (.cons k n t a .nil) (.cons k' n' t' a' .nil) (b.app .nil) (by rw [bindF_cons, h]; rfl)
  rw [F.app_nil] at this
  simpa [F.nodes] using this
def BindNone (w : World) (e : Ending) (w' : World) : Prop := e = .returned (.tuple #[.slice none 0 0, .bool false]) ∧ Below w.heap.size w w'
def BindSome (B : Nat) (f : F) (w : World) (e : Ending) (w' : World) : Prop := ∃ A c, e = .returned (.tuple #[.slice A f.len c, .bool true]) ∧ TopAt w B w' A f ∧ Below w.heap.size w w'
theorem TopAt.cells {w wr w' : World} {B : Nat} {A : Option Addr} {f : F} (h : TopAt wr B w' A f) (hk : ∀ p : Addr, p.block < B → w.cell? p = wr.cell? p) :
    ∃ ys, FCells w B f ys ∧ ys.length = f.len * 4 ∧ (∀ u ∈ ys, u.oneCell' = true) ∧ (0 < f.len → ∃ ad, A = some ad ∧ ∀ j u, ys[j]? = some u → w'.cell? (ad.add j) = some u) := by
  obtain ⟨ys, h1, h2⟩ := h
  refine ⟨ys, h1.keep hk, h1.length, h1.one, fun hl => ?_⟩
  obtain ⟨ad, e, _, hc⟩ := h2 hl
  exact ⟨ad, e, hc⟩

set_option maxRecDepth 100000 in
set_option maxHeartbeats 2000000 in
theorem bind_make (n n' : Int) (t t' : ByteArray) (a a' : F) (hQ : Each BindSaid a) (A A' : Option Addr) (m c c' B : Nat) (w : World) (h : RowAt w w.heap.size A a) (h' : RowAt w B A' a') (hB : B ≤ w.heap.size) (hm : a.len = m) (hm' : a'.len = m) (htt : (t'.toList == t.toList) = true)
    (hn : a.nodes ≤ 100000) (hn' : a'.nodes ≤ 100000) :
    Calls Tryz.prog 14 #[agg4 6 n t A m c, agg4 5 n' t' A' m c'] w (BindEnds B (bindF a a') w) := by
  have hml : m ≤ 100000 := by have := a.len_nodes; omega
  have hrest := h.rest
  have hrest' := h'.rest
  rw [hm] at hrest
  rw [hm'] at hrest'
  obtain ⟨res, hres⟩ : ∃ res, res = bindF a a' := ⟨_, rfl⟩
  rw [← hres]
  have HRES := Lib.hid hres
  clear hm hm' h h' hres
  obtain ⟨W1, hW1⟩ : ∃ W1, W1 = (w.alloc (.cells #[.int .i64 6, .int .i64 n, .string t, .slice A m c] 40)).alloc (.cells #[.int .i64 5, .int .i64 n', .string t', .slice A' m c'] 29) := ⟨_, rfl⟩
  have hbW : Below w.heap.size w W1 := by rw [hW1]; exact ((Below.refl _ _).alloc (Nat.le_refl _) _).alloc (by simp) _
  have hzW : W1.heap.size = w.heap.size + 2 := by rw [hW1]; simp
  have hxW : W1.cell? ⟨w.heap.size + 1, 3, none⟩ = some (.slice A' m c') := by
    have h := heap_alloc_new (w.alloc (.cells #[.int .i64 6, .int .i64 n, .string t, .slice A m c] 40)) (.cells #[.int .i64 5, .int .i64 n', .string t', .slice A' m c'] 29)
    have e : (w.alloc (.cells #[.int .i64 6, .int .i64 n, .string t, .slice A m c] 40)).heap.size = w.heap.size + 1 := by simp
    rw [e] at h
    have h2 := World.news_of_block h 3 (.slice A' m c') rfl
    rw [← hW1] at h2
    simpa [Addr.add] using h2
  have HW1 := Lib.hid hW1
  have HZW := Lib.hid hzW
  have hzW1 : w.heap.size + 2 ≤ W1.heap.size := by omega
  clear hW1 hzW
  unfold agg4
  go_enter Tryz.func14, Tryz.ntmps14
  go_wp2
  go_loopw [6, 79] (fun v i wr => ∃ (j : Nat) (acc r r' : F) (xs : List Value), j ≤ m ∧ i = .int .i64 j ∧ r.nodes ≤ 100000 ∧ r'.nodes ≤ 100000 ∧ Each BindSaid r ∧ Rest w w.heap.size A m j r ∧ Rest w B A' m j r' ∧ (bindF r r').map acc.app = res ∧ acc.len + r'.nodes ≤ 100000 ∧
      wr.ownsRow W1.heap.size 29 4 v acc.len xs ∧ FCells w B acc xs ∧ Below W1.heap.size W1 wr) (fun _ i _ => m - (intOf i).toNat)
  case atStart =>
    refine ⟨0, .nil, a, a', [], Nat.zero_le _, rfl, hn, hn', hQ, hrest, hrest', ?_, by simpa [F.len] using hn', World.ownsRow_nil _ _ _ _, rfl, by rw [HW1.out]; exact Below.refl _ _⟩
    rw [HRES.out]
    cases bindF a a' <;> rfl
  case round =>
    obtain ⟨j, acc, r, r', xs, hj, rfl, hno, hno', hq, hre, hre2, hb0, hal, hown, hfc, hb⟩ := hrel
    have hbw : Below w.heap.size w wr := hbW.trans (hb.mono (by omega))
    have hbs := hb.size
    cases r with
    | nil =>
      obtain rfl : j = m := by have := hre.1; simp only [F.len] at this; omega
      cases r' with
      | cons k3 n3 t3 a3 r3 => exfalso; have h2 := hre2.1; simp only [F.len] at h2; omega
      | nil =>
        simp only [bindF, Option.map_some, F.app_nil] at hb0
        subst hb0
        obtain ⟨A4, c4, rfl, h4, h4'⟩ := own_slice hown
        have hform := fun hl => hown.form (n := acc.len) hl
        clear hno hno' hal
        go_wp2
        go_ret2
        refine ⟨⟨A4, c4, rfl, ⟨xs, hfc, fun hl => ?_⟩, h4, h4'⟩, hbw⟩
        obtain ⟨g, cap, hv, _, hlt⟩ := hform hl
        injection hv with hA
        subst hA
        exact ⟨_, rfl, hlt, hown.cells (g := g) rfl⟩
    | cons k2 n2 t2 a2 r2 =>
      cases r' with
      | nil => exfalso; have h1 := hre.1; have h2 := hre2.1; simp only [F.len] at h1 h2; omega
      | cons k3 n3 t3 a3 r3 =>
        rw [bindF_cons] at hb0
        have hlt : j < m := by have := hre.1; simp only [F.len] at this; omega
        obtain ⟨ad, R, rc, rfl, hab, hc0, hc1, hc2, hc3, hrl, hrm, hra, hre'⟩ := hre.step
        obtain ⟨ad2, R2, rc2, rfl, hab2, hc02, hc12, hc22, hc32, hrl2, hrm2, hra2, hre2'⟩ := hre2.step
        obtain ⟨hq1, hq2⟩ := hq
        simp only [F.nodes] at hno hno' hal
        have hcall : ∀ W : World, Below w.heap.size w W → Calls Tryz.prog 14 #[.agg #[.int .i64 k2, .int .i64 n2, .string t2, .slice R a2.len rc], .agg #[.int .i64 k3, .int .i64 n3, .string t3, .slice R2 a3.len rc2]] W (BindEnds B (bind1 k2 n2 t2 a2 k3 n3 t3 a3) W) := fun W hW =>
          hq1 k3 n3 t3 a3 R R2 rc rc2 B W (hra.keep hW.size fun p hp => hW.cell hp) (hra2.keep (Nat.le_refl _) fun p hp => hW.cell (by omega)) (by have := hW.size; omega) hrl2 hrm2 (by omega) (by omega)
        have d0 := (hbw.cell (p := ad.add (j * 4)) (by rw [add_block]; exact hab)).trans hc0
        have d1 := (hbw.cell (p := ⟨(ad.add (j * 4)).block, (ad.add (j * 4)).off + 1, none⟩) (by rw [add_block]; exact hab)).trans hc1
        have d2 := (hbw.cell (p := ⟨(ad.add (j * 4)).block, (ad.add (j * 4)).off + 2, none⟩) (by rw [add_block]; exact hab)).trans hc2
        have d3 := (hbw.cell (p := ⟨(ad.add (j * 4)).block, (ad.add (j * 4)).off + 3, none⟩) (by rw [add_block]; exact hab)).trans hc3
        have hab2' : ad2.block < w.heap.size := by omega
        have e0 := (hbw.cell (p := ad2.add (j * 4)) (by rw [add_block]; exact hab2')).trans hc02
        have e1 := (hbw.cell (p := ⟨(ad2.add (j * 4)).block, (ad2.add (j * 4)).off + 1, none⟩) (by rw [add_block]; exact hab2')).trans hc12
        have e2 := (hbw.cell (p := ⟨(ad2.add (j * 4)).block, (ad2.add (j * 4)).off + 2, none⟩) (by rw [add_block]; exact hab2')).trans hc22
        have e3 := (hbw.cell (p := ⟨(ad2.add (j * 4)).block, (ad2.add (j * 4)).off + 3, none⟩) (by rw [add_block]; exact hab2')).trans hc32
        have ex := (hb.cell (p := ⟨w.heap.size + 1, 3, none⟩) (by show w.heap.size + 1 < _; omega)).trans hxW
        obtain ⟨m2, hm2⟩ : ∃ m2, m2 = a2.len := ⟨_, rfl⟩
        obtain ⟨m3, hm3⟩ : ∃ m3, m3 = a3.len := ⟨_, rfl⟩
        rw [← hm2] at hcall d3
        rw [← hm3] at hcall e3
        clear hc0 hc1 hc2 hc3 hc02 hc12 hc22 hc32 hxW hm2 hm3 hrl hrl2 hq1
        have hk0 : (0 : Int) ≤ (j : Int) := Int.natCast_nonneg _
        have hk1 : (j : Int) < (m : Int) := by omega
        have hx2 : (ad2.add (j * 4)).block < w.heap.size := by rw [add_block]; exact hab2'
        cases hb1 : bind1 k2 n2 t2 a2 k3 n3 t3 a3 with
        | none =>
          rw [hb1] at hb0 hcall
          simp only [Option.bind_none, Option.map_none] at hb0
          subst hb0
          clear hb1
          have hcallS : ∀ W : World, Below w.heap.size w W → Calls Tryz.prog 14 #[.agg #[.int .i64 k2, .int .i64 n2, .string t2, .slice R m2 rc], .agg #[.int .i64 k3, .int .i64 n3, .string t3, .slice R2 m3 rc2]] W (BindNone W) := fun W hW =>
            (hcall W hW).mono fun e w' ⟨h1, h5⟩ => ⟨h1, h5⟩
          clear hcall
          go_wp2
          go_region_held3 (fun w' => w'.cell? ⟨wr.heap.size, 0, none⟩ = some (.int .i64 k2) ∧ w'.cell? ⟨wr.heap.size, 1, none⟩ = some (.int .i64 n2) ∧ w'.cell? ⟨wr.heap.size, 2, none⟩ = some (.string t2) ∧ w'.cell? ⟨wr.heap.size, 3, none⟩ = some (.slice R m2 rc) ∧
              w'.cell? ⟨w.heap.size + 1, 3, none⟩ = some (.slice (some ad2) m c') ∧ w'.cell? (ad2.add (j * 4)) = some (.int .i64 k3) ∧ w'.cell? ⟨(ad2.add (j * 4)).block, (ad2.add (j * 4)).off + 1, none⟩ = some (.int .i64 n3) ∧
              w'.cell? ⟨(ad2.add (j * 4)).block, (ad2.add (j * 4)).off + 2, none⟩ = some (.string t3) ∧ w'.cell? ⟨(ad2.add (j * 4)).block, (ad2.add (j * 4)).off + 3, none⟩ = some (.slice R2 m3 rc2))
            (first
              | go_keep
              | (go_split_ands; refine ⟨?_, ?_, ?_, ?_, ?_, ?_, ?_, ?_, ?_⟩ <;> (rw [hb3.cell (by first | (simp; done) | (simp; omega))]; simp [*])))
            (first
              | (go_at_call 14; (with_reducible refine (hcallS _ (hbw.alloc (by omega) _).drew).mono ?_); rintro e w3 ⟨rfl, hb3⟩))
          have hbr : Below wr.heap.size wr w3 := ((Below.refl wr.heap.size wr).alloc (Nat.le_refl _) _).drew.trans (hb3.mono (by show wr.heap.size ≤ (wr.heap.push _).size; simp))
          go_wp2
          go_ret2
          exact ⟨rfl, hbw.trans (hbr.mono hbw.size)⟩
        | some f =>
          have hfl := bind1_len hb1
          rw [hb1] at hb0 hcall
          have HB0 := Lib.hid hb0
          clear hb0 hb1
          have hcallS : ∀ W : World, Below w.heap.size w W → Calls Tryz.prog 14 #[.agg #[.int .i64 k2, .int .i64 n2, .string t2, .slice R m2 rc], .agg #[.int .i64 k3, .int .i64 n3, .string t3, .slice R2 m3 rc2]] W (BindSome B f W) := fun W hW =>
            (hcall W hW).mono fun e w' ⟨⟨A, c, h1, h2, _, _⟩, h5⟩ => ⟨A, c, h1, h2, h5⟩
          clear hcall
          go_wp2
          go_region_held3 (fun w' => w'.cell? ⟨wr.heap.size, 0, none⟩ = some (.int .i64 k2) ∧ w'.cell? ⟨wr.heap.size, 1, none⟩ = some (.int .i64 n2) ∧ w'.cell? ⟨wr.heap.size, 2, none⟩ = some (.string t2) ∧ w'.cell? ⟨wr.heap.size, 3, none⟩ = some (.slice R m2 rc) ∧
              w'.cell? ⟨w.heap.size + 1, 3, none⟩ = some (.slice (some ad2) m c') ∧ w'.cell? (ad2.add (j * 4)) = some (.int .i64 k3) ∧ w'.cell? ⟨(ad2.add (j * 4)).block, (ad2.add (j * 4)).off + 1, none⟩ = some (.int .i64 n3) ∧
              w'.cell? ⟨(ad2.add (j * 4)).block, (ad2.add (j * 4)).off + 2, none⟩ = some (.string t3) ∧ w'.cell? ⟨(ad2.add (j * 4)).block, (ad2.add (j * 4)).off + 3, none⟩ = some (.slice R2 m3 rc2))
            (first
              | go_keep
              | (go_split_ands; refine ⟨?_, ?_, ?_, ?_, ?_, ?_, ?_, ?_, ?_⟩ <;> (rw [hb3.cell (by first | (simp; done) | (simp; omega))]; simp [*])))
            (first
              | (go_at_call 14; (with_reducible refine (hcallS _ (hbw.alloc (by omega) _).drew).mono ?_); rintro e w3 ⟨A3, c3, rfl, htop, hb3⟩))
          obtain ⟨ys, hys, hyl, hyo, hyc⟩ := htop.cells (w := w) fun p hp => ((hbw.alloc (by omega) (.cells #[.int .i64 k2, .int .i64 n2, .string t2, .slice R m2 rc] 40)).cell (by omega)).symm
          have hbr : Below wr.heap.size wr w3 := ((Below.refl wr.heap.size wr).alloc (Nat.le_refl _) _).drew.trans (hb3.mono (by show wr.heap.size ≤ (wr.heap.push _).size; simp))
          have hw3 : Below W1.heap.size W1 w3 := hb.trans (hbr.mono hbs)
          have hgr : wr.grownBy w3 none := ⟨hbr.os, hbr.tape, hbr.output, hbr.size, fun k hk _ => hbr.block k hk⟩
          have hown3 : w3.ownsRow W1.heap.size 29 4 u6 acc.len xs := hown.kept hgr (Classical.em _)
          go_wp2_with (first
            | (at_builtin
               refine wpList_append_vals _ rfl (.tmp 96) (.tmp 97) rfl W1.heap.size _ acc.len xs ys rfl hown3 A3 f.len c3 rfl hyl hyc hyo (by omega) hw3.size ?_
               intro v4 w4 hown4 hg4))
          go_roundw
          case rel =>
            refine ⟨j + 1, acc.app f, r2, r3, xs ++ ys, by omega, by go_num, by omega, by omega, hq2, hre', hre2', ?_, ?_, ?_, hfc.app hys, hw3.grown hg4 hw3.size (fun g hg => (hown3.lt g hg).1)⟩
            · rw [← HB0.out]
              cases bindF r2 r3 with
              | none => rfl
              | some d => simp only [Option.bind_some, Option.map_some, F.app_assoc]
            · rw [F.app_len]; omega
            · rw [F.app_len]; exact hown4
          case measure => simp [intOf]; omega

theorem bind_head (k n : Int) (t : ByteArray) (a : F) (hQ : Each BindSaid a) : BindSaid k n t a := by
  intro k' n' t' a' A A' c c' B w h h' hB hc hm hn hn'
  unfold bind1
  by_cases h1 : k = 1
  · subst h1
    rw [if_pos rfl]
    exact bind_any _ _ _ _ _ _ _ _ _ _ _ _ _
  rw [if_neg h1]
  by_cases h2 : k = 2
  · subst h2
    rw [if_pos rfl]
    exact bind_var _ _ _ _ _ _ _ _ _ _ _ _ _ h' hc hm
  rw [if_neg h2]
  by_cases h3 : k = 3
  · subst h3
    rw [if_pos rfl]
    exact bind_int _ _ _ _ _ _ _ _ _ _ _ _ _
  rw [if_neg h3]
  by_cases h4 : k = 4
  · subst h4
    rw [if_pos rfl]
    exact bind_bool _ _ _ _ _ _ _ _ _ _ _ _ _
  rw [if_neg h4]
  by_cases h5 : k = 5
  · subst h5
    rw [if_pos rfl]
    exact bind_text _ _ _ _ _ _ _ _ _ _ _ _ _
  rw [if_neg h5]
  by_cases h6 : k = 6
  · subst h6
    rw [if_pos rfl]
    by_cases hne : k' = 5 ∧ t'.toList = t.toList ∧ a'.len = a.len
    · rw [if_pos hne]
      obtain ⟨rfl, ht, he⟩ := hne
      rw [he]
      exact bind_make n n' t t' a a' hQ A A' a.len c c' B w h h' hB rfl he (by simpa using ht) hn hn'
    · rw [if_neg hne]
      exact bind_not _ _ _ _ _ _ _ _ _ _ _ _ _ hne
  · rw [if_neg h6]
    exact bind_none _ _ _ _ _ _ _ _ _ _ _ _ _ _ (by simpa using h1) (by simpa using h2) (by simpa using h3) (by simpa using h4) (by simpa using h5) (by simpa using h6)
theorem bind_all : ∀ a : F, Each BindSaid a := each_of bind_head
end Go.Proofs.YtiinghgfojicdaaGreat
