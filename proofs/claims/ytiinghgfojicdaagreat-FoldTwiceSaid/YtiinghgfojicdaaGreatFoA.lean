/- A part of the proof of FoldTwice: dice, and rows in memory. No conditions. -/
import Derived.Test.YtiinghgfojicdaaGreatProg
import Derived.Below
import Derived.Tactics
import Derived.Tactics2
import Derived.WalkKit
import Derived.LoopTactic
import Derived.Deep.QuietTactic
import Derived.BigQuiet
import Derived.Outline
import Derived.Lib.Hide
import Derived.IntWalk
import Derived.Deep.RegionHeld3
import Derived.Test.YtiinghgfojicdaaGreatFRow
import Derived.Test.YtiinghgfojicdaaGreatGMem
import Derived.Maps.OwnOps
import Derived.Deep.RegionLaw
set_option linter.unusedVariables false
set_option linter.unusedSimpArgs false
namespace Go.Proofs.YtiinghgfojicdaaGreat
open Go.RowKit Go.RowG Go.FRow
set_option linter.unusedVariables false
abbrev FAt (w : World) (B : Nat) (f : F) (ad : Addr) : Prop := FRow.FAt w (fun b => b < B) f ad
/-- The parts lie at A. -/
abbrev RowAt (w : World) (B : Nat) (A : Option Addr) (f : F) : Prop := FRow.RowAt w (fun b => b < B) A f
theorem RowAt.keep {w w' : World} {B B' : Nat} {A : Option Addr} {f : F} (h : RowAt w B A f) (hB : B ≤ B') (hk : ∀ p : Addr, p.block < B → w'.cell? p = w.cell? p) : RowAt w' B' A f :=
  FRow.RowAt.keep h (fun b (hb : b < B) => (show b < B' by omega)) hk
abbrev Rest (w : World) (B : Nat) (A : Option Addr) (m j : Nat) (r : F) : Prop := FRow.Rest w (fun b => b < B) A m j r
theorem RowAt.rest {w : World} {B : Nat} {A : Option Addr} {f : F} (h : RowAt w B A f) : Rest w B A f.len 0 f := FRow.RowAt.rest h
theorem Rest.step {w : World} {B : Nat} {A : Option Addr} {m j : Nat} {k n : Int} {t : ByteArray} {a r : F} (h : Rest w B A m j (.cons k n t a r)) :
    ∃ ad R c, A = some ad ∧ ad.block < B ∧ w.cell? (ad.add (j * 4)) = some (.int .i64 k) ∧ w.cell? ⟨(ad.add (j * 4)).block, (ad.add (j * 4)).off + 1, none⟩ = some (.int .i64 n) ∧
      w.cell? ⟨(ad.add (j * 4)).block, (ad.add (j * 4)).off + 2, none⟩ = some (.string t) ∧ w.cell? ⟨(ad.add (j * 4)).block, (ad.add (j * 4)).off + 3, none⟩ = some (.slice R a.len c) ∧ a.len ≤ c ∧ c ≤ maxLen ∧ RowAt w B R a ∧
      Rest w B A m (j + 1) r := FRow.Rest.step h
abbrev FCells (w : World) (B : Nat) (f : F) (xs : List Value) : Prop := FRow.FCells w (fun b => b < B) f xs
def TrueEnds (w : World) (e : Ending) (w' : World) : Prop := e = .returned (.bool true) ∧ Below w.heap.size w w'
def SameEnds (w : World) (e : Ending) (w' : World) : Prop := e = .returned (.bool true) ∧ Below w.heap.size w w'
theorem below_drewN {B : Nat} {w w' : World} (h : Below B w w') (n : Nat) : Below B w (w'.drewN n) := ⟨h.os, h.tape, h.output, h.size, h.block⟩
/-- From the place A on the integers L lie, below block B. -/
def IntsAt (w : World) (B : Nat) (A : Option Addr) (L : List Int) : Prop :=
  0 < L.length → ∃ ad, A = some ad ∧ ad.block < B ∧ ∀ j u, L[j]? = some u → w.cell? (ad.add j) = some (.int .i64 u)
theorem IntsAt.keep {w w' : World} {B : Nat} {A : Option Addr} {L : List Int} (h : IntsAt w B A L) (hk : ∀ p : Addr, p.block < B → w'.cell? p = w.cell? p) : IntsAt w' B A L := fun hn => by
  obtain ⟨ad, e, hb, hc⟩ := h hn
  exact ⟨ad, e, hb, fun j u hu => (hk _ (by rw [add_block]; exact hb)).trans (hc j u hu)⟩
theorem IntsAt.at_ {w : World} {B : Nat} {A : Option Addr} {L : List Int} (h : IntsAt w B A L) {k : Nat} (hk : k < L.length) : ∃ ad u, A = some ad ∧ ad.block < B ∧ L[k]? = some u ∧ w.cell? (ad.add k) = some (.int .i64 u) := by
  obtain ⟨ad, e, hb, hc⟩ := h (by omega)
  exact ⟨ad, L[k], e, hb, List.getElem?_eq_getElem hk, hc k _ (List.getElem?_eq_getElem hk)⟩
theorem IntsAt.keep1 {w w' : World} {B B' : Nat} {A : Option Addr} {L : List Int} (h : IntsAt w B A L) (hk : 0 < L.length → ∀ ad, A = some ad → ad.block < B' ∧ w'.heap[ad.block]? = w.heap[ad.block]?) : IntsAt w' B' A L := fun hn => by
  obtain ⟨ad, e, hb, hc⟩ := h hn
  obtain ⟨h1, h2⟩ := hk hn ad e
  exact ⟨ad, e, h1, fun j u hu => (World.cell?_of_block (by rw [add_block]; exact h2)).trans (hc j u hu)⟩
def IntEnds (b : Int) (w : World) (e : Ending) (w' : World) : Prop := e = .returned (.int .i64 b) ∧ Below w.heap.size w w'
end Go.Proofs.YtiinghgfojicdaaGreat
namespace Go.Proofs.YtiinghgfojicdaaGreat
open Go.RowKit Go.RowG Go.FRow
set_option linter.unusedVariables false
attribute [local go_sem ↓] Go.wp_at_zero Go.wp_at_succ
def TopAt (w : World) (B : Nat) (w' : World) (A : Option Addr) (b : F) : Prop :=
  ∃ xs, FCells w B b xs ∧ (0 < b.len → ∃ ad, A = some ad ∧ ad.block < w'.heap.size ∧ ∀ j u, xs[j]? = some u → w'.cell? (ad.add j) = some u)
end Go.Proofs.YtiinghgfojicdaaGreat
namespace Go.Proofs.YtiinghgfojicdaaGreat
open Go.RowKit Go.RowG Go.FRow
set_option linter.unusedVariables false
attribute [local go_sem ↓] Go.wp_at_zero Go.wp_at_succ
theorem FCells.length {w : World} {B : Nat} : ∀ {f : F} {xs : List Value}, FCells w B f xs → xs.length = f.len * 4
  | .nil, _, h => by
    simp only [FCells] at h
    subst h
    rfl
  | .cons k n t a r, _, ⟨R, c, ys, e, _, _, _, h⟩ => by
    have := FCells.length h
    subst e
    simp only [List.length_cons, F.len]
    omega
theorem FCells.one {w : World} {B : Nat} : ∀ {f : F} {xs : List Value}, FCells w B f xs → ∀ u ∈ xs, u.oneCell' = true
  | .nil, _, h => by
    simp only [FCells] at h
    subst h
    simp
  | .cons k n t a r, _, ⟨R, c, ys, e, _, _, _, h⟩ => by
    have := FCells.one h
    subst e
    intro u hu
    simp only [List.mem_cons] at hu
    rcases hu with rfl | rfl | rfl | rfl | hu
    · rfl
    · rfl
    · rfl
    · rfl
    · exact this u hu
theorem FCells.app {w : World} {B : Nat} : ∀ {f g : F} {xs ys : List Value}, FCells w B f xs → FCells w B g ys → FCells w B (f.app g) (xs ++ ys)
  | .nil, _, _, _, h, h' => by
    simp only [FCells] at h
    subst h
    exact h'
  | .cons k n t a r, _, _, _, ⟨R, c, ys, e, h1, h2, h3, h⟩, h' => by
    subst e
    exact ⟨R, c, _, rfl, h1, h2, h3, FCells.app h h'⟩
theorem FCells.keep {w w' : World} {B : Nat} (hk : ∀ p : Addr, p.block < B → w'.cell? p = w.cell? p) {f : F} {xs : List Value} (h : FCells w B f xs) : FCells w' B f xs := FRow.FCells.keep (fun _ h => h) hk h
end Go.Proofs.YtiinghgfojicdaaGreat
namespace Go.Proofs.YtiinghgfojicdaaGreat
open Go.RowKit Go.RowG Go.FRow
set_option linter.unusedVariables false
attribute [local go_sem ↓] Go.wp_at_zero Go.wp_at_succ
theorem TopAt.cells {w wr w' : World} {B : Nat} {A : Option Addr} {f : F} (h : TopAt wr B w' A f) (hk : ∀ p : Addr, p.block < B → w.cell? p = wr.cell? p) :
    ∃ ys, FCells w B f ys ∧ ys.length = f.len * 4 ∧ (∀ u ∈ ys, u.oneCell' = true) ∧ (0 < f.len → ∃ ad, A = some ad ∧ ∀ j u, ys[j]? = some u → w'.cell? (ad.add j) = some u) := by
  obtain ⟨ys, h1, h2⟩ := h
  refine ⟨ys, h1.keep hk, h1.length, h1.one, fun hl => ?_⟩
  obtain ⟨ad, e, _, hc⟩ := h2 hl
  exact ⟨ad, e, hc⟩
end Go.Proofs.YtiinghgfojicdaaGreat
namespace Go.Proofs.YtiinghgfojicdaaGreat
open Go.RowKit Go.RowG Go.FRow
set_option linter.unusedVariables false
attribute [local go_sem ↓] Go.wp_at_zero Go.wp_at_succ
/-- Block g are dice: the numbers, and how many have been taken. -/
def Dice (w : World) (g : Nat) (A : Option Addr) (n c k : Nat) (b : Bool) : Prop := w.heap[g]? = some (.cells #[.slice A n c, .int .i64 (k : Int), .bool b] 33 (0, 0))
def RollEnds (g : Nat) (A : Option Addr) (n c k : Nat) (b : Bool) (M : Nat) (w : World) (e : Ending) (w' : World) : Prop :=
  ∃ p k' : Nat, p < M ∧ k' ≤ k + 1 ∧ e = .returned (.int .i64 (p : Int)) ∧ Dice w' g A n c k' b ∧ Rolled g w w' ∧ w'.heap.size = w.heap.size
def pickQ (a k : Int) : Int := RowKit.wrap64 ((IntKind.u64.wrap a).tmod (IntKind.u64.wrap k))
theorem pickQ_few (a : Int) (k : Nat) (h0 : 0 < k) (h1 : k < 1000) : ∃ i : Nat, i < k ∧ pickQ a (k : Int) = (i : Int) := by
  have e1 : IntKind.u64.wrap (k : Int) = (k : Int) := by
    simp only [IntKind.wrap, IntKind.signed, IntKind.bits]
    simp
    omega
  have e2 : 0 ≤ IntKind.u64.wrap a := by
    simp only [IntKind.wrap, IntKind.signed, IntKind.bits]
    simp
    omega
  obtain ⟨m, hm⟩ := Int.eq_ofNat_of_zero_le e2
  refine ⟨m % k, Nat.mod_lt _ h0, ?_⟩
  unfold pickQ
  rw [e1, hm]
  have e3 : Int.tmod (m : Int) (k : Int) = ((m % k : Nat) : Int) := by
    rw [Int.tmod_eq_emod_of_nonneg (by omega)]
    rfl
  rw [e3]
  have := Nat.mod_lt m h0
  unfold RowKit.wrap64
  omega
theorem pick_eq (a : Int) (k : Nat) (h0 : 0 < k) (h1 : k < 1000) (w : World) : Calls Tryz.prog 27 #[.int .i64 a, .int .i64 (k : Int)] w fun e w' => e = .returned (.int .i64 (pickQ a k)) ∧ w' = w := by
  have e1 : IntKind.u64.wrap (k : Int) = (k : Int) := by
    simp only [IntKind.wrap, IntKind.signed, IntKind.bits]
    simp
    omega
  have hk : IntKind.u64.wrap (k : Int) ≠ 0 := by rw [e1]; omega
  have E1 := Lib.hid e1
  clear e1
  go_enter Tryz.func27, Tryz.ntmps27
  go_wp2
  go_ret
  exact ⟨by simp [pickQ, E1.out], rfl⟩
set_option maxRecDepth 100000 in
set_option maxHeartbeats 2000000 in
theorem roll_says (g : Nat) (A : Option Addr) (n c k : Nat) (b : Bool) (M : Nat) (w : World) (L : List Int) (hL : L.length = n) (hd : Dice w g A n c k b) (hI : IntsAt w w.heap.size A L) (hA : ∀ ad, A = some ad → 0 < n → ad.block ≠ g) (hn : n ≤ 300) (hk : k ≤ 100000) (hM : 0 < M) (hM' : M < 1000) :
    Calls Tryz.prog 35 #[.pointer (some ⟨g, 0, none⟩), .int .i64 (M : Int)] w (RollEnds g A n c k b M w) := by
  have c0 := World.news_of_block hd 0 (.slice A n c) rfl
  have c1 := World.news_of_block hd 1 (.int .i64 (k : Int)) rfl
  simp [Addr.add] at c0 c1
  have HL := Lib.hid hL
  have HD := Lib.hid hd
  clear hL hd
  by_cases h0 : n = 0
  · subst h0
    go_enter Tryz.func35, Tryz.ntmps35
    go_wp2
    go_ret
    exact ⟨0, k, hM, by omega, rfl, HD.out, ⟨rfl, rfl, rfl, Nat.le_refl _, fun _ _ _ => rfl⟩, rfl⟩
  · have hn0 : 0 < n := by omega
    have hf : w.frozen? ⟨g, 1, none⟩ = false := by
      have := HD.out
      unfold Dice at this
      simp [World.frozen?, this]
    clear h0
    go_enter Tryz.func35, Tryz.ntmps35
    go_wp2
    obtain ⟨ad, x, rfl, hab, hx, hcx⟩ := hI.at_ (k := k % n) (by have := HL.out; have := Nat.mod_lt k hn0; omega)
    have hag := hA ad rfl hn0
    have s0 : (w.setCell ⟨g, 1, none⟩ (.int .i64 ((k : Int) + 1))).cell? ⟨g, 0, none⟩ = some (.slice (some ad) n c) := by
      rw [World.cell?_setCell_other _ _ _ _ (by simp)]
      exact c0
    have s2 : (w.setCell ⟨g, 1, none⟩ (.int .i64 ((k : Int) + 1))).cell? (ad.add (k % n)) = some (.int .i64 x) := by
      rw [World.cell?_setCell_other _ _ _ _ (fun e => hag (by have := congrArg Addr.block e; rw [add_block] at this; exact this.symm))]
      exact hcx
    obtain ⟨r, hr⟩ : ∃ r, r = k % n := ⟨_, rfl⟩
    obtain ⟨q, hq⟩ : ∃ q, q = k / n := ⟨_, rfl⟩
    have hrn : r < n := by rw [hr]; exact Nat.mod_lt k hn0
    have hqk : q ≤ k := by rw [hq]; exact Nat.div_le_self k n
    rw [← hr] at s2 hcx hx
    have t1 : ((k : Int).tmod (n : Int)) = (r : Int) := by rw [hr, Int.tmod_eq_emod_of_nonneg (by omega)]; rfl
    have t2 : ((k : Int).tdiv (n : Int)) = (q : Int) := by rw [hq, Int.tdiv_eq_ediv_of_nonneg (by omega)]; rfl
    have t3 : IntKind.i64.wrap (k : Int) = (k : Int) := IntWalk.i64_in _ (by omega)
    have t3' : IntKind.i64.wrap ((k : Int) + 1 - 1) = (k : Int) := by rw [Int.add_sub_cancel]; exact t3
    have t4 : IntKind.i64.wrap (r : Int) = (r : Int) := IntWalk.i64_in _ (by omega)
    have t5 : IntKind.i64.wrap (q : Int) = (q : Int) := IntWalk.i64_in _ (by omega)
    have t6 : IntKind.i64.wrap ((q : Int) * 7) = (q : Int) * 7 := IntWalk.i64_in _ (by omega)
    have t7 : (0 : Int) ≤ (r : Int) := Int.natCast_nonneg _
    have t8 : (r : Int) < (n : Int) := by omega
    have t9 : ((n : Int) == 0) = false := by simp; omega
    have HX := Lib.hid hx
    clear hr hq hx hcx
    go_quiet ((go_at_call 27; exact Calls.quiet_of_same (pick_eq _ _ hM hM' _)))
    obtain ⟨p, hp, he⟩ := pickQ_few (wrap64 (x + (q : Int) * 7)) M hM hM'
    have HE := Lib.hid he
    clear he
    go_wp2
    go_ret
    refine ⟨p, k + 1, hp, Nat.le_refl _, by rw [← HE.out]; rfl, ?_, ⟨rfl, rfl, rfl, by simp [World.setCell], fun j hj hg => ?_⟩, by simp [World.setCell]⟩
    · have hd := HD.out
      unfold Dice at hd ⊢
      show (w.setCell ⟨g, 1, none⟩ (.int .i64 ((k : Int) + 1))).heap[g]? = _
      simp [World.setCell, Array.getElem?_modify, hd]
    · exact Below.heap_setCell w ⟨g, 1, none⟩ _ j hg
end Go.Proofs.YtiinghgfojicdaaGreat
namespace Go.Proofs.YtiinghgfojicdaaGreat
open Go.RowKit Go.RowG Go.FRow
set_option linter.unusedVariables false
attribute [local go_sem ↓] Go.wp_at_zero Go.wp_at_succ
def OfEnds (g : Nat) (A : Option Addr) (n c k : Nat) (b : Bool) (ts : List ByteArray) (w : World) (e : Ending) (w' : World) : Prop :=
  ∃ (s : ByteArray) (k' : Nat), s ∈ ts ∧ k' ≤ k + 1 ∧ e = .returned (.string s) ∧ Dice w' g A n c k' b ∧ Rolled g w w' ∧ w'.heap.size = w.heap.size
set_option maxRecDepth 100000 in
set_option maxHeartbeats 2000000 in
theorem of_says (g : Nat) (A : Option Addr) (n c k : Nat) (b : Bool) (ts : List ByteArray) (m d : Nat) (ad : Addr) (w : World) (L : List Int) (hL : L.length = n) (hd : Dice w g A n c k b) (hI : IntsAt w w.heap.size A L) (hA : ∀ ad, A = some ad → 0 < n → ad.block ≠ g) (hn : n ≤ 300) (hk : k ≤ 100000)
    (hm : ts.length = m) (hM : 0 < m) (hM' : m < 1000) (had : ad.block < w.heap.size) (hag : ad.block ≠ g) (hts : ∀ j s, ts[j]? = some s → w.cell? (ad.add j) = some (.string s)) :
    Calls Tryz.prog 37 #[.pointer (some ⟨g, 0, none⟩), .slice (some ad) m d] w (OfEnds g A n c k b ts w) := by
  have hroll := roll_says g A n c k b m w L hL hd hI hA hn hk hM hM'
  have HM := Lib.hid hm
  have HT := Lib.hid hts
  clear hL hd hI hA hm hts
  go_enter Tryz.func37, Tryz.ntmps37
  go_wp2_with (first
    | (go_at_call 35
       (with_reducible refine hroll.mono ?_)
       rintro e w2 ⟨p, k', hp, hk', rfl, hd2, hr2, hz2⟩
       obtain ⟨s, hs⟩ : ∃ s, ts[p]? = some s := ⟨_, List.getElem?_eq_getElem (by rw [HM.out]; exact hp)⟩
       have hcell := (hr2.cell (p := ad.add p) (by rw [add_block]; exact had) (by rw [add_block]; exact hag)).trans (HT.out p s hs)
       have HS := Lib.hid hs
       clear hs
       have HZ := Lib.hid hz2
       clear hz2
       have hp0 : (0 : Int) ≤ (p : Int) := Int.natCast_nonneg _
       have hp1 : (p : Int) < (m : Int) := by omega))
  go_ret
  exact ⟨s, k', List.mem_of_getElem? HS.out, hk', rfl, hd2, hr2, HZ.out⟩
end Go.Proofs.YtiinghgfojicdaaGreat
namespace Go.Proofs.YtiinghgfojicdaaGreat
open Go.RowKit Go.RowG Go.FRow Go.GMem
set_option linter.unusedVariables false
attribute [local go_sem ↓] Go.wp_at_zero Go.wp_at_succ
theorem Dice.alloc {w : World} {g : Nat} {A : Option Addr} {n c k : Nat} {b : Bool} (h : Dice w g A n c k b) (o : Obj) : Dice (w.alloc o) g A n c k b := by
  unfold Dice at h ⊢
  rw [heap_alloc_old w o (Array.getElem?_eq_some_iff.1 h).1]
  exact h
theorem Dice.lt {w : World} {g : Nat} {A : Option Addr} {n c k : Nat} {b : Bool} (h : Dice w g A n c k b) : g < w.heap.size := (Array.getElem?_eq_some_iff.1 h).1
theorem Dice.keep {w w' : World} {g : Nat} {A : Option Addr} {n c k : Nat} {b : Bool} (h : Dice w g A n c k b) (hb : Below w.heap.size w w') : Dice w' g A n c k b := by
  have := h.lt
  unfold Dice at h ⊢
  rw [hb.block g this]
  exact h
theorem Dice.grown {w w' : World} {g : Nat} {A : Option Addr} {n c k : Nat} {b : Bool} {row : Option Nat} (h : Dice w g A n c k b) (hg : w.grownBy w' row) (hr : some g ≠ row) : Dice w' g A n c k b := by
  have := h.lt
  unfold Dice at h ⊢
  rw [hg.block g this hr]
  exact h
theorem Dice.setCell {w : World} {g : Nat} {A : Option Addr} {n c k : Nat} {b : Bool} (h : Dice w g A n c k b) {p : Addr} (hp : g ≠ p.block) (v : Value) : Dice (w.setCell p v) g A n c k b := by
  unfold Dice at *
  rw [Below.heap_setCell _ _ _ _ hp]
  exact h
theorem Dice.drew {w : World} {g : Nat} {A : Option Addr} {n c k : Nat} {b : Bool} (h : Dice w g A n c k b) : Dice w.drew g A n c k b := h
theorem fill4_far (w : World) (z : Nat) (v0 v1 v2 v3 : Value) {k : Nat} (hk : k ≠ z) : (fill4 w z v0 v1 v2 v3).heap[k]? = w.heap[k]? := by
  unfold fill4
  rw [Below.heap_setCell _ _ _ _ hk, Below.heap_setCell _ _ _ _ hk, Below.heap_setCell _ _ _ _ hk, Below.heap_setCell _ _ _ _ hk]
theorem fill4_rolled {w0 w : World} {g z : Nat} (h : Rolled g w0 w) (hz : w0.heap.size ≤ z) (v0 v1 v2 v3 : Value) : Rolled g w0 (fill4 w z v0 v1 v2 v3) :=
  ⟨h.os, h.tape, h.output, by rw [fill4_size]; exact h.size, fun k hk hg => (fill4_far w z v0 v1 v2 v3 (by omega)).trans (h.block k hk hg)⟩
theorem fill4_dice {w : World} {g z : Nat} {A : Option Addr} {n c k : Nat} {b : Bool} (h : Dice w g A n c k b) (hz : g ≠ z) (v0 v1 v2 v3 : Value) : Dice (fill4 w z v0 v1 v2 v3) g A n c k b := by
  unfold Dice at *
  rw [fill4_far w z v0 v1 v2 v3 hz]
  exact h
/-- The dice serve in every world that has come of w0. -/
structure Rolls (g : Nat) (A : Option Addr) (n c : Nat) (w0 : World) : Prop where
  roll : ∀ (W : World) (b : Bool) (k M : Nat), Rolled g w0 W → Dice W g A n c k b → k ≤ 100000 → 0 < M → M < 1000 → Calls Tryz.prog 35 #[.pointer (some ⟨g, 0, none⟩), .int .i64 (M : Int)] W (RollEnds g A n c k b M W)
  of : ∀ (W : World) (b : Bool) (k m z : Nat) (ts : List ByteArray), Rolled g w0 W → Dice W g A n c k b → k ≤ 100000 → ts.length = m → 0 < m → m < 1000 → z < W.heap.size → z ≠ g → W.heap[z]? = some (.cells (ts.map Value.string).toArray 9 (0, 0)) →
    Calls Tryz.prog 37 #[.pointer (some ⟨g, 0, none⟩), .slice (some ⟨z, 0, none⟩) m m] W (OfEnds g A n c k b ts W)
  low : g < w0.heap.size
theorem rolls_of {g : Nat} {A : Option Addr} {n c : Nat} {w : World} {L : List Int} (hL : L.length = n) (hI : IntsAt w w.heap.size A L) (hA : ∀ ad, A = some ad → 0 < n → ad.block ≠ g) (hn : n ≤ 300) (hg : g < w.heap.size) : Rolls g A n c w where
  roll := fun W b k M hr hd hk hM hM' => roll_says g A n c k b M W L hL hd (hI.keep1 fun hl ad e => by
    obtain ⟨ad', e', h1, _⟩ := hI hl
    rw [e] at e'
    obtain rfl := Option.some.inj e'
    exact ⟨by have := hr.size; omega, hr.block _ h1 (hA ad e (by omega))⟩) hA hn hk hM hM'
  of := fun W b k m z ts hr hd hk hm hM hM' hz hzg hb => of_says g A n c k b ts m m ⟨z, 0, none⟩ W L hL hd (hI.keep1 fun hl ad e => by
    obtain ⟨ad', e', h1, _⟩ := hI hl
    rw [e] at e'
    obtain rfl := Option.some.inj e'
    exact ⟨by have := hr.size; omega, hr.block _ h1 (hA ad e (by omega))⟩) hA hn hk hm hM hM' hz hzg (fun j s hs => World.news_of_block hb j (.string s) (by simp [hs]))
  low := hg
/-- m[k] = v in a map that is written out. -/
theorem wpList_insert_const {H : Type} {P : Program} (w : World) {ops : Array Oper} {rest : List Oper} {dst : Option Tmp} {ty : TypeId} {pos : String} {after : Array Edge} {a : Act} {Q : Exit → Act → World → Prop} {t : TypeId} {m : Tmp} {key val : Value}
    (k e : TypeId) (K : Maps.Keyed P k) (ht : P.underlying t = some (.map k e)) (R : Value → Option (DataW H × List MemPlace)) (b n : Nat) (D : DataW H)
    (hown : w.ownsMap P k R b n D) (hn : n < maxLen) (kl : Lit) (hkey : keyOf P k key = some kl) (d : DataW H) (ps : List MemPlace) (hval : R val = some (d, ps)) (hm : a.eval (.tmp m) = .map (some b))
    (hK : ∀ w', w'.ownsMap P k R b (n + 1) (D.put kl d) → w.grownBy w' (some b) → wpList P ops Q rest (a.put dst undef) w') :
    wpList P ops Q ({ dst := dst, op := Op.insert t (.tmp m) (.const key) (.const val), type := ty, pos := pos, after := after, guard := none } :: rest) a w := by
  refine wpList_plain rfl fun K' hK' => ?_
  obtain ⟨w', hrun, r1, r2⟩ := hown.update K ht hn hkey hval
  have e1 : a.eval (.const key) = key := rfl
  have e2 : a.eval (.const val) = val := rfl
  unfold Oper.wp
  simp [execOp, hm, e1, e2, hrun, Result.andThen]
  exact hK' _ _ (hK w' r1 r2)
/-- Is it such a store? -/
theorem at_insert {P : Program} {w : World} {ops : Array Oper} {rest : List Oper} {dst : Option Tmp} {ty : TypeId} {pos : String} {after : Array Edge} {a : Act} {Q : Exit → Act → World → Prop} {t : TypeId} {m : Tmp} {key val : Value}
    (h : wpList P ops Q ({ dst := dst, op := Op.insert t (.tmp m) (.const key) (.const val), type := ty, pos := pos, after := after, guard := none } :: rest) a w) :
    wpList P ops Q ({ dst := dst, op := Op.insert t (.tmp m) (.const key) (.const val), type := ty, pos := pos, after := after, guard := none } :: rest) a w := h
abbrev tblN : List UInt8 := [78]
abbrev tblA : List UInt8 := [65]
abbrev tblB : List UInt8 := [66]
abbrev tblQ : List UInt8 := [81]
/-- The makers' arities as a map. -/
abbrev arity : DataW Unit := ((((DataW.map []).put (.string tblN) (.lit (.int .i64 0))).put (.string tblA) (.lit (.int .i64 1))).put (.string tblB) (.lit (.int .i64 2))).put (.string tblQ) (.lit (.int .i64 1))
theorem arity_few {s : ByteArray} (hs : s ∈ [(⟨#[78]⟩ : ByteArray), ⟨#[65]⟩, ⟨#[66]⟩, ⟨#[81]⟩]) {c : Int} (h : arity.atKey (.string s.data.toList) (.lit (.int .i64 0)) = .lit (.int .i64 c)) : ∃ m : Nat, m ≤ 2 ∧ c = m := by
  simp only [List.mem_cons, List.not_mem_nil, or_false] at hs
  rcases hs with rfl | rfl | rfl | rfl
  · have : arity.atKey (.string [78]) (.lit (.int .i64 0)) = .lit (.int .i64 0) := by rfl
    rw [show (⟨#[78]⟩ : ByteArray).data.toList = [78] from rfl, this] at h
    injection h with h
    injection h with _ h
    exact ⟨0, by omega, h.symm⟩
  · have : arity.atKey (.string [65]) (.lit (.int .i64 0)) = .lit (.int .i64 1) := by rfl
    rw [show (⟨#[65]⟩ : ByteArray).data.toList = [65] from rfl, this] at h
    injection h with h
    injection h with _ h
    exact ⟨1, by omega, h.symm⟩
  · have : arity.atKey (.string [66]) (.lit (.int .i64 0)) = .lit (.int .i64 2) := by rfl
    rw [show (⟨#[66]⟩ : ByteArray).data.toList = [66] from rfl, this] at h
    injection h with h
    injection h with _ h
    exact ⟨2, by omega, h.symm⟩
  · have : arity.atKey (.string [81]) (.lit (.int .i64 0)) = .lit (.int .i64 1) := by rfl
    rw [show (⟨#[81]⟩ : ByteArray).data.toList = [81] from rfl, this] at h
    injection h with h
    injection h with _ h
    exact ⟨1, by omega, h.symm⟩
/-- All kinds are some of the first six. -/
def Kin : F → Prop
  | .nil => True
  | .cons k _ _ a r => (1 ≤ k ∧ k ≤ 6) ∧ Kin a ∧ Kin r
theorem Kin.snoc {k n : Int} {t : ByteArray} {a : F} (hk : 1 ≤ k ∧ k ≤ 6) (ha : Kin a) : ∀ {f : F}, Kin f → Kin (f.snoc k n t a)
  | .nil, _ => ⟨hk, ha, trivial⟩
  | .cons _ _ _ _ r, ⟨h1, h2, h3⟩ => ⟨h1, h2, Kin.snoc hk ha (f := r) h3⟩
/-- What a pattern's, or a value's, maker hands back: some row, rolls at most R, nodes at most N. -/
def GenEnds (g : Nat) (A : Option Addr) (n c k : Nat) (b : Bool) (R N : Nat) (w : World) (e : Ending) (w' : World) : Prop :=
  ∃ (kk nn : Int) (tt : ByteArray) (f : F) (A' : Option Addr) (c' k' : Nat), e = .returned (agg4 kk nn tt A' f.len c') ∧ GRow w' (since w.heap.size w') A' f.len (encF f) ∧ f.len ≤ c' ∧ c' ≤ maxLen ∧ f.nodes ≤ N ∧ (Kin f ∧ 1 ≤ kk ∧ kk ≤ 6) ∧ k' ≤ k + R ∧ Dice w' g A n c k' b ∧ Rolled g w w'
theorem gen_leaf {w w2 : World} {g : Nat} {A : Option Addr} {n c k k' R N : Nat} {b : Bool} (hw : Rolled g w w2) (hg : g < w.heap.size) (hd : Dice w2 g A n c k' b) (hk : k' ≤ k + R) (kk nn : Int) (tt : ByteArray) (hkk : 1 ≤ kk ∧ kk ≤ 6 := by decide) :
    GenEnds g A n c k b R N w (.returned (agg4 kk nn tt none 0 0)) (fill4 w2 w.heap.size (.int .i64 kk) (.int .i64 nn) (.string tt) (.slice none 0 0)) :=
  ⟨kk, nn, tt, .nil, none, 0, k', rfl, GRow.nil _ _ _ _, Nat.le_refl _, by simp, by simp [F.nodes], ⟨trivial, hkk⟩, hk, fill4_dice hd (by omega) _ _ _ _, fill4_rolled hw (Nat.le_refl _) _ _ _ _⟩
end Go.Proofs.YtiinghgfojicdaaGreat
namespace Go.Proofs.YtiinghgfojicdaaGreat
open Go.RowKit Go.RowG Go.FRow Go.GMem
set_option linter.unusedVariables false
attribute [local go_sem ↓] Go.wp_at_zero Go.wp_at_succ
def RollIs (g : Nat) (A : Option Addr) (n c k : Nat) (b : Bool) (p : Nat) (w : World) (e : Ending) (w' : World) : Prop :=
  e = .returned (.int .i64 (p : Int)) ∧ Dice w' g A n c k b ∧ Rolled g w w' ∧ w'.heap.size = w.heap.size
set_option maxRecDepth 100000 in
set_option maxHeartbeats 2000000 in
theorem roll_is (g : Nat) (A : Option Addr) (n c k : Nat) (b : Bool) (M : Nat) (w : World) (L : List Int) (hL : L.length = n) (hd : Dice w g A n c k b) (hI : IntsAt w w.heap.size A L) (hA : ∀ ad, A = some ad → 0 < n → ad.block ≠ g) (hn : n ≤ 300) (hk : k ≤ 100000) (hM : 0 < M) (hM' : M < 1000) :
    ∃ p k' : Nat, p < M ∧ k' ≤ k + 1 ∧ Calls Tryz.prog 35 #[.pointer (some ⟨g, 0, none⟩), .int .i64 (M : Int)] w (RollIs g A n c k' b p w) := by
  have c0 := World.news_of_block hd 0 (.slice A n c) rfl
  have c1 := World.news_of_block hd 1 (.int .i64 (k : Int)) rfl
  simp [Addr.add] at c0 c1
  have HL := Lib.hid hL
  have HD := Lib.hid hd
  clear hL hd
  by_cases h0 : n = 0
  · subst h0
    refine ⟨0, k, hM, by omega, ?_⟩
    go_enter Tryz.func35, Tryz.ntmps35
    go_wp2
    go_ret
    exact ⟨rfl, HD.out, ⟨rfl, rfl, rfl, Nat.le_refl _, fun _ _ _ => rfl⟩, rfl⟩
  · have hn0 : 0 < n := by omega
    have hf : w.frozen? ⟨g, 1, none⟩ = false := by
      have := HD.out
      unfold Dice at this
      simp [World.frozen?, this]
    clear h0
    obtain ⟨ad, x, rfl, hab, hx, hcx⟩ := hI.at_ (k := k % n) (by have := HL.out; have := Nat.mod_lt k hn0; omega)
    obtain ⟨p, hp, he⟩ := pickQ_few (wrap64 (x + ((k / n : Nat) : Int) * 7)) M hM hM'
    refine ⟨p, k + 1, hp, Nat.le_refl _, ?_⟩
    have hag := hA ad rfl hn0
    have s0 : (w.setCell ⟨g, 1, none⟩ (.int .i64 ((k : Int) + 1))).cell? ⟨g, 0, none⟩ = some (.slice (some ad) n c) := by
      rw [World.cell?_setCell_other _ _ _ _ (by simp)]
      exact c0
    have s2 : (w.setCell ⟨g, 1, none⟩ (.int .i64 ((k : Int) + 1))).cell? (ad.add (k % n)) = some (.int .i64 x) := by
      rw [World.cell?_setCell_other _ _ _ _ (fun e => hag (by have := congrArg Addr.block e; rw [add_block] at this; exact this.symm))]
      exact hcx
    obtain ⟨r, hr⟩ : ∃ r, r = k % n := ⟨_, rfl⟩
    obtain ⟨q, hq⟩ : ∃ q, q = k / n := ⟨_, rfl⟩
    rw [← hq] at he
    have hrn : r < n := by rw [hr]; exact Nat.mod_lt k hn0
    have hqk : q ≤ k := by rw [hq]; exact Nat.div_le_self k n
    rw [← hr] at s2 hcx hx
    have t1 : ((k : Int).tmod (n : Int)) = (r : Int) := by rw [hr, Int.tmod_eq_emod_of_nonneg (by omega)]; rfl
    have t2 : ((k : Int).tdiv (n : Int)) = (q : Int) := by rw [hq, Int.tdiv_eq_ediv_of_nonneg (by omega)]; rfl
    have t3 : IntKind.i64.wrap (k : Int) = (k : Int) := IntWalk.i64_in _ (by omega)
    have t3' : IntKind.i64.wrap ((k : Int) + 1 - 1) = (k : Int) := by rw [Int.add_sub_cancel]; exact t3
    have t4 : IntKind.i64.wrap (r : Int) = (r : Int) := IntWalk.i64_in _ (by omega)
    have t5 : IntKind.i64.wrap (q : Int) = (q : Int) := IntWalk.i64_in _ (by omega)
    have t6 : IntKind.i64.wrap ((q : Int) * 7) = (q : Int) * 7 := IntWalk.i64_in _ (by omega)
    have t7 : (0 : Int) ≤ (r : Int) := Int.natCast_nonneg _
    have t8 : (r : Int) < (n : Int) := by omega
    have t9 : ((n : Int) == 0) = false := by simp; omega
    have HX := Lib.hid hx
    have HE := Lib.hid he
    clear hr hq hx hcx he
    go_enter Tryz.func35, Tryz.ntmps35
    go_wp2
    go_quiet ((go_at_call 27; exact Calls.quiet_of_same (pick_eq _ _ hM hM' _)))
    go_wp2
    go_ret
    refine ⟨by rw [← HE.out]; rfl, ?_, ⟨rfl, rfl, rfl, by simp [World.setCell], fun j hj hg => ?_⟩, by simp [World.setCell]⟩
    · have hd := HD.out
      unfold Dice at hd ⊢
      show (w.setCell ⟨g, 1, none⟩ (.int .i64 ((k : Int) + 1))).heap[g]? = _
      simp [World.setCell, Array.getElem?_modify, hd]
    · exact Below.heap_setCell w ⟨g, 1, none⟩ _ j hg
/-- The dice serve, and each roll is settled. -/
structure Rolls1 (g : Nat) (A : Option Addr) (n c : Nat) (w0 : World) : Prop extends Rolls g A n c w0 where
  roll1 : ∀ (W : World) (b : Bool) (k M : Nat), Rolled g w0 W → Dice W g A n c k b → k ≤ 100000 → 0 < M → M < 1000 → ∃ p k' : Nat, p < M ∧ k' ≤ k + 1 ∧ Calls Tryz.prog 35 #[.pointer (some ⟨g, 0, none⟩), .int .i64 (M : Int)] W (RollIs g A n c k' b p W)
theorem rolls1_of {g : Nat} {A : Option Addr} {n c : Nat} {w : World} {L : List Int} (hL : L.length = n) (hI : IntsAt w w.heap.size A L) (hA : ∀ ad, A = some ad → 0 < n → ad.block ≠ g) (hn : n ≤ 300) (hg : g < w.heap.size) : Rolls1 g A n c w where
  toRolls := rolls_of hL hI hA hn hg
  roll1 := fun W b k M hr hd hk hM hM' => roll_is g A n c k b M W L hL hd (hI.keep1 fun hl ad e => by
    obtain ⟨ad', e', h1, _⟩ := hI hl
    rw [e] at e'
    obtain rfl := Option.some.inj e'
    exact ⟨by have := hr.size; omega, hr.block _ h1 (hA ad e (by omega))⟩) hA hn hk hM hM'
end Go.Proofs.YtiinghgfojicdaaGreat
