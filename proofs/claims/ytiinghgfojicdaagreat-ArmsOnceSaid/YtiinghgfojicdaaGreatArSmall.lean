/- slices.Equal of integers, arms.same, the two closures of arms.build, slices.IndexFunc. No conditions. -/
import Derived.Test.YtiinghgfojicdaaGreatArTestsM
set_option linter.unusedVariables false
set_option linter.unusedSimpArgs false
namespace Go.Proofs.YtiinghgfojicdaaGreat
open Go.RowKit Go.RowG Go.FRow Go.GMem
set_option linter.unusedVariables false
set_option maxRecDepth 100000
attribute [local go_sem ↓] Go.wp_at_zero Go.wp_at_succ

def BoolEnds (b : Bool) (w : World) (e : Ending) (w' : World) : Prop := e = .returned (.bool b) ∧ Below w.heap.size w w'
theorem ints_cell {w : World} {S : Nat → Prop} : ∀ {L : List Nat} {xs : List Value} {k : Nat} {x : Nat}, GCells w S (encI L) xs → L[k]? = some x → xs[k]? = some (.int .i64 (x : Int))
  | [], _, _, _, _, h => by simp at h
  | y :: l, _, 0, x, ⟨ys, e, _, _⟩, h => by
    subst e
    simp at h
    subst h
    rfl
  | y :: l, _, k + 1, x, ⟨ys, e, _, h2⟩, h => by
    subst e
    simp at h
    simpa using ints_cell h2 h
theorem GRow.int_at {w : World} {S : Nat → Prop} {A : Option Addr} {L : List Nat} (h : GRow w S A L.length (encI L)) {k : Nat} (hk : k < L.length) : ∃ ad x, A = some ad ∧ S ad.block ∧ L[k]? = some x ∧ w.cell? (ad.add k) = some (.int .i64 (x : Int)) := by
  obtain ⟨b, o, zs, e, hb, hz, hc⟩ := h (by omega)
  exact ⟨_, L[k], e, hb, List.getElem?_eq_getElem hk, by rw [add_at]; exact hc k _ (ints_cell hz (List.getElem?_eq_getElem hk))⟩
set_option maxHeartbeats 1000000 in
theorem eqI_says (L1 L2 : List Nat) (A1 A2 : Option Addr) (c1 c2 : Nat) (w : World) (h1 : GRow w (lt w) A1 L1.length (encI L1)) (h2 : GRow w (lt w) A2 L2.length (encI L2)) (hm : L1.length ≤ 1000) :
    Calls Tryz.prog 25 #[.slice A1 L1.length c1, .slice A2 L2.length c2] w (BoolEnds (decide (L1 = L2)) w) := by
  by_cases hl : L1.length = L2.length
  · obtain ⟨n, hn⟩ : ∃ n, n = L1.length := ⟨_, rfl⟩
    have H1 := Lib.hid hn
    have H2 := Lib.hid (hn.trans hl)
    have HH1 := Lib.hid h1
    have HH2 := Lib.hid h2
    rw [← hl, ← hn]
    rw [← hn] at hm
    clear hn hl h1 h2
    go_enter Tryz.func25, Tryz.ntmps25
    go_wp2
    go_loopw [13] (fun i wr => ∃ k : Nat, k ≤ n ∧ i = .int .i64 k ∧ L1.take k = L2.take k ∧ ∃ d, wr = w.drewN d) (fun i _ => n - (intOf i).toNat)
    case atStart => exact ⟨0, Nat.zero_le _, rfl, rfl, 0, rfl⟩
    case round =>
      obtain ⟨k, hk, rfl, ht, d, rfl⟩ := hrel
      have HT := Lib.hid ht
      clear ht
      by_cases hlt : k < n
      · obtain ⟨a1, x1, rfl, hb1, hx1, hc1⟩ := GRow.int_at HH1.out (k := k) (by have := H1.out; omega)
        obtain ⟨a2, x2, rfl, hb2, hx2, hc2⟩ := GRow.int_at HH2.out (k := k) (by have := H2.out; omega)
        have HX1 := Lib.hid hx1
        have HX2 := Lib.hid hx2
        clear hx1 hx2
        have hk0 : (0 : Int) ≤ (k : Int) := Int.natCast_nonneg _
        have hk1 : (k : Int) < (n : Int) := by omega
        by_cases hx : x1 = x2
        · subst hx
          go_wp2
          go_quiet (fail)
          go_wp2
          go_roundw
          case rel => exact ⟨k + 1, by omega, by go_num, by rw [List.take_add_one, List.take_add_one, HT.out, HX1.out, HX2.out], d + nq, by simp [World.drewN]⟩
          case measure => simp [intOf]; omega
        · have hne : ((x1 : Int) != (x2 : Int)) = true := by simpa using fun e => hx (by omega)
          have hne2 : (x1 != x2) = true := by simpa using hx
          have HX := Lib.hid hx
          clear hx
          go_wp2
          go_quiet (fail)
          go_wp2
          go_ret
          refine ⟨?_, below_drewN (Below.refl _ _) _ |>.trans (below_drewN (Below.refl _ _) _)⟩
          rw [decide_eq_false (fun h => by
            have e1 := HX1.out
            rw [h, HX2.out] at e1
            simp only [Option.some.injEq] at e1
            exact HX.out e1.symm)]
          rfl
      · obtain rfl : k = n := by omega
        go_wp2
        go_ret
        refine ⟨?_, below_drewN (Below.refl _ _) _⟩
        have e := HT.out
        rw [List.take_of_length_le (by have := H1.out; omega), List.take_of_length_le (by have := H2.out; omega)] at e
        rw [decide_eq_true e]
        rfl
  · have hd : decide (L1 = L2) = false := decide_eq_false (fun e => hl (by rw [e]))
    rw [hd]
    obtain ⟨n1, hn1⟩ : ∃ n, n = L1.length := ⟨_, rfl⟩
    obtain ⟨n2, hn2⟩ : ∃ n, n = L2.length := ⟨_, rfl⟩
    rw [← hn1, ← hn2] at hl ⊢
    have hne : ((n1 : Int) == (n2 : Int)) = false := by simpa using fun e : (n1 : Int) = n2 => hl (by omega)
    have hne2 : ((n1 : Int) != (n2 : Int)) = true := by simpa using fun e : (n1 : Int) = n2 => hl (by omega)
    clear h1 h2 hm hn1 hn2 hd
    go_enter Tryz.func25, Tryz.ntmps25
    go_wp2
    go_ret
    exact ⟨rfl, Below.refl _ _⟩
def sameT (x y : T) : Bool := decide (x.path = y.path) && (decide (x.k = y.k) && (decide (x.n = y.n) && (x.t.toList == y.t.toList)))
/-- A test as a value. -/
abbrev aggT (A : Option Addr) (c : Nat) (x : T) : Value := .agg #[.slice A x.path.length c, .int .i64 x.k, .int .i64 x.n, .string x.t, .slice none 0 0]
set_option maxHeartbeats 2000000 in
theorem arsame_says (x y : T) (A1 A2 : Option Addr) (c1 c2 : Nat) (w : World) (h1 : GRow w (lt w) A1 x.path.length (encI x.path)) (h2 : GRow w (lt w) A2 y.path.length (encI y.path)) (hm : x.path.length ≤ 1000) :
    Calls Tryz.prog 79 #[aggT A1 c1 x, aggT A2 c2 y] w (BoolEnds (sameT x y) w) := by
  have heq : ∀ W, Below w.heap.size w W → Calls Tryz.prog 25 #[.slice A1 x.path.length c1, .slice A2 y.path.length c2] W (BoolEnds (decide (x.path = y.path)) W) := fun W hW => eqI_says x.path y.path A1 A2 c1 c2 W (h1.below hW) (h2.below hW) hm
  obtain ⟨P1, k1, n1, t1⟩ := x
  obtain ⟨P2, k2, n2, t2⟩ := y
  simp only [sameT, aggT] at heq ⊢
  obtain ⟨l1, hl1⟩ : ∃ l, l = P1.length := ⟨_, rfl⟩
  obtain ⟨l2, hl2⟩ : ∃ l, l = P2.length := ⟨_, rfl⟩
  rw [← hl1, ← hl2] at heq ⊢
  obtain ⟨b, hb⟩ : ∃ b, b = decide (P1 = P2) := ⟨_, rfl⟩
  rw [← hb] at heq ⊢
  clear hb hl1 hl2 h1 h2 hm
  have hbl := ((Below.refl w.heap.size w).alloc (Nat.le_refl _) (.cells #[.slice A1 l1 c1, .int .i64 k1, .int .i64 n1, .string t1, .slice none 0 0] 56)).alloc (by simp) (.cells #[.slice A2 l2 c2, .int .i64 k2, .int .i64 n2, .string t2, .slice none 0 0] 56)
  have hcall := heq _ hbl
  have hq1 := (heap_alloc_new w (.cells #[.slice A1 l1 c1, .int .i64 k1, .int .i64 n1, .string t1, .slice none 0 0] 56))
  clear heq
  cases b with
  | false =>
    go_enter Tryz.func79, Tryz.ntmps79
    go_wp2_with (first
      | (go_at_call 25; (with_reducible refine hcall.mono ?_); rintro e w2 ⟨rfl, hb2⟩))
    go_ret
    exact ⟨rfl, hbl.trans (hb2.mono (by simp; omega))⟩
  | true =>
    have hz1 : ((w.alloc (.cells #[.slice A1 l1 c1, .int .i64 k1, .int .i64 n1, .string t1, .slice none 0 0] 56)).alloc (.cells #[.slice A2 l2 c2, .int .i64 k2, .int .i64 n2, .string t2, .slice none 0 0] 56)).heap[w.heap.size]? = some (.cells #[.slice A1 l1 c1, .int .i64 k1, .int .i64 n1, .string t1, .slice none 0 0] 56 (0, 0)) := (heap_alloc_old _ _ (by simp)).trans hq1
    have hz2 := heap_alloc_new (w.alloc (.cells #[.slice A1 l1 c1, .int .i64 k1, .int .i64 n1, .string t1, .slice none 0 0] 56)) (.cells #[.slice A2 l2 c2, .int .i64 k2, .int .i64 n2, .string t2, .slice none 0 0] 56)
    have es : (w.alloc (.cells #[.slice A1 l1 c1, .int .i64 k1, .int .i64 n1, .string t1, .slice none 0 0] 56)).heap.size = w.heap.size + 1 := by simp
    rw [es] at hz2
    have HZ1 := Lib.hid hz1
    have HZ2 := Lib.hid hz2
    clear hz1 hz2 es hq1
    by_cases hk : k1 = k2
    · subst hk
      by_cases hn : n1 = n2
      · subst hn
        obtain ⟨tb, htb⟩ : ∃ tb, tb = (t1.toList == t2.toList) := ⟨_, rfl⟩
        have HTB := Lib.hid htb
        rw [← htb]
        clear htb
        go_enter Tryz.func79, Tryz.ntmps79
        go_wp2_with (first
          | (go_at_call 25; (with_reducible refine hcall.mono ?_); rintro e w2 ⟨rfl, hb2⟩
             have q1 := World.news_of_block ((hb2.block w.heap.size (by simp; omega)).trans HZ1.out)
             have q2 := World.news_of_block ((hb2.block (w.heap.size + 1) (by simp)).trans HZ2.out)
             have a0 := q1 1 _ rfl
             have a1 := q1 2 _ rfl
             have a2 := q1 3 _ rfl
             have b0 := q2 1 _ rfl
             have b1 := q2 2 _ rfl
             have b2 := q2 3 _ rfl
             simp [Addr.add] at a0 a1 a2 b0 b1 b2
             clear q1 q2 hcall))
        go_ret
        refine ⟨?_, hbl.trans (hb2.mono (by simp; omega))⟩
        simp [HTB.out]
      · have hd : decide (n1 = n2) = false := decide_eq_false hn
        have hd2 : (n1 == n2) = false := by simpa using hn
        clear hn
        go_enter Tryz.func79, Tryz.ntmps79
        go_wp2_with (first
          | (go_at_call 25; (with_reducible refine hcall.mono ?_); rintro e w2 ⟨rfl, hb2⟩
             have q1 := World.news_of_block ((hb2.block w.heap.size (by simp; omega)).trans HZ1.out)
             have q2 := World.news_of_block ((hb2.block (w.heap.size + 1) (by simp)).trans HZ2.out)
             have a0 := q1 1 _ rfl
             have a1 := q1 2 _ rfl
             have b0 := q2 1 _ rfl
             have b1 := q2 2 _ rfl
             simp [Addr.add] at a0 a1 b0 b1
             clear q1 q2 hcall))
        go_ret
        exact ⟨by simp [hd], hbl.trans (hb2.mono (by simp; omega))⟩
    · have hd : decide (k1 = k2) = false := decide_eq_false hk
      have hd2 : (k1 == k2) = false := by simpa using hk
      clear hk
      go_enter Tryz.func79, Tryz.ntmps79
      go_wp2_with (first
        | (go_at_call 25; (with_reducible refine hcall.mono ?_); rintro e w2 ⟨rfl, hb2⟩
           have q1 := World.news_of_block ((hb2.block w.heap.size (by simp; omega)).trans HZ1.out)
           have q2 := World.news_of_block ((hb2.block (w.heap.size + 1) (by simp)).trans HZ2.out)
           have a0 := q1 1 _ rfl
           have b0 := q2 1 _ rfl
           simp [Addr.add] at a0 b0
           clear q1 q2 hcall))
      go_ret
      exact ⟨by simp [hd], hbl.trans (hb2.mono (by simp; omega))⟩
/-- build$1: is x the test t, that lies in block z? -/
theorem buildA_says (x t : T) (A1 A2 : Option Addr) (c1 c2 z : Nat) (w : World) (h1 : GRow w (lt w) A1 x.path.length (encI x.path)) (h2 : GRow w (lt w) A2 t.path.length (encI t.path)) (hm : x.path.length ≤ 1000) (hz : w.heap[z]? = some (.cells #[.slice A2 t.path.length c2, .int .i64 t.k, .int .i64 t.n, .string t.t, .slice none 0 0] 56 (0, 0))) :
    Calls Tryz.prog 78 #[aggT A1 c1 x, .pointer (some ⟨z, 0, none⟩)] w (BoolEnds (sameT x t) w) := by
  have hzl : z < w.heap.size := (Array.getElem?_eq_some_iff.1 hz).1
  have hs : ∀ o, Calls Tryz.prog 79 #[aggT A1 c1 x, aggT A2 c2 t] (w.alloc o) (BoolEnds (sameT x t) (w.alloc o)) := fun o => arsame_says x t A1 A2 c1 c2 (w.alloc o) (h1.below ((Below.refl _ _).alloc (Nat.le_refl _) _)) (h2.below ((Below.refl _ _).alloc (Nat.le_refl _) _)) hm
  have q := World.news_of_block hz
  have a0 := q 0 _ rfl
  have a1 := q 1 _ rfl
  have a2 := q 2 _ rfl
  have a3 := q 3 _ rfl
  have a4 := q 4 _ rfl
  simp [Addr.add] at a0 a1 a2 a3 a4
  obtain ⟨l1, hl1⟩ : ∃ l, l = x.path.length := ⟨_, rfl⟩
  obtain ⟨l2, hl2⟩ : ∃ l, l = t.path.length := ⟨_, rfl⟩
  simp only [aggT] at hs ⊢
  rw [← hl1, ← hl2] at hs
  rw [← hl2] at a0
  rw [← hl1]
  clear q hl1 hl2 h1 h2 hm hz
  go_enter Tryz.func78, Tryz.ntmps78
  go_wp2_with (first
    | (go_at_call 79; (with_reducible refine (hs _).mono ?_); rintro e w2 ⟨rfl, hb2⟩))
  go_ret
  exact ⟨rfl, ((Below.refl _ _).alloc (Nat.le_refl _) _).trans (hb2.mono (by simp))⟩
/-- build$2: does x ask at the place of t? -/
theorem buildB_says (x t : T) (A1 A2 : Option Addr) (c1 c2 z : Nat) (w : World) (h1 : GRow w (lt w) A1 x.path.length (encI x.path)) (h2 : GRow w (lt w) A2 t.path.length (encI t.path)) (hm : x.path.length ≤ 1000) (hz : w.heap[z]? = some (.cells #[.slice A2 t.path.length c2, .int .i64 t.k, .int .i64 t.n, .string t.t, .slice none 0 0] 56 (0, 0))) :
    Calls Tryz.prog 80 #[aggT A1 c1 x, .pointer (some ⟨z, 0, none⟩)] w (BoolEnds (decide (x.path = t.path)) w) := by
  have hzl : z < w.heap.size := (Array.getElem?_eq_some_iff.1 hz).1
  have hs : ∀ o, Calls Tryz.prog 25 #[.slice A1 x.path.length c1, .slice A2 t.path.length c2] (w.alloc o) (BoolEnds (decide (x.path = t.path)) (w.alloc o)) := fun o => eqI_says x.path t.path A1 A2 c1 c2 (w.alloc o) (h1.below ((Below.refl _ _).alloc (Nat.le_refl _) _)) (h2.below ((Below.refl _ _).alloc (Nat.le_refl _) _)) hm
  have q := World.news_of_block hz
  have a0 := q 0 _ rfl
  simp [Addr.add] at a0
  obtain ⟨l1, hl1⟩ : ∃ l, l = x.path.length := ⟨_, rfl⟩
  obtain ⟨l2, hl2⟩ : ∃ l, l = t.path.length := ⟨_, rfl⟩
  simp only [aggT]
  rw [← hl1, ← hl2] at hs
  rw [← hl2] at a0
  rw [← hl1]
  clear q hl1 hl2 h1 h2 hm hz
  go_enter Tryz.func80, Tryz.ntmps80
  go_wp2_with (first
    | (go_at_call 25; (with_reducible refine (hs _).mono ?_); rintro e w2 ⟨rfl, hb2⟩))
  go_ret
  exact ⟨rfl, ((Below.refl _ _).alloc (Nat.le_refl _) _).trans (hb2.mono (by simp))⟩
end Go.Proofs.YtiinghgfojicdaaGreat
