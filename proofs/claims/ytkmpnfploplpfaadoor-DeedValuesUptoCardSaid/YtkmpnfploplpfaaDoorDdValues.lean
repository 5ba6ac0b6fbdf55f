/- A part of the proofs of the laws of the deeds: Values. -/
import Derived.Test.YtkmpnfploplpfaaDoorDdLined
import Derived.Test.YtkmpnfploplpfaaDoorDdLong
import Derived.Test.YtkmpnfploplpfaaDoorDdBareM
import Derived.Test.YtkmpnfploplpfaaDoorDdSame
import Derived.Test.YtkmpnfploplpfaaDoorDdValue
import Derived.Test.YtkmpnfploplpfaaDoorDdGood
import Derived.Deep.RegionWith
set_option linter.unusedVariables false
set_option linter.unusedSimpArgs false
namespace Go.Proofs.YtkmpnfploplpfaaDoor
open Go.RowKit Go.Deed Go.RowG
attribute [local go_sem ↓] Go.wp_at_zero Go.wp_at_succ
set_option linter.unusedVariables false
set_option maxRecDepth 100000
set_option maxHeartbeats 4000000

/-- What the last half of the law asks: that what is read has its text. -/
def Half (sL : L) : Prop := ∀ v, value1 sL = some v → text1 40 v.k v.n v.t v.a = some sL ∧ R64 v.n ∧ Rng v.a ∧ v.t.size + 30 + wt v.a ≤ 100000000
theorem half (sL : L) (h : sL.length ≤ 300) : Half sL := fun v hv => by
  have hg : Gd sL v [] := by
    unfold value1 at hv
    split at hv
    · next v' hv' =>
      simp only [Option.some.injEq] at hv
      subst hv
      exact value_gd _ _ _ _ hv'
    · cases hv
  obtain ⟨h1, h2, h3⟩ := hg
  refine ⟨value1_text hv, h1, h2, ?_⟩
  simp only [List.length_nil] at h3
  omega
theorem values_none (k n : Int) (t : ByteArray) (a : F) (A : Option Addr) (c : Nat) (s : ByteArray) (w : World) (hE : Env w) (hrow : RowAt w (lt w) A a) (hc : a.len ≤ c) (hcm : c ≤ maxLen) (hn : R64 n) (hr : Rng a) (hw : t.size + 30 + wt a ≤ 10000000) (hs : s.size ≤ 300) (htx : text1 40 k n t a = none) :
    Calls Tryd.prog 5 #[agg4 k n t A a.len c, .string s] w (fun e w' => e = .returned (.bool true) ∧ Below w.heap.size w w') := by
  have hlin : ∀ o : Obj, Calls Tryd.prog 6 #[] (w.alloc o) (fun e w' => e = .returned (.bool true) ∧ Below (w.alloc o).heap.size (w.alloc o) w') := fun o => lined_says (w.alloc o) (hE.keep ((Below.refl _ _).alloc (Nat.le_refl _) o))
  have hgt : decide ((300 : Int) < s.size) = false := decide_eq_false (by omega)
  obtain ⟨m, hm⟩ : ∃ m, m = a.len := ⟨_, rfl⟩
  have htext : ∀ w2, Below w.heap.size w w2 → Calls Tryd.prog 9 #[agg4 k n t A m c] w2 (TextEnds none w2) := fun w2 hb2 => by
    rw [hm, ← htx]
    exact Text_says k n t a A c w2 (hrow.below hb2) hc hcm hn hr (by omega) (hE.keep hb2)
  have hval : ∀ w2, Below w.heap.size w w2 → Calls Tryd.prog 10 #[.string s] w2 (VEnds (value1 s.data.toList) w2) := fun w2 hb2 => by
    have := Value_says s.data.toList w2 (by simp; omega) (hE.keep hb2)
    rw [toB_of] at this
    exact this
  have hhalf := half s.data.toList (by simpa using hs)
  have htext2 : ∀ v, value1 s.data.toList = some v → ∀ w2 (A2 : Option Addr) (c2 : Nat), Below w.heap.size w w2 → RowAt w2 (lt w2) A2 v.a → v.a.len ≤ c2 → c2 ≤ maxLen → Calls Tryd.prog 9 #[agg4 v.k v.n v.t A2 v.a.len c2] w2 (TextEnds (some s.data.toList) w2) := fun v hv w2 A2 c2 hb2 hr2 h1 h2 => by
    obtain ⟨e1, e2, e3, e4⟩ := hhalf v hv
    rw [← e1]
    exact Text_says v.k v.n v.t v.a A2 c2 w2 hr2 h1 h2 e2 e3 e4 (hE.keep hb2)
  have HT := Lib.hid htext
  have HV := Lib.hid hval
  have HT2 := Lib.hid htext2
  rw [← hm]
  clear hE htext hval htext2 hhalf hrow hc hcm hn hr hw htx hm hs
  cases hv : value1 s.data.toList with
  | none =>
    go_enter Tryd.func5, Tryd.ntmps5
    go_wp2_with (first
      | (go_at_call 6; (with_reducible refine (hlin _).mono ?_); rintro e w2 ⟨rfl, hb2⟩
         have hz := Own4.keep (heap_alloc_new w (.cells #[.int .i64 k, .int .i64 n, .string t, .slice A m c] 34)) hb2
         obtain ⟨⟨z0, z1, z2, z3⟩, q0, q1, q2, q3⟩ := hz.cells
         have hb2' : Below w.heap.size w w2 := ((Below.refl _ _).alloc (Nat.le_refl _) _).trans (hb2.mono (by simp))
         have ht := HT.out w2 hb2'
         unfold TextEnds at ht)
      | (go_at_call 9; (with_reducible refine ht.mono ?_); rintro e w3 ⟨hb3, x, hx, rfl⟩
         have hx0 : (x == 0) = false := by simpa using hx
         have hb3' : Below w.heap.size w w3 := hb2'.trans (hb3.mono hb2'.size)
         have hvl := HV.out w3 hb3'
         rw [hv] at hvl)
      | (go_at_call 10; (with_reducible refine hvl.mono ?_); rintro e w4 ⟨hb4, rfl⟩))
    go_ret
    exact ⟨rfl, (hb3'.trans (hb4.mono hb3'.size)).alloc (by have := hb3'.size; have := hb4.size; omega) _⟩
  | some v =>
    have ht2 := HT2.out v hv
    obtain ⟨vk, vn, vt, va⟩ := v
    simp only at ht2
    obtain ⟨vm, hvm⟩ : ∃ vm, vm = va.len := ⟨_, rfl⟩
    rw [← hvm] at ht2
    have HVM := Lib.hid hvm
    clear hvm
    go_enter Tryd.func5, Tryd.ntmps5
    go_wp2_with (first
      | (go_at_call 6; (with_reducible refine (hlin _).mono ?_); rintro e w2 ⟨rfl, hb2⟩
         have hz := Own4.keep (heap_alloc_new w (.cells #[.int .i64 k, .int .i64 n, .string t, .slice A m c] 34)) hb2
         obtain ⟨⟨z0, z1, z2, z3⟩, q0, q1, q2, q3⟩ := hz.cells
         have hb2' : Below w.heap.size w w2 := ((Below.refl _ _).alloc (Nat.le_refl _) _).trans (hb2.mono (by simp))
         have ht := HT.out w2 hb2'
         unfold TextEnds at ht)
      | (go_at_call 9; (with_reducible refine ht.mono ?_); rintro e w3 ⟨hb3, x, hx, rfl⟩
         clear ht
         have hx0 : (x == 0) = false := by simpa using hx
         have hb3' : Below w.heap.size w w3 := hb2'.trans (hb3.mono hb2'.size)
         have hvl := HV.out w3 hb3'
         rw [hv] at hvl
         unfold VEnds at hvl
         simp only [← HVM.out] at hvl)
      | (go_at_call 10; (with_reducible refine hvl.mono ?_); rintro e w4 ⟨hb4, A4, c4, rfl, hrow4, hc4, hcm4⟩
         have hb4' : Below w.heap.size w (w4.alloc (.cells #[.int .i64 vk, .int .i64 vn, .string vt, .slice A4 vm c4] 34)) := (hb3'.trans (hb4.mono hb3'.size)).alloc (by have := hb4.size; have := hb3'.size; omega) _
         have hk := ht2 (w4.alloc (.cells #[.int .i64 vk, .int .i64 vn, .string vt, .slice A4 vm c4] 34)) A4 c4 hb4' (hrow4.keep (fun b hb => by have := hb.2; simp; omega) fun p hp => World.cell?_of_block (Below.heap_alloc _ _ _ hp.2)) hc4 hcm4
         unfold TextEnds at hk
         simp only [toB_of] at hk)
      | (go_at_call 9; (with_reducible refine hk.mono ?_); rintro e w5 ⟨hb5, rfl⟩))
    go_ret
    exact ⟨rfl, hb4'.trans (hb5.mono hb4'.size)⟩
/- the other way: it has a text -/
theorem values_some (k n : Int) (t : ByteArray) (a : F) (A : Option Addr) (c : Nat) (s : ByteArray) (w : World) (hE : Env w) (hrow : RowAt w (lt w) A a) (hc : a.len ≤ c) (hcm : c ≤ maxLen) (hn : R64 n) (hr : Rng a) (hw : t.size + 30 + wt a ≤ 10000000) (hs : s.size ≤ 300) (tx : L) (htx : text1 40 k n t a = some tx) :
    Calls Tryd.prog 5 #[agg4 k n t A a.len c, .string s] w (fun e w' => e = .returned (.bool true) ∧ Below w.heap.size w w') := by
  have hlin : ∀ o : Obj, Calls Tryd.prog 6 #[] (w.alloc o) (fun e w' => e = .returned (.bool true) ∧ Below (w.alloc o).heap.size (w.alloc o) w') := fun o => lined_says (w.alloc o) (hE.keep ((Below.refl _ _).alloc (Nat.le_refl _) o))
  have hgt : decide ((300 : Int) < s.size) = false := decide_eq_false (by omega)
  obtain ⟨m, hm⟩ : ∃ m, m = a.len := ⟨_, rfl⟩
  have htext : ∀ w2, Below w.heap.size w w2 → Calls Tryd.prog 9 #[agg4 k n t A m c] w2 (TextEnds (some tx) w2) := fun w2 hb2 => by
    rw [hm, ← htx]
    exact Text_says k n t a A c w2 (hrow.below hb2) hc hcm hn hr (by omega) (hE.keep hb2)
  have hval : ∀ w2, Below w.heap.size w w2 → Calls Tryd.prog 10 #[.string s] w2 (VEnds (value1 s.data.toList) w2) := fun w2 hb2 => by
    have := Value_says s.data.toList w2 (by simp; omega) (hE.keep hb2)
    rw [toB_of] at this
    exact this
  obtain ⟨bv, hbv⟩ : ∃ bv, bv = bareV k n t a := ⟨_, rfl⟩
  have hlen := text_len k n t a 40 tx htx hn hr
  have hval1 : ∀ w2, Below w.heap.size w w2 → Calls Tryd.prog 10 #[.string (toB tx)] w2 (VEnds (some bv) w2) := fun w2 hb2 => by
    have := Value_says tx w2 (by omega) (hE.keep hb2)
    rw [one_pos htx hn hr, ← hbv] at this
    exact this
  have hbare : ∀ w2, Below w.heap.size w w2 → Calls Tryd.prog 12 #[agg4 k n t A m c] w2 (BareEnds bv w2) := fun w2 hb2 => by
    rw [hm, hbv]
    exact bare_says k n t a A c w2 (hrow.below hb2) hc hcm (by omega)
  have hbw : wt bv.a ≤ 100000000 := by
    rw [hbv]
    show wt (if k = 5 then bareF a else .nil) ≤ _
    split
    · have := wt_bare a; omega
    · simp [wt]
  obtain ⟨bk, bn, bt, ba⟩ := bv
  simp only at hbw
  obtain ⟨bm, hbm⟩ : ∃ bm, bm = ba.len := ⟨_, rfl⟩
  have hsame : ∀ (A1 A2 : Option Addr) (c1 c2 : Nat) (w2 : World), RowAt w2 (lt w2) A1 ba → RowAt w2 (lt w2) A2 ba → Calls Tryd.prog 11 #[agg4 bk bn bt A1 bm c1, agg4 bk bn bt A2 bm c2] w2 (SameEnds w2) := fun A1 A2 c1 c2 w2 h1 h2 => by
    rw [hbm]
    exact same_head bk bn bt ba (same_all ba) A1 A2 c1 c2 w2 h1 h2 hbw
  have hhalf := half s.data.toList (by simpa using hs)
  have htext2 : ∀ v, value1 s.data.toList = some v → ∀ w2 (A2 : Option Addr) (c2 : Nat), Below w.heap.size w w2 → RowAt w2 (lt w2) A2 v.a → v.a.len ≤ c2 → c2 ≤ maxLen → Calls Tryd.prog 9 #[agg4 v.k v.n v.t A2 v.a.len c2] w2 (TextEnds (some s.data.toList) w2) := fun v hv w2 A2 c2 hb2 hr2 h1 h2 => by
    obtain ⟨e1, e2, e3, e4⟩ := hhalf v hv
    rw [← e1]
    exact Text_says v.k v.n v.t v.a A2 c2 w2 hr2 h1 h2 e2 e3 e4 (hE.keep hb2)
  have HT := Lib.hid htext
  have HV := Lib.hid hval
  have HV1 := Lib.hid hval1
  have HB := Lib.hid hbare
  have HS := Lib.hid hsame
  have HT2 := Lib.hid htext2
  have HBM := Lib.hid hbm
  rw [← hm]
  clear hE htext hval hval1 hbare hsame htext2 hhalf hrow hc hcm hn hr hw htx hm hs hbm hbw hbv hlen
  cases hv : value1 s.data.toList with
  | none =>
    go_enter Tryd.func5, Tryd.ntmps5
    go_wp2_with (first
      | (go_at_call 6; (with_reducible refine (hlin _).mono ?_); rintro e w2 ⟨rfl, hb2⟩
         have hz := Own4.keep (heap_alloc_new w (.cells #[.int .i64 k, .int .i64 n, .string t, .slice A m c] 34)) hb2
         obtain ⟨⟨z0, z1, z2, z3⟩, q0, q1, q2, q3⟩ := hz.cells
         have hb2' : Below w.heap.size w w2 := ((Below.refl _ _).alloc (Nat.le_refl _) _).trans (hb2.mono (by simp))
         have ht := HT.out w2 hb2'
         unfold TextEnds at ht)
      | (go_at_call 9; (with_reducible refine ht.mono ?_); rintro e w3 ⟨hb3, rfl⟩
         clear ht
         have hz3 := hz.keep hb3
         have hb3' : Below w.heap.size w w3 := hb2'.trans (hb3.mono hb2'.size)
         have hvl := HV1.out w3 hb3'
         unfold VEnds at hvl
         simp only [← HBM.out] at hvl)
      | (go_at_call 10; (with_reducible refine hvl.mono ?_); rintro e w4 ⟨hb4, A4, c4, rfl, hrow4, hc4, hcm4⟩
         clear hvl
         have hb4' : Below w.heap.size w (w4.alloc (.cells #[.int .i64 bk, .int .i64 bn, .string bt, .slice A4 bm c4] 34)) := (hb3'.trans (hb4.mono hb3'.size)).alloc (by have := hb4.size; have := hb3'.size; omega) _
         have hz4 := (hz3.keep hb4).alloc (.cells #[.int .i64 bk, .int .i64 bn, .string bt, .slice A4 bm c4] 34)
         have hx4 : Own4 (w4.alloc (.cells #[.int .i64 bk, .int .i64 bn, .string bt, .slice A4 bm c4] 34)) w4.heap.size _ _ _ _ _ := heap_alloc_new w4 (.cells #[.int .i64 bk, .int .i64 bn, .string bt, .slice A4 bm c4] 34)
         have hr4 : RowAt (w4.alloc (.cells #[.int .i64 bk, .int .i64 bn, .string bt, .slice A4 bm c4] 34)) (lt (w4.alloc (.cells #[.int .i64 bk, .int .i64 bn, .string bt, .slice A4 bm c4] 34))) A4 ba := hrow4.keep (fun b hb => by have := hb.2; simp; omega) fun p hp => World.cell?_of_block (Below.heap_alloc _ _ _ hp.2)))
    obtain ⟨⟨v0, v1, v2, v3⟩, _, _, _, _⟩ := hz4.cells
    obtain ⟨⟨x0, x1, x2, x3⟩, _, _, _, _⟩ := hx4.cells
    clear z0 z1 z2 z3 q0 q1 q2 q3
    have hb12 := HB.out _ hb4'.drew
    unfold BareEnds at hb12
    simp only [← HBM.out] at hb12
    go_region_with (first
      | (go_at_call 12
         (with_reducible refine hb12.mono ?_)
         rintro e w6 ⟨hb6, A6, c6, rfl, hrow6, hc6, hcm6⟩
         have hx6 := Own4.keep (w := (w4.alloc (.cells #[.int .i64 bk, .int .i64 bn, .string bt, .slice A4 bm c4] 34)).drew) hx4 hb6
         obtain ⟨⟨y0, y1, y2, y3⟩, _, _, _, _⟩ := hx6.cells
         have h61 : RowAt w6 (lt w6) A4 ba := RowAt.below (w := (w4.alloc (.cells #[.int .i64 bk, .int .i64 bn, .string bt, .slice A4 bm c4] 34)).drew) (hr4.keep (fun _ h => h) fun _ _ => rfl) hb6
         have h62 : RowAt w6 (lt w6) A6 ba := hrow6.mono fun b hb => hb.2
         have hb6' : Below w.heap.size w w6 := hb4'.drew.trans (hb6.mono hb4'.size)
         skip)
      | (go_at_call 11
         (with_reducible refine (HS.out A4 A6 c4 c6 w6 h61 h62).mono ?_)
         rintro e w7 ⟨rfl, hb7⟩
         have hb7' : Below w.heap.size w w7 := hb6'.trans (hb7.mono hb6'.size)))
    all_goals
      have hvs := HV.out w7 hb7'
      rw [hv] at hvs
      unfold VEnds at hvs
      simp only [] at hvs
      go_wp2_with (first
        | (go_at_call 10; (with_reducible refine hvs.mono ?_); rintro e w8 ⟨hb8, rfl⟩))
      go_ret
      exact ⟨rfl, (hb7'.trans (hb8.mono hb7'.size)).alloc (by have := hb7'.size; have := hb8.size; omega) _⟩
  | some v =>
    have ht2 := HT2.out v hv
    obtain ⟨vk, vn, vt, va⟩ := v
    simp only at ht2
    obtain ⟨vm, hvm⟩ : ∃ vm, vm = va.len := ⟨_, rfl⟩
    rw [← hvm] at ht2
    have HVM := Lib.hid hvm
    clear hvm
    go_enter Tryd.func5, Tryd.ntmps5
    go_wp2_with (first
      | (go_at_call 6; (with_reducible refine (hlin _).mono ?_); rintro e w2 ⟨rfl, hb2⟩
         have hz := Own4.keep (heap_alloc_new w (.cells #[.int .i64 k, .int .i64 n, .string t, .slice A m c] 34)) hb2
         obtain ⟨⟨z0, z1, z2, z3⟩, q0, q1, q2, q3⟩ := hz.cells
         have hb2' : Below w.heap.size w w2 := ((Below.refl _ _).alloc (Nat.le_refl _) _).trans (hb2.mono (by simp))
         have ht := HT.out w2 hb2'
         unfold TextEnds at ht)
      | (go_at_call 9; (with_reducible refine ht.mono ?_); rintro e w3 ⟨hb3, rfl⟩
         clear ht
         have hz3 := hz.keep hb3
         have hb3' : Below w.heap.size w w3 := hb2'.trans (hb3.mono hb2'.size)
         have hvl := HV1.out w3 hb3'
         unfold VEnds at hvl
         simp only [← HBM.out] at hvl)
      | (go_at_call 10; (with_reducible refine hvl.mono ?_); rintro e w4 ⟨hb4, A4, c4, rfl, hrow4, hc4, hcm4⟩
         clear hvl
         have hb4' : Below w.heap.size w (w4.alloc (.cells #[.int .i64 bk, .int .i64 bn, .string bt, .slice A4 bm c4] 34)) := (hb3'.trans (hb4.mono hb3'.size)).alloc (by have := hb4.size; have := hb3'.size; omega) _
         have hz4 := (hz3.keep hb4).alloc (.cells #[.int .i64 bk, .int .i64 bn, .string bt, .slice A4 bm c4] 34)
         have hx4 : Own4 (w4.alloc (.cells #[.int .i64 bk, .int .i64 bn, .string bt, .slice A4 bm c4] 34)) w4.heap.size _ _ _ _ _ := heap_alloc_new w4 (.cells #[.int .i64 bk, .int .i64 bn, .string bt, .slice A4 bm c4] 34)
         have hr4 : RowAt (w4.alloc (.cells #[.int .i64 bk, .int .i64 bn, .string bt, .slice A4 bm c4] 34)) (lt (w4.alloc (.cells #[.int .i64 bk, .int .i64 bn, .string bt, .slice A4 bm c4] 34))) A4 ba := hrow4.keep (fun b hb => by have := hb.2; simp; omega) fun p hp => World.cell?_of_block (Below.heap_alloc _ _ _ hp.2)))
    obtain ⟨⟨v0, v1, v2, v3⟩, _, _, _, _⟩ := hz4.cells
    obtain ⟨⟨x0, x1, x2, x3⟩, _, _, _, _⟩ := hx4.cells
    clear z0 z1 z2 z3 q0 q1 q2 q3
    have hb12 := HB.out _ hb4'.drew
    unfold BareEnds at hb12
    simp only [← HBM.out] at hb12
    go_region_with (first
      | (go_at_call 12
         (with_reducible refine hb12.mono ?_)
         rintro e w6 ⟨hb6, A6, c6, rfl, hrow6, hc6, hcm6⟩
         have hx6 := Own4.keep (w := (w4.alloc (.cells #[.int .i64 bk, .int .i64 bn, .string bt, .slice A4 bm c4] 34)).drew) hx4 hb6
         obtain ⟨⟨y0, y1, y2, y3⟩, _, _, _, _⟩ := hx6.cells
         have h61 : RowAt w6 (lt w6) A4 ba := RowAt.below (w := (w4.alloc (.cells #[.int .i64 bk, .int .i64 bn, .string bt, .slice A4 bm c4] 34)).drew) (hr4.keep (fun _ h => h) fun _ _ => rfl) hb6
         have h62 : RowAt w6 (lt w6) A6 ba := hrow6.mono fun b hb => hb.2
         have hb6' : Below w.heap.size w w6 := hb4'.drew.trans (hb6.mono hb4'.size)
         skip)
      | (go_at_call 11
         (with_reducible refine (HS.out A4 A6 c4 c6 w6 h61 h62).mono ?_)
         rintro e w7 ⟨rfl, hb7⟩
         have hb7' : Below w.heap.size w w7 := hb6'.trans (hb7.mono hb6'.size)))
    all_goals
      have hvs := HV.out w7 hb7'
      rw [hv] at hvs
      unfold VEnds at hvs
      simp only [← HVM.out] at hvs
      go_wp2_with (first
        | (go_at_call 10; (with_reducible refine hvs.mono ?_); rintro e w8 ⟨hb8, A8, c8, rfl, hrow8, hc8, hcm8⟩
           have hb8' : Below w.heap.size w (w8.alloc (.cells #[.int .i64 vk, .int .i64 vn, .string vt, .slice A8 vm c8] 34)) := (hb7'.trans (hb8.mono hb7'.size)).alloc (by have := hb8.size; have := hb7'.size; omega) _
           have hk := ht2 (w8.alloc (.cells #[.int .i64 vk, .int .i64 vn, .string vt, .slice A8 vm c8] 34)) A8 c8 hb8' (hrow8.keep (fun b hb => by have := hb.2; simp; omega) fun p hp => World.cell?_of_block (Below.heap_alloc _ _ _ hp.2)) hc8 hcm8
           unfold TextEnds at hk
           simp only [toB_of] at hk)
        | (go_at_call 9; (with_reducible refine hk.mono ?_); rintro e w9 ⟨hb9, rfl⟩))
      go_ret
      exact ⟨rfl, hb8'.trans (hb9.mono hb8'.size)⟩
theorem values_long (k n : Int) (t : ByteArray) (a : F) (A : Option Addr) (c : Nat) (s : ByteArray) (w : World) (hE : Env w) (hs : ¬ s.size ≤ 300) :
    Calls Tryd.prog 5 #[agg4 k n t A a.len c, .string s] w (fun e w' => e = .returned (.bool true) ∧ Below w.heap.size w w') := by
  have hlin : ∀ o : Obj, Calls Tryd.prog 6 #[] (w.alloc o) (fun e w' => e = .returned (.bool true) ∧ Below (w.alloc o).heap.size (w.alloc o) w') := fun o => lined_says (w.alloc o) (hE.keep ((Below.refl _ _).alloc (Nat.le_refl _) o))
  have hgt : decide ((300 : Int) < s.size) = true := decide_eq_true (by omega)
  obtain ⟨m, hm⟩ : ∃ m, m = a.len := ⟨_, rfl⟩
  rw [← hm]
  clear hE hm hs
  go_enter Tryd.func5, Tryd.ntmps5
  go_wp2_with (first
    | (go_at_call 6; (with_reducible refine (hlin _).mono ?_); rintro e w2 ⟨rfl, hb2⟩))
  go_ret
  exact ⟨rfl, ((Below.refl _ _).alloc (Nat.le_refl _) _).trans (hb2.mono (by simp))⟩
theorem values_says (k n : Int) (t : ByteArray) (a : F) (A : Option Addr) (c : Nat) (s : ByteArray) (w : World) (hE : Env w) (hrow : RowAt w (lt w) A a) (hc : a.len ≤ c) (hcm : c ≤ maxLen) (hn : R64 n) (hr : Rng a) (hw : t.size + 30 + wt a ≤ 10000000) :
    Calls Tryd.prog 5 #[agg4 k n t A a.len c, .string s] w (fun e w' => e = .returned (.bool true) ∧ Below w.heap.size w w') := by
  by_cases hs : s.size ≤ 300
  · cases htx : text1 40 k n t a with
    | none => exact values_none k n t a A c s w hE hrow hc hcm hn hr hw hs htx
    | some tx => exact values_some k n t a A c s w hE hrow hc hcm hn hr hw hs tx htx
  · exact values_long k n t a A c s w hE hs
end Go.Proofs.YtkmpnfploplpfaaDoor
