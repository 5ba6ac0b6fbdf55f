/- arms.Holds: whether a question is answered by yes. No conditions. -/
import Derived.Test.YtiinghgfojicdaaGreatArPart
import Derived.Test.YtiinghgfojicdaaGreatArPut
set_option linter.unusedVariables false
set_option linter.unusedSimpArgs false
namespace Go.Proofs.YtiinghgfojicdaaGreat
open Go.RowKit Go.RowG Go.FRow Go.GMem
set_option linter.unusedVariables false
set_option maxRecDepth 100000
attribute [local go_sem ↓] Go.wp_at_zero Go.wp_at_succ

abbrev agg5 (R : Option Addr) (pl cp : Nat) (k n : Int) (t : ByteArray) : Value := .agg #[.slice R pl cp, .int .i64 k, .int .i64 n, .string t, .slice none 0 0]
theorem holds_none {t : T} {v : Vl} (h : partV v t.path = none) : holdsT t v = false := by simp only [holdsT, h]
theorem holds_some {t : T} {v u : Vl} (h : partV v t.path = some u) : holdsT t v = fits t u := by simp only [holdsT, h]

set_option maxHeartbeats 8000000 in
theorem holds_says (P : List Nat) (tk tn : Int) (tt : ByteArray) (A : Option Addr) (c : Nat) (vk vn : Int) (vt : ByteArray) (va : F) (A' : Option Addr) (c' : Nat) (w : World) (hP : GRow w (lt w) A P.length (encI P)) (hlen : P.length ≤ 1000) (hV : RowAt w w.heap.size A' va) (hc' : va.len ≤ c') (hm' : c' ≤ maxLen) (hn : va.nodes ≤ 100000) :
    Calls Tryz.prog 26 #[agg5 A P.length c tk tn tt, agg4 vk vn vt A' va.len c'] w (BoolEnds (holdsT ⟨P, tk, tn, tt⟩ ⟨vk, vn, vt, va⟩) w) := by
  have hpart := fun (W : World) (hb : Below w.heap.size w W) => part_says P A c vk vn vt va A' c' W (hP.below hb) hlen (RowAt.keep hV hb.size fun p hp => hb.cell hp) hc' hm' hn
  obtain ⟨res, hres⟩ : ∃ res, res = partV ⟨vk, vn, vt, va⟩ P := ⟨_, rfl⟩
  rw [← hres] at hpart
  obtain ⟨b, hbe⟩ : ∃ b, b = holdsT ⟨P, tk, tn, tt⟩ ⟨vk, vn, vt, va⟩ := ⟨_, rfl⟩
  rw [← hbe]
  obtain ⟨pl, hpl⟩ : ∃ pl, pl = P.length := ⟨_, rfl⟩
  rw [← hpl] at hpart ⊢
  obtain ⟨vl, hvl⟩ : ∃ vl, vl = va.len := ⟨_, rfl⟩
  rw [← hvl] at hpart ⊢
  obtain ⟨W1, hW1⟩ : ∃ W1, W1 = (w.alloc (.cells #[.slice A pl c, .int .i64 tk, .int .i64 tn, .string tt, .slice none 0 0] 56)).alloc (.cells #[.int .i64 vk, .int .i64 vn, .string vt, .slice A' vl c'] 29) := ⟨_, rfl⟩
  have hb1 : Below w.heap.size w W1 := by rw [hW1]; exact ((Below.refl _ _).alloc (Nat.le_refl _) _).alloc (by simp) _
  have hq1 : Own4 W1 (w.heap.size + 1) 29 (.int .i64 vk) (.int .i64 vn) (.string vt) (.slice A' vl c') := by
    rw [hW1]
    have := heap_alloc_new (w.alloc (.cells #[.slice A pl c, .int .i64 tk, .int .i64 tn, .string tt, .slice none 0 0] 56)) (.cells #[.int .i64 vk, .int .i64 vn, .string vt, .slice A' vl c'] 29)
    simpa [Own4] using this
  have hz1 : W1.heap[w.heap.size]? = some (.cells #[.slice A pl c, .int .i64 tk, .int .i64 tn, .string tt, .slice none 0 0] 56 (0, 0)) := by
    rw [hW1]
    exact (heap_alloc_old _ _ (by simp)).trans (heap_alloc_new w _)
  have hcall := hpart W1 hb1
  have hl1 := hq1.lt
  have HB1 := Lib.hid hb1
  have HZ1 := Lib.hid hz1
  have HQ1 := Lib.hid hq1
  rw [hW1] at hcall
  clear hP hV hpart hpl hvl hb1 hz1 hq1
  cases res with
  | none =>
    have hbf : b = false := by rw [hbe]; exact holds_none (v := ⟨vk, vn, vt, va⟩) hres.symm
    subst hbf
    have HW1 := Lib.hid hW1
    clear hW1 hbe hres
    go_enter Tryz.func26, Tryz.ntmps26
    go_wp2_with (first
      | (go_at_call 54
         (with_reducible refine hcall.mono ?_)
         rintro e w5 ⟨rfl, hb5⟩
         rw [← HW1.out] at hb5)
      | fail "none")
    go_ret
    exact ⟨rfl, (HB1.out.trans (hb5.mono HB1.out.size)).alloc (Nat.le_trans HB1.out.size hb5.size) _⟩
  | some u =>
    obtain ⟨uk, un, ut, ua⟩ := u
    have hbf : b = fits ⟨P, tk, tn, tt⟩ ⟨uk, un, ut, ua⟩ := by rw [hbe]; exact holds_some (v := ⟨vk, vn, vt, va⟩) hres.symm
    have HW1 := Lib.hid hW1
    have HBF := Lib.hid hbf
    obtain ⟨ul, hul⟩ : ∃ ul, ul = ua.len := ⟨_, rfl⟩
    have hcall' : Calls Tryz.prog 54 #[agg4 vk vn vt A' vl c', .slice A pl c] ((w.alloc (.cells #[.slice A pl c, .int .i64 tk, .int .i64 tn, .string tt, .slice none 0 0] 56)).alloc (.cells #[.int .i64 vk, .int .i64 vn, .string vt, .slice A' vl c'] 29)) fun e w' => ua.nodes ≤ 100000 ∧ (∃ R c, e = .returned (.tuple #[agg4 uk un ut R ul c, .bool true])) ∧ Below W1.heap.size W1 w' := hcall.mono fun e w' ⟨⟨h1, R, c, h2⟩, h3⟩ => ⟨h1, ⟨R, c, by rw [hul]; exact h2⟩, by rw [hW1]; exact h3⟩
    have HUL := Lib.hid hul
    clear hW1 hbe hres hbf hcall hul
    have hcases : (tk = 3 ∧ uk = 2) ∨ (tk = 3 ∧ (uk == 2) = false) ∨ (tk = 4 ∧ uk = 3) ∨ (tk = 4 ∧ (uk == 3) = false) ∨ (tk = 5 ∧ uk = 4) ∨ (tk = 5 ∧ (uk == 4) = false) ∨ (tk = 6 ∧ uk = 5 ∧ (ut.toList == tt.toList) = true) ∨ (tk = 6 ∧ uk = 5 ∧ (ut.toList == tt.toList) = false) ∨ (tk = 6 ∧ (uk == 5) = false) ∨ ((tk == 3) = false ∧ (tk == 4) = false ∧ (tk == 5) = false ∧ (tk == 6) = false) := by
      simp only [beq_eq_false_iff_ne]
      by_cases h6 : tk = 6
      · by_cases hu : uk = 5
        · cases ht : (ut.toList == tt.toList) <;> simp_all
        · simp_all
      · omega
    rcases hcases with ⟨rfl, rfl⟩ | ⟨rfl, h1⟩ | ⟨rfl, rfl⟩ | ⟨rfl, h1⟩ | ⟨rfl, rfl⟩ | ⟨rfl, h1⟩ | ⟨rfl, rfl, h1⟩ | ⟨rfl, rfl, h1⟩ | ⟨rfl, h1⟩ | ⟨h1, h2, h3, h4⟩
    all_goals
      go_enter Tryz.func26, Tryz.ntmps26
      go_wp2_with (first
        | (go_at_call 54
           (with_reducible refine hcall'.mono ?_)
           rintro e w5 ⟨hun, ⟨R5, c5, rfl⟩, hb5⟩
           have hZ5 := (hb5.block w.heap.size (by omega)).trans HZ1.out
           obtain ⟨q0, q1, q2, q3, q4⟩ := five hZ5
           have hlt5 : w.heap.size + 1 < w5.heap.size := Nat.lt_of_lt_of_le hl1 hb5.size
           have hlt6 : w.heap.size < w5.heap.size := by omega
           obtain ⟨g0, g1⟩ := alloc_cell hlt6)
        | fail "none")
      go_ret
      refine ⟨?_, (HB1.out.trans (hb5.mono HB1.out.size)).alloc (Nat.le_trans HB1.out.size hb5.size) _⟩
      rw [HBF.out]
    · cases h : (un == tn) <;> simp_all [fits]
    · simp_all [fits]
    · cases h : (un == tn) <;> simp_all [fits]
    · simp_all [fits]
    · cases h : (ut.toList == tt.toList) <;> simp_all [fits]
    · simp_all [fits]
    · rw [HUL.out]
      cases h : ((ua.len : Int) == tn) <;> simp_all [fits]
    · simp_all [fits]
    · simp_all [fits]
    · simp_all [fits]
end Go.Proofs.YtiinghgfojicdaaGreat
