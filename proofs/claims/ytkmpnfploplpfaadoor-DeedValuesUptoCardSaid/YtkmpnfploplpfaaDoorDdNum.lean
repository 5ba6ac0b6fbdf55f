/- A part of the proofs of the laws of the deeds: Num. -/
import Derived.Test.YtkmpnfploplpfaaDoorDdStr
import Derived.Test.YtkmpnfploplpfaaDoorShelf
set_option linter.unusedVariables false
set_option linter.unusedSimpArgs false
namespace Go.Proofs.YtkmpnfploplpfaaDoor
open Go.RowKit Go.Deed

theorem var_keep {w w' : World} (h : Below w.heap.size w w') {n : String} {cs : Array Value} (hv : w.var? Tryd.prog n = some cs) : w'.var? Tryd.prog n = some cs := by
  unfold World.var? at hv ⊢
  cases hg : Tryd.prog.globalNamed n with
  | none => simp [hg] at hv
  | some g =>
    simp only [hg, Option.bind_some] at hv ⊢
    have : g < w.heap.size := by
      rcases Nat.lt_or_ge g w.heap.size with h | h
      · exact h
      · rw [Array.getElem?_eq_none h] at hv
        cases hv
    rw [h.block g this]
    exact hv
/-- What the library's variables hold. -/
structure Env (w : World) : Prop where
  tab : Lib.TabIs Tryd.prog w "internal/strconv.uint64pow10" .u64 Lib.pow10Tab
  es : ∃ tp p, w.var? Tryd.prog "strconv.ErrSyntax" = some #[.iface tp p]
  er : ∃ tp p, w.var? Tryd.prog "strconv.ErrRange" = some #[.iface tp p]
theorem Env.keep {w w' : World} (h : Env w) (hb : Below w.heap.size w w') : Env w' :=
  ⟨var_keep hb h.tab, by obtain ⟨a, b, h⟩ := h.es; exact ⟨a, b, var_keep hb h⟩, by obtain ⟨a, b, h⟩ := h.er; exact ⟨a, b, var_keep hb h⟩⟩

theorem below_grow (w : World) (n : Nat) (os : Array Obj) : Below w.heap.size w (Sort.grow (w.drewN n) os) :=
  ⟨rfl, rfl, rfl, by simp [Sort.grow, World.drewN], fun k hk => by simp [Sort.grow, World.drewN, Array.getElem?_append_left hk]⟩
theorem below_bytes (w : World) (t : TypeId) (s : ByteArray) : Below w.heap.size w (Lib.bytesWorld w t s) := Lib.bytesWorld_below _ _ _
theorem atoi_range {l : L} {n : Int} (h : Lib.atoiAll l = .ok n) : R64 n := by
  unfold Lib.atoiAll at h
  unfold R64
  split at h
  · cases h
  · next c r =>
    simp only [] at h
    split at h
    · cases h
    · cases h
    · next u hu =>
      split at h
      · cases h
      · split at h
        · cases h
        · injection h with h
          subst h
          split <;> omega
def NumEnds (s : L) (w : World) (e : Ending) (w' : World) : Prop := Below w.heap.size w w' ∧ ((∃ n, numL s = some n ∧ R64 n ∧ e = .returned (.tuple #[.int .i64 n, .bool true])) ∨ (numL s = none ∧ ∃ n, e = .returned (.tuple #[.int .i64 n, .bool false])))

theorem itoa_says (n : Int) (hn : R64 n) (w : World) (hE : Env w) : Calls Tryd.prog 18 #[.int .i64 n] w (fun e w' => e = .returned (.string (toB (Lib.itoa n))) ∧ Below w.heap.size w w') :=
  (Tryd.strconv_Itoa n hn.1 hn.2 w hE.tab).mono fun e w' ⟨h, k, os, h'⟩ => ⟨h, by rw [h']; exact below_grow _ _ _⟩
/-- Atoi: a number and no error, or an error. -/
def AtoiEnds (s : L) (w : World) (e : Ending) (w' : World) : Prop := Below w.heap.size w w' ∧ ((∃ n, Lib.atoiAll s = .ok n ∧ R64 n ∧ e = .returned (.tuple #[.int .i64 n, .nilIface])) ∨ ((∀ n, Lib.atoiAll s ≠ .ok n) ∧ ∃ n p, e = .returned (.tuple #[.int .i64 n, .iface 91 p])))
theorem atoi_says (s : ByteArray) (hs : s.size ≤ 281474976710656) (w : World) (hE : Env w) : Calls Tryd.prog 28 #[.string s] w (AtoiEnds s.data.toList w) := by
  cases h : Lib.atoiAll s.data.toList with
  | ok v => exact (Tryd.strconv_Atoi_ok s (by omega) v h w).mono fun e w' ⟨h1, h2⟩ => ⟨by
      rcases h2 with rfl | ⟨t, rfl⟩
      · exact Below.refl _ _
      · exact below_bytes _ _ _, .inl ⟨v, h, atoi_range h, h1⟩⟩
  | «syntax» =>
    obtain ⟨tp, p, hv⟩ := hE.es
    exact (Tryd.strconv_Atoi_syntax_var s hs h tp p w hv).mono fun e w' ⟨N, h1, _, _, h2⟩ => ⟨h2, .inr ⟨fun n h' => by (rw [h] at h'; cases h'), _, _, h1⟩⟩
  | range =>
    obtain ⟨tp, p, hv⟩ := hE.er
    exact (Tryd.strconv_Atoi_range_var s hs h tp p w hv).mono fun e w' ⟨N, h1, _, _, h2⟩ => ⟨h2, .inr ⟨fun n h' => by (rw [h] at h'; cases h'), _, _, h1⟩⟩

theorem toB_toList (l : L) : (toB l).toList = l := by rw [ByteArray.toList_eq, toB_list]
set_option maxHeartbeats 400000 in
theorem number_says (s : ByteArray) (hs : s.size ≤ 281474976710656) (w : World) (hE : Env w) : Calls Tryd.prog 21 #[.string s] w (NumEnds s.data.toList w) := by
  have HE := Lib.hid hE
  have hat := atoi_says s hs w hE
  have hsl : s.toList = s.data.toList := ByteArray.toList_eq _
  clear hE
  go_enter Tryd.func21, Tryd.ntmps21
  go_wp2_with (first
    | (go_at_call 28; (with_reducible refine hat.mono ?_); rintro e w2 ⟨hb2, (⟨n, hn, hr, rfl⟩ | ⟨hn, n, p, rfl⟩)⟩)
    | (go_at_call 18; (with_reducible refine (itoa_says n hr w2 (HE.out.keep hb2)).mono ?_); rintro e w3 ⟨rfl, hb3⟩))
  · go_ret2
    have hb := hb2.trans (hb3.mono hb2.size)
    refine ⟨hb, ?_⟩
    by_cases e : Lib.itoa n = s.data.toList
    · refine .inl ⟨n, by unfold numL; rw [hn]; simp [e], hr, ?_⟩
      show Ending.returned (.tuple #[.int .i64 n, .bool ((toB (Lib.itoa n)).toList == s.data.toList)]) = _
      rw [toB_toList, e, beq_self_eq_true]
    · refine .inr ⟨by unfold numL; rw [hn]; simp [e], n, ?_⟩
      show Ending.returned (.tuple #[.int .i64 n, .bool ((toB (Lib.itoa n)).toList == s.data.toList)]) = _
      rw [toB_toList, show (Lib.itoa n == s.data.toList) = false by simpa using e]
  · go_ret2
    refine ⟨hb2, .inr ⟨?_, n, rfl⟩⟩
    unfold numL
    split
    · next m hm => exact absurd hm (hn m)
    · rfl
end Go.Proofs.YtkmpnfploplpfaaDoor
