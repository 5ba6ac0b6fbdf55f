/- A part of the proofs of the laws of the deeds: Fields. -/
import Derived.Test.YtkmpnfploplpfaaDoorDdWord
import Derived.Test.YtkmpnfploplpfaaDoorGRow
import Derived.Laws.Strings2
import Derived.Lib.Strings
set_option linter.unusedVariables false
set_option linter.unusedSimpArgs false
namespace Go.Proofs.YtkmpnfploplpfaaDoor
open Go.RowKit Go.Deed Go.RowG
attribute [local go_sem ↓] Go.wp_at_zero Go.wp_at_succ

theorem strTy : RowTy Tryd.prog 44 9 1 16 := RowTy.of Tryd.underlying44 (by kernel_rfl) (by decide)
def strV (l : List L) : List Value := l.map fun x => .string (toB x)
theorem strV_len (l : List L) : (strV l).length = l.length := by simp [strV]
theorem strV_one (l : List L) : ∀ u ∈ strV l, u.oneCell' = true := by
  intro u hu
  simp only [strV, List.mem_map] at hu
  obtain ⟨x, _, rfl⟩ := hu
  rfl
/-- A row of texts. -/
def TextsEnds (l : List L) (w : World) (e : Ending) (w' : World) : Prop := ∃ A c, e = .returned (.slice A l.length c) ∧ l.length ≤ c ∧ c ≤ maxLen ∧ CellsAt w' w'.heap.size A (strV l) ∧ Below w.heap.size w w'

theorem fieldsGo_len : ∀ (s : L) (q : Bool) (now : L), (fieldsGo s q now).length ≤ s.length + 1
  | [], _, _ => by simp [fieldsGo]
  | c :: r, q, now => by
    unfold fieldsGo
    split
    · have := fieldsGo_len r (inQ c q) []; simp only [List.length_cons]; omega
    · have := fieldsGo_len r (inQ c q) (now ++ [c]); simp only [List.length_cons]; omega

theorem byte_ne {c : UInt8} (n : Nat) (hn : n < 256) (h : c ≠ UInt8.ofNat n) : ((c.toNat : Int) == (n : Int)) = false :=
  beq_false_of_ne fun e => h (UInt8.toNat_inj.1 (by rw [UInt8.toNat_ofNat', Nat.mod_eq_of_lt hn]; omega))
theorem toB_size (l : L) : (toB l).size = l.length := by simp [toB, ByteArray.size]
theorem toB_add (a b : L) : toB a ++ toB b = toB (a ++ b) := by
  apply ByteArray.ext
  simp [toB]
theorem slice_byte (s : ByteArray) (k : Nat) (c : UInt8) (h : s.data.toList[k]? = some c) (wx : World) : (Instr.slice 9 (.string s) (some (.int .i64 (k : Int))) (some (.int .i64 ((k : Int) + 1))) none).run Tryd.prog wx = .ok (.string (toB [c])) wx := by
  obtain ⟨h1, h2⟩ := List.getElem?_eq_some_iff.1 h
  have hk : k < s.size := by simpa using h1
  rw [run_slice_string wx 9 s .i64 .i64 k (k + 1) Tryd.underlying9 (by omega) (by omega) (by omega)]
  rw [Lib.extract_eq]
  have e1 : (k : Int).toNat = k := by omega
  have e2 : ((k : Int) + 1).toNat = k + 1 := by omega
  rw [e1, e2, List.drop_eq_getElem_cons h1, h2, show k + 1 - k = 1 by omega]
  rfl
set_option maxRecDepth 100000 in
set_option maxHeartbeats 1000000 in
theorem fields_says (s : ByteArray) (w : World) (hs : s.size ≤ 90000000) : Calls Tryd.prog 19 #[.string s] w (TextsEnds (fieldsGo s.data.toList false []) w) := by
  go_enter Tryd.func19, Tryd.ntmps19
  go_wp2
  go_loopw [3, 4, 5, 9] (fun v3 v4 v5 i wr => ∃ (k : Nat) (q : Bool) (now : L) (d : List L), k ≤ s.size ∧ i = .int .i64 k ∧ v4 = .string (toB now) ∧ v5 = .bool q ∧ d.length ≤ k ∧ now.length ≤ k ∧
    d ++ fieldsGo (s.data.toList.drop k) q now = fieldsGo s.data.toList false [] ∧ wr.ownsRow w.heap.size 9 1 v3 d.length (strV d) ∧ Below w.heap.size w wr) (fun _ _ _ i _ => s.size - (intOf i).toNat)
  case atStart => exact ⟨0, false, [], [], Nat.zero_le _, rfl, rfl, rfl, Nat.le_refl _, Nat.le_refl _, rfl, World.ownsRow_nil _ _ _ _, Below.refl _ _⟩
  case round =>
    obtain ⟨k, q, now, d, hk, rfl, rfl, rfl, hd, hnl, hf, hown, hb⟩ := hrel
    have HF := Lib.hid hf
    clear hf
    have hbs := hb.size
    by_cases hlt : k < s.size
    · have hb0 := byte_at s k hlt
      obtain ⟨c, hc⟩ : ∃ c, s[k] = c := ⟨_, rfl⟩
      rw [hc] at hb0
      have hdrop : s.data.toList.drop k = c :: s.data.toList.drop (k + 1) := by
        obtain ⟨h1, h2⟩ := List.getElem?_eq_some_iff.1 hb0
        rw [← h2]
        exact List.drop_eq_getElem_cons h1
      have hsl := slice_byte s k c hb0
      have HD := Lib.hid hdrop
      have hadd : ¬ 9223372036854775807 < (toB now).size + (toB [c]).size := by rw [toB_size, toB_size]; simp; omega
      have hend : ∀ q', inQ c q = q' → ¬ (c = 32 ∧ q' = false) → d ++ fieldsGo (s.data.toList.drop (k + 1)) q' (now ++ [c]) = fieldsGo s.data.toList false [] := fun q' h1 h2 => by
        subst h1
        rw [← HF.out, HD.out]
        conv => rhs; rw [fieldsGo, if_neg h2]
      have HEND := Lib.hid hend
      clear hdrop hb0 hend
      by_cases h39 : c = 39
      · subst h39
        go_wp2
        refine ⟨⟨k + 1, !q, now ++ [39], d, by omega, by go_num, by rw [← toB_add], rfl, by omega, by simp; omega, HEND.out _ rfl (fun h => by cases h.1), hown, hb⟩, by simp [intOf]; omega⟩
      · have e39 : ((c.toNat : Int) == 39) = false := byte_ne 39 (by decide) h39
        by_cases h32 : c = 32
        · subst h32
          cases q with
          | false =>
            go_wp2_with (first
              | (at_builtin
                 refine wpList_append_one strTy (by decide) wr [.string (toB now)] 9 rfl (.tmp 26) (.tmp 28) rfl w.heap.size _ d.length (strV d) rfl hown rfl rfl (by simp [Value.oneCell']) (by omega) hbs ?_
                 intro v4 w4 hown4 hg4 _))
            refine ⟨⟨k + 1, false, [], d ++ [now], by omega, by go_num, rfl, rfl, by simp; omega, by simp, ?_, ?_, (hb.alloc hbs _).grown hg4 (by simp; omega) (fun g hg => (hown.lt g hg).1)⟩, by simp [intOf]; omega⟩
            · rw [← HF.out, HD.out, fieldsGo, if_pos (by decide)]
              simp [inQ]
            · simpa [strV] using hown4
          | true =>
            go_wp2
            refine ⟨⟨k + 1, true, now ++ [32], d, by omega, by go_num, by rw [← toB_add], rfl, by omega, by simp; omega, HEND.out _ rfl (by simp), hown, hb⟩, by simp [intOf]; omega⟩
        · have e32 : ((c.toNat : Int) == 32) = false := byte_ne 32 (by decide) h32
          go_wp2
          refine ⟨⟨k + 1, q, now ++ [c], d, by omega, by go_num, by rw [← toB_add], rfl, by omega, by simp; omega, HEND.out _ (by unfold inQ; rw [if_neg h39]) (fun h => h32 h.1), hown, hb⟩, by simp [intOf]; omega⟩
    · obtain rfl : k = s.size := by omega
      have hd0 : s.data.toList.drop s.size = [] := List.drop_of_length_le (by simp)
      have hl : fieldsGo s.data.toList false [] = d ++ [now] := by rw [← HF.out, hd0]; rfl
      have HL := Lib.hid hl
      clear hd0 hl
      go_wp2_with (first
        | (at_builtin
           refine wpList_append_one strTy (by decide) wr [.string (toB now)] 9 rfl (.tmp 38) (.tmp 40) rfl w.heap.size _ d.length (strV d) rfl hown rfl rfl (by simp [Value.oneCell']) (by omega) hbs ?_
           intro v4 w4 hown4 hg4 _))
      go_ret
      obtain ⟨A4, c4, e4, h41, h42, hat⟩ := CellsAt.of_own hown4
      refine ⟨A4, c4, ?_, ?_, h42, ?_, (hb.alloc hbs _).grown hg4 (by simp; omega) (fun g hg => (hown.lt g hg).1)⟩
      · show Ending.returned v4 = _
        rw [e4, HL.out]
        simp
      · rw [HL.out]; simpa using h41
      · rw [HL.out]; simpa [strV] using hat
end Go.Proofs.YtkmpnfploplpfaaDoor
