/- A part of the proofs of the laws of the deeds: Any. -/
import Derived.Test.YtkmpnfploplpfaaDoorDdFields
import Derived.Deep.LoopGhost
import Derived.WalkMore
import Derived.Laws.RangeString
import Derived.Laws.Strings3
import Derived.Shelf.Small.Utf8
set_option linter.unusedVariables false
set_option linter.unusedSimpArgs false
namespace Go.Proofs.YtkmpnfploplpfaaDoor
open Go.RowKit Go.Deed Go.RowG
attribute [local go_sem ↓] Go.wp_at_zero Go.wp_at_succ

theorem encode_high (r : Int) (h : 128 ≤ r) : ∃ n c, (Utf8.encode r).size = n + 2 ∧ n ≤ 2 ∧ (Utf8.encode r).data.toList[n + 1]? = some c ∧ 128 ≤ c.toNat := by
  have hc : ∃ c : Nat, (if Utf8.valid r then r.toNat else Utf8.runeError) = c ∧ 128 ≤ c := ⟨_, rfl, by split; omega; decide⟩
  obtain ⟨c, hc, h128⟩ := hc
  have hb : ∀ m, m < 64 → 128 ≤ (UInt8.ofNat (0x80 + m)).toNat := fun m hm => by rw [UInt8.toNat_ofNat']; omega
  unfold Utf8.encode
  simp only [hc]
  rw [if_neg (by omega)]
  split
  · exact ⟨0, _, rfl, by omega, rfl, hb _ (by omega)⟩
  · split
    · exact ⟨1, _, rfl, by omega, rfl, hb _ (by omega)⟩
    · exact ⟨2, _, rfl, by omega, rfl, hb _ (by omega)⟩
def seps : ByteArray := ⟨#[40, 41, 44]⟩
set_option maxHeartbeats 4000000 in
set_option maxRecDepth 100000 in
theorem rune_high (r : Int) (h : 128 ≤ r) (h2 : r ≤ 2147483647) (hne : r ≠ 65533) (w : World) :
    Calls Tryd.prog 45 #[.string seps, .int .i32 r] w fun e w' => e = .returned (.int .i64 (-1)) ∧ Below w.heap.size w w' := by
  unfold seps
  have e1 : (r == 65533) = false := by simpa using hne
  cases hv : Lib.validRune r with
  | false =>
    go_enter Tryd.func45, Tryd.ntmps45
    go_wp2_with (go_at_call 61; (with_reducible refine (Tryd.utf8_ValidRune r _).mono ?_); rintro e w2 ⟨rfl, rfl⟩)
    go_ret
    exact ⟨rfl, Below.refl _ _⟩
  | true =>
    go_enter Tryd.func45, Tryd.ntmps45
    go_wp2_with (go_at_call 61; (with_reducible refine (Tryd.utf8_ValidRune r _).mono ?_); rintro e w2 ⟨rfl, rfl⟩)
    obtain ⟨n, c, hs, hn, hc, h128⟩ := encode_high r h
    obtain ⟨bs, hbs⟩ : ∃ bs, bs = Utf8.encode r := ⟨_, rfl⟩
    rw [← hbs] at hs hc
    have hconv : ∀ wx : World, (convert 21 9 (.int .i32 r)).run Tryd.prog wx = .ok (.string bs) wx := fun wx => by
      rw [hbs]
      simp [convert, run_underlying Tryd.underlying9, run_underlying Tryd.underlying21, Conv.intToString]
    clear hbs
    go_step3
    go_wp2
    go_loopw [9] (fun i wr => i = .int .i64 (n + 1 : Nat) ∧ wr = w2) (fun i _ => 0)
    case atStart => exact ⟨by go_num, rfl⟩
    case round =>
      obtain ⟨rfl, rfl⟩ := hrel
      match n, hn, hs, hc with
      | 0, hn, hs, hc =>
        have hx : bs[1] = c := by have := byte_at bs 1 (by omega); rw [hc] at this; simpa using this.symm
        have hsz : (1 : Int) < (bs.size : Int) := by omega
        have hcne : ((((⟨#[40, 41, 44]⟩ : ByteArray)[1]'(by decide)).toNat : Int) != (c.toNat : Int)) = true := by
          have : (((⟨#[40, 41, 44]⟩ : ByteArray)[1]'(by decide)).toNat : Int) = 41 := rfl
          rw [this]
          simp
          omega
        have hsl : ∀ wx : World, (Instr.slice 9 (.string ⟨#[40, 41, 44]⟩) (some (.int .i64 2)) none none).run Tryd.prog wx = .ok (.string ⟨#[44]⟩) wx := fun wx => by
          rw [run_slice_string_l wx 9 ⟨#[40, 41, 44]⟩ Tryd.underlying9 .i64 2 (by decide) (by decide)]
          rfl
        have hidx : Lib.indexByte [44] c = -1 := by
          have : ((44 : UInt8) == c) = false := by simp; intro e; subst e; simp at h128
          simp [Lib.indexByte, this]
        have hcall : ∀ wx : World, Calls Tryd.prog 33 #[.string ⟨#[44]⟩, .int .u8 (c.toNat : Int)] wx fun e w' => e = .returned (.int .i64 (-1)) ∧ w' = wx := fun wx => by
          have := Tryd.strings_IndexByte ⟨#[44]⟩ (c.toNat : Int) wx
          rw [show ((c.toNat : Int)).toNat.toUInt8 = c by simp, show (⟨#[44]⟩ : ByteArray).data.toList = [44] from rfl, hidx] at this
          exact this
        have hwr : IntKind.i64.wrap 2 = 2 := rfl
        have hix : ∀ wx : World, (Instr.index 9 (.string bs) (.int .i64 1)).run Tryd.prog wx = .ok (.int .u8 (c.toNat : Int)) wx := fun wx => by
          rw [run_index_string _ _ _ _ _ Tryd.underlying9, dif_pos ⟨by omega, by omega⟩]
          show Result.ok (Value.int .u8 (bs[1].toNat : Int)) wx = _
          rw [hx]
        go_wp2
        go_step3
        go_wp2
        go_quiet (fail)
        go_wp2
        go_quiet ((go_at_call 33; exact (hcall _).mono fun _ _ h => ⟨h.1, _, h.2⟩))
        go_wp2
        show bodyPost Tryd.prog Tryd.f45 (fun e w' => e = Ending.returned (Value.int IntKind.i64 (-1)) ∧ Below wr.heap.size wr w') Exit.ret _ _
        go_ret
        exact ⟨rfl, below_drewN' (Below.refl _ _) _⟩
      | 1, hn, hs, hc =>
        have hx : bs[2] = c := by have := byte_at bs 2 (by omega); rw [hc] at this; simpa using this.symm
        have hsz : (2 : Int) < (bs.size : Int) := by omega
        have hcne : ((((⟨#[40, 41, 44]⟩ : ByteArray)[2]'(by decide)).toNat : Int) != (c.toNat : Int)) = true := by
          have : (((⟨#[40, 41, 44]⟩ : ByteArray)[2]'(by decide)).toNat : Int) = 44 := rfl
          rw [this]
          simp
          omega
        have hsl : ∀ wx : World, (Instr.slice 9 (.string ⟨#[40, 41, 44]⟩) (some (.int .i64 3)) none none).run Tryd.prog wx = .ok (.string ⟨#[]⟩) wx := fun wx => by
          rw [run_slice_string_l wx 9 ⟨#[40, 41, 44]⟩ Tryd.underlying9 .i64 3 (by decide) (by decide)]
          rfl
        have hidx : Lib.indexByte [] c = -1 := rfl
        have hcall : ∀ wx : World, Calls Tryd.prog 33 #[.string ⟨#[]⟩, .int .u8 (c.toNat : Int)] wx fun e w' => e = .returned (.int .i64 (-1)) ∧ w' = wx := fun wx => by
          have := Tryd.strings_IndexByte ⟨#[]⟩ (c.toNat : Int) wx
          rw [show ((c.toNat : Int)).toNat.toUInt8 = c by simp, show (⟨#[]⟩ : ByteArray).data.toList = [] from rfl, hidx] at this
          exact this
        have hwr : IntKind.i64.wrap 3 = 3 := rfl
        have hix : ∀ wx : World, (Instr.index 9 (.string bs) (.int .i64 2)).run Tryd.prog wx = .ok (.int .u8 (c.toNat : Int)) wx := fun wx => by
          rw [run_index_string _ _ _ _ _ Tryd.underlying9, dif_pos ⟨by omega, by omega⟩]
          show Result.ok (Value.int .u8 (bs[2].toNat : Int)) wx = _
          rw [hx]
        go_wp2
        go_step3
        go_wp2
        go_quiet (fail)
        go_wp2
        go_quiet ((go_at_call 33; exact (hcall _).mono fun _ _ h => ⟨h.1, _, h.2⟩))
        go_wp2
        show bodyPost Tryd.prog Tryd.f45 (fun e w' => e = Ending.returned (Value.int IntKind.i64 (-1)) ∧ Below wr.heap.size wr w') Exit.ret _ _
        go_ret
        exact ⟨rfl, below_drewN' (Below.refl _ _) _⟩
      | 2, hn, hs, hc =>
        go_wp2
        rw [Exit.noGoto_ret]
        go_ret
        exact ⟨rfl, Below.refl _ _⟩

set_option maxHeartbeats 4000000 in
set_option maxRecDepth 100000 in
theorem rune_error (w : World) :
    Calls Tryd.prog 45 #[.string seps, .int .i32 65533] w fun e w' => e = .returned (.int .i64 (-1)) ∧ Below w.heap.size w w' := by
  obtain ⟨s, hs⟩ : ∃ s, s = seps := ⟨_, rfl⟩
  have hsz : s.size = 3 := by rw [hs]; rfl
  have hlt : ∀ i (h : i < s.size), s[i].toNat < 128 := by
    subst hs
    intro i h
    match i, h with
    | 0, _ => exact (by decide : (40 : UInt8).toNat < 128)
    | 1, _ => exact (by decide : (41 : UInt8).toNat < 128)
    | 2, _ => exact (by decide : (44 : UInt8).toNat < 128)
  rw [← hs]
  clear hs
  go_enter Tryd.func45, Tryd.ntmps45
  go_wp2
  go_loopg [5, 6] 3 (fun g _ _ wx => ∃ i : Nat, i + g = 3 ∧ wx = w.iter s i)
  case atStart => exact ⟨0, by omega, rfl⟩
  case round =>
    obtain ⟨i, hig, rfl⟩ := hrel
    cases gk with
    | zero =>
      obtain rfl : i = 3 := by omega
      have hnx := run_next_end (P := Tryd.prog) w s 3
      go_wp2
      go_ret
      exact ⟨rfl, (Below.refl _ _).alloc (Nat.le_refl _) _⟩
    | succ g =>
      have hi : i < s.size := by omega
      have h1 := hlt i hi
      have hnx := fun ty => run_next_ascii (P := Tryd.prog) w s i ty hi h1
      obtain ⟨x, hx⟩ : ∃ x : UInt8, s[i]'hi = x := ⟨_, rfl⟩
      rw [hx] at hnx h1
      have hne : ((x.toNat : Int) == 65533) = false := by simp; omega
      clear hx hlt
      go_wp2
      go_roundg g
      case measure => omega
      case rel => exact ⟨i + 1, by omega, rfl⟩

theorem get_byte (s : ByteArray) (j : Nat) (h : j < s.size) : s.get! j = s[j] := by
  simp [ByteArray.get!, getElem!_pos, h]
  rfl
theorem cont_bytes (s : ByteArray) (pos : Nat) (h : pos < s.size) (ha : 128 ≤ s[pos].toNat) : ∀ j, pos ≤ j → j < pos + (Utf8.decode s pos).2 → ∀ (hj : j < s.size), 128 ≤ s[j].toNat := by
  intro j h1 h2 hj
  by_cases e0 : j = pos
  · subst e0; exact ha
  have hc : ∀ k, j = pos + k → (s.get! (pos + k)).toNat / 64 = 2 → 128 ≤ s[j].toNat := fun k e hk => by
    have : s.get! (pos + k) = s[j] := by rw [← e]; exact get_byte s j hj
    rw [this] at hk
    omega
  have hb : s.get! (pos + 0) = s[pos] := get_byte s pos h
  have hn : ¬ (s[pos].toNat < 128) := by omega
  simp only [Utf8.decode, hb, hn, if_false] at h2
  split at h2
  · next hh =>
    simp only [Bool.and_eq_true, beq_iff_eq] at hh
    split at h2
    · exact hc 1 (by simp at h2; omega) (by have := hh.2; simp at this; exact this.2)
    · simp at h2; omega
  · split at h2
    · next hh =>
      simp only [Bool.and_eq_true, beq_iff_eq, decide_eq_true_eq] at hh
      split at h2
      · simp only at h2
        by_cases e1 : j = pos + 1
        · exact hc 1 e1 hh.1.2.2
        · exact hc 2 (by omega) hh.2.2
      · simp at h2; omega
    · split at h2
      · next hh =>
        simp only [Bool.and_eq_true, beq_iff_eq, decide_eq_true_eq] at hh
        split at h2
        · simp only at h2
          by_cases e1 : j = pos + 1
          · exact hc 1 e1 hh.1.1.2.2
          · by_cases e2 : j = pos + 2
            · exact hc 2 e2 hh.1.2.2
            · exact hc 3 (by omega) hh.2.2
        · simp at h2; omega
      · simp at h2; omega

theorem decode_le (s : ByteArray) (pos : Nat) : (Utf8.decode s pos).1 ≤ 2147483647 := by
  have hb : ∀ b : UInt8, b.toNat < 256 := fun b => b.toNat_lt
  have h0 := hb (s.get! (pos + 0))
  rw [Nat.add_zero] at h0
  have h1 := hb (s.get! (pos + 1))
  have h2 := hb (s.get! (pos + 2))
  have h3 := hb (s.get! (pos + 3))
  unfold Utf8.decode
  simp only []
  repeat' split
  all_goals simp [Utf8.runeError]
  all_goals omega
theorem rune_says (r : Nat) (h : 128 ≤ r) (h2 : r ≤ 2147483647) (w : World) :
    Calls Tryd.prog 45 #[.string seps, .int .i32 (r : Int)] w fun e w' => e = .returned (.int .i64 (-1)) ∧ Below w.heap.size w w' := by
  by_cases e : r = 65533
  · subst e; exact rune_error w
  · exact rune_high r (by omega) (by omega) (by omega) w

def AnyEnds (s : L) (w : World) (e : Ending) (w' : World) : Prop := e = .returned (.int .i64 (Lib.indexAny s [40, 41, 44])) ∧ Below w.heap.size w w'
set_option maxHeartbeats 4000000 in
set_option maxRecDepth 100000 in
theorem any_short (s : ByteArray) (h8 : s.size ≤ 8) (w : World) : Calls Tryd.prog 34 #[.string s, .string seps] w (AnyEnds s.data.toList w) := by
  obtain ⟨chars, hch⟩ : ∃ c, c = seps := ⟨_, rfl⟩
  have hemp : chars.toList.isEmpty = false := by rw [hch, ByteArray.toList_eq]; rfl
  have hn1 : ((chars.size : Int) == 1) = false := by rw [hch]; rfl
  have h8z : decide ((8 : Int) < (s.size : Int)) = false := decide_eq_false (by omega)
  have hcl : chars.data.toList = [40, 41, 44] := by rw [hch]; rfl
  have hhigh : ∀ (r : Nat), 128 ≤ r → r ≤ 2147483647 → ∀ w, Calls Tryd.prog 45 #[.string chars, .int .i32 (r : Int)] w fun e w' => e = .returned (.int .i64 (-1)) ∧ Below w.heap.size w w' := by rw [hch]; exact rune_says
  have hlow : ∀ (r : Int), 0 ≤ r → r < 128 → ∀ w, Calls Tryd.prog 45 #[.string chars, .int .i32 r] w fun e w' => e = .returned (.int .i64 (Lib.indexByte chars.data.toList r.toNat.toUInt8)) ∧ w' = w := fun r h0 h1 w => Tryd.strings_IndexRune_ascii chars r w h0 h1
  rw [← hch]
  clear hch
  have HL := Lib.hid hlow
  have HH := Lib.hid hhigh
  have HC := Lib.hid hcl
  clear hlow hhigh hcl
  go_enter Tryd.func34, Tryd.ntmps34
  go_wp2_with (go_at_call 46; (with_reducible refine (Tryd.strings_shouldUseASCIISet _ _).mono ?_); rintro e w' ⟨rfl, hw⟩; rw [hw, h8z])
  go_loopg [9, 10] s.size (fun g _ _ wx => ∃ pos : Nat, wx.heap[w.heap.size]? = some (.stringIter s pos) ∧ Below w.heap.size w wx ∧ s.size ≤ pos + g ∧ Lib.NoAny s.data.toList [40, 41, 44] pos)
  case atStart => exact ⟨0, World.iter_heap w s 0, (Below.refl _ w).alloc (Nat.le_refl _) _, by omega, Lib.NoAny.zero _ _⟩
  case round =>
    obtain ⟨pos, hit, hbw, hfu, hno⟩ := hrel
    have HN := Lib.hid hno
    clear hno
    by_cases hps : pos < s.size
    · obtain ⟨g', rfl⟩ : ∃ g', gk = g' + 1 := ⟨gk - 1, by omega⟩
      have hnx : ∀ ty, (Instr.next (.pointer (some ⟨w.heap.size, 0, none⟩)) true ty).run Tryd.prog wr = _ := fun ty => Lib.run_next_any_at wr w.heap.size s pos ty hit hps
      have hwd := Lib.width_pos s pos
      have hle := decode_le s pos
      by_cases ha : s[pos].toNat < 128
      · have hdec := decode_ascii s pos hps ha
        rw [hdec] at hnx
        obtain ⟨x, hx⟩ : ∃ x : UInt8, s[pos] = x := ⟨_, rfl⟩
        rw [hx] at hnx ha
        have hxl : s.data.toList[pos]? = some x := by rw [byte_at s pos hps, hx]
        have hit2 := Lib.iterAt_heap wr w.heap.size s pos (pos + 1) hit
        have hbw2 := Lib.below_iterAt hbw (k := w.heap.size) (Nat.le_refl _) s (pos + 1)
        obtain ⟨W, hWd⟩ : ∃ W, wr.iterAt w.heap.size s (pos + 1) = W := ⟨_, rfl⟩
        simp only [] at hnx
        rw [hWd] at hnx hit2 hbw2
        have hcon := Lib.contains_iff_indexByte [40, 41, 44] x
        have hcall := HL.out (x.toNat : Int) (by omega) (by omega)
        rw [HC.out, show ((x.toNat : Int)).toNat.toUInt8 = x by simp] at hcall
        have HX := Lib.hid hxl
        clear hxl hx hdec hwd hle
        cases hin : [40, 41, 44].contains x
        · rw [hin] at hcon
          have hlt : ¬ ((0 : Int) ≤ Lib.indexByte [40, 41, 44] x) := of_decide_eq_false hcon.symm
          clear hcon
          have HI := Lib.hid hin
          clear hin
          go_wp2_with (go_at_call 45; (with_reducible refine (hcall _).mono ?_); rintro e w2 ⟨rfl, rfl⟩)
          go_roundg g'
          case measure => omega
          case rel => exact ⟨pos + 1, hit2, hbw2, by omega, HN.out.succ HX.out HI.out⟩
        · rw [hin] at hcon
          have hge : (0 : Int) ≤ Lib.indexByte [40, 41, 44] x := of_decide_eq_true hcon.symm
          clear hcon
          have HI := Lib.hid hin
          clear hin
          go_wp2_with (go_at_call 45; (with_reducible refine (hcall _).mono ?_); rintro e w2 ⟨rfl, rfl⟩)
          go_ret
          exact ⟨by rw [Lib.indexAny_hit HN.out HX.out HI.out]; rfl, hbw2⟩
      · have hh := decode_high s pos hps (by omega)
        have hcb := cont_bytes s pos hps (by omega)
        obtain ⟨R, hR⟩ : ∃ R, (Utf8.decode s pos).1 = R := ⟨_, rfl⟩
        obtain ⟨K, hK⟩ : ∃ K, (Utf8.decode s pos).2 = K := ⟨_, rfl⟩
        rw [hR, hK] at hnx
        rw [hK] at hwd hcb
        rw [hR] at hle hh
        have hit2 := Lib.iterAt_heap wr w.heap.size s pos (pos + K) hit
        have hbw2 := Lib.below_iterAt hbw (k := w.heap.size) (Nat.le_refl _) s (pos + K)
        obtain ⟨W, hWd⟩ : ∃ W, wr.iterAt w.heap.size s (pos + K) = W := ⟨_, rfl⟩
        rw [hWd] at hnx hit2 hbw2
        have hcall := HH.out R hh.1 hle W
        have hno2 : Lib.NoAny s.data.toList [40, 41, 44] (pos + K) := fun j b hj hb => by
          by_cases hjp : j < pos
          · exact HN.out j b hjp hb
          · have hjs : j < s.size := by have := (List.getElem?_eq_some_iff.1 hb).1; simpa using this
            have h2 := hcb j (by omega) hj hjs
            have : s[j] = b := by rw [byte_at s j hjs] at hb; simpa using hb
            rw [this] at h2
            simp
            refine ⟨fun e => ?_, fun e => ?_, fun e => ?_⟩ <;> (subst e; simp at h2)
        have HN2 := Lib.hid hno2
        clear hno2 hcb hR hK
        go_wp2_with (go_at_call 45; (with_reducible refine hcall.mono ?_); rintro e w2 ⟨rfl, hb2⟩)
        go_roundg g'
        case measure => omega
        case rel => exact ⟨pos + K, (hb2.block _ (Array.getElem?_eq_some_iff.1 hit2).1).trans hit2, hbw2.trans (hb2.mono (by have := hbw2.size; omega)), by omega, HN2.out⟩
    · have hnx : ∀ ty, (Instr.next (.pointer (some ⟨w.heap.size, 0, none⟩)) true ty).run Tryd.prog wr = _ := fun ty => Lib.run_next_end_at wr w.heap.size s pos ty hit hps
      go_wp2
      go_ret
      refine ⟨?_, hbw⟩
      rw [Lib.indexAny_none (fun j b hj hb => HN.out j b (by have : j < s.size := by simpa using hj
                                                             omega) hb)]
      rfl
theorem any_says (s : ByteArray) (hs : s.size ≤ 100000000) (w : World) : Calls Tryd.prog 34 #[.string s, .string seps] w (AnyEnds s.data.toList w) := by
  by_cases h8 : s.size ≤ 8
  · exact any_short s h8 w
  · exact (Tryd.strings_IndexAny_long (fun w => by kernel_rfl) s seps w (by decide) (by omega) (by omega) (by decide) (fun j b hb => by
      have hm : b ∈ ([40, 41, 44] : List UInt8) := List.mem_of_getElem? hb
      have : ∀ c ∈ ([40, 41, 44] : List UInt8), c.toNat < 128 := by decide
      exact this b hm)).mono fun e w' ⟨h1, h2⟩ => ⟨h1, by rw [h2]; exact ((Below.refl _ _).alloc (Nat.le_refl _) _).alloc (by simp) _⟩
end Go.Proofs.YtkmpnfploplpfaaDoor
