/- A part of the proofs of the laws of the arms: Of. No conditions. -/
import Derived.Test.YtiinghgfojicdaaGreatArDice
set_option linter.unusedVariables false
set_option linter.unusedSimpArgs false
namespace Go.Proofs.YtiinghgfojicdaaGreat
open Go.RowKit Go.RowG Go.FRow
set_option linter.unusedVariables false
attribute [local go_sem ↓] Go.wp_at_zero Go.wp_at_succ

def OfEnds (g : Nat) (A : Option Addr) (n c k : Nat) (b : Bool) (ts : List ByteArray) (w : World) (e : Ending) (w' : World) : Prop :=
  ∃ (s : ByteArray) (k' : Nat), s ∈ ts ∧ k' ≤ k + 1 ∧ e = .returned (.string s) ∧ Dice w' g A n c k' b ∧ Rolled g w w' ∧ w'.heap.size = w.heap.size

set_option maxRecDepth 100000 in
set_option maxHeartbeats 2000000 in
theorem of_says (g : Nat) (A : Option Addr) (n c k : Nat) (b : Bool) (ts : List ByteArray) (m d : Nat) (ad : Addr) (w : World) (L : List Int) (hL : L.length = n) (hd : Dice w g A n c k b) (hI : IntsAt w w.heap.size A L) (hA : ∀ ad, A = some ad → 0 < n → ad.block ≠ g) (hn : n ≤ 300) (hk : k ≤ 100000)
    (hm : ts.length = m) (hM : 0 < m) (hM' : m < 1000) (had : ad.block < w.heap.size) (hag : ad.block ≠ g) (hts : ∀ j s, ts[j]? = some s → w.cell? (ad.add j) = some (.string s)) :
    Calls Tryz.prog 37 #[.pointer (some ⟨g, 0, none⟩), .slice (some ad) m d] w (OfEnds g A n c k b ts w) := by
  have hroll := roll_says g A n c k b m w L hL hd hI hA hn hk hM hM'
  have HM := Lib.hid hm
  have HT := Lib.hid hts
  clear hL hd hI hA hm hts
  go_enter Tryz.func37, Tryz.ntmps37
  go_wp2_with (first
    | (go_at_call 35
       (with_reducible refine hroll.mono ?_)
       rintro e w2 ⟨p, k', hp, hk', rfl, hd2, hr2, hz2⟩
       obtain ⟨s, hs⟩ : ∃ s, ts[p]? = some s := ⟨_, List.getElem?_eq_getElem (by rw [HM.out]; exact hp)⟩
       have hcell := (hr2.cell (p := ad.add p) (by rw [add_block]; exact had) (by rw [add_block]; exact hag)).trans (HT.out p s hs)
       have HS := Lib.hid hs
       clear hs
       have HZ := Lib.hid hz2
       clear hz2
       have hp0 : (0 : Int) ≤ (p : Int) := Int.natCast_nonneg _
       have hp1 : (p : Int) < (m : Int) := by omega))
  go_ret
  exact ⟨s, k', List.mem_of_getElem? HS.out, hk', rfl, hd2, hr2, HZ.out⟩
end Go.Proofs.YtiinghgfojicdaaGreat
