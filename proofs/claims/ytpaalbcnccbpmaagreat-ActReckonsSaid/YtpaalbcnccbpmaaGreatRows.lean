/-
  No cell of these rows narrows 'for every input' (looked for: loops, veiled, ifaces, maps, wideKeys, modest, calm, conditions, laid).
  DERIVED. THE GIVEN ROWS OF THIS SEAT. 4 by the template 'for every input the law returns true; each argument reads behind the call as it read before'; 0 by the template 'total and deterministic' (their statements: YtpaalbcnccbpmaaGreatTotals.lean).
  GIVEN WITH THE SEED: the statements are not yours to turn. If you find one false, say at which input.
  Laid BY PROGRAM, IN A SANDBOX (cutbox-rows.mjs): the forced cells as the released guide's own fill.sh prints them over the translation b6721a207a5ad274… (all of the seat's roots in one cut). By AI agents, Wed Nov 11 2026. No macro, syntax, notation, axiom, sorry.
-/
import Derived.Test.YtpaalbcnccbpmaaGreatChecked
import GoSem.Claim
import GoSem.ClaimJoined
import GoSem.ClaimMapViews
import Derived.JoinedTies
import Derived.KernelRfl
namespace Go.Proofs.YtpaalbcnccbpmaaGreat
/- THE CELL 'sum', in the pinned program and in every row, IS THE sha256 OF THE DUMP (.gsa) THAT YtpaalbcnccbpmaaGreatProg.lean LOADS. Nothing in Lean hashes anything: it is a label: what it is worth is what the hold of that sum in a sandbox is worth. -/
noncomputable def Tryz.pinned : Pinned := { name := "ytpaalbcnccbpmaagreat", sum := "b6721a207a5ad27433b22aa298dd869081e48926480895f0bb3d85443d11462d", checked := Tryz.checked }
namespace Rows
def none {H : Type} : Left H := { results := [], args := [] }

/-- 'roadkeep1.ActReckons': WHATEVER THE INPUT: true; the input reads as it did. -/
def actReckonsSpec : ChangeSpec := { name := "actReckons", fn := fun _ => fun
  | [d1, d2, d3] => { results := [.lit (.bool true)], args := [d1, d2, d3] }
  | _ => none }
def actReckonsRow : OpenClaim := { program := "ytpaalbcnccbpmaagreat", sum := "b6721a207a5ad27433b22aa298dd869081e48926480895f0bb3d85443d11462d", func := "roadstead/roadkeep1.ActReckons", spec := "actReckons", unfollowed := true, recurses := true, plainKeys := false, apart := false }
def ActReckonsSaid : Prop := actReckonsRow.holds Tryz.pinned (OpenSpec.ofChange actReckonsSpec)

/-- ITS FALSE NEIGHBOUR: 'it returns false'. Refute it at one input. -/
def actReckonsWrong : ChangeSpec := { name := "actReckons", fn := fun _ => fun
  | [d1, d2, d3] => { results := [.lit (.bool false)], args := [d1, d2, d3] }
  | _ => none }
def ActReckonsWrongFalsely : Prop := actReckonsRow.holds Tryz.pinned (OpenSpec.ofChange actReckonsWrong)

/-- 'roadkeep1.ActDeep': WHATEVER THE INPUT: true; the input reads as it did. -/
def actDeepSpec : ChangeSpec := { name := "actDeep", fn := fun _ => fun
  | [d] => { results := [.lit (.bool true)], args := [d] }
  | _ => none }
def actDeepRow : OpenClaim := { program := "ytpaalbcnccbpmaagreat", sum := "b6721a207a5ad27433b22aa298dd869081e48926480895f0bb3d85443d11462d", func := "roadstead/roadkeep1.ActDeep", spec := "actDeep", unfollowed := true, recurses := true, plainKeys := false, apart := false }
def ActDeepSaid : Prop := actDeepRow.holds Tryz.pinned (OpenSpec.ofChange actDeepSpec)

/-- ITS FALSE NEIGHBOUR: 'it returns false'. Refute it at one input. -/
def actDeepWrong : ChangeSpec := { name := "actDeep", fn := fun _ => fun
  | [d] => { results := [.lit (.bool false)], args := [d] }
  | _ => none }
def ActDeepWrongFalsely : Prop := actDeepRow.holds Tryz.pinned (OpenSpec.ofChange actDeepWrong)

/-- 'roadkeep1.ActGone': WHATEVER THE INPUT: true; the input reads as it did. -/
def actGoneSpec : ChangeSpec := { name := "actGone", fn := fun _ => fun
  | [d1, d2] => { results := [.lit (.bool true)], args := [d1, d2] }
  | _ => none }
def actGoneRow : OpenClaim := { program := "ytpaalbcnccbpmaagreat", sum := "b6721a207a5ad27433b22aa298dd869081e48926480895f0bb3d85443d11462d", func := "roadstead/roadkeep1.ActGone", spec := "actGone", unfollowed := true, recurses := true, plainKeys := false, apart := false }
def ActGoneSaid : Prop := actGoneRow.holds Tryz.pinned (OpenSpec.ofChange actGoneSpec)

/-- ITS FALSE NEIGHBOUR: 'it returns false'. Refute it at one input. -/
def actGoneWrong : ChangeSpec := { name := "actGone", fn := fun _ => fun
  | [d1, d2] => { results := [.lit (.bool false)], args := [d1, d2] }
  | _ => none }
def ActGoneWrongFalsely : Prop := actGoneRow.holds Tryz.pinned (OpenSpec.ofChange actGoneWrong)

/-- 'roadkeep1.ActOrder': WHATEVER THE INPUT: true; the input reads as it did. -/
def actOrderSpec : ChangeSpec := { name := "actOrder", fn := fun _ => fun
  | [d1, d2] => { results := [.lit (.bool true)], args := [d1, d2] }
  | _ => none }
def actOrderRow : OpenClaim := { program := "ytpaalbcnccbpmaagreat", sum := "b6721a207a5ad27433b22aa298dd869081e48926480895f0bb3d85443d11462d", func := "roadstead/roadkeep1.ActOrder", spec := "actOrder", unfollowed := true, recurses := true, plainKeys := false, apart := false }
def ActOrderSaid : Prop := actOrderRow.holds Tryz.pinned (OpenSpec.ofChange actOrderSpec)

/-- ITS FALSE NEIGHBOUR: 'it returns false'. Refute it at one input. -/
def actOrderWrong : ChangeSpec := { name := "actOrder", fn := fun _ => fun
  | [d1, d2] => { results := [.lit (.bool false)], args := [d1, d2] }
  | _ => none }
def ActOrderWrongFalsely : Prop := actOrderRow.holds Tryz.pinned (OpenSpec.ofChange actOrderWrong)

/- THE SECOND FORM. 'bulk': how many values and letters a reading holds, each counted each time it is reached (what is shared counts as often as it is met; a slice's spare places count too). A statement '..UptoSaid' is the law's where the arguments, and the package variables that the reading takes, are together of bulk at most 1048576: NARROWER than '..Said'. Prove '..Said' where nothing that the law and all that it calls make is longer than what came in: it says more and counts as full. Else prove '..UptoSaid'. A law counts once. -/
mutual
def uptoBulk {H : Type} : DataW H → Nat
  | .lit (.string bytes) => bytes.length + 1
  | .lit _ => 1
  | .nil => 1
  | .ptr d => uptoBulk d + 1
  | .slice elems spare => uptoBulkAll elems + uptoBulkAll spare + 1
  | .agg parts => uptoBulkAll parts + 1
  | .iface _ d => uptoBulk d + 1
  | .map entries => uptoBulkEntries entries + 1
  | .held _ => 1
def uptoBulkAll {H : Type} : List (DataW H) → Nat
  | [] => 0
  | d :: r => uptoBulk d + uptoBulkAll r
def uptoBulkEntries {H : Type} : List (Lit × DataW H) → Nat
  | [] => 0
  | x :: r => uptoBulkEntry x + uptoBulkEntries r
def uptoBulkEntry {H : Type} : Lit × DataW H → Nat
  | (.string bytes, d) => bytes.length + uptoBulk d + 1
  | (_, d) => uptoBulk d + 1
 end
def uptoSmall : (H : Type) → List (DataW H) → Bool := fun _ ds => decide (uptoBulkAll ds ≤ 1048576)
def OpenSpec.upto (s : _root_.Go.ChangeSpec) : _root_.Go.OpenSpec := { _root_.Go.OpenSpec.ofChange s with cond := some uptoSmall }

/-- 'roadkeep1.ActReckons', WHERE WHAT IT READS IS OF BULK AT MOST 1048576: true; the input reads as it did. -/
def actReckonsUptoRow : OpenClaim := { program := "ytpaalbcnccbpmaagreat", sum := "b6721a207a5ad27433b22aa298dd869081e48926480895f0bb3d85443d11462d", func := "roadstead/roadkeep1.ActReckons", spec := "actReckons", unfollowed := true, recurses := true, plainKeys := false, apart := false, narrowed := true }
def ActReckonsUptoSaid : Prop := actReckonsUptoRow.holds Tryz.pinned (OpenSpec.upto actReckonsSpec)

/-- 'roadkeep1.ActDeep', WHERE WHAT IT READS IS OF BULK AT MOST 1048576: true; the input reads as it did. -/
def actDeepUptoRow : OpenClaim := { program := "ytpaalbcnccbpmaagreat", sum := "b6721a207a5ad27433b22aa298dd869081e48926480895f0bb3d85443d11462d", func := "roadstead/roadkeep1.ActDeep", spec := "actDeep", unfollowed := true, recurses := true, plainKeys := false, apart := false, narrowed := true }
def ActDeepUptoSaid : Prop := actDeepUptoRow.holds Tryz.pinned (OpenSpec.upto actDeepSpec)

/-- 'roadkeep1.ActGone', WHERE WHAT IT READS IS OF BULK AT MOST 1048576: true; the input reads as it did. -/
def actGoneUptoRow : OpenClaim := { program := "ytpaalbcnccbpmaagreat", sum := "b6721a207a5ad27433b22aa298dd869081e48926480895f0bb3d85443d11462d", func := "roadstead/roadkeep1.ActGone", spec := "actGone", unfollowed := true, recurses := true, plainKeys := false, apart := false, narrowed := true }
def ActGoneUptoSaid : Prop := actGoneUptoRow.holds Tryz.pinned (OpenSpec.upto actGoneSpec)

/-- 'roadkeep1.ActOrder', WHERE WHAT IT READS IS OF BULK AT MOST 1048576: true; the input reads as it did. -/
def actOrderUptoRow : OpenClaim := { program := "ytpaalbcnccbpmaagreat", sum := "b6721a207a5ad27433b22aa298dd869081e48926480895f0bb3d85443d11462d", func := "roadstead/roadkeep1.ActOrder", spec := "actOrder", unfollowed := true, recurses := true, plainKeys := false, apart := false, narrowed := true }
def ActOrderUptoSaid : Prop := actOrderUptoRow.holds Tryz.pinned (OpenSpec.upto actOrderSpec)

end Rows
end Go.Proofs.YtpaalbcnccbpmaaGreat
