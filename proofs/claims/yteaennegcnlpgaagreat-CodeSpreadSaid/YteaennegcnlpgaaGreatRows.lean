/-
  No cell of these rows narrows 'for every input' (looked for: loops, veiled, ifaces, maps, wideKeys, modest, calm, conditions, laid).
  DERIVED. THE GIVEN ROWS OF THIS SEAT. 5 by the template 'for every input the law returns true; each argument reads behind the call as it read before'; 0 by the template 'total and deterministic' (their statements: YteaennegcnlpgaaGreatTotals.lean).
  GIVEN WITH THE SEED: the statements are not yours to turn. If you find one false, say at which input.
  Laid BY PROGRAM, IN A SANDBOX (cutbox-rows.mjs): the forced cells as the released guide's own fill.sh prints them over the translation aa69a1df924c0988… (all of the seat's roots in one cut). By AI agents, Wed Nov 11 2026. No macro, syntax, notation, axiom, sorry.
-/
import Derived.Test.YteaennegcnlpgaaGreatChecked
import GoSem.Claim
import GoSem.ClaimJoined
import GoSem.ClaimMapViews
import Derived.JoinedTies
import Derived.KernelRfl
namespace Go.Proofs.YteaennegcnlpgaaGreat
/- THE CELL 'sum', in the pinned program and in every row, IS THE sha256 OF THE DUMP (.gsa) THAT YteaennegcnlpgaaGreatProg.lean LOADS. Nothing in Lean hashes anything: it is a label: what it is worth is what the hold of that sum in a sandbox is worth. -/
noncomputable def Tryz.pinned : Pinned := { name := "yteaennegcnlpgaagreat", sum := "aa69a1df924c0988e65942ee5b007ed755d8941bfecc808b0605e2c0ed5dc447", checked := Tryz.checked }
namespace Rows
def none {H : Type} : Left H := { results := [], args := [] }

/-- 'roadkeep1.ClusterTicks': WHATEVER THE INPUT: true; the input reads as it did. -/
def clusterTicksSpec : ChangeSpec := { name := "clusterTicks", fn := fun _ => fun
  | [d1, d2] => { results := [.lit (.bool true)], args := [d1, d2] }
  | _ => none }
def clusterTicksRow : OpenClaim := { program := "yteaennegcnlpgaagreat", sum := "aa69a1df924c0988e65942ee5b007ed755d8941bfecc808b0605e2c0ed5dc447", func := "roadstead/roadkeep1.ClusterTicks", spec := "clusterTicks", inPlace := ["slices.overlaps[roadstead/link.Row]", "maps.clone"], unfollowed := true, recurses := true, plainKeys := false, apart := false }
def ClusterTicksSaid : Prop := clusterTicksRow.holds Tryz.pinned (OpenSpec.ofChange clusterTicksSpec)

/-- ITS FALSE NEIGHBOUR: 'it returns false'. Refute it at one input. -/
def clusterTicksWrong : ChangeSpec := { name := "clusterTicks", fn := fun _ => fun
  | [d1, d2] => { results := [.lit (.bool false)], args := [d1, d2] }
  | _ => none }
def ClusterTicksWrongFalsely : Prop := clusterTicksRow.holds Tryz.pinned (OpenSpec.ofChange clusterTicksWrong)

/-- 'roadkeep1.ClusterDown': WHATEVER THE INPUT: true; the input reads as it did. -/
def clusterDownSpec : ChangeSpec := { name := "clusterDown", fn := fun _ => fun
  | [d1, d2, d3] => { results := [.lit (.bool true)], args := [d1, d2, d3] }
  | _ => none }
def clusterDownRow : OpenClaim := { program := "yteaennegcnlpgaagreat", sum := "aa69a1df924c0988e65942ee5b007ed755d8941bfecc808b0605e2c0ed5dc447", func := "roadstead/roadkeep1.ClusterDown", spec := "clusterDown", inPlace := ["slices.overlaps[roadstead/link.Row]", "maps.clone"], unfollowed := true, recurses := true, plainKeys := false, apart := false }
def ClusterDownSaid : Prop := clusterDownRow.holds Tryz.pinned (OpenSpec.ofChange clusterDownSpec)

/-- ITS FALSE NEIGHBOUR: 'it returns false'. Refute it at one input. -/
def clusterDownWrong : ChangeSpec := { name := "clusterDown", fn := fun _ => fun
  | [d1, d2, d3] => { results := [.lit (.bool false)], args := [d1, d2, d3] }
  | _ => none }
def ClusterDownWrongFalsely : Prop := clusterDownRow.holds Tryz.pinned (OpenSpec.ofChange clusterDownWrong)

/-- 'roadkeep1.ClusterFalls': WHATEVER THE INPUT: true; the input reads as it did. -/
def clusterFallsSpec : ChangeSpec := { name := "clusterFalls", fn := fun _ => fun
  | [d1, d2] => { results := [.lit (.bool true)], args := [d1, d2] }
  | _ => none }
def clusterFallsRow : OpenClaim := { program := "yteaennegcnlpgaagreat", sum := "aa69a1df924c0988e65942ee5b007ed755d8941bfecc808b0605e2c0ed5dc447", func := "roadstead/roadkeep1.ClusterFalls", spec := "clusterFalls", inPlace := ["slices.overlaps[roadstead/link.Row]", "maps.clone"], unfollowed := true, recurses := true, plainKeys := false, apart := false }
def ClusterFallsSaid : Prop := clusterFallsRow.holds Tryz.pinned (OpenSpec.ofChange clusterFallsSpec)

/-- ITS FALSE NEIGHBOUR: 'it returns false'. Refute it at one input. -/
def clusterFallsWrong : ChangeSpec := { name := "clusterFalls", fn := fun _ => fun
  | [d1, d2] => { results := [.lit (.bool false)], args := [d1, d2] }
  | _ => none }
def ClusterFallsWrongFalsely : Prop := clusterFallsRow.holds Tryz.pinned (OpenSpec.ofChange clusterFallsWrong)

/-- 'roadkeep1.CodeSpread': WHATEVER THE INPUT: true; the input reads as it did. -/
def codeSpreadSpec : ChangeSpec := { name := "codeSpread", fn := fun _ => fun
  | [d1, d2] => { results := [.lit (.bool true)], args := [d1, d2] }
  | _ => none }
def codeSpreadRow : OpenClaim := { program := "yteaennegcnlpgaagreat", sum := "aa69a1df924c0988e65942ee5b007ed755d8941bfecc808b0605e2c0ed5dc447", func := "roadstead/roadkeep1.CodeSpread", spec := "codeSpread", unfollowed := true, recurses := true, plainKeys := false, apart := false }
def CodeSpreadSaid : Prop := codeSpreadRow.holds Tryz.pinned (OpenSpec.ofChange codeSpreadSpec)

/-- ITS FALSE NEIGHBOUR: 'it returns false'. Refute it at one input. -/
def codeSpreadWrong : ChangeSpec := { name := "codeSpread", fn := fun _ => fun
  | [d1, d2] => { results := [.lit (.bool false)], args := [d1, d2] }
  | _ => none }
def CodeSpreadWrongFalsely : Prop := codeSpreadRow.holds Tryz.pinned (OpenSpec.ofChange codeSpreadWrong)

/-- 'roadkeep1.ArmsBinds': WHATEVER THE INPUT: true; the input reads as it did. -/
def armsBindsSpec : ChangeSpec := { name := "armsBinds", fn := fun _ => fun
  | [d1, d2] => { results := [.lit (.bool true)], args := [d1, d2] }
  | _ => none }
def armsBindsRow : OpenClaim := { program := "yteaennegcnlpgaagreat", sum := "aa69a1df924c0988e65942ee5b007ed755d8941bfecc808b0605e2c0ed5dc447", func := "roadstead/roadkeep1.ArmsBinds", spec := "armsBinds", unfollowed := true, recurses := true, plainKeys := false, apart := false }
def ArmsBindsSaid : Prop := armsBindsRow.holds Tryz.pinned (OpenSpec.ofChange armsBindsSpec)

/-- ITS FALSE NEIGHBOUR: 'it returns false'. Refute it at one input. -/
def armsBindsWrong : ChangeSpec := { name := "armsBinds", fn := fun _ => fun
  | [d1, d2] => { results := [.lit (.bool false)], args := [d1, d2] }
  | _ => none }
def ArmsBindsWrongFalsely : Prop := armsBindsRow.holds Tryz.pinned (OpenSpec.ofChange armsBindsWrong)

/- THE SECOND FORM. 'bulk': how many values and letters a reading holds, each counted each time it is reached (what is shared counts as often as it is met; a slice's spare places count too). A statement '..UptoSaid' is the law's where the arguments, and the package variables that the reading takes, are together of bulk at most 1048576: NARROWER than '..Said'. Prove '..Said' where nothing that the law and all that it calls make is longer than what came in: it says more and counts as full. Else prove '..UptoSaid'. A law counts once. -/
mutual
def uptoBulk {H : Type} : DataW H → Nat
  | .lit (.string bytes) => bytes.length + 1
  | .lit _ => 1
  | .nil => 1
  | .ptr d => uptoBulk d + 1
  | .slice elems spare => uptoBulkAll elems + uptoBulkAll spare + 1
  | .agg parts => uptoBulkAll parts + 1
  | .iface _ d => uptoBulk d + 1
  | .map entries => uptoBulkEntries entries + 1
  | .held _ => 1
def uptoBulkAll {H : Type} : List (DataW H) → Nat
  | [] => 0
  | d :: r => uptoBulk d + uptoBulkAll r
def uptoBulkEntries {H : Type} : List (Lit × DataW H) → Nat
  | [] => 0
  | x :: r => uptoBulkEntry x + uptoBulkEntries r
def uptoBulkEntry {H : Type} : Lit × DataW H → Nat
  | (.string bytes, d) => bytes.length + uptoBulk d + 1
  | (_, d) => uptoBulk d + 1
 end
def uptoSmall : (H : Type) → List (DataW H) → Bool := fun _ ds => decide (uptoBulkAll ds ≤ 1048576)
def OpenSpec.upto (s : _root_.Go.ChangeSpec) : _root_.Go.OpenSpec := { _root_.Go.OpenSpec.ofChange s with cond := some uptoSmall }

/-- 'roadkeep1.ClusterTicks', WHERE WHAT IT READS IS OF BULK AT MOST 1048576: true; the input reads as it did. -/
def clusterTicksUptoRow : OpenClaim := { program := "yteaennegcnlpgaagreat", sum := "aa69a1df924c0988e65942ee5b007ed755d8941bfecc808b0605e2c0ed5dc447", func := "roadstead/roadkeep1.ClusterTicks", spec := "clusterTicks", inPlace := ["slices.overlaps[roadstead/link.Row]", "maps.clone"], unfollowed := true, recurses := true, plainKeys := false, apart := false, narrowed := true }
def ClusterTicksUptoSaid : Prop := clusterTicksUptoRow.holds Tryz.pinned (OpenSpec.upto clusterTicksSpec)

/-- 'roadkeep1.ClusterDown', WHERE WHAT IT READS IS OF BULK AT MOST 1048576: true; the input reads as it did. -/
def clusterDownUptoRow : OpenClaim := { program := "yteaennegcnlpgaagreat", sum := "aa69a1df924c0988e65942ee5b007ed755d8941bfecc808b0605e2c0ed5dc447", func := "roadstead/roadkeep1.ClusterDown", spec := "clusterDown", inPlace := ["slices.overlaps[roadstead/link.Row]", "maps.clone"], unfollowed := true, recurses := true, plainKeys := false, apart := false, narrowed := true }
def ClusterDownUptoSaid : Prop := clusterDownUptoRow.holds Tryz.pinned (OpenSpec.upto clusterDownSpec)

/-- 'roadkeep1.ClusterFalls', WHERE WHAT IT READS IS OF BULK AT MOST 1048576: true; the input reads as it did. -/
def clusterFallsUptoRow : OpenClaim := { program := "yteaennegcnlpgaagreat", sum := "aa69a1df924c0988e65942ee5b007ed755d8941bfecc808b0605e2c0ed5dc447", func := "roadstead/roadkeep1.ClusterFalls", spec := "clusterFalls", inPlace := ["slices.overlaps[roadstead/link.Row]", "maps.clone"], unfollowed := true, recurses := true, plainKeys := false, apart := false, narrowed := true }
def ClusterFallsUptoSaid : Prop := clusterFallsUptoRow.holds Tryz.pinned (OpenSpec.upto clusterFallsSpec)

/-- 'roadkeep1.CodeSpread', WHERE WHAT IT READS IS OF BULK AT MOST 1048576: true; the input reads as it did. -/
def codeSpreadUptoRow : OpenClaim := { program := "yteaennegcnlpgaagreat", sum := "aa69a1df924c0988e65942ee5b007ed755d8941bfecc808b0605e2c0ed5dc447", func := "roadstead/roadkeep1.CodeSpread", spec := "codeSpread", unfollowed := true, recurses := true, plainKeys := false, apart := false, narrowed := true }
def CodeSpreadUptoSaid : Prop := codeSpreadUptoRow.holds Tryz.pinned (OpenSpec.upto codeSpreadSpec)

/-- 'roadkeep1.ArmsBinds', WHERE WHAT IT READS IS OF BULK AT MOST 1048576: true; the input reads as it did. -/
def armsBindsUptoRow : OpenClaim := { program := "yteaennegcnlpgaagreat", sum := "aa69a1df924c0988e65942ee5b007ed755d8941bfecc808b0605e2c0ed5dc447", func := "roadstead/roadkeep1.ArmsBinds", spec := "armsBinds", unfollowed := true, recurses := true, plainKeys := false, apart := false, narrowed := true }
def ArmsBindsUptoSaid : Prop := armsBindsUptoRow.holds Tryz.pinned (OpenSpec.upto armsBindsSpec)

end Rows
end Go.Proofs.YteaennegcnlpgaaGreat
