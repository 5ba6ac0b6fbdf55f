/-
  No cell of these rows narrows 'for every input' (looked for: loops, veiled, ifaces, maps, wideKeys, modest, calm, conditions, laid).
  DERIVED. THE GIVEN ROWS OF THIS SEAT. 5 by the template 'for every input the law returns true; each argument reads behind the call as it read before'; 0 by the template 'total and deterministic' (their statements: YtiinghgfojicdaaGreatTotals.lean).
  GIVEN WITH THE SEED: the statements are not yours to turn. If you find one false, say at which input.
  Laid BY PROGRAM, IN A SANDBOX (cutbox-rows.mjs): the forced cells as the released guide's own fill.sh prints them over the translation b8819469faaecb3e… (all of the seat's roots in one cut). By AI agents, Wed Nov 11 2026. No macro, syntax, notation, axiom, sorry.
-/
import Derived.Test.YtiinghgfojicdaaGreatChecked
import GoSem.Claim
import GoSem.ClaimJoined
import GoSem.ClaimMapViews
import Derived.JoinedTies
import Derived.KernelRfl
namespace Go.Proofs.YtiinghgfojicdaaGreat
/- THE CELL 'sum', in the pinned program and in every row, IS THE sha256 OF THE DUMP (.gsa) THAT YtiinghgfojicdaaGreatProg.lean LOADS. Nothing in Lean hashes anything: it is a label: what it is worth is what the hold of that sum in a sandbox is worth. -/
noncomputable def Tryz.pinned : Pinned := { name := "ytiinghgfojicdaagreat", sum := "b8819469faaecb3e4e4d94de7a5c2d8e73c239e053308e270dae37417bf7d362", checked := Tryz.checked }
namespace Rows
def none {H : Type} : Left H := { results := [], args := [] }

/-- 'roadkeep1.ArmsBinds': WHATEVER THE INPUT: true; the input reads as it did. -/
def armsBindsSpec : ChangeSpec := { name := "armsBinds", fn := fun _ => fun
  | [d1, d2] => { results := [.lit (.bool true)], args := [d1, d2] }
  | _ => none }
def armsBindsRow : OpenClaim := { program := "ytiinghgfojicdaagreat", sum := "b8819469faaecb3e4e4d94de7a5c2d8e73c239e053308e270dae37417bf7d362", func := "roadstead/roadkeep1.ArmsBinds", spec := "armsBinds", unfollowed := true, recurses := true, plainKeys := false, apart := false }
def ArmsBindsSaid : Prop := armsBindsRow.holds Tryz.pinned (OpenSpec.ofChange armsBindsSpec)

/-- ITS FALSE NEIGHBOUR: 'it returns false'. Refute it at one input. -/
def armsBindsWrong : ChangeSpec := { name := "armsBinds", fn := fun _ => fun
  | [d1, d2] => { results := [.lit (.bool false)], args := [d1, d2] }
  | _ => none }
def ArmsBindsWrongFalsely : Prop := armsBindsRow.holds Tryz.pinned (OpenSpec.ofChange armsBindsWrong)

/-- 'roadkeep1.FoldTwice': WHATEVER THE INPUT: true; the input reads as it did. -/
def foldTwiceSpec : ChangeSpec := { name := "foldTwice", fn := fun _ => fun
  | [d] => { results := [.lit (.bool true)], args := [d] }
  | _ => none }
def foldTwiceRow : OpenClaim := { program := "ytiinghgfojicdaagreat", sum := "b8819469faaecb3e4e4d94de7a5c2d8e73c239e053308e270dae37417bf7d362", func := "roadstead/roadkeep1.FoldTwice", spec := "foldTwice", unfollowed := true, recurses := true, plainKeys := false, apart := false }
def FoldTwiceSaid : Prop := foldTwiceRow.holds Tryz.pinned (OpenSpec.ofChange foldTwiceSpec)

/-- ITS FALSE NEIGHBOUR: 'it returns false'. Refute it at one input. -/
def foldTwiceWrong : ChangeSpec := { name := "foldTwice", fn := fun _ => fun
  | [d] => { results := [.lit (.bool false)], args := [d] }
  | _ => none }
def FoldTwiceWrongFalsely : Prop := foldTwiceRow.holds Tryz.pinned (OpenSpec.ofChange foldTwiceWrong)

/-- 'roadkeep1.ArmsOnce': WHATEVER THE INPUT: true; the input reads as it did. -/
def armsOnceSpec : ChangeSpec := { name := "armsOnce", fn := fun _ => fun
  | [d1, d2] => { results := [.lit (.bool true)], args := [d1, d2] }
  | _ => none }
def armsOnceRow : OpenClaim := { program := "ytiinghgfojicdaagreat", sum := "b8819469faaecb3e4e4d94de7a5c2d8e73c239e053308e270dae37417bf7d362", func := "roadstead/roadkeep1.ArmsOnce", spec := "armsOnce", unfollowed := true, recurses := true, plainKeys := false, apart := false }
def ArmsOnceSaid : Prop := armsOnceRow.holds Tryz.pinned (OpenSpec.ofChange armsOnceSpec)

/-- ITS FALSE NEIGHBOUR: 'it returns false'. Refute it at one input. -/
def armsOnceWrong : ChangeSpec := { name := "armsOnce", fn := fun _ => fun
  | [d1, d2] => { results := [.lit (.bool false)], args := [d1, d2] }
  | _ => none }
def ArmsOnceWrongFalsely : Prop := armsOnceRow.holds Tryz.pinned (OpenSpec.ofChange armsOnceWrong)

/-- 'roadkeep1.ArmsLess': WHATEVER THE INPUT: true; the input reads as it did. -/
def armsLessSpec : ChangeSpec := { name := "armsLess", fn := fun _ => fun
  | [d1, d2, d3] => { results := [.lit (.bool true)], args := [d1, d2, d3] }
  | _ => none }
def armsLessRow : OpenClaim := { program := "ytiinghgfojicdaagreat", sum := "b8819469faaecb3e4e4d94de7a5c2d8e73c239e053308e270dae37417bf7d362", func := "roadstead/roadkeep1.ArmsLess", spec := "armsLess", unfollowed := true, recurses := true, plainKeys := false, apart := false }
def ArmsLessSaid : Prop := armsLessRow.holds Tryz.pinned (OpenSpec.ofChange armsLessSpec)

/-- ITS FALSE NEIGHBOUR: 'it returns false'. Refute it at one input. -/
def armsLessWrong : ChangeSpec := { name := "armsLess", fn := fun _ => fun
  | [d1, d2, d3] => { results := [.lit (.bool false)], args := [d1, d2, d3] }
  | _ => none }
def ArmsLessWrongFalsely : Prop := armsLessRow.holds Tryz.pinned (OpenSpec.ofChange armsLessWrong)

/-- 'roadkeep1.ArmsPick': WHATEVER THE INPUT: true; the input reads as it did. -/
def armsPickSpec : ChangeSpec := { name := "armsPick", fn := fun _ => fun
  | [d1, d2] => { results := [.lit (.bool true)], args := [d1, d2] }
  | _ => none }
def armsPickRow : OpenClaim := { program := "ytiinghgfojicdaagreat", sum := "b8819469faaecb3e4e4d94de7a5c2d8e73c239e053308e270dae37417bf7d362", func := "roadstead/roadkeep1.ArmsPick", spec := "armsPick", unfollowed := true, recurses := true, plainKeys := false, apart := false }
def ArmsPickSaid : Prop := armsPickRow.holds Tryz.pinned (OpenSpec.ofChange armsPickSpec)

/-- ITS FALSE NEIGHBOUR: 'it returns false'. Refute it at one input. -/
def armsPickWrong : ChangeSpec := { name := "armsPick", fn := fun _ => fun
  | [d1, d2] => { results := [.lit (.bool false)], args := [d1, d2] }
  | _ => none }
def ArmsPickWrongFalsely : Prop := armsPickRow.holds Tryz.pinned (OpenSpec.ofChange armsPickWrong)

/- THE SECOND FORM. 'bulk': how many values and letters a reading holds, each counted each time it is reached (what is shared counts as often as it is met; a slice's spare places count too). A statement '..UptoSaid' is the law's where the arguments, and the package variables that the reading takes, are together of bulk at most 1048576: NARROWER than '..Said'. Prove '..Said' where nothing that the law and all that it calls make is longer than what came in: it says more and counts as full. Else prove '..UptoSaid'. A law counts once. -/
mutual
def uptoBulk {H : Type} : DataW H → Nat
  | .lit (.string bytes) => bytes.length + 1
  | .lit _ => 1
  | .nil => 1
  | .ptr d => uptoBulk d + 1
  | .slice elems spare => uptoBulkAll elems + uptoBulkAll spare + 1
  | .agg parts => uptoBulkAll parts + 1
  | .iface _ d => uptoBulk d + 1
  | .map entries => uptoBulkEntries entries + 1
  | .held _ => 1
def uptoBulkAll {H : Type} : List (DataW H) → Nat
  | [] => 0
  | d :: r => uptoBulk d + uptoBulkAll r
def uptoBulkEntries {H : Type} : List (Lit × DataW H) → Nat
  | [] => 0
  | x :: r => uptoBulkEntry x + uptoBulkEntries r
def uptoBulkEntry {H : Type} : Lit × DataW H → Nat
  | (.string bytes, d) => bytes.length + uptoBulk d + 1
  | (_, d) => uptoBulk d + 1
 end
def uptoSmall : (H : Type) → List (DataW H) → Bool := fun _ ds => decide (uptoBulkAll ds ≤ 1048576)
def OpenSpec.upto (s : _root_.Go.ChangeSpec) : _root_.Go.OpenSpec := { _root_.Go.OpenSpec.ofChange s with cond := some uptoSmall }

/-- 'roadkeep1.ArmsBinds', WHERE WHAT IT READS IS OF BULK AT MOST 1048576: true; the input reads as it did. -/
def armsBindsUptoRow : OpenClaim := { program := "ytiinghgfojicdaagreat", sum := "b8819469faaecb3e4e4d94de7a5c2d8e73c239e053308e270dae37417bf7d362", func := "roadstead/roadkeep1.ArmsBinds", spec := "armsBinds", unfollowed := true, recurses := true, plainKeys := false, apart := false, narrowed := true }
def ArmsBindsUptoSaid : Prop := armsBindsUptoRow.holds Tryz.pinned (OpenSpec.upto armsBindsSpec)

/-- 'roadkeep1.FoldTwice', WHERE WHAT IT READS IS OF BULK AT MOST 1048576: true; the input reads as it did. -/
def foldTwiceUptoRow : OpenClaim := { program := "ytiinghgfojicdaagreat", sum := "b8819469faaecb3e4e4d94de7a5c2d8e73c239e053308e270dae37417bf7d362", func := "roadstead/roadkeep1.FoldTwice", spec := "foldTwice", unfollowed := true, recurses := true, plainKeys := false, apart := false, narrowed := true }
def FoldTwiceUptoSaid : Prop := foldTwiceUptoRow.holds Tryz.pinned (OpenSpec.upto foldTwiceSpec)

/-- 'roadkeep1.ArmsOnce', WHERE WHAT IT READS IS OF BULK AT MOST 1048576: true; the input reads as it did. -/
def armsOnceUptoRow : OpenClaim := { program := "ytiinghgfojicdaagreat", sum := "b8819469faaecb3e4e4d94de7a5c2d8e73c239e053308e270dae37417bf7d362", func := "roadstead/roadkeep1.ArmsOnce", spec := "armsOnce", unfollowed := true, recurses := true, plainKeys := false, apart := false, narrowed := true }
def ArmsOnceUptoSaid : Prop := armsOnceUptoRow.holds Tryz.pinned (OpenSpec.upto armsOnceSpec)

/-- 'roadkeep1.ArmsLess', WHERE WHAT IT READS IS OF BULK AT MOST 1048576: true; the input reads as it did. -/
def armsLessUptoRow : OpenClaim := { program := "ytiinghgfojicdaagreat", sum := "b8819469faaecb3e4e4d94de7a5c2d8e73c239e053308e270dae37417bf7d362", func := "roadstead/roadkeep1.ArmsLess", spec := "armsLess", unfollowed := true, recurses := true, plainKeys := false, apart := false, narrowed := true }
def ArmsLessUptoSaid : Prop := armsLessUptoRow.holds Tryz.pinned (OpenSpec.upto armsLessSpec)

/-- 'roadkeep1.ArmsPick', WHERE WHAT IT READS IS OF BULK AT MOST 1048576: true; the input reads as it did. -/
def armsPickUptoRow : OpenClaim := { program := "ytiinghgfojicdaagreat", sum := "b8819469faaecb3e4e4d94de7a5c2d8e73c239e053308e270dae37417bf7d362", func := "roadstead/roadkeep1.ArmsPick", spec := "armsPick", unfollowed := true, recurses := true, plainKeys := false, apart := false, narrowed := true }
def ArmsPickUptoSaid : Prop := armsPickUptoRow.holds Tryz.pinned (OpenSpec.upto armsPickSpec)

end Rows
end Go.Proofs.YtiinghgfojicdaaGreat
