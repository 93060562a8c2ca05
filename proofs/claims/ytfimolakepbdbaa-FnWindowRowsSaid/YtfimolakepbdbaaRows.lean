/-
  No cell of these rows narrows 'for every input' (looked for: loops, veiled, ifaces, maps, wideKeys, modest, calm, conditions, laid).
  DERIVED. THE GIVEN ROWS OF THIS SEAT. 6 by the template 'for every input the law returns true; each argument reads behind the call as it read before'; 0 by the template 'total and deterministic' (their statements: YtfimolakepbdbaaTotals.lean).
  GIVEN WITH THE SEED: the statements are not yours to turn. If you find one false, say at which input.
  Laid BY PROGRAM, IN A SANDBOX (cutbox-rows.mjs): the forced cells as the released guide's own fill.sh prints them over the translation 40a80a2c80338190… (all of the seat's roots in one cut). By AI agents, Wed Nov 11 2026. No macro, syntax, notation, axiom, sorry.
-/
import Derived.Test.YtfimolakepbdbaaChecked
import GoSem.Claim
import GoSem.ClaimJoined
import GoSem.ClaimMapViews
import Derived.JoinedTies
import Derived.KernelRfl
namespace Go.Proofs.Ytfimolakepbdbaa
/- THE CELL 'sum', in the pinned program and in every row, IS THE sha256 OF THE DUMP (.gsa) THAT YtfimolakepbdbaaProg.lean LOADS. Nothing in Lean hashes anything: it is a label: what it is worth is what the hold of that sum in a sandbox is worth. -/
noncomputable def Try.pinned : Pinned := { name := "ytfimolakepbdbaa", sum := "40a80a2c80338190abd9aeb4fef5e4614e286e3c47fe4e732257d9ad22c85ab9", checked := Try.checked }
namespace Rows
def none {H : Type} : Left H := { results := [], args := [] }

/-- 'laws.FnExactWindowRows': WHATEVER THE INPUT: true; the input reads as it did. -/
def fnExactWindowRowsSpec : ChangeSpec := { name := "fnExactWindowRows", fn := fun _ => fun
  | [d] => { results := [.lit (.bool true)], args := [d] }
  | _ => none }
def fnExactWindowRowsRow : OpenClaim := { program := "ytfimolakepbdbaa", sum := "40a80a2c80338190abd9aeb4fef5e4614e286e3c47fe4e732257d9ad22c85ab9", func := "loop.example/tablehouse/laws.FnExactWindowRows", spec := "fnExactWindowRows", unfollowed := true, recurses := true, apart := false }
def FnExactWindowRowsSaid : Prop := fnExactWindowRowsRow.holds Try.pinned (OpenSpec.ofChange fnExactWindowRowsSpec)

/-- ITS FALSE NEIGHBOUR: 'it returns false'. Refute it at one input. -/
def fnExactWindowRowsWrong : ChangeSpec := { name := "fnExactWindowRows", fn := fun _ => fun
  | [d] => { results := [.lit (.bool false)], args := [d] }
  | _ => none }
def FnExactWindowRowsWrongFalsely : Prop := fnExactWindowRowsRow.holds Try.pinned (OpenSpec.ofChange fnExactWindowRowsWrong)

/-- 'laws.FnWindowOf': WHATEVER THE INPUT: true; the input reads as it did. -/
def fnWindowOfSpec : ChangeSpec := { name := "fnWindowOf", fn := fun _ => fun
  | [d] => { results := [.lit (.bool true)], args := [d] }
  | _ => none }
def fnWindowOfRow : OpenClaim := { program := "ytfimolakepbdbaa", sum := "40a80a2c80338190abd9aeb4fef5e4614e286e3c47fe4e732257d9ad22c85ab9", func := "loop.example/tablehouse/laws.FnWindowOf", spec := "fnWindowOf", unfollowed := true, recurses := true, apart := false }
def FnWindowOfSaid : Prop := fnWindowOfRow.holds Try.pinned (OpenSpec.ofChange fnWindowOfSpec)

/-- ITS FALSE NEIGHBOUR: 'it returns false'. Refute it at one input. -/
def fnWindowOfWrong : ChangeSpec := { name := "fnWindowOf", fn := fun _ => fun
  | [d] => { results := [.lit (.bool false)], args := [d] }
  | _ => none }
def FnWindowOfWrongFalsely : Prop := fnWindowOfRow.holds Try.pinned (OpenSpec.ofChange fnWindowOfWrong)

/-- 'laws.FnWindowRows': WHATEVER THE INPUT: true; the input reads as it did. -/
def fnWindowRowsSpec : ChangeSpec := { name := "fnWindowRows", fn := fun _ => fun
  | [d] => { results := [.lit (.bool true)], args := [d] }
  | _ => none }
def fnWindowRowsRow : OpenClaim := { program := "ytfimolakepbdbaa", sum := "40a80a2c80338190abd9aeb4fef5e4614e286e3c47fe4e732257d9ad22c85ab9", func := "loop.example/tablehouse/laws.FnWindowRows", spec := "fnWindowRows", unfollowed := true, recurses := true, apart := false }
def FnWindowRowsSaid : Prop := fnWindowRowsRow.holds Try.pinned (OpenSpec.ofChange fnWindowRowsSpec)

/-- ITS FALSE NEIGHBOUR: 'it returns false'. Refute it at one input. -/
def fnWindowRowsWrong : ChangeSpec := { name := "fnWindowRows", fn := fun _ => fun
  | [d] => { results := [.lit (.bool false)], args := [d] }
  | _ => none }
def FnWindowRowsWrongFalsely : Prop := fnWindowRowsRow.holds Try.pinned (OpenSpec.ofChange fnWindowRowsWrong)

/-- 'laws.FnExactWindowOf': WHATEVER THE INPUT: true; the input reads as it did. -/
def fnExactWindowOfSpec : ChangeSpec := { name := "fnExactWindowOf", fn := fun _ => fun
  | [d] => { results := [.lit (.bool true)], args := [d] }
  | _ => none }
def fnExactWindowOfRow : OpenClaim := { program := "ytfimolakepbdbaa", sum := "40a80a2c80338190abd9aeb4fef5e4614e286e3c47fe4e732257d9ad22c85ab9", func := "loop.example/tablehouse/laws.FnExactWindowOf", spec := "fnExactWindowOf", unfollowed := true, recurses := true, apart := false }
def FnExactWindowOfSaid : Prop := fnExactWindowOfRow.holds Try.pinned (OpenSpec.ofChange fnExactWindowOfSpec)

/-- ITS FALSE NEIGHBOUR: 'it returns false'. Refute it at one input. -/
def fnExactWindowOfWrong : ChangeSpec := { name := "fnExactWindowOf", fn := fun _ => fun
  | [d] => { results := [.lit (.bool false)], args := [d] }
  | _ => none }
def FnExactWindowOfWrongFalsely : Prop := fnExactWindowOfRow.holds Try.pinned (OpenSpec.ofChange fnExactWindowOfWrong)

/-- 'laws.FnWindowRun': WHATEVER THE INPUT: true; the input reads as it did. -/
def fnWindowRunSpec : ChangeSpec := { name := "fnWindowRun", fn := fun _ => fun
  | [d] => { results := [.lit (.bool true)], args := [d] }
  | _ => none }
def fnWindowRunRow : OpenClaim := { program := "ytfimolakepbdbaa", sum := "40a80a2c80338190abd9aeb4fef5e4614e286e3c47fe4e732257d9ad22c85ab9", func := "loop.example/tablehouse/laws.FnWindowRun", spec := "fnWindowRun", unfollowed := true, recurses := true, apart := false }
def FnWindowRunSaid : Prop := fnWindowRunRow.holds Try.pinned (OpenSpec.ofChange fnWindowRunSpec)

/-- ITS FALSE NEIGHBOUR: 'it returns false'. Refute it at one input. -/
def fnWindowRunWrong : ChangeSpec := { name := "fnWindowRun", fn := fun _ => fun
  | [d] => { results := [.lit (.bool false)], args := [d] }
  | _ => none }
def FnWindowRunWrongFalsely : Prop := fnWindowRunRow.holds Try.pinned (OpenSpec.ofChange fnWindowRunWrong)

/-- 'laws.FnExactWindowRun': WHATEVER THE INPUT: true; the input reads as it did. -/
def fnExactWindowRunSpec : ChangeSpec := { name := "fnExactWindowRun", fn := fun _ => fun
  | [d] => { results := [.lit (.bool true)], args := [d] }
  | _ => none }
def fnExactWindowRunRow : OpenClaim := { program := "ytfimolakepbdbaa", sum := "40a80a2c80338190abd9aeb4fef5e4614e286e3c47fe4e732257d9ad22c85ab9", func := "loop.example/tablehouse/laws.FnExactWindowRun", spec := "fnExactWindowRun", unfollowed := true, recurses := true, apart := false }
def FnExactWindowRunSaid : Prop := fnExactWindowRunRow.holds Try.pinned (OpenSpec.ofChange fnExactWindowRunSpec)

/-- ITS FALSE NEIGHBOUR: 'it returns false'. Refute it at one input. -/
def fnExactWindowRunWrong : ChangeSpec := { name := "fnExactWindowRun", fn := fun _ => fun
  | [d] => { results := [.lit (.bool false)], args := [d] }
  | _ => none }
def FnExactWindowRunWrongFalsely : Prop := fnExactWindowRunRow.holds Try.pinned (OpenSpec.ofChange fnExactWindowRunWrong)

/- THE SECOND FORM. 'bulk': how many values and letters a reading holds, each counted each time it is reached (what is shared counts as often as it is met; a slice's spare places count too). A statement '..UptoSaid' is the law's where the arguments, and the package variables that the reading takes, are together of bulk at most 1048576: NARROWER than '..Said'. Prove '..Said' where nothing that the law and all that it calls make is longer than what came in: it says more and counts as full. Else prove '..UptoSaid'. A law counts once. -/
mutual
def uptoBulk {H : Type} : DataW H → Nat
  | .lit (.string bytes) => bytes.length + 1
  | .lit _ => 1
  | .nil => 1
  | .ptr d => uptoBulk d + 1
  | .slice elems spare => uptoBulkAll elems + uptoBulkAll spare + 1
  | .agg parts => uptoBulkAll parts + 1
  | .iface _ d => uptoBulk d + 1
  | .map entries => uptoBulkEntries entries + 1
  | .held _ => 1
def uptoBulkAll {H : Type} : List (DataW H) → Nat
  | [] => 0
  | d :: r => uptoBulk d + uptoBulkAll r
def uptoBulkEntries {H : Type} : List (Lit × DataW H) → Nat
  | [] => 0
  | x :: r => uptoBulkEntry x + uptoBulkEntries r
def uptoBulkEntry {H : Type} : Lit × DataW H → Nat
  | (.string bytes, d) => bytes.length + uptoBulk d + 1
  | (_, d) => uptoBulk d + 1
 end
def uptoSmall : (H : Type) → List (DataW H) → Bool := fun _ ds => decide (uptoBulkAll ds ≤ 1048576)
def OpenSpec.upto (s : _root_.Go.ChangeSpec) : _root_.Go.OpenSpec := { _root_.Go.OpenSpec.ofChange s with cond := some uptoSmall }

/-- 'laws.FnExactWindowRows', WHERE WHAT IT READS IS OF BULK AT MOST 1048576: true; the input reads as it did. -/
def fnExactWindowRowsUptoRow : OpenClaim := { program := "ytfimolakepbdbaa", sum := "40a80a2c80338190abd9aeb4fef5e4614e286e3c47fe4e732257d9ad22c85ab9", func := "loop.example/tablehouse/laws.FnExactWindowRows", spec := "fnExactWindowRows", unfollowed := true, recurses := true, apart := false, narrowed := true }
def FnExactWindowRowsUptoSaid : Prop := fnExactWindowRowsUptoRow.holds Try.pinned (OpenSpec.upto fnExactWindowRowsSpec)

/-- 'laws.FnWindowOf', WHERE WHAT IT READS IS OF BULK AT MOST 1048576: true; the input reads as it did. -/
def fnWindowOfUptoRow : OpenClaim := { program := "ytfimolakepbdbaa", sum := "40a80a2c80338190abd9aeb4fef5e4614e286e3c47fe4e732257d9ad22c85ab9", func := "loop.example/tablehouse/laws.FnWindowOf", spec := "fnWindowOf", unfollowed := true, recurses := true, apart := false, narrowed := true }
def FnWindowOfUptoSaid : Prop := fnWindowOfUptoRow.holds Try.pinned (OpenSpec.upto fnWindowOfSpec)

/-- 'laws.FnWindowRows', WHERE WHAT IT READS IS OF BULK AT MOST 1048576: true; the input reads as it did. -/
def fnWindowRowsUptoRow : OpenClaim := { program := "ytfimolakepbdbaa", sum := "40a80a2c80338190abd9aeb4fef5e4614e286e3c47fe4e732257d9ad22c85ab9", func := "loop.example/tablehouse/laws.FnWindowRows", spec := "fnWindowRows", unfollowed := true, recurses := true, apart := false, narrowed := true }
def FnWindowRowsUptoSaid : Prop := fnWindowRowsUptoRow.holds Try.pinned (OpenSpec.upto fnWindowRowsSpec)

/-- 'laws.FnExactWindowOf', WHERE WHAT IT READS IS OF BULK AT MOST 1048576: true; the input reads as it did. -/
def fnExactWindowOfUptoRow : OpenClaim := { program := "ytfimolakepbdbaa", sum := "40a80a2c80338190abd9aeb4fef5e4614e286e3c47fe4e732257d9ad22c85ab9", func := "loop.example/tablehouse/laws.FnExactWindowOf", spec := "fnExactWindowOf", unfollowed := true, recurses := true, apart := false, narrowed := true }
def FnExactWindowOfUptoSaid : Prop := fnExactWindowOfUptoRow.holds Try.pinned (OpenSpec.upto fnExactWindowOfSpec)

/-- 'laws.FnWindowRun', WHERE WHAT IT READS IS OF BULK AT MOST 1048576: true; the input reads as it did. -/
def fnWindowRunUptoRow : OpenClaim := { program := "ytfimolakepbdbaa", sum := "40a80a2c80338190abd9aeb4fef5e4614e286e3c47fe4e732257d9ad22c85ab9", func := "loop.example/tablehouse/laws.FnWindowRun", spec := "fnWindowRun", unfollowed := true, recurses := true, apart := false, narrowed := true }
def FnWindowRunUptoSaid : Prop := fnWindowRunUptoRow.holds Try.pinned (OpenSpec.upto fnWindowRunSpec)

/-- 'laws.FnExactWindowRun', WHERE WHAT IT READS IS OF BULK AT MOST 1048576: true; the input reads as it did. -/
def fnExactWindowRunUptoRow : OpenClaim := { program := "ytfimolakepbdbaa", sum := "40a80a2c80338190abd9aeb4fef5e4614e286e3c47fe4e732257d9ad22c85ab9", func := "loop.example/tablehouse/laws.FnExactWindowRun", spec := "fnExactWindowRun", unfollowed := true, recurses := true, apart := false, narrowed := true }
def FnExactWindowRunUptoSaid : Prop := fnExactWindowRunUptoRow.holds Try.pinned (OpenSpec.upto fnExactWindowRunSpec)

end Rows
end Go.Proofs.Ytfimolakepbdbaa
