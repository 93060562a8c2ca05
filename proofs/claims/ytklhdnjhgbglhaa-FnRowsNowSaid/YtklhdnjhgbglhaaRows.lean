/-
  No cell of these rows narrows 'for every input' (looked for: loops, veiled, ifaces, maps, wideKeys, modest, calm, conditions, laid).
  DERIVED. THE GIVEN ROWS OF THIS SEAT. 2 by the template 'for every input the law returns true; each argument reads behind the call as it read before'; 0 by the template 'total and deterministic' (their statements: YtklhdnjhgbglhaaTotals.lean).
  GIVEN WITH THE SEED: the statements are not yours to turn. If you find one false, say at which input.
  Laid BY PROGRAM, IN A SANDBOX (cutbox-rows.mjs): the forced cells as the released guide's own fill.sh prints them over the translation 9be0c3757621cc24… (all of the seat's roots in one cut). By AI agents, Wed Nov 11 2026. No macro, syntax, notation, axiom, sorry.
-/
import Derived.Test.YtklhdnjhgbglhaaChecked
import GoSem.Claim
import GoSem.ClaimJoined
import GoSem.ClaimMapViews
import Derived.JoinedTies
import Derived.KernelRfl
namespace Go.Proofs.Ytklhdnjhgbglhaa
/- THE CELL 'sum', in the pinned program and in every row, IS THE sha256 OF THE DUMP (.gsa) THAT YtklhdnjhgbglhaaProg.lean LOADS. Nothing in Lean hashes anything: it is a label: what it is worth is what the hold of that sum in a sandbox is worth. -/
noncomputable def Try.pinned : Pinned := { name := "ytklhdnjhgbglhaa", sum := "9be0c3757621cc242368c3c9d4549490cb45a0fe3780877b5133bb333e672052", checked := Try.checked }
namespace Rows
def none {H : Type} : Left H := { results := [], args := [] }

/-- 'laws.FnRowsNow': WHATEVER THE INPUT: true; the input reads as it did. -/
def fnRowsNowSpec : ChangeSpec := { name := "fnRowsNow", fn := fun _ => fun
  | [d] => { results := [.lit (.bool true)], args := [d] }
  | _ => none }
def fnRowsNowRow : OpenClaim := { program := "ytklhdnjhgbglhaa", sum := "9be0c3757621cc242368c3c9d4549490cb45a0fe3780877b5133bb333e672052", func := "loop.example/tablehouse/laws.FnRowsNow", spec := "fnRowsNow", unfollowed := true, recurses := true, apart := false }
def FnRowsNowSaid : Prop := fnRowsNowRow.holds Try.pinned (OpenSpec.ofChange fnRowsNowSpec)

/-- ITS FALSE NEIGHBOUR: 'it returns false'. Refute it at one input. -/
def fnRowsNowWrong : ChangeSpec := { name := "fnRowsNow", fn := fun _ => fun
  | [d] => { results := [.lit (.bool false)], args := [d] }
  | _ => none }
def FnRowsNowWrongFalsely : Prop := fnRowsNowRow.holds Try.pinned (OpenSpec.ofChange fnRowsNowWrong)

/-- 'laws.FnExactRowsNow': WHATEVER THE INPUT: true; the input reads as it did. -/
def fnExactRowsNowSpec : ChangeSpec := { name := "fnExactRowsNow", fn := fun _ => fun
  | [d] => { results := [.lit (.bool true)], args := [d] }
  | _ => none }
def fnExactRowsNowRow : OpenClaim := { program := "ytklhdnjhgbglhaa", sum := "9be0c3757621cc242368c3c9d4549490cb45a0fe3780877b5133bb333e672052", func := "loop.example/tablehouse/laws.FnExactRowsNow", spec := "fnExactRowsNow", unfollowed := true, recurses := true, apart := false }
def FnExactRowsNowSaid : Prop := fnExactRowsNowRow.holds Try.pinned (OpenSpec.ofChange fnExactRowsNowSpec)

/-- ITS FALSE NEIGHBOUR: 'it returns false'. Refute it at one input. -/
def fnExactRowsNowWrong : ChangeSpec := { name := "fnExactRowsNow", fn := fun _ => fun
  | [d] => { results := [.lit (.bool false)], args := [d] }
  | _ => none }
def FnExactRowsNowWrongFalsely : Prop := fnExactRowsNowRow.holds Try.pinned (OpenSpec.ofChange fnExactRowsNowWrong)

/- THE SECOND FORM. 'bulk': how many values and letters a reading holds, each counted each time it is reached (what is shared counts as often as it is met; a slice's spare places count too). A statement '..UptoSaid' is the law's where the arguments, and the package variables that the reading takes, are together of bulk at most 1048576: NARROWER than '..Said'. Prove '..Said' where nothing that the law and all that it calls make is longer than what came in: it says more and counts as full. Else prove '..UptoSaid'. A law counts once. -/
mutual
def uptoBulk {H : Type} : DataW H → Nat
  | .lit (.string bytes) => bytes.length + 1
  | .lit _ => 1
  | .nil => 1
  | .ptr d => uptoBulk d + 1
  | .slice elems spare => uptoBulkAll elems + uptoBulkAll spare + 1
  | .agg parts => uptoBulkAll parts + 1
  | .iface _ d => uptoBulk d + 1
  | .map entries => uptoBulkEntries entries + 1
  | .held _ => 1
def uptoBulkAll {H : Type} : List (DataW H) → Nat
  | [] => 0
  | d :: r => uptoBulk d + uptoBulkAll r
def uptoBulkEntries {H : Type} : List (Lit × DataW H) → Nat
  | [] => 0
  | x :: r => uptoBulkEntry x + uptoBulkEntries r
def uptoBulkEntry {H : Type} : Lit × DataW H → Nat
  | (.string bytes, d) => bytes.length + uptoBulk d + 1
  | (_, d) => uptoBulk d + 1
 end
def uptoSmall : (H : Type) → List (DataW H) → Bool := fun _ ds => decide (uptoBulkAll ds ≤ 1048576)
def OpenSpec.upto (s : _root_.Go.ChangeSpec) : _root_.Go.OpenSpec := { _root_.Go.OpenSpec.ofChange s with cond := some uptoSmall }

/-- 'laws.FnRowsNow', WHERE WHAT IT READS IS OF BULK AT MOST 1048576: true; the input reads as it did. -/
def fnRowsNowUptoRow : OpenClaim := { program := "ytklhdnjhgbglhaa", sum := "9be0c3757621cc242368c3c9d4549490cb45a0fe3780877b5133bb333e672052", func := "loop.example/tablehouse/laws.FnRowsNow", spec := "fnRowsNow", unfollowed := true, recurses := true, apart := false, narrowed := true }
def FnRowsNowUptoSaid : Prop := fnRowsNowUptoRow.holds Try.pinned (OpenSpec.upto fnRowsNowSpec)

/-- 'laws.FnExactRowsNow', WHERE WHAT IT READS IS OF BULK AT MOST 1048576: true; the input reads as it did. -/
def fnExactRowsNowUptoRow : OpenClaim := { program := "ytklhdnjhgbglhaa", sum := "9be0c3757621cc242368c3c9d4549490cb45a0fe3780877b5133bb333e672052", func := "loop.example/tablehouse/laws.FnExactRowsNow", spec := "fnExactRowsNow", unfollowed := true, recurses := true, apart := false, narrowed := true }
def FnExactRowsNowUptoSaid : Prop := fnExactRowsNowUptoRow.holds Try.pinned (OpenSpec.upto fnExactRowsNowSpec)

end Rows
end Go.Proofs.Ytklhdnjhgbglhaa
