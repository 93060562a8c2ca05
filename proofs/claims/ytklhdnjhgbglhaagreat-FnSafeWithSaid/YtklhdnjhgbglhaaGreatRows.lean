/-
  No cell of these rows narrows 'for every input' (looked for: loops, veiled, ifaces, maps, wideKeys, modest, calm, conditions, laid).
  DERIVED. THE GIVEN ROWS OF THIS SEAT. 5 by the template 'for every input the law returns true; each argument reads behind the call as it read before'; 0 by the template 'total and deterministic' (their statements: YtklhdnjhgbglhaaGreatTotals.lean).
  GIVEN WITH THE SEED: the statements are not yours to turn. If you find one false, say at which input.
  Laid BY PROGRAM, IN A SANDBOX (cutbox-rows.mjs): the forced cells as the released guide's own fill.sh prints them over the translation c43f063dc7804866… (all of the seat's roots in one cut). By AI agents, Wed Nov 11 2026. No macro, syntax, notation, axiom, sorry.
-/
import Derived.Test.YtklhdnjhgbglhaaGreatChecked
import GoSem.Claim
import GoSem.ClaimJoined
import GoSem.ClaimMapViews
import Derived.JoinedTies
import Derived.KernelRfl
namespace Go.Proofs.YtklhdnjhgbglhaaGreat
/- THE CELL 'sum', in the pinned program and in every row, IS THE sha256 OF THE DUMP (.gsa) THAT YtklhdnjhgbglhaaGreatProg.lean LOADS. Nothing in Lean hashes anything: it is a label: what it is worth is what the hold of that sum in a sandbox is worth. -/
noncomputable def Tryz.pinned : Pinned := { name := "ytklhdnjhgbglhaagreat", sum := "c43f063dc780486671fb4f02d9be8d8d5959103da8fa639f9d92adcc652fd555", checked := Tryz.checked }
namespace Rows
def none {H : Type} : Left H := { results := [], args := [] }

/-- 'laws.FnLogOf': WHATEVER THE INPUT: true; the input reads as it did. -/
def fnLogOfSpec : ChangeSpec := { name := "fnLogOf", fn := fun _ => fun
  | [d] => { results := [.lit (.bool true)], args := [d] }
  | _ => none }
def fnLogOfRow : OpenClaim := { program := "ytklhdnjhgbglhaagreat", sum := "c43f063dc780486671fb4f02d9be8d8d5959103da8fa639f9d92adcc652fd555", func := "loop.example/tablehouse/laws.FnLogOf", spec := "fnLogOf", inPlace := ["slices.overlaps[int]", "slices.overlaps[loop.example/tablehouse/impl.Write]"], unfollowed := true, recurses := true, apart := false }
def FnLogOfSaid : Prop := fnLogOfRow.holds Tryz.pinned (OpenSpec.ofChange fnLogOfSpec)

/-- ITS FALSE NEIGHBOUR: 'it returns false'. Refute it at one input. -/
def fnLogOfWrong : ChangeSpec := { name := "fnLogOf", fn := fun _ => fun
  | [d] => { results := [.lit (.bool false)], args := [d] }
  | _ => none }
def FnLogOfWrongFalsely : Prop := fnLogOfRow.holds Tryz.pinned (OpenSpec.ofChange fnLogOfWrong)

/-- 'laws.FnExactSafeStep': WHATEVER THE INPUT: true; the input reads as it did. -/
def fnExactSafeStepSpec : ChangeSpec := { name := "fnExactSafeStep", fn := fun _ => fun
  | [d1, d2] => { results := [.lit (.bool true)], args := [d1, d2] }
  | _ => none }
def fnExactSafeStepRow : OpenClaim := { program := "ytklhdnjhgbglhaagreat", sum := "c43f063dc780486671fb4f02d9be8d8d5959103da8fa639f9d92adcc652fd555", func := "loop.example/tablehouse/laws.FnExactSafeStep", spec := "fnExactSafeStep", inPlace := ["slices.overlaps[int]", "slices.overlaps[loop.example/tablehouse/impl.Write]"], unfollowed := true, recurses := true, apart := false }
def FnExactSafeStepSaid : Prop := fnExactSafeStepRow.holds Tryz.pinned (OpenSpec.ofChange fnExactSafeStepSpec)

/-- ITS FALSE NEIGHBOUR: 'it returns false'. Refute it at one input. -/
def fnExactSafeStepWrong : ChangeSpec := { name := "fnExactSafeStep", fn := fun _ => fun
  | [d1, d2] => { results := [.lit (.bool false)], args := [d1, d2] }
  | _ => none }
def FnExactSafeStepWrongFalsely : Prop := fnExactSafeStepRow.holds Tryz.pinned (OpenSpec.ofChange fnExactSafeStepWrong)

/-- 'laws.FnSafeWith': WHATEVER THE INPUT: true; the input reads as it did. -/
def fnSafeWithSpec : ChangeSpec := { name := "fnSafeWith", fn := fun _ => fun
  | [d] => { results := [.lit (.bool true)], args := [d] }
  | _ => none }
def fnSafeWithRow : OpenClaim := { program := "ytklhdnjhgbglhaagreat", sum := "c43f063dc780486671fb4f02d9be8d8d5959103da8fa639f9d92adcc652fd555", func := "loop.example/tablehouse/laws.FnSafeWith", spec := "fnSafeWith", inPlace := ["slices.overlaps[int]", "slices.overlaps[loop.example/tablehouse/impl.Write]"], unfollowed := true, recurses := true, apart := false }
def FnSafeWithSaid : Prop := fnSafeWithRow.holds Tryz.pinned (OpenSpec.ofChange fnSafeWithSpec)

/-- ITS FALSE NEIGHBOUR: 'it returns false'. Refute it at one input. -/
def fnSafeWithWrong : ChangeSpec := { name := "fnSafeWith", fn := fun _ => fun
  | [d] => { results := [.lit (.bool false)], args := [d] }
  | _ => none }
def FnSafeWithWrongFalsely : Prop := fnSafeWithRow.holds Tryz.pinned (OpenSpec.ofChange fnSafeWithWrong)

/-- 'laws.FnExactSafeRun': WHATEVER THE INPUT: true; the input reads as it did. -/
def fnExactSafeRunSpec : ChangeSpec := { name := "fnExactSafeRun", fn := fun _ => fun
  | [d1, d2] => { results := [.lit (.bool true)], args := [d1, d2] }
  | _ => none }
def fnExactSafeRunRow : OpenClaim := { program := "ytklhdnjhgbglhaagreat", sum := "c43f063dc780486671fb4f02d9be8d8d5959103da8fa639f9d92adcc652fd555", func := "loop.example/tablehouse/laws.FnExactSafeRun", spec := "fnExactSafeRun", inPlace := ["slices.overlaps[int]", "slices.overlaps[loop.example/tablehouse/impl.Write]"], unfollowed := true, recurses := true, apart := false }
def FnExactSafeRunSaid : Prop := fnExactSafeRunRow.holds Tryz.pinned (OpenSpec.ofChange fnExactSafeRunSpec)

/-- ITS FALSE NEIGHBOUR: 'it returns false'. Refute it at one input. -/
def fnExactSafeRunWrong : ChangeSpec := { name := "fnExactSafeRun", fn := fun _ => fun
  | [d1, d2] => { results := [.lit (.bool false)], args := [d1, d2] }
  | _ => none }
def FnExactSafeRunWrongFalsely : Prop := fnExactSafeRunRow.holds Tryz.pinned (OpenSpec.ofChange fnExactSafeRunWrong)

/-- 'laws.FnExactSafeWith': WHATEVER THE INPUT: true; the input reads as it did. -/
def fnExactSafeWithSpec : ChangeSpec := { name := "fnExactSafeWith", fn := fun _ => fun
  | [d1, d2] => { results := [.lit (.bool true)], args := [d1, d2] }
  | _ => none }
def fnExactSafeWithRow : OpenClaim := { program := "ytklhdnjhgbglhaagreat", sum := "c43f063dc780486671fb4f02d9be8d8d5959103da8fa639f9d92adcc652fd555", func := "loop.example/tablehouse/laws.FnExactSafeWith", spec := "fnExactSafeWith", inPlace := ["slices.overlaps[int]", "slices.overlaps[loop.example/tablehouse/impl.Write]"], unfollowed := true, recurses := true, apart := false }
def FnExactSafeWithSaid : Prop := fnExactSafeWithRow.holds Tryz.pinned (OpenSpec.ofChange fnExactSafeWithSpec)

/-- ITS FALSE NEIGHBOUR: 'it returns false'. Refute it at one input. -/
def fnExactSafeWithWrong : ChangeSpec := { name := "fnExactSafeWith", fn := fun _ => fun
  | [d1, d2] => { results := [.lit (.bool false)], args := [d1, d2] }
  | _ => none }
def FnExactSafeWithWrongFalsely : Prop := fnExactSafeWithRow.holds Tryz.pinned (OpenSpec.ofChange fnExactSafeWithWrong)

/- THE SECOND FORM. 'bulk': how many values and letters a reading holds, each counted each time it is reached (what is shared counts as often as it is met; a slice's spare places count too). A statement '..UptoSaid' is the law's where the arguments, and the package variables that the reading takes, are together of bulk at most 1048576: NARROWER than '..Said'. Prove '..Said' where nothing that the law and all that it calls make is longer than what came in: it says more and counts as full. Else prove '..UptoSaid'. A law counts once. -/
mutual
def uptoBulk {H : Type} : DataW H → Nat
  | .lit (.string bytes) => bytes.length + 1
  | .lit _ => 1
  | .nil => 1
  | .ptr d => uptoBulk d + 1
  | .slice elems spare => uptoBulkAll elems + uptoBulkAll spare + 1
  | .agg parts => uptoBulkAll parts + 1
  | .iface _ d => uptoBulk d + 1
  | .map entries => uptoBulkEntries entries + 1
  | .held _ => 1
def uptoBulkAll {H : Type} : List (DataW H) → Nat
  | [] => 0
  | d :: r => uptoBulk d + uptoBulkAll r
def uptoBulkEntries {H : Type} : List (Lit × DataW H) → Nat
  | [] => 0
  | x :: r => uptoBulkEntry x + uptoBulkEntries r
def uptoBulkEntry {H : Type} : Lit × DataW H → Nat
  | (.string bytes, d) => bytes.length + uptoBulk d + 1
  | (_, d) => uptoBulk d + 1
 end
def uptoSmall : (H : Type) → List (DataW H) → Bool := fun _ ds => decide (uptoBulkAll ds ≤ 1048576)
def OpenSpec.upto (s : _root_.Go.ChangeSpec) : _root_.Go.OpenSpec := { _root_.Go.OpenSpec.ofChange s with cond := some uptoSmall }

/-- 'laws.FnLogOf', WHERE WHAT IT READS IS OF BULK AT MOST 1048576: true; the input reads as it did. -/
def fnLogOfUptoRow : OpenClaim := { program := "ytklhdnjhgbglhaagreat", sum := "c43f063dc780486671fb4f02d9be8d8d5959103da8fa639f9d92adcc652fd555", func := "loop.example/tablehouse/laws.FnLogOf", spec := "fnLogOf", inPlace := ["slices.overlaps[int]", "slices.overlaps[loop.example/tablehouse/impl.Write]"], unfollowed := true, recurses := true, apart := false, narrowed := true }
def FnLogOfUptoSaid : Prop := fnLogOfUptoRow.holds Tryz.pinned (OpenSpec.upto fnLogOfSpec)

/-- 'laws.FnExactSafeStep', WHERE WHAT IT READS IS OF BULK AT MOST 1048576: true; the input reads as it did. -/
def fnExactSafeStepUptoRow : OpenClaim := { program := "ytklhdnjhgbglhaagreat", sum := "c43f063dc780486671fb4f02d9be8d8d5959103da8fa639f9d92adcc652fd555", func := "loop.example/tablehouse/laws.FnExactSafeStep", spec := "fnExactSafeStep", inPlace := ["slices.overlaps[int]", "slices.overlaps[loop.example/tablehouse/impl.Write]"], unfollowed := true, recurses := true, apart := false, narrowed := true }
def FnExactSafeStepUptoSaid : Prop := fnExactSafeStepUptoRow.holds Tryz.pinned (OpenSpec.upto fnExactSafeStepSpec)

/-- 'laws.FnSafeWith', WHERE WHAT IT READS IS OF BULK AT MOST 1048576: true; the input reads as it did. -/
def fnSafeWithUptoRow : OpenClaim := { program := "ytklhdnjhgbglhaagreat", sum := "c43f063dc780486671fb4f02d9be8d8d5959103da8fa639f9d92adcc652fd555", func := "loop.example/tablehouse/laws.FnSafeWith", spec := "fnSafeWith", inPlace := ["slices.overlaps[int]", "slices.overlaps[loop.example/tablehouse/impl.Write]"], unfollowed := true, recurses := true, apart := false, narrowed := true }
def FnSafeWithUptoSaid : Prop := fnSafeWithUptoRow.holds Tryz.pinned (OpenSpec.upto fnSafeWithSpec)

/-- 'laws.FnExactSafeRun', WHERE WHAT IT READS IS OF BULK AT MOST 1048576: true; the input reads as it did. -/
def fnExactSafeRunUptoRow : OpenClaim := { program := "ytklhdnjhgbglhaagreat", sum := "c43f063dc780486671fb4f02d9be8d8d5959103da8fa639f9d92adcc652fd555", func := "loop.example/tablehouse/laws.FnExactSafeRun", spec := "fnExactSafeRun", inPlace := ["slices.overlaps[int]", "slices.overlaps[loop.example/tablehouse/impl.Write]"], unfollowed := true, recurses := true, apart := false, narrowed := true }
def FnExactSafeRunUptoSaid : Prop := fnExactSafeRunUptoRow.holds Tryz.pinned (OpenSpec.upto fnExactSafeRunSpec)

/-- 'laws.FnExactSafeWith', WHERE WHAT IT READS IS OF BULK AT MOST 1048576: true; the input reads as it did. -/
def fnExactSafeWithUptoRow : OpenClaim := { program := "ytklhdnjhgbglhaagreat", sum := "c43f063dc780486671fb4f02d9be8d8d5959103da8fa639f9d92adcc652fd555", func := "loop.example/tablehouse/laws.FnExactSafeWith", spec := "fnExactSafeWith", inPlace := ["slices.overlaps[int]", "slices.overlaps[loop.example/tablehouse/impl.Write]"], unfollowed := true, recurses := true, apart := false, narrowed := true }
def FnExactSafeWithUptoSaid : Prop := fnExactSafeWithUptoRow.holds Tryz.pinned (OpenSpec.upto fnExactSafeWithSpec)

end Rows
end Go.Proofs.YtklhdnjhgbglhaaGreat
