/-
  No cell of these rows narrows 'for every input' (looked for: loops, veiled, ifaces, maps, wideKeys, modest, calm, conditions, laid).
  DERIVED. THE GIVEN ROWS OF THIS SEAT. 9 by the template 'for every input the law returns true; each argument reads behind the call as it read before'; 0 by the template 'total and deterministic' (their statements: YtickagjmjlnabaaTotals.lean).
  GIVEN WITH THE SEED: the statements are not yours to turn. If you find one false, say at which input.
  Laid BY PROGRAM, IN A SANDBOX (cutbox-rows.mjs): the forced cells as the released guide's own fill.sh prints them over the translation d211f23187c86d7f… (all of the seat's roots in one cut). By AI agents, Wed Nov 11 2026. No macro, syntax, notation, axiom, sorry.
-/
import Derived.Test.YtickagjmjlnabaaChecked
import GoSem.Claim
import GoSem.ClaimJoined
import GoSem.ClaimMapViews
import Derived.JoinedTies
import Derived.KernelRfl
namespace Go.Proofs.Ytickagjmjlnabaa
/- THE CELL 'sum', in the pinned program and in every row, IS THE sha256 OF THE DUMP (.gsa) THAT YtickagjmjlnabaaProg.lean LOADS. Nothing in Lean hashes anything: it is a label: what it is worth is what the hold of that sum in a sandbox is worth. -/
noncomputable def Try.pinned : Pinned := { name := "ytickagjmjlnabaa", sum := "d211f23187c86d7f0d33e55c2e5d9d47abd79c65dcf8bd13214acb06f504deaa", checked := Try.checked }
namespace Rows
def none {H : Type} : Left H := { results := [], args := [] }

/-- 'laws.FnPlacesOk': WHATEVER THE INPUT: true; the input reads as it did. -/
def fnPlacesOkSpec : ChangeSpec := { name := "fnPlacesOk", fn := fun _ => fun
  | [d] => { results := [.lit (.bool true)], args := [d] }
  | _ => none }
def fnPlacesOkRow : OpenClaim := { program := "ytickagjmjlnabaa", sum := "d211f23187c86d7f0d33e55c2e5d9d47abd79c65dcf8bd13214acb06f504deaa", func := "loop.example/tablehouse/laws.FnPlacesOk", spec := "fnPlacesOk", unfollowed := true, recurses := true, apart := false }
def FnPlacesOkSaid : Prop := fnPlacesOkRow.holds Try.pinned (OpenSpec.ofChange fnPlacesOkSpec)

/-- ITS FALSE NEIGHBOUR: 'it returns false'. Refute it at one input. -/
def fnPlacesOkWrong : ChangeSpec := { name := "fnPlacesOk", fn := fun _ => fun
  | [d] => { results := [.lit (.bool false)], args := [d] }
  | _ => none }
def FnPlacesOkWrongFalsely : Prop := fnPlacesOkRow.holds Try.pinned (OpenSpec.ofChange fnPlacesOkWrong)

/-- 'laws.FnExactPlacesOk': WHATEVER THE INPUT: true; the input reads as it did. -/
def fnExactPlacesOkSpec : ChangeSpec := { name := "fnExactPlacesOk", fn := fun _ => fun
  | [d1, d2] => { results := [.lit (.bool true)], args := [d1, d2] }
  | _ => none }
def fnExactPlacesOkRow : OpenClaim := { program := "ytickagjmjlnabaa", sum := "d211f23187c86d7f0d33e55c2e5d9d47abd79c65dcf8bd13214acb06f504deaa", func := "loop.example/tablehouse/laws.FnExactPlacesOk", spec := "fnExactPlacesOk", unfollowed := true, recurses := true, apart := false }
def FnExactPlacesOkSaid : Prop := fnExactPlacesOkRow.holds Try.pinned (OpenSpec.ofChange fnExactPlacesOkSpec)

/-- ITS FALSE NEIGHBOUR: 'it returns false'. Refute it at one input. -/
def fnExactPlacesOkWrong : ChangeSpec := { name := "fnExactPlacesOk", fn := fun _ => fun
  | [d1, d2] => { results := [.lit (.bool false)], args := [d1, d2] }
  | _ => none }
def FnExactPlacesOkWrongFalsely : Prop := fnExactPlacesOkRow.holds Try.pinned (OpenSpec.ofChange fnExactPlacesOkWrong)

/-- 'laws.FnPlaceTold': WHATEVER THE INPUT: true; the input reads as it did. -/
def fnPlaceToldSpec : ChangeSpec := { name := "fnPlaceTold", fn := fun _ => fun
  | [d] => { results := [.lit (.bool true)], args := [d] }
  | _ => none }
def fnPlaceToldRow : OpenClaim := { program := "ytickagjmjlnabaa", sum := "d211f23187c86d7f0d33e55c2e5d9d47abd79c65dcf8bd13214acb06f504deaa", func := "loop.example/tablehouse/laws.FnPlaceTold", spec := "fnPlaceTold", unfollowed := true, recurses := true, apart := false }
def FnPlaceToldSaid : Prop := fnPlaceToldRow.holds Try.pinned (OpenSpec.ofChange fnPlaceToldSpec)

/-- ITS FALSE NEIGHBOUR: 'it returns false'. Refute it at one input. -/
def fnPlaceToldWrong : ChangeSpec := { name := "fnPlaceTold", fn := fun _ => fun
  | [d] => { results := [.lit (.bool false)], args := [d] }
  | _ => none }
def FnPlaceToldWrongFalsely : Prop := fnPlaceToldRow.holds Try.pinned (OpenSpec.ofChange fnPlaceToldWrong)

/-- 'laws.FnExactTakesOver': WHATEVER THE INPUT: true; the input reads as it did. -/
def fnExactTakesOverSpec : ChangeSpec := { name := "fnExactTakesOver", fn := fun _ => fun
  | [d1, d2, d3] => { results := [.lit (.bool true)], args := [d1, d2, d3] }
  | _ => none }
def fnExactTakesOverRow : OpenClaim := { program := "ytickagjmjlnabaa", sum := "d211f23187c86d7f0d33e55c2e5d9d47abd79c65dcf8bd13214acb06f504deaa", func := "loop.example/tablehouse/laws.FnExactTakesOver", spec := "fnExactTakesOver", unfollowed := true, recurses := true, apart := false }
def FnExactTakesOverSaid : Prop := fnExactTakesOverRow.holds Try.pinned (OpenSpec.ofChange fnExactTakesOverSpec)

/-- ITS FALSE NEIGHBOUR: 'it returns false'. Refute it at one input. -/
def fnExactTakesOverWrong : ChangeSpec := { name := "fnExactTakesOver", fn := fun _ => fun
  | [d1, d2, d3] => { results := [.lit (.bool false)], args := [d1, d2, d3] }
  | _ => none }
def FnExactTakesOverWrongFalsely : Prop := fnExactTakesOverRow.holds Try.pinned (OpenSpec.ofChange fnExactTakesOverWrong)

/-- 'laws.FnTakesOver': WHATEVER THE INPUT: true; the input reads as it did. -/
def fnTakesOverSpec : ChangeSpec := { name := "fnTakesOver", fn := fun _ => fun
  | [d] => { results := [.lit (.bool true)], args := [d] }
  | _ => none }
def fnTakesOverRow : OpenClaim := { program := "ytickagjmjlnabaa", sum := "d211f23187c86d7f0d33e55c2e5d9d47abd79c65dcf8bd13214acb06f504deaa", func := "loop.example/tablehouse/laws.FnTakesOver", spec := "fnTakesOver", unfollowed := true, recurses := true, apart := false }
def FnTakesOverSaid : Prop := fnTakesOverRow.holds Try.pinned (OpenSpec.ofChange fnTakesOverSpec)

/-- ITS FALSE NEIGHBOUR: 'it returns false'. Refute it at one input. -/
def fnTakesOverWrong : ChangeSpec := { name := "fnTakesOver", fn := fun _ => fun
  | [d] => { results := [.lit (.bool false)], args := [d] }
  | _ => none }
def FnTakesOverWrongFalsely : Prop := fnTakesOverRow.holds Try.pinned (OpenSpec.ofChange fnTakesOverWrong)

/-- 'laws.FnExactPlaceTold': WHATEVER THE INPUT: true; the input reads as it did. -/
def fnExactPlaceToldSpec : ChangeSpec := { name := "fnExactPlaceTold", fn := fun _ => fun
  | [d1, d2, d3, d4] => { results := [.lit (.bool true)], args := [d1, d2, d3, d4] }
  | _ => none }
def fnExactPlaceToldRow : OpenClaim := { program := "ytickagjmjlnabaa", sum := "d211f23187c86d7f0d33e55c2e5d9d47abd79c65dcf8bd13214acb06f504deaa", func := "loop.example/tablehouse/laws.FnExactPlaceTold", spec := "fnExactPlaceTold", unfollowed := true, recurses := true, apart := false }
def FnExactPlaceToldSaid : Prop := fnExactPlaceToldRow.holds Try.pinned (OpenSpec.ofChange fnExactPlaceToldSpec)

/-- ITS FALSE NEIGHBOUR: 'it returns false'. Refute it at one input. -/
def fnExactPlaceToldWrong : ChangeSpec := { name := "fnExactPlaceTold", fn := fun _ => fun
  | [d1, d2, d3, d4] => { results := [.lit (.bool false)], args := [d1, d2, d3, d4] }
  | _ => none }
def FnExactPlaceToldWrongFalsely : Prop := fnExactPlaceToldRow.holds Try.pinned (OpenSpec.ofChange fnExactPlaceToldWrong)

/-- 'laws.FnExactLogAfter': WHATEVER THE INPUT: true; the input reads as it did. -/
def fnExactLogAfterSpec : ChangeSpec := { name := "fnExactLogAfter", fn := fun _ => fun
  | [d1, d2, d3] => { results := [.lit (.bool true)], args := [d1, d2, d3] }
  | _ => none }
def fnExactLogAfterRow : OpenClaim := { program := "ytickagjmjlnabaa", sum := "d211f23187c86d7f0d33e55c2e5d9d47abd79c65dcf8bd13214acb06f504deaa", func := "loop.example/tablehouse/laws.FnExactLogAfter", spec := "fnExactLogAfter", unfollowed := true, recurses := true, apart := false }
def FnExactLogAfterSaid : Prop := fnExactLogAfterRow.holds Try.pinned (OpenSpec.ofChange fnExactLogAfterSpec)

/-- ITS FALSE NEIGHBOUR: 'it returns false'. Refute it at one input. -/
def fnExactLogAfterWrong : ChangeSpec := { name := "fnExactLogAfter", fn := fun _ => fun
  | [d1, d2, d3] => { results := [.lit (.bool false)], args := [d1, d2, d3] }
  | _ => none }
def FnExactLogAfterWrongFalsely : Prop := fnExactLogAfterRow.holds Try.pinned (OpenSpec.ofChange fnExactLogAfterWrong)

/-- 'laws.FnExactSettledOf': WHATEVER THE INPUT: true; the input reads as it did. -/
def fnExactSettledOfSpec : ChangeSpec := { name := "fnExactSettledOf", fn := fun _ => fun
  | [d1, d2] => { results := [.lit (.bool true)], args := [d1, d2] }
  | _ => none }
def fnExactSettledOfRow : OpenClaim := { program := "ytickagjmjlnabaa", sum := "d211f23187c86d7f0d33e55c2e5d9d47abd79c65dcf8bd13214acb06f504deaa", func := "loop.example/tablehouse/laws.FnExactSettledOf", spec := "fnExactSettledOf", unfollowed := true, recurses := true, apart := false }
def FnExactSettledOfSaid : Prop := fnExactSettledOfRow.holds Try.pinned (OpenSpec.ofChange fnExactSettledOfSpec)

/-- ITS FALSE NEIGHBOUR: 'it returns false'. Refute it at one input. -/
def fnExactSettledOfWrong : ChangeSpec := { name := "fnExactSettledOf", fn := fun _ => fun
  | [d1, d2] => { results := [.lit (.bool false)], args := [d1, d2] }
  | _ => none }
def FnExactSettledOfWrongFalsely : Prop := fnExactSettledOfRow.holds Try.pinned (OpenSpec.ofChange fnExactSettledOfWrong)

/-- 'laws.FnSettledOf': WHATEVER THE INPUT: true; the input reads as it did. -/
def fnSettledOfSpec : ChangeSpec := { name := "fnSettledOf", fn := fun _ => fun
  | [d] => { results := [.lit (.bool true)], args := [d] }
  | _ => none }
def fnSettledOfRow : OpenClaim := { program := "ytickagjmjlnabaa", sum := "d211f23187c86d7f0d33e55c2e5d9d47abd79c65dcf8bd13214acb06f504deaa", func := "loop.example/tablehouse/laws.FnSettledOf", spec := "fnSettledOf", unfollowed := true, recurses := true, apart := false }
def FnSettledOfSaid : Prop := fnSettledOfRow.holds Try.pinned (OpenSpec.ofChange fnSettledOfSpec)

/-- ITS FALSE NEIGHBOUR: 'it returns false'. Refute it at one input. -/
def fnSettledOfWrong : ChangeSpec := { name := "fnSettledOf", fn := fun _ => fun
  | [d] => { results := [.lit (.bool false)], args := [d] }
  | _ => none }
def FnSettledOfWrongFalsely : Prop := fnSettledOfRow.holds Try.pinned (OpenSpec.ofChange fnSettledOfWrong)

/- THE SECOND FORM. 'bulk': how many values and letters a reading holds, each counted each time it is reached (what is shared counts as often as it is met; a slice's spare places count too). A statement '..UptoSaid' is the law's where the arguments, and the package variables that the reading takes, are together of bulk at most 1048576: NARROWER than '..Said'. Prove '..Said' where nothing that the law and all that it calls make is longer than what came in: it says more and counts as full. Else prove '..UptoSaid'. A law counts once. -/
mutual
def uptoBulk {H : Type} : DataW H → Nat
  | .lit (.string bytes) => bytes.length + 1
  | .lit _ => 1
  | .nil => 1
  | .ptr d => uptoBulk d + 1
  | .slice elems spare => uptoBulkAll elems + uptoBulkAll spare + 1
  | .agg parts => uptoBulkAll parts + 1
  | .iface _ d => uptoBulk d + 1
  | .map entries => uptoBulkEntries entries + 1
  | .held _ => 1
def uptoBulkAll {H : Type} : List (DataW H) → Nat
  | [] => 0
  | d :: r => uptoBulk d + uptoBulkAll r
def uptoBulkEntries {H : Type} : List (Lit × DataW H) → Nat
  | [] => 0
  | x :: r => uptoBulkEntry x + uptoBulkEntries r
def uptoBulkEntry {H : Type} : Lit × DataW H → Nat
  | (.string bytes, d) => bytes.length + uptoBulk d + 1
  | (_, d) => uptoBulk d + 1
 end
def uptoSmall : (H : Type) → List (DataW H) → Bool := fun _ ds => decide (uptoBulkAll ds ≤ 1048576)
def OpenSpec.upto (s : _root_.Go.ChangeSpec) : _root_.Go.OpenSpec := { _root_.Go.OpenSpec.ofChange s with cond := some uptoSmall }

/-- 'laws.FnPlacesOk', WHERE WHAT IT READS IS OF BULK AT MOST 1048576: true; the input reads as it did. -/
def fnPlacesOkUptoRow : OpenClaim := { program := "ytickagjmjlnabaa", sum := "d211f23187c86d7f0d33e55c2e5d9d47abd79c65dcf8bd13214acb06f504deaa", func := "loop.example/tablehouse/laws.FnPlacesOk", spec := "fnPlacesOk", unfollowed := true, recurses := true, apart := false, narrowed := true }
def FnPlacesOkUptoSaid : Prop := fnPlacesOkUptoRow.holds Try.pinned (OpenSpec.upto fnPlacesOkSpec)

/-- 'laws.FnExactPlacesOk', WHERE WHAT IT READS IS OF BULK AT MOST 1048576: true; the input reads as it did. -/
def fnExactPlacesOkUptoRow : OpenClaim := { program := "ytickagjmjlnabaa", sum := "d211f23187c86d7f0d33e55c2e5d9d47abd79c65dcf8bd13214acb06f504deaa", func := "loop.example/tablehouse/laws.FnExactPlacesOk", spec := "fnExactPlacesOk", unfollowed := true, recurses := true, apart := false, narrowed := true }
def FnExactPlacesOkUptoSaid : Prop := fnExactPlacesOkUptoRow.holds Try.pinned (OpenSpec.upto fnExactPlacesOkSpec)

/-- 'laws.FnPlaceTold', WHERE WHAT IT READS IS OF BULK AT MOST 1048576: true; the input reads as it did. -/
def fnPlaceToldUptoRow : OpenClaim := { program := "ytickagjmjlnabaa", sum := "d211f23187c86d7f0d33e55c2e5d9d47abd79c65dcf8bd13214acb06f504deaa", func := "loop.example/tablehouse/laws.FnPlaceTold", spec := "fnPlaceTold", unfollowed := true, recurses := true, apart := false, narrowed := true }
def FnPlaceToldUptoSaid : Prop := fnPlaceToldUptoRow.holds Try.pinned (OpenSpec.upto fnPlaceToldSpec)

/-- 'laws.FnExactTakesOver', WHERE WHAT IT READS IS OF BULK AT MOST 1048576: true; the input reads as it did. -/
def fnExactTakesOverUptoRow : OpenClaim := { program := "ytickagjmjlnabaa", sum := "d211f23187c86d7f0d33e55c2e5d9d47abd79c65dcf8bd13214acb06f504deaa", func := "loop.example/tablehouse/laws.FnExactTakesOver", spec := "fnExactTakesOver", unfollowed := true, recurses := true, apart := false, narrowed := true }
def FnExactTakesOverUptoSaid : Prop := fnExactTakesOverUptoRow.holds Try.pinned (OpenSpec.upto fnExactTakesOverSpec)

/-- 'laws.FnTakesOver', WHERE WHAT IT READS IS OF BULK AT MOST 1048576: true; the input reads as it did. -/
def fnTakesOverUptoRow : OpenClaim := { program := "ytickagjmjlnabaa", sum := "d211f23187c86d7f0d33e55c2e5d9d47abd79c65dcf8bd13214acb06f504deaa", func := "loop.example/tablehouse/laws.FnTakesOver", spec := "fnTakesOver", unfollowed := true, recurses := true, apart := false, narrowed := true }
def FnTakesOverUptoSaid : Prop := fnTakesOverUptoRow.holds Try.pinned (OpenSpec.upto fnTakesOverSpec)

/-- 'laws.FnExactPlaceTold', WHERE WHAT IT READS IS OF BULK AT MOST 1048576: true; the input reads as it did. -/
def fnExactPlaceToldUptoRow : OpenClaim := { program := "ytickagjmjlnabaa", sum := "d211f23187c86d7f0d33e55c2e5d9d47abd79c65dcf8bd13214acb06f504deaa", func := "loop.example/tablehouse/laws.FnExactPlaceTold", spec := "fnExactPlaceTold", unfollowed := true, recurses := true, apart := false, narrowed := true }
def FnExactPlaceToldUptoSaid : Prop := fnExactPlaceToldUptoRow.holds Try.pinned (OpenSpec.upto fnExactPlaceToldSpec)

/-- 'laws.FnExactLogAfter', WHERE WHAT IT READS IS OF BULK AT MOST 1048576: true; the input reads as it did. -/
def fnExactLogAfterUptoRow : OpenClaim := { program := "ytickagjmjlnabaa", sum := "d211f23187c86d7f0d33e55c2e5d9d47abd79c65dcf8bd13214acb06f504deaa", func := "loop.example/tablehouse/laws.FnExactLogAfter", spec := "fnExactLogAfter", unfollowed := true, recurses := true, apart := false, narrowed := true }
def FnExactLogAfterUptoSaid : Prop := fnExactLogAfterUptoRow.holds Try.pinned (OpenSpec.upto fnExactLogAfterSpec)

/-- 'laws.FnExactSettledOf', WHERE WHAT IT READS IS OF BULK AT MOST 1048576: true; the input reads as it did. -/
def fnExactSettledOfUptoRow : OpenClaim := { program := "ytickagjmjlnabaa", sum := "d211f23187c86d7f0d33e55c2e5d9d47abd79c65dcf8bd13214acb06f504deaa", func := "loop.example/tablehouse/laws.FnExactSettledOf", spec := "fnExactSettledOf", unfollowed := true, recurses := true, apart := false, narrowed := true }
def FnExactSettledOfUptoSaid : Prop := fnExactSettledOfUptoRow.holds Try.pinned (OpenSpec.upto fnExactSettledOfSpec)

/-- 'laws.FnSettledOf', WHERE WHAT IT READS IS OF BULK AT MOST 1048576: true; the input reads as it did. -/
def fnSettledOfUptoRow : OpenClaim := { program := "ytickagjmjlnabaa", sum := "d211f23187c86d7f0d33e55c2e5d9d47abd79c65dcf8bd13214acb06f504deaa", func := "loop.example/tablehouse/laws.FnSettledOf", spec := "fnSettledOf", unfollowed := true, recurses := true, apart := false, narrowed := true }
def FnSettledOfUptoSaid : Prop := fnSettledOfUptoRow.holds Try.pinned (OpenSpec.upto fnSettledOfSpec)

end Rows
end Go.Proofs.Ytickagjmjlnabaa
