/- The table of types, out of the program. -/
import Derived.Test.YtfimolakepbdbaaWFn
namespace Go.Vm

def TD.of : TypeDesc → Option TD
  | .int k => some (.int k)
  | .bool => some .bool
  | .string => some .string
  | .slice e => some (.slice e)
  | .struct fs => some (.struct (fs.toList.map fun f => (f.offset, f.type)))
  | .pointer e => some (.pointer e)
  | .array _ _ => none
  | _ => some .other

def TI.of (P : Program) (t : Nat) : Option TI :=
  match P.info? t, P.underlying t with
  | some i, some d =>
    match i.zero, TD.of d with
    | some z, some D =>
      if decide (0 < i.size) && decide (0 < i.bytes) && decide (z.cells.size = i.size) && z.cells.toList.all (·.oneCell') && (D.isStruct || z.oneCell') then
        some { desc := D, sz := i.size, bytes := i.bytes, zero := z.cells.toList.map ofC1 }
      else none
    | _, _ => none
  | _, _ => none

theorem repl_ofC1 (F : Nat → Prop) (w : World) : ∀ l : List Value, l.all (·.oneCell') = true → RepL F w l (l.map ofC1) []
  | [], _ => .nil
  | v :: l, h => by
    simp only [List.all_cons, Bool.and_eq_true] at h
    have ih := repl_ofC1 F w l h.2
    rw [List.map_cons]
    unfold ofC1
    split
    · exact .int ih
    · exact .bool ih
    · exact .str ih
    · exact .fro0 (by simp) ih
    · exact .und h.1 ih

theorem noOwn_ofC1 (v : Value) : noOwn (ofC1 v) = true := by
  unfold ofC1; split <;> rfl

theorem TI.of_ok {P : Program} {t : Nat} {T : TI} (h : TI.of P t = some T) : TIok P t T := by
  unfold TI.of at h
  split at h
  case h_2 => cases h
  rename_i i d hi hu
  split at h
  case h_2 => cases h
  rename_i z D hz hD
  split at h
  case isFalse => cases h
  rename_i hc
  simp only [Bool.and_eq_true, decide_eq_true_eq, Bool.or_eq_true] at hc
  obtain ⟨⟨⟨⟨h1, h2⟩, h3⟩, h4⟩, h5⟩ := hc
  cases h
  refine ⟨⟨i, z, hi, rfl, rfl, hz, h3, fun F w => repl_ofC1 F w _ h4, fun hs => ?_⟩, ?_, ⟨h1, h2⟩, ?_⟩
  · exact cells_one (h5.resolve_left (by simpa using hs))
  · show descOk P t D
    cases d <;> simp only [TD.of, Option.some.injEq, reduceCtorEq] at hD <;> subst hD <;> first
      | exact hu
      | exact ⟨_, hu, rfl⟩
      | skip
    rename_i fs
    refine ⟨fs, hu, by simp, fun k off ty hk => ?_⟩
    rw [List.getElem?_map] at hk
    obtain ⟨f, hf, he⟩ := Option.map_eq_some_iff.1 hk
    cases he
    exact ⟨f, by simpa using hf, rfl, rfl⟩
  · simp [noOwn_ofC1]

/-- The evaluator's table for a program: the structs that are compared, and the parameters that functions write through. -/
def Cfg.of (P : Program) (eqs : Nat → Option (List TD)) (wrt : Nat → Option Nat) (mv : Bool) (stl : List Nat) : Cfg := { P, tt := TI.of P, eqs, wrt, mv, stl }

theorem Cfg.of_ok {P : Program} {eqs : Nat → Option (List TD)} {wrt : Nat → Option Nat} {mv : Bool} {stl : List Nat} (h : P.follows .mixedOrders = true) (he : ∀ t ks, eqs t = some ks → EqOk P t ks) : CfgOk (Cfg.of P eqs wrt mv stl) := ⟨he, fun _ _ h => TI.of_ok h, h⟩

end Go.Vm
