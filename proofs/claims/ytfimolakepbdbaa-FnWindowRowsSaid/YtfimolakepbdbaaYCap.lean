/- WALK of functions of the seat, or plain laws for it: each theorem f<k> says what function k returns, for every world and all arguments that stand for the values named. Conditions: none but those ahead of each theorem. -/
import Derived.Test.YtfimolakepbdbaaYLib6
namespace Go.Vm
section
variable {C : Cfg} {D : Vm.Spec} {q : Bool} {ops : Array Oper} {K : St → Prop} {σ : St} {d : Option Tmp} {ty : TypeId} {pos : String} {af : Array Edge} {rest : List Oper}
theorem s_cap {x : Operand} {t : TypeId} : opsW C D q ops K (⟨d, .call { callee := .builtin .cap, args := #[x], argTypes := #[t] }, ty, pos, af, none⟩ :: rest) σ =
    exP (C.tt t) fun T => exP (capF σ T.desc (σ.get x)) fun n => opsW C D q ops K rest (σ.put d (.int .i64 n)) := by
  simp [opsW, guardW, guardOf, opW, opG, opF, exP_some, looks, exP_bind]
end
section
variable {C : Cfg} {D : Vm.Spec} {Q : Ex → St → Prop} {σ : St} {tq : Tag Q}
variable {α β : Type} {K : α → Prop} {t : Tag K}
variable {d : Tmp} {σ : St} {yes no : St → Prop} {ty : Tag yes} {tn : Tag no}
variable {C : Cfg} {D : Vm.Spec} {q : Bool} {ops : Array Oper} {K : St → Prop} {σ : St} {d : Option Tmp} {ty : TypeId} {pos : String} {af : Array Edge} {rest : List Oper}
theorem t_cap {x : Operand} {t : TypeId} {tg : Tag K} : opsT C D q ops K (⟨d, .call { callee := .builtin .cap, args := #[x], argTypes := #[t] }, ty, pos, af, none⟩ :: rest) σ tg = exT (C.tt t) (fun T => exT (capF σ T.desc (σ.get x)) (fun n => opsT C D q ops K rest (σ.put d (.int .i64 n)) tg) ⟨⟩) ⟨⟩ := s_cap
end
end Go.Vm
