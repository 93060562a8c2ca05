/- WALK of functions of the seat, or plain laws for it: each theorem f<k> says what function k returns, for every world and all arguments that stand for the values named. Conditions: none but those ahead of each theorem. -/
import Derived.Test.YtboeimkfcfdabaaWBun
open Go Go.Vm Go.Proofs
set_option maxRecDepth 100000
set_option maxHeartbeats 8000000
set_option linter.unusedSimpArgs false
set_option linter.unusedVariables false
structure Col where
  k : Int
  e : Bool
instance : Inhabited Col := ⟨⟨0, false⟩⟩
def cA (c : Col) : AV := .agg [.int .i64 c.k, .bool c.e]
