/- The rows that are there now are those at the clock, and one time later: the plain law of FnRowsNow. -/
import Derived.Test.YtklhdnjhgbglhaaYP2
import Derived.Test.YtklhdnjhgbglhaaYB7
set_option linter.unusedVariables false
set_option linter.unusedSimpArgs false
open Go Go.Vm Go.Proofs
theorem now_at {h : Hs} (hp : houseP h) : rowsS h.vs h.ck = nowS h := by unfold nowS; rw [if_pos hp]
theorem now_later {h : Hs} (hp : houseP h) : rowsS h.vs (h.ck + 1) = nowS h := by
  rw [← now_at hp]
  obtain ⟨h1, _, h3, _⟩ := hp
  unfold rowsS rowsN
  rw [if_pos h1, if_pos h1]
  exact rowsT_still (turn_all (verP_iff.1 h1).2 h3) 5
theorem now_none {h : Hs} (hp : ¬ houseP h) : nowS h = [] := by unfold nowS; rw [if_neg hp]
