/- A house that is ok has rows and texts of bounded length: plain laws. -/
import Derived.Test.YtklhdnjhgbglhaaYH10
set_option linter.unusedVariables false
set_option linter.unusedSimpArgs false
open Go Go.Vm Go.Proofs
theorem okV_P {v : Val} (h : valP v) : okV v := by
  unfold okV
  rcases h with ⟨_, _, e⟩ | ⟨_, e, _⟩ | ⟨_, _, e, _⟩ | ⟨_, e, _⟩
  · rw [e]; exact Nat.zero_le _
  · rw [e]; exact Nat.zero_le _
  · omega
  · rw [e]; exact Nat.zero_le _
theorem okR_P {r : List Val} (h : rowP r) : okR r := ⟨by have := h.1; omega, fun v hv => okV_P (h.2 v hv)⟩
theorem okX_P {t : Tx} {k : Int} (h : txP t k) (hs : smX t) : okX t := by
  refine ⟨by have := hs.1; omega, by have := hs.2.1; omega, fun w hw => ?_⟩
  have key : txB t k → okW w := fun ⟨_, _, h2⟩ => by
    have := ((wrs_of h2).1 w hw).2.1
    exact okR_P this
  rcases h with ⟨_, _, _, _, b⟩ | ⟨_, _, g⟩ | ⟨_, _, g⟩
  · rw [List.eq_nil_of_length_eq_zero b] at hw; simp at hw
  · exact key g
  · exact key g
theorem okH_P {h : Hs} (hp : houseP h) : okH h := by
  have hs := okH_smX hp
  obtain ⟨h1, h2, h3, h4, h5, h6⟩ := hp
  have hq := verP_iff.1 h1
  refine ⟨by omega, fun v hv => okR_P (hq.2.1 v hv).2.2.2, fun v hv => by have := (hq.2.1 v hv).2.2.2.1; omega, by omega, fun t ht => ?_⟩
  obtain ⟨i, hi, rfl⟩ := List.mem_iff_getElem.1 ht
  have hx := h5 i (by omega)
  rw [getElem!_pos h.tx i hi] at hx
  exact okX_P hx (hs _ (List.getElem_mem hi))
