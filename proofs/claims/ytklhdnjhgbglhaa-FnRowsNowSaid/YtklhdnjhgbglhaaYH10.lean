/- WALK of functions of the seat, or plain laws for it: each theorem f<k> says what function k returns, for every world and all arguments that stand for the values named. Conditions: none but those ahead of each theorem. -/
import Derived.Test.YtklhdnjhgbglhaaYH8
open Go Go.Vm Go.Proofs
set_option maxRecDepth 100000
set_option maxHeartbeats 16000000
set_option linter.unusedSimpArgs false
set_option linter.unusedVariables false
structure Mv where
  kind : Int
  who : Int
  key : Int
  row : List Val
def mA (m : Mv) : AV := .agg [.int .i64 m.kind, .int .i64 m.who, .int .i64 m.key, .fro none false (m.row.map vA)]
theorem okH_smX {h : Hs} (hp : houseP h) : ∀ t ∈ h.tx, smX t := by
  intro t ht
  obtain ⟨i, hi, rfl⟩ := List.mem_iff_getElem.1 ht
  have h4 := hp.2.2.2.1
  have hx := hp.2.2.2.2.1 i (by omega)
  rw [getElem!_pos h.tx i hi] at hx
  have sm : ∀ k, txB h.tx[i] k → smX h.tx[i] := fun k ⟨_, h1, h2⟩ => by
    obtain ⟨q1, q2⟩ := ri_of h1
    obtain ⟨w1, w2⟩ := wrs_of h2
    refine ⟨?_, ?_, fun w hw => by have := (w1 w hw).2.1.1; omega⟩
    · rcases Nat.lt_or_ge h.tx[i].rd.length 6 with g | g
      · omega
      · exfalso
        have key : ∀ n : Nat, n < h.tx[i].rd.length → (n : Int) ≤ h.tx[i].rd[n]! := by
          intro n
          induction n with
          | zero => intro hn; have := (q1 _ (List.getElem_mem hn)).1; rw [getElem!_pos h.tx[i].rd 0 hn]; exact this
          | succ n ih =>
            intro hn
            have := List.pairwise_iff_getElem.1 q2 n (n + 1) (by omega) hn (by omega)
            have h5 := ih (by omega)
            rw [getElem!_pos h.tx[i].rd n (by omega)] at h5
            rw [getElem!_pos h.tx[i].rd (n + 1) hn]; omega
        have h5 := key 5 (by omega)
        rw [getElem!_pos h.tx[i].rd 5 (by omega)] at h5
        have := q1 _ (List.getElem_mem (show 5 < h.tx[i].rd.length by omega))
        omega
    · rcases Nat.lt_or_ge h.tx[i].ws.length 6 with g | g
      · omega
      · exfalso
        have h5 := wrsP_key h2 5 (by omega)
        rw [getElem!_pos h.tx[i].ws 5 (by omega)] at h5
        have := (w1 _ (List.getElem_mem (show 5 < h.tx[i].ws.length by omega))).1
        omega
  rcases hx with ⟨_, _, _, a, b⟩ | ⟨_, _, g⟩ | ⟨_, _, g⟩
  · exact ⟨by omega, by omega, fun w hw => by rw [List.eq_nil_of_length_eq_zero b] at hw; simp at hw⟩
  · exact sm _ g
  · exact sm _ g
