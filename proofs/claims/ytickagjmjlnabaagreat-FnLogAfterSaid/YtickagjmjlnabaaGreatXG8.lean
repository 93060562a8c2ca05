/- WALK of functions of the seat, or plain laws for it: each theorem f<k> says what function k returns, for every world and all arguments that stand for the values named. Conditions: none but those ahead of each theorem. -/
import Derived.Test.YtickagjmjlnabaaGreatXI1
import Derived.Test.YtickagjmjlnabaaGreatXG4
open Go Go.Vm Go.Proofs
set_option maxRecDepth 100000
set_option maxHeartbeats 8000000
set_option linter.unusedSimpArgs false
set_option linter.unusedVariables false
theorem f22 (v : Val) (hs : okV v) : Fx 22 [vA v] (.bool (decide (valP v))) := by
  refine fn_of false Tryz.func22 (by kernel_rfl) rfl (by kernel_rfl) (by kernel_rfl) (Nat.le_of_ble_eq_true rfl) rfl fun Q hQ => ?_
  simp only [vmA, Nat.reduceEqDiff, reduceIte, Nat.reduceAdd, Nat.reduceBEq, reduceCtorEq, Nat.reduceLT, Int.reduceLE, Int.reduceLT, Int.reduceEq, Nat.reduceMul, Nat.reduceLeDiff, vA]
  refine callD (f43 v hs) ?_
  simp only [vmA, Nat.reduceEqDiff, reduceIte, Nat.reduceAdd, Nat.reduceBEq, reduceCtorEq, Nat.reduceLT, Int.reduceLE, Int.reduceLT, Int.reduceEq, Nat.reduceMul, Nat.reduceLeDiff]
  (refine hQ _ ?_; simp only [vmA, Nat.reduceEqDiff, reduceIte, Nat.reduceAdd, Nat.reduceBEq, reduceCtorEq, Nat.reduceLT, Int.reduceLE, Int.reduceLT, Int.reduceEq, Nat.reduceMul, Nat.reduceLeDiff, Tryz.f22, retG, resL, St.closeVs, St.closeV])
theorem f8 : Fx 8 [] (.bool true) := by
  refine fn_of false Tryz.func8 (by kernel_rfl) rfl (by kernel_rfl) (by kernel_rfl) (Nat.le_of_ble_eq_true rfl) rfl fun Q hQ => ?_
  simp only [vmA, Nat.reduceEqDiff, reduceIte, Nat.reduceAdd, Nat.reduceBEq, reduceCtorEq, Nat.reduceLT, Int.reduceLE, Int.reduceLT, Int.reduceEq, Nat.reduceMul, Nat.reduceLeDiff]
  refine callD (f22 ⟨1, 3, ⟨⟨[]⟩⟩⟩ (Nat.zero_le _)) ?_
  have h1 : valP ⟨1, 3, ⟨⟨[]⟩⟩⟩ := by unfold valP; simp
  have h2 : ¬ valP ⟨9, 0, ⟨⟨[]⟩⟩⟩ := by unfold valP; simp
  simp only [vmA, Nat.reduceEqDiff, reduceIte, Nat.reduceAdd, Nat.reduceBEq, reduceCtorEq, Nat.reduceLT, Int.reduceLE, Int.reduceLT, Int.reduceEq, Nat.reduceMul, Nat.reduceLeDiff, decide_eq_true h1]
  refine callD (f22 ⟨9, 0, ⟨⟨[]⟩⟩⟩ (Nat.zero_le _)) ?_
  simp only [vmA, Nat.reduceEqDiff, reduceIte, Nat.reduceAdd, Nat.reduceBEq, reduceCtorEq, Nat.reduceLT, Int.reduceLE, Int.reduceLT, Int.reduceEq, Nat.reduceMul, Nat.reduceLeDiff, decide_eq_false h2]
  (refine hQ _ ?_; simp only [vmA, Nat.reduceEqDiff, reduceIte, Nat.reduceAdd, Nat.reduceBEq, reduceCtorEq, Nat.reduceLT, Int.reduceLE, Int.reduceLT, Int.reduceEq, Nat.reduceMul, Nat.reduceLeDiff, Tryz.f8, retG, resL, St.closeVs, St.closeV])
theorem cntG_zero {ps : List Int} (h : ∀ x ∈ ps, 0 ≤ x) : cntG ps 0 = ps.length := List.countP_eq_length.2 fun x hx => by simpa using h x hx
theorem bestUp_le (ps : List Int) : ∀ M, bestUp ps (M + 1) ≤ M
  | 0 => by rw [bestUp]; split <;> simp [bestUp]
  | M + 1 => by rw [bestUp]; split
                · omega
                · have := bestUp_le ps M; omega
theorem bestUp_maj {ps : List Int} (h0 : ps.length / 2 + 1 ≤ cntG ps 0) : ∀ M, ps.length / 2 + 1 ≤ cntG ps (bestUp ps M)
  | 0 => h0
  | M + 1 => by rw [bestUp]; split
                · assumption
                · exact bestUp_maj h0 M
theorem bestUp_max {ps : List Int} {m : Nat} (h : ps.length / 2 + 1 ≤ cntG ps m) : ∀ M, m < M → m ≤ bestUp ps M
  | 0, hm => by omega
  | M + 1, hm => by
    rw [bestUp]
    split
    · omega
    · rename_i hn
      have : m ≠ M := fun e => hn (e ▸ h)
      exact bestUp_max h M (by omega)
theorem cntG_set {ps : List Int} {i : Nat} {v : Int} (hi : i < ps.length) (hv : ps[i]! ≤ v) (m : Nat) : cntG ps m ≤ cntG (ps.set i v) m := by
  rw [getElem!_pos ps i hi] at hv
  unfold cntG
  conv => lhs; rw [← List.take_append_drop i ps, List.drop_eq_getElem_cons hi]
  rw [List.set_eq_take_append_cons_drop, if_pos hi, List.countP_append, List.countP_append, List.countP_cons, List.countP_cons]
  by_cases h : (m : Int) ≤ ps[i]
  · have : (m : Int) ≤ v := by omega
    simp [h, this]
  · simp only [decide_eq_true_eq, h, if_false]; split <;> omega
theorem settled_two {es : List En} {ps : List Int} (h : plP es ps) : ps.length < 2 * cntG ps (bestUp ps (es.length + 1)) ∧ 2 * cntG ps (bestUp ps (es.length + 1) + 1) ≤ ps.length := by
  obtain ⟨_, ⟨h1, _⟩, h2⟩ := h
  have h0 : ps.length / 2 + 1 ≤ cntG ps 0 := by rw [cntG_zero fun x hx => (h2 x hx).1]; omega
  have hm := bestUp_maj h0 (es.length + 1)
  refine ⟨by omega, ?_⟩
  by_cases hb : bestUp ps (es.length + 1) + 1 ≤ es.length
  · have : ¬ ps.length / 2 + 1 ≤ cntG ps (bestUp ps (es.length + 1) + 1) := fun hc => by
      have := bestUp_max hc (es.length + 1) (by omega)
      omega
    omega
  · have : cntG ps (bestUp ps (es.length + 1) + 1) = 0 := List.countP_eq_zero.2 fun x hx => by
      have := h2 x hx
      simp only [decide_eq_true_eq]
      omega
    omega
