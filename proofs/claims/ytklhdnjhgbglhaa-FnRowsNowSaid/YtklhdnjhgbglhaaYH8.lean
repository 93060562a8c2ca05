/- WALK of functions of the seat, or plain laws for it: each theorem f<k> says what function k returns, for every world and all arguments that stand for the values named. Conditions: none but those ahead of each theorem. -/
import Derived.Test.YtklhdnjhgbglhaaYH7
import Derived.Test.YtklhdnjhgbglhaaYLib6
import Derived.Test.YtklhdnjhgbglhaaYH5
import Derived.Test.YtklhdnjhgbglhaaYP2
open Go Go.Vm Go.Proofs
set_option maxRecDepth 100000
set_option maxHeartbeats 8000000
set_option linter.unusedSimpArgs false
set_option linter.unusedVariables false
def zT : AV := .agg [.int .i64 0, .int .i64 0, .int .i64 0, .fro none true [], .fro none true []]
theorem f43 (n : Int) : Fx 43 [.int .i64 n] (.agg [.own 4 [], .int .i64 0, .own 5 [zT, zT, zT, zT]]) := by
  refine fn_of ⟨true, [], []⟩ Try.func43 (by kernel_rfl) rfl (by kernel_rfl) (by kernel_rfl) (Nat.le_of_ble_eq_true rfl) rfl fun Q hQ => ?_
  simp only [vmA, Nat.reduceEqDiff, reduceIte, Nat.reduceAdd, Nat.reduceBEq, reduceCtorEq, Nat.reduceLT, Int.reduceLE, Int.reduceLT, Int.reduceEq, Nat.reduceMul, Nat.reduceLeDiff, Option.bind_none]
  (refine hQ _ ?_; simp only [vmA, Nat.reduceEqDiff, reduceIte, Nat.reduceAdd, Nat.reduceBEq, reduceCtorEq, Nat.reduceLT, Int.reduceLE, Int.reduceLT, Int.reduceEq, Nat.reduceMul, Nat.reduceLeDiff, Try.f43, retG, resL, St.closeVs, St.closeV, Option.bind_none])
  rfl
/-- A house that is owned, with rows and writes that nobody turns any more. -/
def hF (h : Hs) : AV := .agg [.own 4 (h.vs.map gA), .int .i64 h.ck, .own 5 (h.tx.map xA)]
def zTx : Tx := ⟨0, 0, 0, [], []⟩
def newH : Hs := ⟨[], 0, [zTx, zTx, zTx, zTx]⟩
theorem f43F (n : Int) : FxR 43 [.int .i64 n] fun r l => r = hF newH ∧ l = .und := (f43 n).wkR fun r l ⟨h1, h2⟩ => by subst h1 h2; exact ⟨rfl, rfl⟩
theorem f70F (h : Hs) (h1 : h.vs.length ≤ 1048576) (h2 : ∀ v ∈ h.vs, v.row.length ≤ 1048576) (h3 : h.tx.length ≤ 1048576) (h4 : ∀ t ∈ h.tx, smX t) (h5 : 0 < h.tx.length) : FxR 70 [hA h] fun r l => r = hF h ∧ l = .und := by
  have h := f70 h h1 h2 h3 h4 h5
  refine FxR.mono (R := _) ⟨h.1, DoesR.froI h.2⟩ ?_
  rintro r l ⟨r0, ⟨rfl, rfl⟩, rfl⟩
  refine ⟨?_, rfl⟩
  simp only [hO2, hF, froI, froV, froIn, List.map_cons, List.map_nil, map_froize_gO, map_froize_xO]
theorem newH_ok : houseP newH := by
  refine ⟨⟨by decide, by intro i hi; exact absurd hi (Nat.not_lt_zero _)⟩, ⟨by decide, by decide⟩, by decide, rfl, fun i hi => ?_, fun i hi j hj => ?_⟩
  · have : newH.tx[i]! = zTx := by
      match i, hi with
      | 0, _ => rfl
      | 1, _ => rfl
      | 2, _ => rfl
      | 3, _ => rfl
    rw [this]
    exact .inl ⟨rfl, rfl, rfl, rfl, rfl⟩
  · have : newH.tx[i]! = zTx := by
      match i, hi with
      | 0, _ => rfl
      | 1, _ => rfl
      | 2, _ => rfl
      | 3, _ => rfl
    rw [this]
    intro ⟨a, _⟩
    exact absurd a (by decide)
