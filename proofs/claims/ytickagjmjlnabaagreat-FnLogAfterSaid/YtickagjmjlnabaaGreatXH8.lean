/- WALK of functions of the seat, or plain laws for it: each theorem f<k> says what function k returns, for every world and all arguments that stand for the values named. Conditions: none but those ahead of each theorem. -/
import Derived.Test.YtickagjmjlnabaaGreatXH5
open Go Go.Vm Go.Proofs
set_option maxRecDepth 100000
set_option maxHeartbeats 8000000
set_option linter.unusedSimpArgs false
set_option linter.unusedVariables false
theorem bestL_mem (ps : List Int) : ∀ (th : List Int) (b : Int), bestL ps th b = b ∨ bestL ps th b ∈ th
  | [], b => .inl rfl
  | t :: th, b => by
    simp only [bestL]
    rcases bestL_mem ps th (if ps[t.toNat]! > ps[b.toNat]! then t else b) with h | h
    · rw [h]
      split
      · exact .inr (List.mem_cons_self ..)
      · exact .inl rfl
    · exact .inr (List.mem_cons_of_mem _ h)
theorem riP_all {lo hi : Int} {xs : List Int} (h : riP lo hi xs) : ∀ x ∈ xs, lo ≤ x ∧ x ≤ hi := fun x hx => by
  obtain ⟨i, hi, rfl⟩ := List.mem_iff_getElem.1 hx
  have := riP_mem h hi
  rwa [getElem!_pos xs i hi] at this
theorem tkV_at {es : List En} {ps th : List Int} (h : ¬ tkV es ps th < 0) : tkV es ps th < ps.length ∧ 0 ≤ ps[(tkV es ps th).toNat]! ∧ ps[(tkV es ps th).toNat]! ≤ es.length := by
  have hT : toP es ps th := by
    by_cases hT : toP es ps th
    · exact hT
    · rw [tkV, if_neg hT] at h; omega
  rw [tkV, if_pos hT] at h ⊢
  obtain ⟨⟨h1, h2, h3⟩, h4, h5⟩ := hT
  have hm : bestL ps th th[0]! ∈ th := by
    rcases bestL_mem ps th th[0]! with e | e
    · rw [e, getElem!_pos th 0 (by omega)]; exact List.getElem_mem _
    · exact e
  have hr := riP_all h4 _ hm
  refine ⟨by omega, ?_⟩
  have hlt : (bestL ps th th[0]!).toNat < ps.length := by omega
  exact h3 _ (by rw [getElem!_pos ps _ hlt]; exact List.getElem_mem _)
def laV (es : List En) (ps th : List Int) : List En × Bool := if tkV es ps th < 0 then ([], false) else (es.take (ps[(tkV es ps th).toNat]!).toNat, true)
theorem f6 (es : List En) (c : Bool) (hl : es.length ≤ 1048576) (hs : ∀ e ∈ es, okE e) (hs2 : ∀ e ∈ es, smE e) (ps : List Int) (c2 : Bool) (hl2 : ps.length ≤ 1048576) (th : List Int) (c3 : Bool) (hl3 : th.length ≤ 1048576) :
    Fx 6 [.fro none c (es.map eA), .fro none c2 (ps.map iA), .fro none c3 (th.map iA)] (.tup [.own 2 ((laV es ps th).1.map eOO), .bool (laV es ps th).2]) := by
  refine fn_of true Tryz.func6 (by kernel_rfl) rfl (by kernel_rfl) (by kernel_rfl) (Nat.le_of_ble_eq_true rfl) rfl fun Q hQ => ?_
  simp only [vmA, Nat.reduceEqDiff, reduceIte, Nat.reduceAdd, Nat.reduceBEq, reduceCtorEq, Nat.reduceLT, Int.reduceLE, Int.reduceLT, Int.reduceEq, Nat.reduceMul, Nat.reduceLeDiff]
  refine callD (f19 es c (by omega) hs ps c2 (by omega) th c3 (by omega)) ?_
  simp only [vmA, Nat.reduceEqDiff, reduceIte, Nat.reduceAdd, Nat.reduceBEq, reduceCtorEq, Nat.reduceLT, Int.reduceLE, Int.reduceLT, Int.reduceEq, Nat.reduceMul, Nat.reduceLeDiff, List.length_map]
  refine ⟨fun h1 => ?_, fun h1 => ?_⟩
  · (refine hQ _ ?_; simp only [vmA, Nat.reduceEqDiff, reduceIte, Nat.reduceAdd, Nat.reduceBEq, reduceCtorEq, Nat.reduceLT, Int.reduceLE, Int.reduceLT, Int.reduceEq, Nat.reduceMul, Nat.reduceLeDiff, Tryz.f6, retG, resL, St.closeVs, St.closeV])
    rw [laV, if_pos h1]
    rfl
  · obtain ⟨h2, h3, h4⟩ := tkV_at h1
    refine ⟨by omega, by omega, ?_⟩
    refine ⟨⟨h3, h4⟩, ⟨fun z hz => ?_, ?_⟩⟩
    · obtain ⟨b, _, rfl⟩ := List.mem_map.1 hz; rfl
    simp only [vmA, Nat.reduceEqDiff, reduceIte, Nat.reduceAdd, Nat.reduceBEq, reduceCtorEq, Nat.reduceLT, Int.reduceLE, Int.reduceLT, Int.reduceEq, Nat.reduceMul, Nat.reduceLeDiff, Int.toNat_zero]
    rw [← List.map_take]
    refine callD (f20 _ _ (by simp; omega) fun e he => hs2 e (List.mem_of_mem_take he)) ?_
    simp only [vmA, Nat.reduceEqDiff, reduceIte, Nat.reduceAdd, Nat.reduceBEq, reduceCtorEq, Nat.reduceLT, Int.reduceLE, Int.reduceLT, Int.reduceEq, Nat.reduceMul, Nat.reduceLeDiff, List.length_map]
    (refine hQ _ ?_; simp only [vmA, Nat.reduceEqDiff, reduceIte, Nat.reduceAdd, Nat.reduceBEq, reduceCtorEq, Nat.reduceLT, Int.reduceLE, Int.reduceLT, Int.reduceEq, Nat.reduceMul, Nat.reduceLeDiff, Tryz.f6, retG, resL, St.closeVs, St.closeV, take_map_len])
    rw [laV, if_neg h1]
theorem f5 (es : List En) (c : Bool) (hl : es.length ≤ 1048576) (hs : ∀ e ∈ es, okE e) (hs2 : ∀ e ∈ es, smE e) (ps : List Int) (c2 : Bool) (hl2 : ps.length ≤ 1048576) (th : List Int) (c3 : Bool) (hl3 : th.length ≤ 1048576) :
    Fx 5 [.fro none c (es.map eA), .fro none c2 (ps.map iA), .fro none c3 (th.map iA)] (.tup [.own 2 ((laV es ps th).1.map eOO), .bool (laV es ps th).2]) := by
  refine FxR.weakR' (R := fun r l => (r = .tup [.own 2 ((laV es ps th).1.map eOO), .bool (laV es ps th).2] ∨ (laV es ps th = ([], false) ∧ r = .tup [.fro none true [], .bool false])) ∧ l = .und) ?_ ?_
  rotate_left
  · rintro _ _ ⟨rfl | ⟨h, rfl⟩, rfl⟩
    · exact ⟨_, ⟨rfl, rfl⟩, Weak.refl _⟩
    · exact ⟨_, ⟨rfl, rfl⟩, by rw [h]; exact weak_tup (.cons (weakV_nil 2) (.cons (WeakV.refl _) .nil))⟩
  refine fn_ofR true Tryz.func5 (by kernel_rfl) rfl (by kernel_rfl) (by kernel_rfl) (Nat.le_of_ble_eq_true rfl) rfl fun Q hQ => ?_
  simp only [vmA, Nat.reduceEqDiff, reduceIte, Nat.reduceAdd, Nat.reduceBEq, reduceCtorEq, Nat.reduceLT, Int.reduceLE, Int.reduceLT, Int.reduceEq, Nat.reduceMul, Nat.reduceLeDiff]
  refine callD (f17 es c (by omega) hs ps c2 (by omega) th c3 (by omega)) ?_
  simp only [vmA, Nat.reduceEqDiff, reduceIte, Nat.reduceAdd, Nat.reduceBEq, reduceCtorEq, Nat.reduceLT, Int.reduceLE, Int.reduceLT, Int.reduceEq, Nat.reduceMul, Nat.reduceLeDiff, List.length_map]
  refine ⟨fun h1 => ?_, fun h1 => ?_⟩
  · (refine hQ _ ?_; simp only [vmA, Nat.reduceEqDiff, reduceIte, Nat.reduceAdd, Nat.reduceBEq, reduceCtorEq, Nat.reduceLT, Int.reduceLE, Int.reduceLT, Int.reduceEq, Nat.reduceMul, Nat.reduceLeDiff, Tryz.f5, retG, resL, St.closeVs, St.closeV])
    exact .inr (by rw [laV, if_pos h1])
  · obtain ⟨h2, h3, h4⟩ := tkV_at h1
    refine ⟨by omega, by omega, ?_⟩
    refine ⟨⟨h3, h4⟩, ⟨fun z hz => ?_, ?_⟩⟩
    · obtain ⟨b, _, rfl⟩ := List.mem_map.1 hz; rfl
    simp only [vmA, Nat.reduceEqDiff, reduceIte, Nat.reduceAdd, Nat.reduceBEq, reduceCtorEq, Nat.reduceLT, Int.reduceLE, Int.reduceLT, Int.reduceEq, Nat.reduceMul, Nat.reduceLeDiff, Int.toNat_zero]
    rw [← List.map_take]
    refine callD (f18 _ _ (by simp; omega) fun e he => hs2 e (List.mem_of_mem_take he)) ?_
    simp only [vmA, Nat.reduceEqDiff, reduceIte, Nat.reduceAdd, Nat.reduceBEq, reduceCtorEq, Nat.reduceLT, Int.reduceLE, Int.reduceLT, Int.reduceEq, Nat.reduceMul, Nat.reduceLeDiff, List.length_map]
    (refine hQ _ ?_; simp only [vmA, Nat.reduceEqDiff, reduceIte, Nat.reduceAdd, Nat.reduceBEq, reduceCtorEq, Nat.reduceLT, Int.reduceLE, Int.reduceLT, Int.reduceEq, Nat.reduceMul, Nat.reduceLeDiff, Tryz.f5, retG, resL, St.closeVs, St.closeV, take_map_len])
    exact .inl (by rw [laV, if_neg h1])
