/- WALK of functions of the seat, or plain laws for it: each theorem f<k> says what function k returns, for every world and all arguments that stand for the values named. Conditions: none but those ahead of each theorem. -/
import Derived.Test.YtickagjmjlnabaaGreatXN10
open Go Go.Vm Go.Proofs
set_option maxRecDepth 100000
set_option maxHeartbeats 8000000
set_option linter.unusedSimpArgs false
set_option linter.unusedVariables false
theorem runV_next (vs : List Ver) (es : List En) {j : Nat} (h : j < es.length) : runV vs (es.take (j + 1)) = wrV (runV vs (es.take j)) es[j]!.ws es[j]!.time := by
  rw [take_next es j h, runV_append]
  rfl
theorem run_at {es : List En} (ho : okL 0 es) (hl : es.length ≤ 12) {j : Nat} (h : j < es.length) : Good (lastT 0 (es.take j)) (runV [] (es.take j)) ∧ GoodW es[j]!.ws ∧ lastT 0 (es.take j) < es[j]!.time ∧ 1 ≤ es[j]!.time ∧ es[j]!.time ≤ 40 ∧ es[j]!.ws.length ≤ 5 ∧ (runV [] (es.take j)).length ≤ 5 * j := by
  have hs : es.take j ++ es.drop j = es := List.take_append_drop j es
  have ho' : okL 0 (es.take j ++ es.drop j) := by rw [hs]; exact ho
  obtain ⟨h1, h2⟩ := okL_append ho'
  have hlt : (es.take j).length = j := by simp; omega
  have g := run_good good_nil h1 (by simp; omega)
  rw [List.drop_eq_getElem_cons h, ← getElem!_pos es j h] at h2
  obtain ⟨a1, a2, a3, a4, a5, _⟩ := h2
  refine ⟨g.1, a4, a1, a2, a3, a5, ?_⟩
  have := g.2.1
  simp only [List.length_nil] at this
  omega
theorem run_all {es : List En} (ho : okL 0 es) (hl : es.length ≤ 12) : Good (lastT 0 es) (runV [] es) ∧ (runV [] es).length ≤ 60 := by
  have g := run_good good_nil ho (by simp; omega)
  exact ⟨g.1, by have := g.2.1; simp only [List.length_nil] at this; omega⟩
theorem WT_loopNR {C : Cfg} {D : Vm.Spec} {σ : St} {Q : Ex → St → Prop} {tq : Tag Q} {α : Type} (R : α → St → Prop) (m : α → Nat) {c : Code} (x : α) (s sz : Nat) (h0 : σ.sl s = .fro none true []) (h : R x (takeRes (some s) σ (.own sz []))) (hs : ∀ x σ, R x σ → WT C D c (fun e σ' => match e with | .normal => reown σ' s (fun σ0 => ∃ y, R y σ0 ∧ m y < m x) | e => Q e σ') σ ⟨⟩) : WT C D (.loop c) Q σ tq :=
  W_loop0 R m ⟨_, .inr (.inl ⟨s, sz, h0, rfl⟩), x, h⟩ fun x σ h => W_mono (fun e σ' hq => by
    cases e with
    | normal => exact reown_told hq
    | exit i => exact hq
    | ret => exact hq) (hs x σ h)
theorem hasFroL_vO (xs : List Val) : hasFro.hasFroL (xs.map vA) = false := by
  induction xs with
  | nil => rfl
  | cons x xs ih => simp only [List.map_cons, hasFro.hasFroL, ih]; rfl
theorem hasFroL_gO (xs : List Ver) : hasFro.hasFroL (xs.map gO) = false := by
  induction xs with
  | nil => rfl
  | cons x xs ih => simp only [List.map_cons, hasFro.hasFroL, ih, gO, hasFro, hasFroL_vO]; rfl
theorem f30 (es : List En) (c : Bool) (ho : okL 0 es) (hl : es.length ≤ 12) : Fx 30 [.fro none true [], .fro none c (es.map eA)] (.own 4 ((runV [] es).map gO)) := by
  refine fn_of ⟨true, [], []⟩ Tryz.func30 (by kernel_rfl) rfl (by kernel_rfl) (by kernel_rfl) (Nat.le_of_ble_eq_true rfl) rfl fun Q hQ => ?_
  simp only [vmA, Nat.reduceEqDiff, reduceIte, Nat.reduceAdd, Nat.reduceBEq, reduceCtorEq, Nat.reduceLT, Int.reduceLE, Int.reduceLT, Int.reduceEq, Nat.reduceMul, Nat.reduceLeDiff, List.length_map]
  refine WT_loopNR (fun (y : Nat × Nat) σ => y.1 ≤ es.length ∧ σ.sl 7 = .fro none c (es.map eA) ∧ σ.sl 8 = .int .i64 es.length ∧ σ.sl 9 = .int .i64 y.1 ∧ σ.sl 0 = .hd 0 y.2 0 (runV [] (es.take y.1)).length false ∧ (σ.en 0).live = true ∧ (σ.en 0).gen = y.2 ∧ (σ.en 0).frz = false ∧ (σ.en 0).sz = 4 ∧ (σ.en 0).elems = (runV [] (es.take y.1)).map gO) (fun y => es.length - y.1) (0, 1) 0 4 (by simp [put_sl, put_en, put_none, init_sl, fresh_sl, fresh_en, ent_sl, ent_en, init_en]) (by simp [put_sl, put_en, put_none, init_sl, fresh_sl, fresh_en, ent_sl, ent_en, init_en, takeRes, takeV, takeLeaf, eid, List.take_zero, runV]) ?_
  rintro ⟨j, γ⟩ σ ⟨hj, e7, e8, e9, o1, o2, o3, o4, o5, o6⟩
  dsimp only at hj e9 o1 o3 o6
  simp only [vmA, Nat.reduceEqDiff, reduceIte, Nat.reduceAdd, Nat.reduceBEq, reduceCtorEq, Nat.reduceLT, Int.reduceLE, Int.reduceLT, Int.reduceEq, Nat.reduceMul, Nat.reduceLeDiff, e7, e8, e9, o1, o2, o3, o4, o5, o6, List.length_map, eA, Option.bind_none]
  refine ⟨fun hlt => ⟨hlt, by omega, ?_⟩, fun hge => ?_⟩
  · obtain ⟨a1, a2, a3, a4, a5, a6, a7⟩ := run_at ho hl (j := j) (by omega)
    rw [map_froize_gO]
    refine callD (f53 _ _ _ _ _ _ a1 a2 a3 a4 a5 a6 (by omega)) ?_
    simp only [vmA, Nat.reduceEqDiff, reduceIte, Nat.reduceAdd, Nat.reduceBEq, reduceCtorEq, Nat.reduceLT, Int.reduceLE, Int.reduceLT, Int.reduceEq, Nat.reduceMul, Nat.reduceLeDiff, e7, e8, e9, o1, o2, o3, o4, o5, o6, List.length_map, eA, Option.bind_none, reown, behind_nf, hasFro, hasFroL_gO]
    have hr := runV_next [] es (show j < es.length by omega)
    rw [wr (by omega)]
    refine ⟨(j + 1, γ + 1), ⟨by dsimp only; omega, rfl, ?_⟩, by dsimp only; omega⟩
    dsimp only
    rw [hr]
    exact ⟨rfl, rfl, rfl⟩
  · obtain rfl : j = es.length := by omega
    rw [List.take_length, map_froize_gO]
    have hg := run_all ho hl
    refine callD (f54 _ _ (by omega) fun v hv => by have := (hg.1.one v hv).row.1; omega) ?_
    simp only [vmA, Nat.reduceEqDiff, reduceIte, Nat.reduceAdd, Nat.reduceBEq, reduceCtorEq, Nat.reduceLT, Int.reduceLE, Int.reduceLT, Int.reduceEq, Nat.reduceMul, Nat.reduceLeDiff, e7, e8, e9, o1, o2, o3, o4, o5, o6, List.length_map, behind_nf, hasFro, hasFroL_gO]
    (refine hQ _ ?_; simp only [vmA, Nat.reduceEqDiff, reduceIte, Nat.reduceAdd, Nat.reduceBEq, reduceCtorEq, Nat.reduceLT, Int.reduceLE, Int.reduceLT, Int.reduceEq, Nat.reduceMul, Nat.reduceLeDiff, Tryz.f30, retG, resL, St.closeVs, St.closeV, e7, e8, e9, o1, o2, o3, o4, o5, o6, List.length_map])
theorem f12 (es : List En) (c : Bool) (hp : logP es) (hs : ∀ e ∈ es, okE e) : Fx 12 [.fro none c (es.map eA)] (.own 4 ((runV [] es).map gO)) := by
  refine fn_of ⟨true, [], []⟩ Tryz.func12 (by kernel_rfl) rfl (by kernel_rfl) (by kernel_rfl) (Nat.le_of_ble_eq_true rfl) rfl fun Q hQ => ?_
  simp only [vmA, Nat.reduceEqDiff, reduceIte, Nat.reduceAdd, Nat.reduceBEq, reduceCtorEq, Nat.reduceLT, Int.reduceLE, Int.reduceLT, Int.reduceEq, Nat.reduceMul, Nat.reduceLeDiff]
  have hl := hp.1
  refine callD (f13 es c (by omega) hs) ?_
  simp only [vmA, Nat.reduceEqDiff, reduceIte, Nat.reduceAdd, Nat.reduceBEq, reduceCtorEq, Nat.reduceLT, Int.reduceLE, Int.reduceLT, Int.reduceEq, Nat.reduceMul, Nat.reduceLeDiff, decide_eq_true hp]
  refine callD (f30 es c (logP_okL hp hs) hl) ?_
  simp only [vmA, Nat.reduceEqDiff, reduceIte, Nat.reduceAdd, Nat.reduceBEq, reduceCtorEq, Nat.reduceLT, Int.reduceLE, Int.reduceLT, Int.reduceEq, Nat.reduceMul, Nat.reduceLeDiff]
  (refine hQ _ ?_; simp only [vmA, Nat.reduceEqDiff, reduceIte, Nat.reduceAdd, Nat.reduceBEq, reduceCtorEq, Nat.reduceLT, Int.reduceLE, Int.reduceLT, Int.reduceEq, Nat.reduceMul, Nat.reduceLeDiff, Tryz.f12, retG, resL, St.closeVs, St.closeV])
