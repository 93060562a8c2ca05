/- WALK of functions of the seat, or plain laws for it: each theorem f<k> says what function k returns, for every world and all arguments that stand for the values named. Conditions: none but those ahead of each theorem. -/
import Derived.Test.YtickagjmjlnabaaGreatXN11
open Go Go.Vm Go.Proofs
set_option maxRecDepth 100000
set_option maxHeartbeats 8000000
set_option linter.unusedSimpArgs false
set_option linter.unusedVariables false
namespace Go.Vm
section
variable {C : Cfg} {F : Nat → Prop} {w : World}
theorem ValRep.froz {v : Value} {x : AV} {f : List Nat} (h : ValRep F w v x f) : ValRep (fun b => F b ∨ b ∈ f) w v (froize x) [] := by
  cases x with
  | agg fs => obtain ⟨cs, e, h⟩ := h; exact ⟨cs, e, by rw [froizeL_eq]; exact h.froized⟩
  | _ => exact (show RepL F w [v] [_] f from h).froized
theorem ValsRep.froz {vs : List Value} {xs : List AV} {f : List Nat} (h : ValsRep F w vs xs f) : ValsRep (fun b => F b ∨ b ∈ f) w vs (xs.map froize) [] := by
  induction h with
  | nil => exact .nil
  | cons h1 h2 ih => exact .cons (f1 := []) (f2 := []) (h1.froz.mono (fun b h => h.imp id fun h => by simp [h]) fun _ _ => rfl) (ih.mono (fun b h => h.imp id fun h => by simp [h]) fun _ _ => rfl)
/-- What is told in a tuple may be told as what nobody writes. -/
theorem DoesR.froz {f : Nat} {args : List AV} {R : List AV → Prop} (hw : C.wrt f = none) (h : DoesR C f args fun r l => ∃ xs, R xs ∧ r = .tup xs ∧ l = .und) : DoesR C f args fun r l => ∃ xs, R xs ∧ r = .tup (xs.map froize) ∧ l = .und := fun w F vals gs h1 h2 h3 h4 =>
  (h w F vals gs h1 h2 h3 h4).mono fun _ _ ⟨v, F', g, gs', res, left, ⟨xs, hr, e1, e2⟩, he, hk, hf, hf', hg, hnd, hres, hl⟩ => by
    subst e1 e2
    obtain ⟨us, e, hv⟩ := hres
    refine ⟨v, fun b => F' b ∨ b ∈ g, [], [], .tup (xs.map froize), .und, ⟨xs, hr, rfl, rfl⟩, he, hk, fun b hb => .inl (hf b hb), fun b hb => ?_, by simp, by simp, ⟨us, e, hv.froz⟩, by simp only [LeftRep, hw]⟩
    rcases hb with hb | hb
    · exact hf' b hb
    · have := hg b (by simp [hb])
      exact ⟨this.2.2, .inr this.2.1⟩
end
end Go.Vm
theorem f4z (xs : List UInt8) (hl : xs.length ≤ 9223372036854775807) : FxR 4 [.fro none false (xs.map bA)] fun r l => ∃ (es : List En) (ns th : List Int), r = .tup [.fro none false (es.map eA), .fro none false (ns.map iA), .fro none false (th.map iA)] ∧ es.length ≤ 6 ∧ (∀ e ∈ es, okE e) ∧ ns.length ≤ 10 ∧ th.length ≤ 11 ∧ l = .und := by
  have h := (f4 xs hl).mono (R' := fun r l => ∃ zs, (∃ (es : List En) (ns th : List Int), zs = [.own 2 (es.map eO), .own 1 (ns.map iA), .own 1 (th.map iA)] ∧ es.length ≤ 6 ∧ (∀ e ∈ es, okE e) ∧ ns.length ≤ 10 ∧ th.length ≤ 11) ∧ r = .tup zs ∧ l = .und) fun r l ⟨es, ns, th, e, h1, h2, h3, h4, e2⟩ => ⟨_, ⟨es, ns, th, rfl, h1, h2, h3, h4⟩, e, e2⟩
  refine FxR.mono (R := _) ⟨h.1, DoesR.froz rfl h.2⟩ ?_
  rintro r l ⟨_, ⟨es, ns, th, rfl, h1, h2, h3, h4⟩, rfl, rfl⟩
  refine ⟨es, ns, th, ?_, h1, h2, h3, h4, rfl⟩
  have e1 : (ns.map iA).map froize = ns.map iA := by simp [froize]
  have e2 : (th.map iA).map froize = th.map iA := by simp [froize]
  simp only [List.map_cons, List.map_nil, froize, froizeL_eq, map_froize_eO, e1, e2]
theorem logP_smE {es : List En} (h : logP es) : ∀ e ∈ es, smE e := fun e he => by
  obtain ⟨i, hi, rfl⟩ := List.mem_iff_getElem.1 he
  have h1 := (h.2 i hi).2.1
  rw [getElem!_pos es i hi] at h1
  refine ⟨by have := wrsP_len h1; omega, fun w hw => ?_⟩
  obtain ⟨j, hj, rfl⟩ := List.mem_iff_getElem.1 hw
  have h2 := (h1 j hj).2.1.1
  rw [getElem!_pos _ j hj] at h2
  omega
theorem tk_top {es : List En} {ps th : List Int} (h : ¬ tkV es ps th < 0) : toP es ps th := Classical.byContradiction fun hT => by
  rw [tkV, if_neg hT] at h
  omega
theorem f5s (es : List En) (c : Bool) (hl : es.length ≤ 1048576) (hs : ∀ e ∈ es, okE e) (ps : List Int) (c2 : Bool) (hl2 : ps.length ≤ 1048576) (th : List Int) (c3 : Bool) (hl3 : th.length ≤ 1048576) :
    Fx 5 [.fro none c (es.map eA), .fro none c2 (ps.map iA), .fro none c3 (th.map iA)] (.tup [.own 2 ((laV es ps th).1.map eOO), .bool (laV es ps th).2]) := by
  by_cases hT : tkV es ps th < 0
  · refine FxR.weakR' (R := fun r l => (r = .tup [.own 2 ((laV es ps th).1.map eOO), .bool (laV es ps th).2] ∨ (laV es ps th = ([], false) ∧ r = .tup [.fro none true [], .bool false])) ∧ l = .und) ?_ ?_
    rotate_left
    · rintro _ _ ⟨rfl | ⟨h, rfl⟩, rfl⟩
      · exact ⟨_, ⟨rfl, rfl⟩, Weak.refl _⟩
      · exact ⟨_, ⟨rfl, rfl⟩, by rw [h]; exact weak_tup (.cons (weakV_nil 2) (.cons (WeakV.refl _) .nil))⟩
    refine fn_ofR true Tryz.func5 (by kernel_rfl) rfl (by kernel_rfl) (by kernel_rfl) (Nat.le_of_ble_eq_true rfl) rfl fun Q hQ => ?_
    simp only [vmA, Nat.reduceEqDiff, reduceIte, Nat.reduceAdd, Nat.reduceBEq, reduceCtorEq, Nat.reduceLT, Int.reduceLE, Int.reduceLT, Int.reduceEq, Nat.reduceMul, Nat.reduceLeDiff]
    refine callD (f17 es c (by omega) hs ps c2 (by omega) th c3 (by omega)) ?_
    simp only [vmA, Nat.reduceEqDiff, reduceIte, Nat.reduceAdd, Nat.reduceBEq, reduceCtorEq, Nat.reduceLT, Int.reduceLE, Int.reduceLT, Int.reduceEq, Nat.reduceMul, Nat.reduceLeDiff, List.length_map]
    refine ⟨fun h1 => ?_, fun h1 => absurd hT h1⟩
    (refine hQ _ ?_; simp only [vmA, Nat.reduceEqDiff, reduceIte, Nat.reduceAdd, Nat.reduceBEq, reduceCtorEq, Nat.reduceLT, Int.reduceLE, Int.reduceLT, Int.reduceEq, Nat.reduceMul, Nat.reduceLeDiff, Tryz.f5, retG, resL, St.closeVs, St.closeV])
    exact .inr (by rw [laV, if_pos h1])
  · exact f5 es c hl hs (logP_smE (tk_top hT).1.1) ps c2 hl2 th c3 hl3
theorem f6s (es : List En) (c : Bool) (hl : es.length ≤ 1048576) (hs : ∀ e ∈ es, okE e) (ps : List Int) (c2 : Bool) (hl2 : ps.length ≤ 1048576) (th : List Int) (c3 : Bool) (hl3 : th.length ≤ 1048576) :
    Fx 6 [.fro none c (es.map eA), .fro none c2 (ps.map iA), .fro none c3 (th.map iA)] (.tup [.own 2 ((laV es ps th).1.map eOO), .bool (laV es ps th).2]) := by
  by_cases hT : tkV es ps th < 0
  · refine fn_of true Tryz.func6 (by kernel_rfl) rfl (by kernel_rfl) (by kernel_rfl) (Nat.le_of_ble_eq_true rfl) rfl fun Q hQ => ?_
    simp only [vmA, Nat.reduceEqDiff, reduceIte, Nat.reduceAdd, Nat.reduceBEq, reduceCtorEq, Nat.reduceLT, Int.reduceLE, Int.reduceLT, Int.reduceEq, Nat.reduceMul, Nat.reduceLeDiff]
    refine callD (f19 es c (by omega) hs ps c2 (by omega) th c3 (by omega)) ?_
    simp only [vmA, Nat.reduceEqDiff, reduceIte, Nat.reduceAdd, Nat.reduceBEq, reduceCtorEq, Nat.reduceLT, Int.reduceLE, Int.reduceLT, Int.reduceEq, Nat.reduceMul, Nat.reduceLeDiff, List.length_map]
    refine ⟨fun h1 => ?_, fun h1 => absurd hT h1⟩
    (refine hQ _ ?_; simp only [vmA, Nat.reduceEqDiff, reduceIte, Nat.reduceAdd, Nat.reduceBEq, reduceCtorEq, Nat.reduceLT, Int.reduceLE, Int.reduceLT, Int.reduceEq, Nat.reduceMul, Nat.reduceLeDiff, Tryz.f6, retG, resL, St.closeVs, St.closeV])
    rw [laV, if_pos h1]
    rfl
  · exact f6 es c hl hs (logP_smE (tk_top hT).1.1) ps c2 hl2 th c3 hl3
theorem logP_take {es : List En} (h : logP es) (m : Nat) : logP (es.take m) := by
  refine ⟨by simp; have := h.1; omega, fun i hi => ?_⟩
  simp at hi
  have h1 := h.2 i (by omega)
  have e1 : ∀ k, k ≤ i → (es.take m)[k]! = es[k]! := fun k hk => by
    rw [getElem!_pos _ k (by simp; omega), getElem!_pos es k (by omega), List.getElem_take]
  unfold lOkAt at *
  rw [e1 i (Nat.le_refl _), e1 (i - 1) (by omega)]
  exact h1
theorem hasFroL_wO (xs : List Wr) : hasFro.hasFroL (xs.map wO) = false := by
  induction xs with
  | nil => rfl
  | cons x xs ih => simp only [List.map_cons, hasFro.hasFroL, ih, wO, hasFro, hasFroL_vO]; rfl
theorem hasFroL_eOO (xs : List En) : hasFro.hasFroL (xs.map eOO) = false := by
  induction xs with
  | nil => rfl
  | cons x xs ih => simp only [List.map_cons, hasFro.hasFroL, ih, eOO, hasFro, hasFroL_wO]; rfl
theorem f3 (xs : List UInt8) (hl : xs.length ≤ 9223372036854775807) : Fx 3 [.fro none false (xs.map bA)] (.bool true) := by
  refine fn_ofX ⟨false, [], [(16, [], [0, 2, 3, 4, 5, 6, 8, 10, 11, 12, 13, 14, 1, 7, 9, 15, 16, 17])]⟩ Tryz.func3 (by kernel_rfl) rfl (by kernel_rfl) (by kernel_rfl) (Nat.le_of_ble_eq_true rfl) rfl fun Q hQ => ?_
  simp only [tr_seq, tr_block, tr_loop, tr_cond, tr_skip, tr_exit, tr_ret, tr_reg]
  rw [tr_any 16 [(0, [], 0), (0, [], 2), (0, [], 3), (0, [], 4), (0, [], 5), (0, [], 6), (0, [], 8), (0, [], 10), (0, [], 11), (0, [], 12), (0, [], 13), (0, [], 14), (1, [0, 2, 3, 4, 5, 6, 8, 10, 11, 12, 13, 14], 1), (1, [2, 3, 4, 5, 6, 8, 10, 11, 12, 13, 14], 7), (1, [8, 10, 11, 12, 13, 14], 9), (1, [10, 11, 12, 13, 14], 15), (1, [], 16), (0, [], 17), (2, [17], 0)] (by kernel_rfl)]
  simp only [codeA_nil, codeA_look, codeA_hard, codeA_fin, pickL, List.getElem?_toArray, List.getElem?_cons_zero, List.getElem?_cons_succ]
  simp only [vmA, Nat.reduceEqDiff, reduceIte, Nat.reduceAdd, Nat.reduceBEq, reduceCtorEq, Nat.reduceLT, Int.reduceLE, Int.reduceLT, Int.reduceEq, Nat.reduceMul, Nat.reduceLeDiff, List.length_map]
  refine ⟨fun h => ?_, fun h => callR (f4z xs hl) ?_⟩
  · (refine hQ _ ?_; simp only [vmA, Nat.reduceEqDiff, reduceIte, Nat.reduceAdd, Nat.reduceBEq, reduceCtorEq, Nat.reduceLT, Int.reduceLE, Int.reduceLT, Int.reduceEq, Nat.reduceMul, Nat.reduceLeDiff, Tryz.f3, retG, resL, St.closeVs, St.closeV])
  rintro _ _ ⟨es, ns, th, rfl, h1, h2, h3, h4, rfl⟩
  simp only [vmA, Nat.reduceEqDiff, reduceIte, Nat.reduceAdd, Nat.reduceBEq, reduceCtorEq, Nat.reduceLT, Int.reduceLE, Int.reduceLT, Int.reduceEq, Nat.reduceMul, Nat.reduceLeDiff, List.length_map, map_froize_eO, map_froize_eOO, behind_nf, hasFro, hasFro.hasFroL, hasFroL_eOO, Bool.or_self]
  refine callD (f5s es false (by omega) h2 ns false (by omega) th false (by omega)) ?_
  simp only [vmA, Nat.reduceEqDiff, reduceIte, Nat.reduceAdd, Nat.reduceBEq, reduceCtorEq, Nat.reduceLT, Int.reduceLE, Int.reduceLT, Int.reduceEq, Nat.reduceMul, Nat.reduceLeDiff, List.length_map, map_froize_eO, map_froize_eOO, behind_nf, hasFro, hasFro.hasFroL, hasFroL_eOO, Bool.or_self]
  refine callD (f6s es false (by omega) h2 ns false (by omega) th false (by omega)) ?_
  simp only [vmA, Nat.reduceEqDiff, reduceIte, Nat.reduceAdd, Nat.reduceBEq, reduceCtorEq, Nat.reduceLT, Int.reduceLE, Int.reduceLT, Int.reduceEq, Nat.reduceMul, Nat.reduceLeDiff, List.length_map, map_froize_eO, map_froize_eOO, behind_nf, hasFro, hasFro.hasFroL, hasFroL_eOO, Bool.or_self]
  by_cases hT : tkV es ns th < 0
  · have hla : laV es ns th = ([], false) := by rw [laV, if_pos hT]
    rw [hla]
    dsimp only
    refine callD (f7 [] false false (by simp) (fun e he => by simp at he)) ?_
    simp only [vmA, Nat.reduceEqDiff, reduceIte, Nat.reduceAdd, Nat.reduceBEq, reduceCtorEq, Nat.reduceLT, Int.reduceLE, Int.reduceLT, Int.reduceEq, Nat.reduceMul, Nat.reduceLeDiff, List.length_map, map_froize_eO, map_froize_eOO, behind_nf, hasFro, hasFro.hasFroL, hasFroL_eOO, Bool.or_self]
    refine callD f8 ?_
    simp only [vmA, Nat.reduceEqDiff, reduceIte, Nat.reduceAdd, Nat.reduceBEq, reduceCtorEq, Nat.reduceLT, Int.reduceLE, Int.reduceLT, Int.reduceEq, Nat.reduceMul, Nat.reduceLeDiff]
    (refine hQ _ ?_; simp only [vmA, Nat.reduceEqDiff, reduceIte, Nat.reduceAdd, Nat.reduceBEq, reduceCtorEq, Nat.reduceLT, Int.reduceLE, Int.reduceLT, Int.reduceEq, Nat.reduceMul, Nat.reduceLeDiff, Tryz.f3, retG, resL, St.closeVs, St.closeV])
  · obtain ⟨M, hM⟩ : ∃ M, (ns[(tkV es ns th).toNat]!).toNat = M := ⟨_, rfl⟩
    have hla : laV es ns th = (es.take M, true) := by rw [laV, if_neg hT, hM]
    have ht := tk_top hT
    have hp := ht.1
    have hlg := hp.1
    have hat := tkV_at hT
    have hMl : M ≤ es.length := by omega
    have hsm := logP_smE hlg
    have hv : stV es ns = (bestUp ns (es.length + 1) : Nat) := by rw [stV, if_pos hp]
    have hbu := settled_le ht
    have htl : (es.take M).length = M := by simp; omega
    rw [hla]
    dsimp only
    refine callD (f7 (es.take M) false false (by omega) (fun e he => hsm e (List.mem_of_mem_take he))) ?_
    simp only [vmA, Nat.reduceEqDiff, reduceIte, Nat.reduceAdd, Nat.reduceBEq, reduceCtorEq, Nat.reduceLT, Int.reduceLE, Int.reduceLT, Int.reduceEq, Nat.reduceMul, Nat.reduceLeDiff, List.length_map, map_froize_eO, map_froize_eOO, behind_nf, hasFro, hasFro.hasFroL, hasFroL_eOO, Bool.or_self]
    refine callD (f9 es false (by omega) h2 ns false (by omega)) ?_
    rw [hv]
    generalize bestUp ns (es.length + 1) = v at hbu hv
    have hvM : v ≤ M := by omega
    simp only [vmA, Nat.reduceEqDiff, reduceIte, Nat.reduceAdd, Nat.reduceBEq, reduceCtorEq, Nat.reduceLT, Int.reduceLE, Int.reduceLT, Int.reduceEq, Nat.reduceMul, Nat.reduceLeDiff, List.length_map, map_froize_eO, map_froize_eOO, behind_nf, hasFro, hasFro.hasFroL, hasFroL_eOO, Bool.or_self, htl]
    refine ⟨fun z => absurd z (by omega), fun _ => ⟨fun z => absurd z (by omega), fun _ => ⟨by omega, ?_⟩⟩⟩
    have hsz : ∀ y ∈ es.map eA, (leaves y).length = 2 := fun y hy => by obtain ⟨b, _, rfl⟩ := List.mem_map.1 hy; rfl
    have hdr : List.drop (Int.toNat 0) (List.take M (es.map eA)) = (es.take M).map eA := by rw [List.map_take]; rfl
    rw [hdr]
    refine ⟨hsz, fun z hz => by obtain ⟨b, _, rfl⟩ := List.mem_map.1 hz; rfl, (by simp only [List.length_map, htl]; omega), ?_⟩
    have hto : List.take M ((es.take M).map eOO) = (es.take M).map eOO := List.take_of_length_le (by rw [List.length_map]; omega)
    by_cases hM0 : M = 0
    · subst hM0
      simp only [vmA, Nat.reduceEqDiff, reduceIte, Nat.reduceAdd, Nat.reduceBEq, reduceCtorEq, Nat.reduceLT, Int.reduceLE, Int.reduceLT, Int.reduceEq, Nat.reduceMul, Nat.reduceLeDiff, List.length_map, map_froize_eO, map_froize_eOO, behind_nf, hasFro, hasFro.hasFroL, hasFroL_eOO, Bool.or_self, List.take_zero, List.map_nil]
      refine callD (f7 [] false true (by simp) (fun e he => by simp at he)) ?_
      simp only [vmA, Nat.reduceEqDiff, reduceIte, Nat.reduceAdd, Nat.reduceBEq, reduceCtorEq, Nat.reduceLT, Int.reduceLE, Int.reduceLT, Int.reduceEq, Nat.reduceMul, Nat.reduceLeDiff, List.length_map, map_froize_eO, map_froize_eOO, behind_nf, hasFro, hasFro.hasFroL, hasFroL_eOO, Bool.or_self]
      refine WT_loop (fun (k : Nat) σ => (k = 0) ∧ σ.sl 11 = .int .i64 k ∧ σ.sl 10 = .int .i64 v ∧ σ.sl 6 = .hd 1600 1 0 0 false ∧ (σ.en 1600).live = true ∧ (σ.en 1600).gen = 1 ∧ (σ.en 1600).frz = false ∧ (σ.en 1600).sz = 2 ∧ (σ.en 1600).elems = []) (fun k => 0) (0) ⟨rfl, by simp [put_sl, put_en, put_none, init_sl, fresh_sl, fresh_en, ent_sl, ent_en, init_en], by simp [put_sl, put_en, put_none, init_sl, fresh_sl, fresh_en, ent_sl, ent_en, init_en], by simp [put_sl, put_en, put_none, init_sl, fresh_sl, fresh_en, ent_sl, ent_en, init_en], by simp [put_sl, put_en, put_none, init_sl, fresh_sl, fresh_en, ent_sl, ent_en, init_en], by simp [put_sl, put_en, put_none, init_sl, fresh_sl, fresh_en, ent_sl, ent_en, init_en], by simp [put_sl, put_en, put_none, init_sl, fresh_sl, fresh_en, ent_sl, ent_en, init_en], by simp [put_sl, put_en, put_none, init_sl, fresh_sl, fresh_en, ent_sl, ent_en, init_en], by simp [put_sl, put_en, put_none, init_sl, fresh_sl, fresh_en, ent_sl, ent_en, init_en]⟩ ?_
      rintro k σ ⟨hk, e11, e10, e6, m1600a, m1600b, m1600c, m1600d, m1600e⟩
      simp only [vmA, Nat.reduceEqDiff, reduceIte, Nat.reduceAdd, Nat.reduceBEq, reduceCtorEq, Nat.reduceLT, Int.reduceLE, Int.reduceLT, Int.reduceEq, Nat.reduceMul, Nat.reduceLeDiff, e11, e10, e6, m1600a, m1600b, m1600c, m1600d, m1600e, List.length_map, map_froize_eO, map_froize_eOO, behind_nf, hasFro, hasFro.hasFroL, hasFroL_eOO, Bool.or_self]
      refine ⟨fun z => absurd z (by omega), fun _ => ?_⟩
      refine callD (f13 [] false (by simp) (fun e he => by simp at he)) ?_
      have h0 : logP [] := logP_take hlg 0
      simp only [vmA, Nat.reduceEqDiff, reduceIte, Nat.reduceAdd, Nat.reduceBEq, reduceCtorEq, Nat.reduceLT, Int.reduceLE, Int.reduceLT, Int.reduceEq, Nat.reduceMul, Nat.reduceLeDiff, h0]
      refine callD f8 ?_
      simp only [vmA, Nat.reduceEqDiff, reduceIte, Nat.reduceAdd, Nat.reduceBEq, reduceCtorEq, Nat.reduceLT, Int.reduceLE, Int.reduceLT, Int.reduceEq, Nat.reduceMul, Nat.reduceLeDiff]
      (refine hQ _ ?_; simp only [vmA, Nat.reduceEqDiff, reduceIte, Nat.reduceAdd, Nat.reduceBEq, reduceCtorEq, Nat.reduceLT, Int.reduceLE, Int.reduceLT, Int.reduceEq, Nat.reduceMul, Nat.reduceLeDiff, Tryz.f3, retG, resL, St.closeVs, St.closeV])
    · have hne : ¬ (es.take M).map eA = [] := fun h => hM0 (by have := congrArg List.length h; rwa [List.length_map, htl, List.length_nil] at this)
      simp only [vmA, Nat.reduceEqDiff, reduceIte, Nat.reduceAdd, Nat.reduceBEq, reduceCtorEq, Nat.reduceLT, Int.reduceLE, Int.reduceLT, Int.reduceEq, Nat.reduceMul, Nat.reduceLeDiff, List.length_map, map_froize_eO, map_froize_eOO, behind_nf, hasFro, hasFro.hasFroL, hasFroL_eOO, Bool.or_self, hne, if_false, hto]
      refine ⟨by omega, ?_⟩
      refine callD (f7 (es.take M) false false (by omega) (fun e he => hsm e (List.mem_of_mem_take he))) ?_
      simp only [vmA, Nat.reduceEqDiff, reduceIte, Nat.reduceAdd, Nat.reduceBEq, reduceCtorEq, Nat.reduceLT, Int.reduceLE, Int.reduceLT, Int.reduceEq, Nat.reduceMul, Nat.reduceLeDiff, List.length_map, map_froize_eO, map_froize_eOO, behind_nf, hasFro, hasFro.hasFroL, hasFroL_eOO, Bool.or_self, htl]
      have hoL := logP_okL hlg h2
      have hrun : ∀ k, k < M → rowsT (runV [] es) es[k]!.time 5 = rowsT (runV [] (es.take M)) es[k]!.time 5 := fun k hk => run_take hoL hlg.1 hMl hk
      have hos : ∀ e ∈ es.take M, okE e := fun e he => h2 e (List.mem_of_mem_take he)
      have g1 := run_all (logP_okL (logP_take hlg M) hos) (by have := hlg.1; omega)
      have g2 := run_all hoL hlg.1
      have hrl : ∀ (vs : List Ver) (T t : Int), Good T vs → (rowsT vs t 5).length ≤ 5 ∧ ∀ w ∈ rowsT vs t 5, w.length ≤ 1048576 := fun vs T t hg => by
        unfold rowsT
        refine ⟨Nat.le_trans (List.length_filterMap_le _ _) (by simp), fun w hw => ?_⟩
        obtain ⟨k, _, hk⟩ := List.mem_filterMap.1 hw
        obtain ⟨v, hv, rfl⟩ := Option.map_eq_some_iff.1 hk
        have := (hg.one v (List.mem_of_find?_eq_some hv)).row.1
        omega
      refine WT_loop (fun (k : Nat) σ => (k ≤ v) ∧ σ.sl 11 = .int .i64 k ∧ σ.sl 10 = .int .i64 v ∧ σ.sl 3 = .fro none false (es.map eA) ∧ σ.sl 6 = .hd 1600 1 0 M false ∧ (σ.en 1600).live = true ∧ (σ.en 1600).gen = 1 ∧ (σ.en 1600).frz = false ∧ (σ.en 1600).sz = 2 ∧ (σ.en 1600).elems = (es.take M).map eOO) (fun k => v - k) (0) ⟨Nat.zero_le _, by simp [put_sl, put_en, put_none, init_sl, fresh_sl, fresh_en, ent_sl, ent_en, init_en], by simp [put_sl, put_en, put_none, init_sl, fresh_sl, fresh_en, ent_sl, ent_en, init_en], by simp [put_sl, put_en, put_none, init_sl, fresh_sl, fresh_en, ent_sl, ent_en, init_en], by simp [put_sl, put_en, put_none, init_sl, fresh_sl, fresh_en, ent_sl, ent_en, init_en], by simp [put_sl, put_en, put_none, init_sl, fresh_sl, fresh_en, ent_sl, ent_en, init_en], by simp [put_sl, put_en, put_none, init_sl, fresh_sl, fresh_en, ent_sl, ent_en, init_en], by simp [put_sl, put_en, put_none, init_sl, fresh_sl, fresh_en, ent_sl, ent_en, init_en], by simp [put_sl, put_en, put_none, init_sl, fresh_sl, fresh_en, ent_sl, ent_en, init_en], by simp [put_sl, put_en, put_none, init_sl, fresh_sl, fresh_en, ent_sl, ent_en, init_en]⟩ ?_
      rintro k σ ⟨hk, e11, e10, e3, e6, m1600a, m1600b, m1600c, m1600d, m1600e⟩
      simp only [vmA, Nat.reduceEqDiff, reduceIte, Nat.reduceAdd, Nat.reduceBEq, reduceCtorEq, Nat.reduceLT, Int.reduceLE, Int.reduceLT, Int.reduceEq, Nat.reduceMul, Nat.reduceLeDiff, e11, e10, e3, e6, m1600a, m1600b, m1600c, m1600d, m1600e, List.length_map, map_froize_eO, map_froize_eOO, behind_nf, hasFro, hasFro.hasFroL, hasFroL_eOO, Bool.or_self, eA, hto]
      refine ⟨fun hk2 => ?_, fun hk2 => ?_⟩
      · refine ⟨by omega, by omega, by omega, by omega, ⟨by omega, by omega⟩, by omega, ?_⟩
        refine callD (f12 (es.take M) false (logP_take hlg M) hos) ?_
        simp only [vmA, Nat.reduceEqDiff, reduceIte, Nat.reduceAdd, Nat.reduceBEq, reduceCtorEq, Nat.reduceLT, Int.reduceLE, Int.reduceLT, Int.reduceEq, Nat.reduceMul, Nat.reduceLeDiff, e11, e10, e3, e6, m1600a, m1600b, m1600c, m1600d, m1600e, List.length_map, map_froize_eO, map_froize_eOO, behind_nf, hasFro, hasFro.hasFroL, hasFroL_eOO, Bool.or_self, eA, hto, hasFroL_gO]
        refine ⟨⟨by omega, by omega⟩, ?_⟩
        rw [map_froize_gO]
        refine callD (f11 _ _ _ g1.1 _) ?_
        simp only [vmA, Nat.reduceEqDiff, reduceIte, Nat.reduceAdd, Nat.reduceBEq, reduceCtorEq, Nat.reduceLT, Int.reduceLE, Int.reduceLT, Int.reduceEq, Nat.reduceMul, Nat.reduceLeDiff, e11, e10, e3, e6, m1600a, m1600b, m1600c, m1600d, m1600e, List.length_map, map_froize_eO, map_froize_eOO, behind_nf, hasFro, hasFro.hasFroL, hasFroL_eOO, Bool.or_self, eA, hto, hasFroL_gO, hasFroL_rO, map_froize_gO]
        refine ⟨⟨by omega, by omega⟩, callD (f12 es false hlg h2) ?_⟩
        simp only [vmA, Nat.reduceEqDiff, reduceIte, Nat.reduceAdd, Nat.reduceBEq, reduceCtorEq, Nat.reduceLT, Int.reduceLE, Int.reduceLT, Int.reduceEq, Nat.reduceMul, Nat.reduceLeDiff, e11, e10, e3, e6, m1600a, m1600b, m1600c, m1600d, m1600e, List.length_map, map_froize_eO, map_froize_eOO, behind_nf, hasFro, hasFro.hasFroL, hasFroL_eOO, Bool.or_self, eA, hto, hasFroL_gO, hasFroL_rO, map_froize_gO]
        refine ⟨⟨by omega, by omega⟩, callD (f11 _ _ _ g2.1 _) ?_⟩
        simp only [vmA, Nat.reduceEqDiff, reduceIte, Nat.reduceAdd, Nat.reduceBEq, reduceCtorEq, Nat.reduceLT, Int.reduceLE, Int.reduceLT, Int.reduceEq, Nat.reduceMul, Nat.reduceLeDiff, e11, e10, e3, e6, m1600a, m1600b, m1600c, m1600d, m1600e, List.length_map, map_froize_eO, map_froize_eOO, behind_nf, hasFro, hasFro.hasFroL, hasFroL_eOO, Bool.or_self, eA, hto, hasFroL_gO, hasFroL_rO, map_froize_gO, map_froize_rO]
        rw [hrun k (by omega)]
        have hr5 := hrl _ _ es[k]!.time g1.1
        refine callD (f10 _ _ _ (by omega) hr5.2) ?_
        simp only [vmA, Nat.reduceEqDiff, reduceIte, Nat.reduceAdd, Nat.reduceBEq, reduceCtorEq, Nat.reduceLT, Int.reduceLE, Int.reduceLT, Int.reduceEq, Nat.reduceMul, Nat.reduceLeDiff, e11, e10, e3, e6, m1600a, m1600b, m1600c, m1600d, m1600e, List.length_map, map_froize_eO, map_froize_eOO, behind_nf, hasFro, hasFro.hasFroL, hasFroL_eOO, Bool.or_self, eA, hto]
        rw [wr (by omega)]
        exact ⟨k + 1, ⟨by omega, rfl⟩, by omega⟩
      · refine ⟨by omega, ?_⟩
        refine callD (f13 (es.take M) false (by omega) hos) ?_
        simp only [vmA, Nat.reduceEqDiff, reduceIte, Nat.reduceAdd, Nat.reduceBEq, reduceCtorEq, Nat.reduceLT, Int.reduceLE, Int.reduceLT, Int.reduceEq, Nat.reduceMul, Nat.reduceLeDiff, decide_eq_true (logP_take hlg M)]
        refine callD f8 ?_
        simp only [vmA, Nat.reduceEqDiff, reduceIte, Nat.reduceAdd, Nat.reduceBEq, reduceCtorEq, Nat.reduceLT, Int.reduceLE, Int.reduceLT, Int.reduceEq, Nat.reduceMul, Nat.reduceLeDiff]
        (refine hQ _ ?_; simp only [vmA, Nat.reduceEqDiff, reduceIte, Nat.reduceAdd, Nat.reduceBEq, reduceCtorEq, Nat.reduceLT, Int.reduceLE, Int.reduceLT, Int.reduceEq, Nat.reduceMul, Nat.reduceLeDiff, Tryz.f3, retG, resL, St.closeVs, St.closeV])
