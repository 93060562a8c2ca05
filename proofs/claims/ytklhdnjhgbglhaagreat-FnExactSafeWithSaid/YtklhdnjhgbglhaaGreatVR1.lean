/- WALK of functions of the seat, or plain laws for it: each theorem f<k> says what function k returns, for every world and all arguments that stand for the values named. Conditions: none but those ahead of each theorem. -/
import Derived.Test.YtklhdnjhgbglhaaGreatVEI
import Derived.Test.YtklhdnjhgbglhaaGreatVEF
import Derived.Test.YtklhdnjhgbglhaaGreatVEG
import Derived.Test.YtklhdnjhgbglhaaGreatVQN
import Derived.Test.YtklhdnjhgbglhaaGreatVR0
import Derived.Test.YtklhdnjhgbglhaaGreatRows
import Derived.WalkKit
import Derived.ProofKit
import Derived.OpenShut
import Derived.ShutString
import Derived.ChangeOld
import Derived.Below
import Derived.Carry
import Derived.SizedLaws
section
open Go Go.Vm Go.Proofs
set_option maxRecDepth 100000
set_option maxHeartbeats 16000000
set_option linter.unusedSimpArgs false
set_option linter.unusedVariables false
theorem f59F (h : Hs) (h1 : h.vs.length ≤ 1048576) (h2 : ∀ v ∈ h.vs, v.row.length ≤ 1048576) (h3 : h.tx.length ≤ 1048576) (h4 : ∀ t ∈ h.tx, smX t) (h5 : 0 < h.tx.length) : FxR 59 [hA h] fun r l => r = hF h ∧ l = .und := by
  have h := f59 h h1 h2 h3 h4 h5
  refine FxR.mono (R := _) ⟨h.1, DoesR.froI h.2⟩ ?_
  rintro r l ⟨r0, ⟨rfl, rfl⟩, rfl⟩
  refine ⟨?_, rfl⟩
  simp only [hO2, hF, froI, froV, froIn, List.map_cons, List.map_nil, map_froize_gO, map_froize_xO]
open Classical in
noncomputable def safeI (h : Hs) (who : Int) : List Int := if houseP h ∧ (0 ≤ who ∧ who ≤ 3) ∧ h.tx[who.toNat]!.st = 1 ∧ endI h who then outS (danL (endW h who)) who else []
theorem f32 (h : Hs) (who : Int) (ho : okH h) : Fx 32 [hA h, .int .i64 who] (.own 1 ((safeI h who).map iA)) := by
  refine FxR.weakR' (R := fun r l => ((safeI h who = [] ∧ r = .fro none true []) ∨ r = .own 1 ((safeI h who).map iA)) ∧ l = .und) ?_ ?_
  rotate_left
  · rintro _ _ ⟨⟨h0, rfl⟩ | rfl, rfl⟩
    · exact ⟨_, ⟨rfl, rfl⟩, by rw [h0]; exact weak_nil 1⟩
    · exact ⟨_, ⟨rfl, rfl⟩, Weak.refl _⟩
  have hno : ¬ (houseP h ∧ (0 ≤ who ∧ who ≤ 3) ∧ h.tx[who.toNat]!.st = 1 ∧ endI h who) → safeI h who = [] := fun hx => if_neg hx
  refine fn_ofR ⟨true, [], []⟩ Tryz.func32 (by kernel_rfl) rfl (by kernel_rfl) (by kernel_rfl) (Nat.le_of_ble_eq_true rfl) rfl fun Q hQ => ?_
  simp only [vmA, Nat.reduceEqDiff, reduceIte, Nat.reduceAdd, Nat.reduceBEq, reduceCtorEq, Nat.reduceLT, Int.reduceLE, Int.reduceLT, Int.reduceEq, Nat.reduceMul, Nat.reduceLeDiff, hA]
  refine callD (f12 h ho) ?_
  simp only [vmA, Nat.reduceEqDiff, reduceIte, Nat.reduceAdd, Nat.reduceBEq, reduceCtorEq, Nat.reduceLT, Int.reduceLE, Int.reduceLT, Int.reduceEq, Nat.reduceMul, Nat.reduceLeDiff, hA]
  refine ⟨fun hp => ?_, fun hp => callD (f56 _ _ _) ?_⟩
  · (refine hQ _ ?_; simp only [vmA, Nat.reduceEqDiff, reduceIte, Nat.reduceAdd, Nat.reduceBEq, reduceCtorEq, Nat.reduceLT, Int.reduceLE, Int.reduceLT, Int.reduceEq, Nat.reduceMul, Nat.reduceLeDiff, Tryz.f32, retG, resL, St.closeVs, St.closeV])
    exact (hno fun z => hp z.1)
  have hp : houseP h := by simpa using hp
  have hl := hp.2.2.2.1
  simp only [vmA, Nat.reduceEqDiff, reduceIte, Nat.reduceAdd, Nat.reduceBEq, reduceCtorEq, Nat.reduceLT, Int.reduceLE, Int.reduceLT, Int.reduceEq, Nat.reduceMul, Nat.reduceLeDiff, hA, xA, List.length_map]
  refine ⟨fun hw => ?_, fun hw => ⟨by omega, by omega, fun hs => ?_, fun hs => ?_⟩⟩
  · (refine hQ _ ?_; simp only [vmA, Nat.reduceEqDiff, reduceIte, Nat.reduceAdd, Nat.reduceBEq, reduceCtorEq, Nat.reduceLT, Int.reduceLE, Int.reduceLT, Int.reduceEq, Nat.reduceMul, Nat.reduceLeDiff, Tryz.f32, retG, resL, St.closeVs, St.closeV])
    exact (hno fun z => hw z.2.1)
  · (refine hQ _ ?_; simp only [vmA, Nat.reduceEqDiff, reduceIte, Nat.reduceAdd, Nat.reduceBEq, reduceCtorEq, Nat.reduceLT, Int.reduceLE, Int.reduceLT, Int.reduceEq, Nat.reduceMul, Nat.reduceLeDiff, Tryz.f32, retG, resL, St.closeVs, St.closeV])
    exact (hno fun z => hs z.2.2.1)
  have hsm := okH_smX hp
  refine callR (f59F h (by have := ho.n; omega) ho.len (by omega) hsm (by omega)) ?_
  rintro _ _ ⟨rfl, rfl⟩
  simp only [vmA, Nat.reduceEqDiff, reduceIte, Nat.reduceAdd, Nat.reduceBEq, reduceCtorEq, Nat.reduceLT, Int.reduceLE, Int.reduceLT, Int.reduceEq, Nat.reduceMul, Nat.reduceLeDiff, hF, hA, xA, List.length_map, Option.bind_none]
  refine callR (f60 h who hp hw hs) ?_
  rintro _ _ ⟨n, rfl, Z, T, ck, rfl, ⟨he, rfl, rfl, rfl, rfl⟩ | ⟨he, hn⟩⟩
  · simp only [vmA, Nat.reduceEqDiff, reduceIte, Nat.reduceAdd, Nat.reduceBEq, reduceCtorEq, Nat.reduceLT, Int.reduceLE, Int.reduceLT, Int.reduceEq, Nat.reduceMul, Nat.reduceLeDiff, hF, hA, List.length_map, Option.bind_none, map_froize_gO, map_froize_xA, take_map_len]
    have hp2 : houseP ⟨wrV h.vs h.tx[who.toNat]!.ws (h.ck + 1), h.ck + 1, endW h who⟩ := house_endV hp (by omega) hs he.2.1 he.2.2
    have f : Fx 87 [hA ⟨wrV h.vs h.tx[who.toNat]!.ws (h.ck + 1), h.ck + 1, endW h who⟩] (.own 1 ((danL (endW h who)).map iA)) := f87 ⟨wrV h.vs h.tx[who.toNat]!.ws (h.ck + 1), h.ck + 1, endW h who⟩ (okH_P hp2) hp2
    have hres : safeI h who = outS (danL (endW h who)) who := if_pos ⟨hp, hw, hs, he⟩
    have hLi := dan_in (endW h who)
    have hLl := dan_len (endW h who)
    rw [hres] at hQ
    generalize danL (endW h who) = L at hLi hLl f hQ
    refine callD f ?_
    simp only [vmA, Nat.reduceEqDiff, reduceIte, Nat.reduceAdd, Nat.reduceBEq, reduceCtorEq, Nat.reduceLT, Int.reduceLE, Int.reduceLT, Int.reduceEq, Nat.reduceMul, Nat.reduceLeDiff, List.length_map, captureL, capture, get_tmp, Option.bind_none, behind_nf, hasFro, hasFroL_iA, take_map_len]
    refine callR (f86 L who (by omega)) ?_
    rintro _ _ ⟨rfl, rfl⟩
    have hn1 : (neL who L).length ≤ L.length := List.length_filter_le _ _
    simp only [vmA, Nat.reduceEqDiff, reduceIte, Nat.reduceAdd, Nat.reduceBEq, reduceCtorEq, Nat.reduceLT, Int.reduceLE, Int.reduceLT, Int.reduceEq, Nat.reduceMul, Nat.reduceLeDiff, List.length_map, captureL, capture, get_tmp, Option.bind_none, behind_nf, hasFro, hasFroL_iA, take_map_len]
    refine callR (f89 (neL who L) (by omega)) ?_
    rintro _ _ ⟨rfl, ys, rfl, hperm, hsort⟩
    have hyl := hperm.length_eq
    simp only [vmA, Nat.reduceEqDiff, reduceIte, Nat.reduceAdd, Nat.reduceBEq, reduceCtorEq, Nat.reduceLT, Int.reduceLE, Int.reduceLT, Int.reduceEq, Nat.reduceMul, Nat.reduceLeDiff, List.length_map, hyl, Option.bind_none, take_map_len, behind_nf, hasFro, hasFroL_iA]
    refine callR (f91 ys (by omega) hsort) ?_
    rintro _ _ ⟨⟨zs, rfl, zl, zo, zm⟩, rfl⟩
    simp only [vmA, Nat.reduceEqDiff, reduceIte, Nat.reduceAdd, Nat.reduceBEq, reduceCtorEq, Nat.reduceLT, Int.reduceLE, Int.reduceLT, Int.reduceEq, Nat.reduceMul, Nat.reduceLeDiff, List.length_map, Option.bind_none, take_map_len, behind_nf, hasFro, hasFroL_iA]
    refine callD (f90 zs false (by omega)) ?_
    simp only [vmA, Nat.reduceEqDiff, reduceIte, Nat.reduceAdd, Nat.reduceBEq, reduceCtorEq, Nat.reduceLT, Int.reduceLE, Int.reduceLT, Int.reduceEq, Nat.reduceMul, Nat.reduceLeDiff, List.length_map, Option.bind_none, take_map_len, behind_nf, hasFro, hasFroL_iA]
    have hz : zs = outS L who := safe_out hLi zo fun x => by rw [zm x, hperm.mem_iff, neL_mem]
    rw [← hz] at hQ
    (refine hQ _ ?_; simp only [vmA, Nat.reduceEqDiff, reduceIte, Nat.reduceAdd, Nat.reduceBEq, reduceCtorEq, Nat.reduceLT, Int.reduceLE, Int.reduceLT, Int.reduceEq, Nat.reduceMul, Nat.reduceLeDiff, Tryz.f32, retG, resL, St.closeVs, St.closeV, List.length_map, take_map_len])
  · simp only [vmA, Nat.reduceEqDiff, reduceIte, Nat.reduceAdd, Nat.reduceBEq, reduceCtorEq, Nat.reduceLT, Int.reduceLE, Int.reduceLT, Int.reduceEq, Nat.reduceMul, Nat.reduceLeDiff, hF, hA, List.length_map, Option.bind_none, eq_false hn]
    (refine hQ _ ?_; simp only [vmA, Nat.reduceEqDiff, reduceIte, Nat.reduceAdd, Nat.reduceBEq, reduceCtorEq, Nat.reduceLT, Int.reduceLE, Int.reduceLT, Int.reduceEq, Nat.reduceMul, Nat.reduceLeDiff, Tryz.f32, retG, resL, St.closeVs, St.closeV])
    exact hno fun z => he z.2.2.2
end
section
open Go Go.Vm Go.Proofs
set_option maxRecDepth 100000
set_option maxHeartbeats 16000000
set_option linter.unusedSimpArgs false
set_option linter.unusedVariables false
theorem lastS_lt {h : Hs} (hp : houseP h) : ∀ k : Nat, k < 5 → lastS h.vs k < h.ck + 1 := fun k hk => by
  have h1 : lastS h.vs k = lastV h.vs k 0 := if_pos hp.1
  have h2 := turnV_ge (vs := h.vs) 5 k hk
  have h3 := hp.2.2.1
  omega
theorem safe_same (h : Hs) (who : Int) : safeI h who = safeS h who := by
  by_cases hc : houseP h ∧ (0 ≤ who ∧ who ≤ 3) ∧ h.tx[who.toNat]!.st = 1 ∧ endI h who
  · have e1 : safeI h who = outS (danL (endW h who)) who := if_pos hc
    obtain ⟨hp, hw, hs, ⟨e2, e3, e4⟩⟩ := hc
    have hb : txB h.tx[who.toNat]! h.ck := by
      rcases hp.2.2.2.2.1 who.toNat (by omega) with ⟨a, _⟩ | ⟨a, _⟩ | ⟨_, _, a⟩
      · omega
      · omega
      · exact a
    have e5 : safeS h who = outS (danL (endT h who)) who := if_pos ⟨hp, hw, hs, e2, hp.1, hb.2.2, ⟨by have := hp.2.1; omega, e3⟩, lastS_lt hp, by rw [← wrV_len]; exact e4⟩
    rw [e1, e5]
    rfl
  · have e1 : safeI h who = [] := if_neg hc
    have e5 : safeS h who = [] := if_neg fun ⟨hp, hw, hs, hl, hf⟩ => hc ⟨hp, hw, hs, hl, hf.2.2.1.2, by rw [wrV_len]; exact hf.2.2.2.2⟩
    rw [e1, e5]
theorem outS_len (L : List Int) (who : Int) : (outS L who).length ≤ 4 := outN_length L who 4
theorem safe_len (h : Hs) (who : Int) : (safeS h who).length ≤ 4 := by
  unfold safeS
  split
  · exact outS_len _ _
  · exact Nat.zero_le _
theorem f7 (h : Hs) (who : Int) (hi : inH h) : Fx 7 [hA h, .int .i64 who] (.bool true) := by
  refine fn_ofX ⟨false, [36, 200038], [(10, [], [0, 1, 2, 3, 4])]⟩ Tryz.func7 (by kernel_rfl) rfl (by kernel_rfl) (by kernel_rfl) (Nat.le_of_ble_eq_true rfl) rfl fun Q hQ => ?_
  simp only [tr_seq, tr_block, tr_loop, tr_cond, tr_skip, tr_exit, tr_ret, tr_reg]
  rw [tr_any 10 [(0, [], 0), (0, [], 1), (1, [0, 1], 2), (1, [0], 3), (0, [], 4), (2, [4], 0)] (by kernel_rfl)]
  simp only [codeA_nil, codeA_look, codeA_hard, codeA_fin, ordC_leaf, ordC_one, ordC_both, pickL, List.getElem?_toArray, List.getElem?_cons_zero, List.getElem?_cons_succ]
  simp only [vmA, Nat.reduceEqDiff, reduceIte, Nat.reduceAdd, Nat.reduceBEq, reduceCtorEq, Nat.reduceLT, Int.reduceLE, Int.reduceLT, Int.reduceEq, Nat.reduceMul, Nat.reduceLeDiff, hA]
  refine callR (f20 h hi) ?_
  rintro _ _ ⟨⟨n, rfl, hn0, hn1, hn⟩, rfl⟩
  simp only [vmA, Nat.reduceEqDiff, reduceIte, Nat.reduceAdd, Nat.reduceBEq, reduceCtorEq, Nat.reduceLT, Int.reduceLE, Int.reduceLT, Int.reduceEq, Nat.reduceMul, Nat.reduceLeDiff, hA]
  refine ⟨fun g => ?_, fun g => ?_⟩
  · (refine hQ _ ?_; simp only [vmA, Nat.reduceEqDiff, reduceIte, Nat.reduceAdd, Nat.reduceBEq, reduceCtorEq, Nat.reduceLT, Int.reduceLE, Int.reduceLT, Int.reduceEq, Nat.reduceMul, Nat.reduceLeDiff, Tryz.f7, retG, resL, St.closeVs, St.closeV])
  have hs : smH h := hn (by omega)
  have ok := okH_of hi hs
  refine callD (f23 h hs) ?_
  simp only [vmA, Nat.reduceEqDiff, reduceIte, Nat.reduceAdd, Nat.reduceBEq, reduceCtorEq, Nat.reduceLT, Int.reduceLE, Int.reduceLT, Int.reduceEq, Nat.reduceMul, Nat.reduceLeDiff, hA, hO, behind_nf, hasFro, hasFroL_gO, hasFroL_xO, map_froize_gO, map_froize_xO]
  have fS := f34 h who ok
  have fI := f32 h who ok
  rw [safe_same] at fI
  have hl := safe_len h who
  generalize safeS h who = xs at fS fI hl
  refine callD fS ?_
  simp only [vmA, Nat.reduceEqDiff, reduceIte, Nat.reduceAdd, Nat.reduceBEq, reduceCtorEq, Nat.reduceLT, Int.reduceLE, Int.reduceLT, Int.reduceEq, Nat.reduceMul, Nat.reduceLeDiff, hA, hO, behind_nf, hasFro, hasFroL_gO, hasFroL_xO, map_froize_gO, map_froize_xO, hasFroL_iA, take_map_len]
  refine callD (f23 h hs) ?_
  simp only [vmA, Nat.reduceEqDiff, reduceIte, Nat.reduceAdd, Nat.reduceBEq, reduceCtorEq, Nat.reduceLT, Int.reduceLE, Int.reduceLT, Int.reduceEq, Nat.reduceMul, Nat.reduceLeDiff, hA, hO, behind_nf, hasFro, hasFroL_gO, hasFroL_xO, map_froize_gO, map_froize_xO, hasFroL_iA, take_map_len]
  refine callD fI ?_
  simp only [vmA, Nat.reduceEqDiff, reduceIte, Nat.reduceAdd, Nat.reduceBEq, reduceCtorEq, Nat.reduceLT, Int.reduceLE, Int.reduceLT, Int.reduceEq, Nat.reduceMul, Nat.reduceLeDiff, hA, hO, behind_nf, hasFro, hasFroL_gO, hasFroL_xO, map_froize_gO, map_froize_xO, hasFroL_iA, take_map_len]
  refine callD (f43 xs false false (by omega)) ?_
  simp only [vmA, Nat.reduceEqDiff, reduceIte, Nat.reduceAdd, Nat.reduceBEq, reduceCtorEq, Nat.reduceLT, Int.reduceLE, Int.reduceLT, Int.reduceEq, Nat.reduceMul, Nat.reduceLeDiff, hA, hO, behind_nf, hasFro, hasFroL_gO, hasFroL_xO, map_froize_gO, map_froize_xO, hasFroL_iA, take_map_len]
  refine callD (f23 h hs) ?_
  simp only [vmA, Nat.reduceEqDiff, reduceIte, Nat.reduceAdd, Nat.reduceBEq, reduceCtorEq, Nat.reduceLT, Int.reduceLE, Int.reduceLT, Int.reduceEq, Nat.reduceMul, Nat.reduceLeDiff, hA, hO, behind_nf, hasFro, hasFroL_gO, hasFroL_xO, map_froize_gO, map_froize_xO, hasFroL_iA, take_map_len]
  refine callD (f26 h hs) ?_
  simp only [vmA, Nat.reduceEqDiff, reduceIte, Nat.reduceAdd, Nat.reduceBEq, reduceCtorEq, Nat.reduceLT, Int.reduceLE, Int.reduceLT, Int.reduceEq, Nat.reduceMul, Nat.reduceLeDiff, hA, hO, behind_nf, hasFro, hasFroL_gO, hasFroL_xO, map_froize_gO, map_froize_xO, hasFroL_iA, take_map_len]
  refine t_con (by rw [cstD_some]; rfl) (by kernel_rfl) (by simp) ?_
  simp only [List.map_cons, List.map_nil, get_tmp]
  simp only [vmA, Nat.reduceEqDiff, reduceIte, Nat.reduceAdd, Nat.reduceBEq, reduceCtorEq, Nat.reduceLT, Int.reduceLE, Int.reduceLT, Int.reduceEq, Nat.reduceMul, Nat.reduceLeDiff, hA, hO, conT_agg, behind_nf, hasFro, hasFroL_gO, hasFroL_xO]
  refine callR (f28 h hs) ?_
  rintro _ _ ⟨⟨k', rfl, hk⟩, rfl⟩
  refine ⟨rfl, ?_⟩
  simp only [takeRes, takeV, takeLeaf]
  have hkd : decide (k' < 0) = false := decide_eq_false (by omega)
  simp only [vmA, Nat.reduceEqDiff, reduceIte, Nat.reduceAdd, Nat.reduceBEq, reduceCtorEq, Nat.reduceLT, Int.reduceLE, Int.reduceLT, Int.reduceEq, Nat.reduceMul, Nat.reduceLeDiff, hA, hO, hkd, behind_nf, hasFro, hasFroL_gO, hasFroL_xO, map_froize_gO, map_froize_xO, hasFroL_iA, take_map_len, List.length_map]
  refine callD (f43 xs false false (by omega)) ?_
  simp only [vmA, Nat.reduceEqDiff, reduceIte, Nat.reduceAdd, Nat.reduceBEq, reduceCtorEq, Nat.reduceLT, Int.reduceLE, Int.reduceLT, Int.reduceEq, Nat.reduceMul, Nat.reduceLeDiff, hA, hO, hkd, behind_nf, hasFro, hasFroL_gO, hasFroL_xO, map_froize_gO, map_froize_xO, hasFroL_iA, take_map_len, List.length_map]
  have hpd : decide ((1 : Int) + (xs.length : Int) < 0) = false := decide_eq_false (by omega)
  refine callR (f44 xs 1 (by omega) (by omega)) ?_
  rintro _ _ ⟨rfl, rfl⟩
  have hml : (List.map iA (List.map (fun i : Nat => (1 : Int) + (i : Int)) (List.range xs.length))).length = xs.length := by simp
  have htk : List.take xs.length (List.map iA (List.map (fun i : Nat => (1 : Int) + (i : Int)) (List.range xs.length))) = List.map iA (List.map (fun i : Nat => (1 : Int) + (i : Int)) (List.range xs.length)) := List.take_of_length_le (by simp)
  simp only [vmA, Nat.reduceEqDiff, reduceIte, Nat.reduceAdd, Nat.reduceBEq, reduceCtorEq, Nat.reduceLT, Int.reduceLE, Int.reduceLT, Int.reduceEq, Nat.reduceMul, Nat.reduceLeDiff, hA, hO, hkd, behind_nf, hasFro, hasFroL_gO, hasFroL_xO, map_froize_gO, map_froize_xO, hasFroL_iA, take_map_len, List.length_map, List.length_range, hpd, hml, htk]
  refine callD (f45 xs.length 1 false (by omega) (by omega)) ?_
  simp only [vmA, Nat.reduceEqDiff, reduceIte, Nat.reduceAdd, Nat.reduceBEq, reduceCtorEq, Nat.reduceLT, Int.reduceLE, Int.reduceLT, Int.reduceEq, Nat.reduceMul, Nat.reduceLeDiff, hA, hO, hkd, behind_nf, hasFro, hasFroL_gO, hasFroL_xO, map_froize_gO, map_froize_xO, hasFroL_iA, take_map_len, List.length_map, List.length_range, hpd, hml, htk]
  refine callD (f23 h hs) ?_
  simp only [vmA, Nat.reduceEqDiff, reduceIte, Nat.reduceAdd, Nat.reduceBEq, reduceCtorEq, Nat.reduceLT, Int.reduceLE, Int.reduceLT, Int.reduceEq, Nat.reduceMul, Nat.reduceLeDiff, hA, hO, hkd, behind_nf, hasFro, hasFroL_gO, hasFroL_xO, map_froize_gO, map_froize_xO, hasFroL_iA, take_map_len, List.length_map, List.length_range, hpd, hml, htk]
  refine callD fI ?_
  simp only [vmA, Nat.reduceEqDiff, reduceIte, Nat.reduceAdd, Nat.reduceBEq, reduceCtorEq, Nat.reduceLT, Int.reduceLE, Int.reduceLT, Int.reduceEq, Nat.reduceMul, Nat.reduceLeDiff, hA, hO, hkd, behind_nf, hasFro, hasFroL_gO, hasFroL_xO, map_froize_gO, map_froize_xO, hasFroL_iA, take_map_len, List.length_map, List.length_range, hpd, hml, htk]
  refine callD (f43 xs false false (by omega)) ?_
  simp only [vmA, Nat.reduceEqDiff, reduceIte, Nat.reduceAdd, Nat.reduceBEq, reduceCtorEq, Nat.reduceLT, Int.reduceLE, Int.reduceLT, Int.reduceEq, Nat.reduceMul, Nat.reduceLeDiff, hA, hO, hkd, behind_nf, hasFro, hasFroL_gO, hasFroL_xO, map_froize_gO, map_froize_xO, hasFroL_iA, take_map_len, List.length_map, List.length_range, hpd, hml, htk]
  refine callD (f45 xs.length 1 false (by omega) (by omega)) ?_
  simp only [vmA, Nat.reduceEqDiff, reduceIte, Nat.reduceAdd, Nat.reduceBEq, reduceCtorEq, Nat.reduceLT, Int.reduceLE, Int.reduceLT, Int.reduceEq, Nat.reduceMul, Nat.reduceLeDiff, hA, hO, hkd, behind_nf, hasFro, hasFroL_gO, hasFroL_xO, map_froize_gO, map_froize_xO, hasFroL_iA, take_map_len, List.length_map, List.length_range, hpd, hml, htk]
  (refine hQ _ ?_; simp only [vmA, Nat.reduceEqDiff, reduceIte, Nat.reduceAdd, Nat.reduceBEq, reduceCtorEq, Nat.reduceLT, Int.reduceLE, Int.reduceLT, Int.reduceEq, Nat.reduceMul, Nat.reduceLeDiff, Tryz.f7, retG, resL, St.closeVs, St.closeV])
end
section
namespace Go.Proofs.YtklhdnjhgbglhaaGreat
open Go Go.Vm Go.Proofs Go.ChangeShapes Go.WideShapes Go.ChangeAt Go.RowKit
theorem rdInt : Rd Tryz.prog 3 (fun n : Int => .int .i64 n) (fun _ => True) := (Rd.int Tryz.underlying3).mono fun _ _ => trivial
theorem rdVal : Rd Tryz.prog 154 vA okV := Rd.triple (mk := Val.mk) (k := vA) Tryz.underlying154 rfl (by kernel_rfl) (by kernel_rfl) (by kernel_rfl) (Rd.int Tryz.underlying3) (Rd.int Tryz.underlying3) (Rd.str Tryz.underlying9) (fun _ _ _ => rfl)
  (fun a b c _ _ h => by unfold maxLen at h; show c.size ≤ _; omega)
theorem rdRow : Rd Tryz.prog 49 rA okR := (Rd.slice Tryz.underlying49 (show Tryz.prog.cellsOf 154 = 2 + 1 by kernel_rfl) rdVal).mono fun a h => ⟨by have := h.1; unfold maxLen at this; omega, h.2⟩
theorem rdWr : Rd Tryz.prog 235 wA okW := Rd.triple (mk := Wr.mk) (k := wA) Tryz.underlying235 rfl (by kernel_rfl) (by kernel_rfl) (by kernel_rfl) (Rd.int Tryz.underlying3) rdRow (Rd.bool Tryz.underlying4) (fun _ _ _ => rfl)
  (fun a b c _ h _ => h)
theorem rdWrs : Rd Tryz.prog 150 (fun xs : List Wr => .fro none false (xs.map wA)) (fun xs => xs.length ≤ 9223372036854775807 ∧ ∀ v ∈ xs, okW v) := (Rd.slice Tryz.underlying150 (show Tryz.prog.cellsOf 235 = 2 + 1 by kernel_rfl) rdWr).mono fun a h => ⟨by have := h.1; unfold maxLen at this; omega, h.2⟩
theorem rdInts : Rd Tryz.prog 32 (fun xs : List Int => .fro none false (xs.map iA)) (fun xs => xs.length ≤ 9223372036854775807) := (Rd.slice Tryz.underlying32 (show Tryz.prog.cellsOf 3 = 0 + 1 by kernel_rfl) rdInt).mono fun a h => by have := h.1; unfold maxLen at this; omega
theorem rdVer : Rd Tryz.prog 148 gA (fun v => okR v.row) := Rd.quad (mk := Ver.mk) (k := gA) Tryz.underlying148 rfl (by kernel_rfl) (by kernel_rfl) (by kernel_rfl) (by kernel_rfl) rdInt rdInt rdInt rdRow (fun _ _ _ _ => rfl) (fun _ _ _ _ _ _ _ h => h)
theorem rdVers : Rd Tryz.prog 45 (fun xs : List Ver => .fro none false (xs.map gA)) (fun xs => xs.length ≤ 9223372036854775807 ∧ ∀ v ∈ xs, okR v.row) := (Rd.slice Tryz.underlying45 (show Tryz.prog.cellsOf 148 = 3 + 1 by kernel_rfl) rdVer).mono fun a h => ⟨by have := h.1; unfold maxLen at this; omega, h.2⟩
theorem rdTx : Rd Tryz.prog 152 xA okX := Rd.quint (mk := Tx.mk) (k := xA) Tryz.underlying152 rfl (by kernel_rfl) (by kernel_rfl) (by kernel_rfl) (by kernel_rfl) (by kernel_rfl) rdInt rdInt rdInt rdInts rdWrs (fun _ _ _ _ _ => rfl) (fun _ _ _ _ _ _ _ _ h1 h2 => ⟨h1, h2⟩)
theorem rdTxs : Rd Tryz.prog 46 (fun xs : List Tx => .fro none false (xs.map xA)) (fun xs => xs.length ≤ 9223372036854775807 ∧ ∀ v ∈ xs, okX v) := (Rd.slice Tryz.underlying46 (show Tryz.prog.cellsOf 152 = 4 + 1 by kernel_rfl) rdTx).mono fun a h => ⟨by have := h.1; unfold maxLen at this; omega, h.2⟩
theorem rdHs : Rd Tryz.prog 48 hA inH := Rd.triple (mk := Hs.mk) (k := hA) Tryz.underlying48 rfl (by kernel_rfl) (by kernel_rfl) (by kernel_rfl) rdVers rdInt rdTxs (fun _ _ _ => rfl) (fun a b c h1 _ h2 => ⟨h1.1, h1.2, h2.1, h2.2⟩)
theorem fnExactSafeWith.law (h : Hs) (hi : inH h) (who : Int) : Fx 7 [hA h, .int .i64 who] (.bool true) := f7 h who hi
end Go.Proofs.YtklhdnjhgbglhaaGreat
end
