/- WALK, or plain laws for it: theorem f<k> says what function k returns. Conditions: none but those ahead of each theorem. -/
import Derived.Test.YtklhdnjhgbglhaaGreatYEI
import Derived.Test.YtklhdnjhgbglhaaGreatYEF
import Derived.Test.YtklhdnjhgbglhaaGreatYEG
import Derived.Test.YtklhdnjhgbglhaaGreatYFnM
set_option linter.unusedVariables false
set_option linter.unusedSimpArgs false
open Nat renaming reduceEqDiff → sN1, reduceAdd → sN2, reduceBEq → sN3, reduceLT → sN4, reduceMul → sN5, reduceLeDiff → sN6, reduceSub → sN7
open Int renaming reduceLE → sI1, reduceLT → sI2, reduceEq → sI3
section
open Go Go.Vm Go.Proofs
set_option maxRecDepth 100000
set_option maxHeartbeats 16000000
theorem f59F (h : Hs) (h1 : h.vs.length ≤ 1048576) (h2 : ∀ v ∈ h.vs, v.row.length ≤ 1048576) (h3 : h.tx.length ≤ 1048576) (h4 : ∀ t ∈ h.tx, smX t) (h5 : 0 < h.tx.length) : FxR 59 [hA h] fun r l => r = hF h ∧ l = .und := by
  have h := f59 h h1 h2 h3 h4 h5
  refine FxR.mono (R := _) ⟨h.1, DoesR.froI h.2⟩ ?_
  rintro r l ⟨r0, ⟨rfl, rfl⟩, rfl⟩
  refine ⟨?_, rfl⟩
  simp only [hO2, hF, froI, froV, froIn, List.map_cons, List.map_nil, map_froize_gO, map_froize_xO]
open Classical in
noncomputable def safeI (h : Hs) (who : Int) : List Int := if houseP h ∧ (0 ≤ who ∧ who ≤ 3) ∧ h.tx[who.toNat]!.st = 1 ∧ endI h who then outS (danL (endW h who)) who else []
theorem f32 (h : Hs) (who : Int) (ho : okH h) : Fx 32 [hA h, .int .i64 who] (.own 1 ((safeI h who).map iA)) := by
  refine FxR.weakR' (R := fun r l => ((safeI h who = [] ∧ r = .fro none true []) ∨ r = .own 1 ((safeI h who).map iA)) ∧ l = .und) ?_ ?_
  rotate_left
  · rintro _ _ ⟨⟨h0, rfl⟩ | rfl, rfl⟩
    · exact ⟨_, ⟨rfl, rfl⟩, by rw [h0]; exact weak_nil 1⟩
    · exact ⟨_, ⟨rfl, rfl⟩, Weak.refl _⟩
  have hno : ¬ (houseP h ∧ (0 ≤ who ∧ who ≤ 3) ∧ h.tx[who.toNat]!.st = 1 ∧ endI h who) → safeI h who = [] := fun hx => if_neg hx
  refine fn_ofR ⟨true, [], []⟩ Tryz.func32 (by kernel_rfl) rfl (by kernel_rfl) (by kernel_rfl) (Nat.le_of_ble_eq_true rfl) rfl fun Q hQ => ?_
  simp only [vmA, sN1, reduceIte, sN2, sN3, reduceCtorEq, sN4, sI1, sI2, sI3, sN5, sN6, hA]
  refine callD (f12 h ho) ?_
  simp only [vmA, sN1, reduceIte, sN2, sN3, reduceCtorEq, sN4, sI1, sI2, sI3, sN5, sN6, hA]
  refine ⟨fun hp => ?_, fun hp => callD (f56 _ _ _) ?_⟩
  · (refine hQ _ ?_; simp only [vmA, sN1, reduceIte, sN2, sN3, reduceCtorEq, sN4, sI1, sI2, sI3, sN5, sN6, Tryz.f32, retG, resL, St.closeVs, St.closeV])
    exact (hno fun z => hp z.1)
  have hp : houseP h := by simpa using hp
  have hl := hp.2.2.2.1
  simp only [vmA, sN1, reduceIte, sN2, sN3, reduceCtorEq, sN4, sI1, sI2, sI3, sN5, sN6, hA, xA, List.length_map]
  refine ⟨fun hw => ?_, fun hw => ⟨by omega, by omega, fun hs => ?_, fun hs => ?_⟩⟩
  · (refine hQ _ ?_; simp only [vmA, sN1, reduceIte, sN2, sN3, reduceCtorEq, sN4, sI1, sI2, sI3, sN5, sN6, Tryz.f32, retG, resL, St.closeVs, St.closeV])
    exact (hno fun z => hw z.2.1)
  · (refine hQ _ ?_; simp only [vmA, sN1, reduceIte, sN2, sN3, reduceCtorEq, sN4, sI1, sI2, sI3, sN5, sN6, Tryz.f32, retG, resL, St.closeVs, St.closeV])
    exact (hno fun z => hs z.2.2.1)
  have hsm := okH_smX hp
  refine callR (f59F h (by have := ho.n; omega) ho.len (by omega) hsm (by omega)) ?_
  rintro _ _ ⟨rfl, rfl⟩
  simp only [vmA, sN1, reduceIte, sN2, sN3, reduceCtorEq, sN4, sI1, sI2, sI3, sN5, sN6, hF, hA, xA, List.length_map, Option.bind_none]
  refine callR (f60 h who hp hw hs) ?_
  rintro _ _ ⟨n, rfl, Z, T, ck, rfl, ⟨he, rfl, rfl, rfl, rfl⟩ | ⟨he, hn⟩⟩
  · simp only [vmA, sN1, reduceIte, sN2, sN3, reduceCtorEq, sN4, sI1, sI2, sI3, sN5, sN6, hF, hA, List.length_map, Option.bind_none, map_froize_gO, map_froize_xA, take_map_len]
    have hp2 : houseP ⟨wrV h.vs h.tx[who.toNat]!.ws (h.ck + 1), h.ck + 1, endW h who⟩ := house_endV hp (by omega) hs he.2.1 he.2.2
    have f : Fx 87 [hA ⟨wrV h.vs h.tx[who.toNat]!.ws (h.ck + 1), h.ck + 1, endW h who⟩] (.own 1 ((danL (endW h who)).map iA)) := f87 ⟨wrV h.vs h.tx[who.toNat]!.ws (h.ck + 1), h.ck + 1, endW h who⟩ (okH_P hp2) hp2
    have hres : safeI h who = outS (danL (endW h who)) who := if_pos ⟨hp, hw, hs, he⟩
    have hLi := dan_in (endW h who)
    have hLl := dan_len (endW h who)
    rw [hres] at hQ
    generalize danL (endW h who) = L at hLi hLl f hQ
    refine callD f ?_
    simp only [vmA, sN1, reduceIte, sN2, sN3, reduceCtorEq, sN4, sI1, sI2, sI3, sN5, sN6, List.length_map, captureL, capture, get_tmp, Option.bind_none, behind_nf, hasFro, hasFroL_iA, take_map_len]
    refine callR (f86 L who (by omega)) ?_
    rintro _ _ ⟨rfl, rfl⟩
    have hn1 : (neL who L).length ≤ L.length := List.length_filter_le _ _
    simp only [vmA, sN1, reduceIte, sN2, sN3, reduceCtorEq, sN4, sI1, sI2, sI3, sN5, sN6, List.length_map, captureL, capture, get_tmp, Option.bind_none, behind_nf, hasFro, hasFroL_iA, take_map_len]
    refine callR (f89 (neL who L) (by omega)) ?_
    rintro _ _ ⟨rfl, ys, rfl, hperm, hsort⟩
    have hyl := hperm.length_eq
    simp only [vmA, sN1, reduceIte, sN2, sN3, reduceCtorEq, sN4, sI1, sI2, sI3, sN5, sN6, List.length_map, hyl, Option.bind_none, take_map_len, behind_nf, hasFro, hasFroL_iA]
    refine callR (f91 ys (by omega) hsort) ?_
    rintro _ _ ⟨⟨zs, rfl, zl, zo, zm⟩, rfl⟩
    simp only [vmA, sN1, reduceIte, sN2, sN3, reduceCtorEq, sN4, sI1, sI2, sI3, sN5, sN6, List.length_map, Option.bind_none, take_map_len, behind_nf, hasFro, hasFroL_iA]
    refine callD (f90 zs false (by omega)) ?_
    simp only [vmA, sN1, reduceIte, sN2, sN3, reduceCtorEq, sN4, sI1, sI2, sI3, sN5, sN6, List.length_map, Option.bind_none, take_map_len, behind_nf, hasFro, hasFroL_iA]
    have hz : zs = outS L who := safe_out hLi zo fun x => by rw [zm x, hperm.mem_iff, neL_mem]
    rw [← hz] at hQ
    (refine hQ _ ?_; simp only [vmA, sN1, reduceIte, sN2, sN3, reduceCtorEq, sN4, sI1, sI2, sI3, sN5, sN6, Tryz.f32, retG, resL, St.closeVs, St.closeV, List.length_map, take_map_len])
  · simp only [vmA, sN1, reduceIte, sN2, sN3, reduceCtorEq, sN4, sI1, sI2, sI3, sN5, sN6, hF, hA, List.length_map, Option.bind_none, eq_false hn]
    (refine hQ _ ?_; simp only [vmA, sN1, reduceIte, sN2, sN3, reduceCtorEq, sN4, sI1, sI2, sI3, sN5, sN6, Tryz.f32, retG, resL, St.closeVs, St.closeV])
    exact hno fun z => he z.2.2.2
end
section
open Go Go.Vm Go.Proofs
set_option maxRecDepth 100000
set_option maxHeartbeats 16000000
def ywA (who : Int) : AV := .agg [.int .i64 5, .int .i64 who, .int .i64 0, .fro none true []]
def endK (h : Hs) (who : Int) : Prop := (0 ≤ who ∧ who ≤ 3) ∧ h.tx[who.toNat]!.st = 1 ∧ endI h who
theorem f60N (h : Hs) (who : Int) (hp : houseP h) (hn : ¬ ((0 ≤ who ∧ who ≤ 3) ∧ h.tx[who.toNat]!.st = 1)) : FxR 60 [.pt 3 [hF h] 0 0, ywA who] fun r l => r = .int .i64 0 ∧ l = .pt 3 [hF h] 0 0 := by
  have hl := hp.2.2.2.1
  have rowP0 : rowP [] := ⟨by simp, by simp⟩
  refine fn_ofWX ⟨true, [100064], [(13, [], [0, 1, 2, 3, 4, 5, 6, 7, 8, 9, 10, 11]), (15, [], [0, 1, 2, 3, 4, 5, 6, 7, 8, 9, 10, 11, 12, 13]), (18, [], [0, 1, 2, 3, 4, 6, 7, 8, 5, 9, 10])]⟩ (k := 0) Tryz.func60 (by kernel_rfl) rfl (by kernel_rfl) (by kernel_rfl) (Nat.le_of_ble_eq_true rfl) rfl ⟨_, _, .inr ⟨_, _, rfl⟩⟩ rfl fun Q hQ => ?_
  simp only [tr_seq, tr_block, tr_loop, tr_cond, tr_skip, tr_exit, tr_ret, tr_reg]
  rw [tr_calm (i := 4) (by kernel_rfl)]
  rw [tr_any 13 [(0, [], 0), (0, [], 1), (0, [], 2), (0, [], 3), (0, [], 4), (0, [], 5), (1, [0, 1, 2, 3, 4, 5], 6), (0, [], 7), (0, [], 8), (0, [], 9), (0, [], 10), (0, [], 11), (2, [7, 8, 9, 10, 11], 0)] (by kernel_rfl)]
  rw [tr_calm (i := 14) (by kernel_rfl)]
  rw [tr_any 15 [(0, [], 0), (0, [], 1), (0, [], 2), (0, [], 3), (0, [], 4), (0, [], 5), (0, [], 6), (0, [], 7), (1, [0, 1, 2, 3, 4, 5, 6, 7], 8), (1, [0, 1, 2, 3, 4, 5], 9), (1, [0], 10), (0, [], 11), (0, [], 12), (1, [0, 11, 12], 13), (2, [], 0)] (by kernel_rfl)]
  rw [tr_any 18 [(0, [], 0), (0, [], 1), (0, [], 2), (0, [], 3), (0, [], 4), (0, [], 6), (0, [], 7), (0, [], 8), (1, [0, 1, 2, 3, 4, 6, 7, 8], 5), (0, [], 9), (1, [0, 1, 2, 6, 7, 8, 9], 10), (2, [], 0)] (by kernel_rfl)]
  simp only [codeA_nil, codeA_look, codeA_hard, codeA_fin, ordC_leaf, ordC_one, ordC_both, pickL, List.getElem?_toArray, List.getElem?_cons_zero, List.getElem?_cons_succ]
  simp only [vmA, sN1, reduceIte, sN2, sN3, reduceCtorEq, sN4, sI1, sI2, sI3, sN5, sN6, hF, ywA, List.length_map]
  refine callD (f56 _ _ _) ?_
  simp only [vmA, sN1, reduceIte, sN2, sN3, reduceCtorEq, sN4, sI1, sI2, sI3, sN5, sN6, hF, List.length_map]
  refine ⟨fun hw => ?_, fun hw => callD (f106 0) ?_⟩
  · (refine hQ _ ?_; simp only [vmA, sN1, reduceIte, sN2, sN3, reduceCtorEq, sN4, sI1, sI2, sI3, sN5, sN6, Tryz.f60, retG, resL, St.closeVs, St.closeV, leftV, ghostW, hF, List.length_map])
  simp only [vmA, sN1, reduceIte, sN2, sN3, reduceCtorEq, sN4, sI1, sI2, sI3, sN5, sN6, hF, List.length_map, decide_eq_true (show (0 : Int) ≤ 0 ∧ (0 : Int) ≤ 4 by omega)]
  refine callD (f107 [] true (by simp) (by simp)) ?_
  have hst : ¬ h.tx[who.toNat]!.st = 1 := fun e => hn ⟨hw, e⟩
  simp only [vmA, sN1, reduceIte, sN2, sN3, reduceCtorEq, sN4, sI1, sI2, sI3, sN5, sN6, hF, xA, List.length_map, decide_eq_true rowP0, List.length_nil, eq_false hst]
  refine ⟨fun z => absurd z (by omega), fun _ => ⟨⟨by omega, by omega⟩, by omega, ?_⟩⟩
  (refine hQ _ ?_; simp only [vmA, sN1, reduceIte, sN2, sN3, reduceCtorEq, sN4, sI1, sI2, sI3, sN5, sN6, Tryz.f60, retG, resL, St.closeVs, St.closeV, leftV, ghostW, hF, xA, List.length_map])
theorem f60A (h : Hs) (who : Int) (hp : houseP h) : FxR 60 [.pt 3 [hF h] 0 0, ywA who] fun r l => ∃ (n : Int) (Z T : List AV) (ck : Int), r = .int .i64 n ∧ l = .pt 3 [.agg [.own 4 Z, .int .i64 ck, .own 5 T]] 0 0 ∧
    ((endK h who ∧ n = 1 ∧ Z = (wrV h.vs h.tx[who.toNat]!.ws (h.ck + 1)).map gO ∧ ck = h.ck + 1 ∧ T = (endW h who).map xA) ∨ (¬ endK h who ∧ n ≠ 1)) := by
  by_cases hc : (0 ≤ who ∧ who ≤ 3) ∧ h.tx[who.toNat]!.st = 1
  · refine FxR.mono (f60 h who hp hc.1 hc.2) ?_
    rintro r l ⟨n, rfl, Z, T, ck, rfl, ⟨he, h1, h2, h3, h4⟩ | ⟨he, hn⟩⟩
    · exact ⟨n, Z, T, ck, rfl, rfl, .inl ⟨⟨hc.1, hc.2, he⟩, h1, h2, h3, h4⟩⟩
    · exact ⟨n, Z, T, ck, rfl, rfl, .inr ⟨fun z => he z.2.2, hn⟩⟩
  · refine FxR.mono (f60N h who hp hc) ?_
    rintro r l ⟨rfl, rfl⟩
    exact ⟨0, h.vs.map gA, h.tx.map xA, h.ck, rfl, rfl, .inr ⟨fun z => hc ⟨z.1, z.2.1⟩, by decide⟩⟩
theorem f75E (h : Hs) (who : Int) (hp : houseP h) : FxR 75 [.pt 3 [hF h] 0 0, ywA who] fun r l => ∃ (n : Int) (Z T : List AV) (ck : Int), r = .int .i64 n ∧ l = .pt 3 [.agg [.own 4 Z, .int .i64 ck, .own 5 T]] 0 0 ∧ (endK h who → (n = 2 ↔ danL (endW h who) ≠ [])) := by
  have ho := okH_P hp
  have hsm := okH_smX hp
  have hl := hp.2.2.2.1
  refine fn_ofWX ⟨true, [30, 100038], [(5, [], [0, 1, 2, 3, 4, 5, 6, 7, 8])]⟩ (k := 0) Tryz.func75 (by kernel_rfl) rfl (by kernel_rfl) (by kernel_rfl) (Nat.le_of_ble_eq_true rfl) rfl ⟨_, _, .inr ⟨_, _, rfl⟩⟩ rfl fun Q hQ => ?_
  simp only [tr_seq, tr_block, tr_loop, tr_cond, tr_skip, tr_exit, tr_ret, tr_reg]
  rw [tr_any 5 [(0, [], 0), (0, [], 1), (0, [], 2), (0, [], 3), (0, [], 4), (0, [], 5), (0, [], 6), (0, [], 7), (1, [0, 1, 2, 3, 4, 5, 6, 7], 8), (2, [], 0)] (by kernel_rfl)]
  simp only [codeA_nil, codeA_look, codeA_hard, codeA_fin, ordC_leaf, ordC_one, ordC_both, pickL, List.getElem?_toArray, List.getElem?_cons_zero, List.getElem?_cons_succ]
  simp only [vmA, sN1, reduceIte, sN2, sN3, reduceCtorEq, sN4, sI1, sI2, sI3, sN5, sN6, hF, ywA, List.length_map, Option.bind_none, map_froize_gA, map_froize_xA]
  refine callD (f59 h (by have := ho.n; omega) ho.len (by omega) hsm (by omega)) ?_
  simp only [vmA, sN1, reduceIte, sN2, sN3, reduceCtorEq, sN4, sI1, sI2, sI3, sN5, sN6, hF, ywA, hA, hO2, List.length_map, Option.bind_none, behind_nf, hasFro, hasFro.hasFroL, hasFroL_gO, hasFroL_xO, Bool.or_false, take_map_len]
  refine callR (f60A h who hp) ?_
  rintro _ _ ⟨n, Z, T, ck, rfl, rfl, ⟨he, rfl, rfl, rfl, rfl⟩ | ⟨he, hn⟩⟩
  · simp only [vmA, sN1, reduceIte, sN2, sN3, reduceCtorEq, sN4, sI1, sI2, sI3, sN5, sN6, hF, hA, ywA, List.length_map, Option.bind_none, map_froize_gO, map_froize_xA, take_map_len]
    have hp2 : houseP ⟨wrV h.vs h.tx[who.toNat]!.ws (h.ck + 1), h.ck + 1, endW h who⟩ := house_endV hp (by have := he.1; omega) he.2.1 he.2.2.2.1 he.2.2.2.2
    have f : Fx 87 [hA ⟨wrV h.vs h.tx[who.toNat]!.ws (h.ck + 1), h.ck + 1, endW h who⟩] (.own 1 ((danL (endW h who)).map iA)) := f87 ⟨wrV h.vs h.tx[who.toNat]!.ws (h.ck + 1), h.ck + 1, endW h who⟩ (okH_P hp2) hp2
    refine callD f ?_
    simp only [vmA, sN1, reduceIte, sN2, sN3, reduceCtorEq, sN4, sI1, sI2, sI3, sN5, sN6, hF, hA, ywA, List.length_map, Option.bind_none, behind_nf, hasFro, hasFroL_iA]
    refine ⟨fun g => ?_, fun g => ?_⟩
    · have hw := he.1
      refine ⟨⟨by omega, by omega⟩, ⟨by omega, by omega⟩, by omega, ?_⟩
      (refine hQ _ ?_; simp only [vmA, sN1, reduceIte, sN2, sN3, reduceCtorEq, sN4, sI1, sI2, sI3, sN5, sN6, Tryz.f75, retG, resL, St.closeVs, St.closeV, leftV, ghostW, hF, hA, ywA, List.length_map, take_map_len, mod0, List.set_cons_zero, List.set_cons_succ, leaves, reEl])
      exact ⟨2, _, _, _, rfl, rfl, fun _ => ⟨fun _ e => by rw [e] at g; simp at g, fun _ => rfl⟩⟩
    · (refine hQ _ ?_; simp only [vmA, sN1, reduceIte, sN2, sN3, reduceCtorEq, sN4, sI1, sI2, sI3, sN5, sN6, Tryz.f75, retG, resL, St.closeVs, St.closeV, leftV, ghostW, hF, hA, ywA, List.length_map, take_map_len])
      exact ⟨1, _, _, _, rfl, rfl, fun _ => ⟨fun z => absurd z (by decide), fun z => absurd (List.eq_nil_of_length_eq_zero (by omega)) z⟩⟩
  · simp only [vmA, sN1, reduceIte, sN2, sN3, reduceCtorEq, sN4, sI1, sI2, sI3, sN5, sN6, hF, hA, ywA, List.length_map, Option.bind_none, eq_false hn]
    (refine hQ _ ?_; simp only [vmA, sN1, reduceIte, sN2, sN3, reduceCtorEq, sN4, sI1, sI2, sI3, sN5, sN6, Tryz.f75, retG, resL, St.closeVs, St.closeV, leftV, ghostW, hF, hA, ywA, List.length_map])
    exact ⟨n, Z, T, ck, rfl, rfl, fun z => absurd z he⟩
end
section
open Go Go.Vm Go.Proofs
set_option maxRecDepth 100000
set_option maxHeartbeats 16000000
theorem f35E (h : Hs) (who : Int) (hp : houseP h) : FxR 35 [hA h, ywA who] fun r l => ∃ (n : Int) (Z T : List AV) (ck : Int), r = .tup [.agg [.own 4 Z, .int .i64 ck, .own 5 T], .int .i64 n] ∧ (n = 1 ↔ endK h who) ∧ l = .und := by
  have ho := okH_P hp
  have hsm := okH_smX hp
  have hl := hp.2.2.2.1
  refine fn_ofXM ⟨true, [], []⟩ Tryz.func35 (by kernel_rfl) rfl (by kernel_rfl) (by kernel_rfl) (Nat.le_of_ble_eq_true rfl) rfl fun Q hQ => ?_
  simp only [tr_seq, tr_block, tr_loop, tr_cond, tr_skip, tr_exit, tr_ret, tr_reg]
  simp only [vmA, sN1, reduceIte, sN2, sN3, reduceCtorEq, sN4, sI1, sI2, sI3, sN5, sN6, hA, ywA]
  refine callD (f12 h ho) ?_
  simp only [vmA, sN1, reduceIte, sN2, sN3, reduceCtorEq, sN4, sI1, sI2, sI3, sN5, sN6, hA, decide_eq_true hp]
  refine callR (f59F h (by have := ho.n; omega) ho.len (by omega) hsm (by omega)) ?_
  rintro _ _ ⟨rfl, rfl⟩
  simp only [vmA, sN1, reduceIte, sN2, sN3, reduceCtorEq, sN4, sI1, sI2, sI3, sN5, sN6, hF, hA, List.length_map, Option.bind_none]
  refine callR (f60A h who hp) ?_
  rintro _ _ ⟨n, Z, T, ck, rfl, rfl, hz⟩
  simp only [vmA, sN1, reduceIte, sN2, sN3, reduceCtorEq, sN4, sI1, sI2, sI3, sN5, sN6, hF, hA, List.length_map, Option.bind_none, List.take_length]
  (refine hQ _ ?_; simp only [vmA, sN1, reduceIte, sN2, sN3, reduceCtorEq, sN4, sI1, sI2, sI3, sN5, sN6, Tryz.f35, retGM, resL, closeVsM, closeVM, St.closeV, hF, hA, List.length_map, Option.bind_none, List.take_length])
  refine ⟨n, Z, T, ck, rfl, ?_⟩
  rcases hz with ⟨he, h1, _⟩ | ⟨he, h1⟩
  · exact ⟨fun _ => he, fun _ => h1⟩
  · exact ⟨fun z => absurd z h1, fun z => absurd z he⟩
theorem f25E (h : Hs) (who : Int) (hp : houseP h) : FxR 25 [hA h, ywA who] fun r l => ∃ (n : Int) (Z T : List AV) (ck : Int), r = .tup [.agg [.own 4 Z, .int .i64 ck, .own 5 T], .int .i64 n] ∧ (endK h who → (n = 2 ↔ danL (endW h who) ≠ [])) ∧ l = .und := by
  have ho := okH_P hp
  have hsm := okH_smX hp
  have hl := hp.2.2.2.1
  refine fn_ofXM ⟨true, [], []⟩ Tryz.func25 (by kernel_rfl) rfl (by kernel_rfl) (by kernel_rfl) (Nat.le_of_ble_eq_true rfl) rfl fun Q hQ => ?_
  simp only [tr_seq, tr_block, tr_loop, tr_cond, tr_skip, tr_exit, tr_ret, tr_reg]
  simp only [vmA, sN1, reduceIte, sN2, sN3, reduceCtorEq, sN4, sI1, sI2, sI3, sN5, sN6, hA, ywA]
  refine callD (f12 h ho) ?_
  simp only [vmA, sN1, reduceIte, sN2, sN3, reduceCtorEq, sN4, sI1, sI2, sI3, sN5, sN6, hA, decide_eq_true hp]
  refine callR (f59F h (by have := ho.n; omega) ho.len (by omega) hsm (by omega)) ?_
  rintro _ _ ⟨rfl, rfl⟩
  simp only [vmA, sN1, reduceIte, sN2, sN3, reduceCtorEq, sN4, sI1, sI2, sI3, sN5, sN6, hF, hA, List.length_map, Option.bind_none]
  refine callR (f75E h who hp) ?_
  rintro _ _ ⟨n, Z, T, ck, rfl, rfl, hz⟩
  simp only [vmA, sN1, reduceIte, sN2, sN3, reduceCtorEq, sN4, sI1, sI2, sI3, sN5, sN6, hF, hA, List.length_map, Option.bind_none, List.take_length]
  (refine hQ _ ?_; simp only [vmA, sN1, reduceIte, sN2, sN3, reduceCtorEq, sN4, sI1, sI2, sI3, sN5, sN6, Tryz.f25, retGM, resL, closeVsM, closeVM, St.closeV, hF, hA, List.length_map, Option.bind_none, List.take_length])
  exact ⟨n, Z, T, ck, rfl, hz⟩
end
