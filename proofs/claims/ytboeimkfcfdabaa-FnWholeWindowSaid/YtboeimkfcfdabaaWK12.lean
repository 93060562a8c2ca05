/- WALK of functions of the seat, or plain laws for it: each theorem f<k> says what function k returns, for every world and all arguments that stand for the values named. Conditions: none but those ahead of each theorem. -/
import Derived.Test.YtboeimkfcfdabaaWFnF
import Derived.Test.YtboeimkfcfdabaaWK8
open Go Go.Vm Go.Proofs
set_option maxRecDepth 100000
set_option maxHeartbeats 8000000
set_option linter.unusedSimpArgs false
set_option linter.unusedVariables false
theorem f87c (xs : List Val) (h0 : ¬ xs = []) : FxR 87 [.own 3 (xs.map vA)] fun r l => r = .fro none true (xs.map vA) ∧ l = .tup [] := by
  refine fn_ofWF false (k := 0) Try.func87 (by kernel_rfl) rfl (by kernel_rfl) (by kernel_rfl) (Nat.le_of_ble_eq_true rfl) rfl ⟨_, _, .inl rfl⟩ rfl fun Q hQ => ?_
  simp only [vmA, Nat.reduceEqDiff, reduceIte, Nat.reduceAdd, Nat.reduceBEq, reduceCtorEq, Nat.reduceLT, Int.reduceLE, Int.reduceLT, Int.reduceEq, Nat.reduceMul, Nat.reduceLeDiff, List.length_map]
  (refine hQ _ ?_; simp only [vmA, Try.f87, retG, resL, St.closeVs, St.closeV, leftVF, ghostW, resTmp, List.length_map, take_map_len, Nat.sub_zero, Int.toNat_zero, List.map_cons, List.map_nil])
theorem f63c (xs : List Val) (c : Bool) (hl : xs.length ≤ 1048576) : Fx 63 [.fro none c (xs.map vA)] (.fro none true (xs.map vA)) := by
  refine fn_of ⟨false, [], []⟩ Try.func63 (by kernel_rfl) rfl (by kernel_rfl) (by kernel_rfl) (Nat.le_of_ble_eq_true rfl) rfl fun Q hQ => ?_
  simp only [vmA, Nat.reduceEqDiff, reduceIte, Nat.reduceAdd, Nat.reduceBEq, reduceCtorEq, Nat.reduceLT, Int.reduceLE, Int.reduceLT, Int.reduceEq, Nat.reduceMul, Nat.reduceLeDiff, List.length_map]
  refine ⟨fun h => ?_, fun h => ?_⟩
  · (refine hQ _ ?_; simp only [vmA, Nat.reduceEqDiff, reduceIte, Nat.reduceAdd, Nat.reduceBEq, reduceCtorEq, Nat.reduceLT, Int.reduceLE, Int.reduceLT, Int.reduceEq, Nat.reduceMul, Nat.reduceLeDiff, Try.f63, retG, resL, St.closeVs, St.closeV])
    rw [List.eq_nil_of_length_eq_zero (l := xs) (by omega)]
    rfl
  · refine ⟨fun z hz => ?_, ?_⟩
    · obtain ⟨b, _, rfl⟩ := List.mem_map.1 hz; rfl
    refine ⟨.inl trivial, by omega, callR (f87c xs (by rintro rfl; simp at h)) ?_⟩
    rintro _ _ ⟨rfl, rfl⟩
    simp only [vmA, Nat.reduceEqDiff, reduceIte, Nat.reduceAdd, Nat.reduceBEq, reduceCtorEq, Nat.reduceLT, Int.reduceLE, Int.reduceLT, Int.reduceEq, Nat.reduceMul, Nat.reduceLeDiff, List.length_map]
    (refine hQ _ ?_; simp only [vmA, Nat.reduceEqDiff, reduceIte, Nat.reduceAdd, Nat.reduceBEq, reduceCtorEq, Nat.reduceLT, Int.reduceLE, Int.reduceLT, Int.reduceEq, Nat.reduceMul, Nat.reduceLeDiff, Try.f63, retG, resL, St.closeVs, St.closeV, List.length_map, take_map_len])
theorem behind_yes {C : Cfg} {σ : St} {f : Nat} {xs : List AV} {dd : Option Tmp} {res : AV} (h : hasFro res = true) : behind C σ f xs dd res .und = takeRes dd (freezeL σ (lentL C σ f 0 xs)) res := by
  unfold behind
  rw [h, leftS_und]
  rfl
theorem f55c (r : List Val) (bl : List Int) (c d : Bool) (hl : bl.length ≤ 1048576) (hb : ∀ n ∈ bl, 0 ≤ n ∧ n < (r.length : Int)) : Fx 55 [.fro none c (r.map vA), .fro none d (bl.map iA)] (.fro none true ((takeBy r bl).map vA)) := by
  refine fn_of ⟨true, [], []⟩ Try.func55 (by kernel_rfl) rfl (by kernel_rfl) (by kernel_rfl) (Nat.le_of_ble_eq_true rfl) rfl fun Q hQ => ?_
  simp only [vmA, Nat.reduceEqDiff, reduceIte, Nat.reduceAdd, Nat.reduceBEq, reduceCtorEq, Nat.reduceLT, Int.reduceLE, Int.reduceLT, Int.reduceEq, Nat.reduceMul, Nat.reduceLeDiff, List.length_map, Option.bind_none]
  refine WT_loopN (fun (y : Nat × Nat) σ => y.1 ≤ bl.length ∧ σ.sl 0 = .fro none c (r.map vA) ∧ σ.sl 8 = .fro none d (bl.map iA) ∧ σ.sl 9 = .int .i64 bl.length ∧ σ.sl 10 = .int .i64 y.1 ∧ σ.sl 5 = .hd 320 y.2 0 y.1 false ∧ (σ.en 320).live = true ∧ (σ.en 320).gen = y.2 ∧ (σ.en 320).frz = false ∧ (σ.en 320).sz = 3 ∧ (σ.en 320).elems = (takeBy r (bl.take y.1)).map vA) (fun y => bl.length - y.1) (0, 1) 5 3 (by simp [put_sl, put_en, put_none, init_sl, fresh_sl, fresh_en, ent_sl, ent_en, init_en]) (by simp [put_sl, put_en, put_none, init_sl, fresh_sl, fresh_en, ent_sl, ent_en, init_en, takeRes, takeV, takeLeaf, eid, takeBy]) ?_
  rintro ⟨i, g⟩ σ ⟨hi, e0, e8, e9, e10, o1, o2, o3, o4, o5, o6⟩
  dsimp only at hi e10 o1 o3 o6
  have hlt' : (takeBy r (bl.take i)).length = i := by simp [takeBy]; omega
  simp only [vmA, Nat.reduceEqDiff, reduceIte, Nat.reduceAdd, Nat.reduceBEq, reduceCtorEq, Nat.reduceLT, Int.reduceLE, Int.reduceLT, Int.reduceEq, Nat.reduceMul, Nat.reduceLeDiff, e0, e8, e9, e10, o1, o2, o3, o4, o5, o6, List.length_map, vA, Option.bind_none, hlt']
  refine ⟨fun hlt => ?_, fun hge => ?_⟩
  · have hbi := hb bl[i]! (by rw [getElem!_pos bl i (by omega)]; exact List.getElem_mem _)
    refine ⟨hlt, by omega, hbi, by omega, ⟨by omega, by omega⟩, ?_⟩
    rw [wr (by omega)]
    refine ⟨(i + 1, g + 1), ⟨by dsimp only; omega, rfl, ?_⟩, by dsimp only; omega⟩
    rw [takeBy_next r bl (by omega)]
    simp only [vmA, Nat.reduceEqDiff, reduceIte, Nat.reduceAdd, Nat.reduceBEq, reduceCtorEq, Nat.reduceLT, Int.reduceLE, Int.reduceLT, Int.reduceEq, Nat.reduceMul, Nat.reduceLeDiff, e0, e8, e9, e10, o1, o2, o3, o4, o5, o6, List.length_map, vA, Option.bind_none, hlt', List.map_append]
  · rw [List.take_of_length_le (by simp; omega), map_froize_vA]
    obtain rfl : i = bl.length := by omega
    rw [List.take_length]
    refine callD (f63c (takeBy r bl) false (by simp [takeBy]; omega)) ?_
    cases hb2 : hasFro (.fro none true (List.map vA (takeBy r bl)))
    · simp only [behind_nf hb2]
      simp only [vmA, Nat.reduceEqDiff, reduceIte, Nat.reduceAdd, Nat.reduceBEq, reduceCtorEq, Nat.reduceLT, Int.reduceLE, Int.reduceLT, Int.reduceEq, Nat.reduceMul, Nat.reduceLeDiff, e0, e8, e9, e10, o1, o2, o3, o4, o5, o6]
      (refine hQ _ ?_; simp only [vmA, Nat.reduceEqDiff, reduceIte, Nat.reduceAdd, Nat.reduceBEq, reduceCtorEq, Nat.reduceLT, Int.reduceLE, Int.reduceLT, Int.reduceEq, Nat.reduceMul, Nat.reduceLeDiff, Try.f55, retG, resL, St.closeVs, St.closeV, List.take_length, List.length_map])
    · simp only [behind_yes hb2]
      simp only [vmA, Nat.reduceEqDiff, reduceIte, Nat.reduceAdd, Nat.reduceBEq, reduceCtorEq, Nat.reduceLT, Int.reduceLE, Int.reduceLT, Int.reduceEq, Nat.reduceMul, Nat.reduceLeDiff, e0, e8, e9, e10, o1, o2, o3, o4, o5, o6, freezeL, lentOf]
      (refine hQ _ ?_; simp only [vmA, Nat.reduceEqDiff, reduceIte, Nat.reduceAdd, Nat.reduceBEq, reduceCtorEq, Nat.reduceLT, Int.reduceLE, Int.reduceLT, Int.reduceEq, Nat.reduceMul, Nat.reduceLeDiff, Try.f55, retG, resL, St.closeVs, St.closeV, List.take_length, List.length_map])
