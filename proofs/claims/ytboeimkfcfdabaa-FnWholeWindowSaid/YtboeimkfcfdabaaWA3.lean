/- WALK of functions of the seat, or plain laws for it: each theorem f<k> says what function k returns, for every world and all arguments that stand for the values named. Conditions: none but those ahead of each theorem. -/
import Derived.Test.YtboeimkfcfdabaaWA2
open Go Go.Vm Go.Proofs
set_option maxRecDepth 100000
set_option maxHeartbeats 8000000
set_option linter.unusedSimpArgs false
set_option linter.unusedVariables false
/-- A row: as it is looked at; as it is owned. -/
def rA (r : List Val) : AV := .fro none false (r.map vA)
def rO (r : List Val) : AV := .own 3 (r.map vA)
def okR (r : List Val) : Prop := r.length ≤ 9223372036854775807 ∧ ∀ v ∈ r, okV v
theorem froize_rO (r : List Val) : froize (rO r) = rA r := by
  have := map_froize_vA r
  simp only [rO, rA, froize, froizeL_eq, this]
theorem map_froize_rO (rs : List (List Val)) : (rs.map rO).map froize = rs.map rA := by simp [froize_rO]
theorem map_froize_rA (rs : List (List Val)) : (rs.map rA).map froize = rs.map rA := by
  have : ∀ r, froize (rA r) = rA r := fun r => by
    have := map_froize_vA r
    simp only [rA, froize, froizeL_eq, this]
  simp [this]
def szr (r : List Val) (l : Int) : Int := szS szv r l
theorem szr_ok : SzOk szr := szS_ok szv_ok
/-- Where the marks of row i begin. -/
def pR (rs : List (List Val)) (i : Nat) : Nat := ((rs.take i).map fun r => 3 * r.length).sum
theorem pR_next (rs : List (List Val)) {i : Nat} (h : i < rs.length) : pR rs (i + 1) = pR rs i + 3 * rs[i]!.length := by
  rw [pR, take_nx rs i h]; simp [pR]
theorem pR_le (rs : List (List Val)) (hr : ∀ r ∈ rs, r.length ≤ 1048576) : ∀ i, i ≤ rs.length → pR rs i ≤ 3145728 * i := by
  intro i
  induction i with
  | zero => intro _; simp [pR]
  | succ i ih =>
    intro h
    have h1 := ih (by omega)
    have h2 : rs[i]!.length ≤ 1048576 := by rw [getElem!_pos rs i (by omega)]; exact hr _ (List.getElem_mem _)
    rw [pR_next rs (by omega)]
    omega
theorem mod_rO (ys : List (List Val)) (i : Nat) (r : List Val) (h : i < ys.length) : (ys.map rO).modify i (fun x => reEl x ((leaves x).set 0 (.own 3 (r.map vA)))) = (ys.set i r).map rO := by
  have hl : i < (ys.map rO).length := by simpa using h
  rw [List.map_set, List.modify_eq_take_cons_drop hl]
  conv => rhs; rw [List.set_eq_take_append_cons_drop, if_pos hl]
  rw [List.getElem_map]
  rfl
def mkR1 (rs : List (List Val)) (k : Int) (j : Nat) : List Val := mkVs rs[j]!.length (k + pR rs j)
def mkRs (rs : List (List Val)) (k : Int) : List (List Val) := (List.range rs.length).map (mkR1 rs k)
theorem mkRs_length (rs : List (List Val)) (k : Int) : (mkRs rs k).length = rs.length := by simp [mkRs]
theorem f64 (xs : List (List Val)) : FxR 64 [.own 1 (xs.map rO)] fun r l => r = .own 1 (xs.map rO) ∧ l = .tup [] := by
  refine fn_ofW false (k := 0) Try.func64 (by kernel_rfl) rfl (by kernel_rfl) (by kernel_rfl) (Nat.le_of_ble_eq_true rfl) rfl ⟨_, _, .inl rfl⟩ rfl fun Q hQ => ?_
  simp only [vmA, Nat.reduceEqDiff, reduceIte, Nat.reduceAdd, Nat.reduceBEq, reduceCtorEq, Nat.reduceLT, Int.reduceLE, Int.reduceLT, Int.reduceEq, Nat.reduceMul, Nat.reduceLeDiff, List.length_map]
  (refine hQ _ ?_; simp only [vmA, Nat.reduceEqDiff, reduceIte, Nat.reduceAdd, Nat.reduceBEq, reduceCtorEq, Nat.reduceLT, Int.reduceLE, Int.reduceLT, Int.reduceEq, Nat.reduceMul, Nat.reduceLeDiff, Try.f64, retG, resL, St.closeVs, St.closeV, leftV, ghostW, List.length_map, take_map_len, Nat.sub_zero, Int.toNat_zero])
theorem f24 (ws : List (List Val)) (c : Bool) (hl : ws.length ≤ 1048576) (hr : ∀ w ∈ ws, w.length ≤ 1048576) : Fx 24 [.fro none c (ws.map rA)] (.own 1 (ws.map rO)) := by
  refine fn_of false Try.func24 (by kernel_rfl) rfl (by kernel_rfl) (by kernel_rfl) (Nat.le_of_ble_eq_true rfl) rfl fun Q hQ => ?_
  simp only [vmA, Nat.reduceEqDiff, reduceIte, Nat.reduceAdd, Nat.reduceBEq, reduceCtorEq, Nat.reduceLT, Int.reduceLE, Int.reduceLT, Int.reduceEq, Nat.reduceMul, Nat.reduceLeDiff, List.length_map]
  refine WT_loopN (fun (y : Nat × Nat) σ => y.1 ≤ ws.length ∧ σ.sl 6 = .fro none c (ws.map rA) ∧ σ.sl 7 = .int .i64 ws.length ∧ σ.sl 8 = .int .i64 y.1 ∧ σ.sl 3 = .hd 192 y.2 0 y.1 false ∧ (σ.en 192).live = true ∧ (σ.en 192).gen = y.2 ∧ (σ.en 192).frz = false ∧ (σ.en 192).sz = 1 ∧ (σ.en 192).elems = (ws.take y.1).map rO) (fun y => ws.length - y.1) (0, 1) 3 1 (by simp [put_sl, put_en, put_none, init_sl, fresh_sl, fresh_en, ent_sl, ent_en, init_en]) (by simp [put_sl, put_en, put_none, init_sl, fresh_sl, fresh_en, ent_sl, ent_en, init_en, takeRes, takeV, takeLeaf, eid]) ?_
  rintro ⟨i, g⟩ σ ⟨hi, e6, e7, e8, o1, o2, o3, o4, o5, o6⟩
  dsimp only at hi e8 o1 o3 o6
  have hlt' : (ws.take i).length = i := by simp; omega
  simp only [vmA, Nat.reduceEqDiff, reduceIte, Nat.reduceAdd, Nat.reduceBEq, reduceCtorEq, Nat.reduceLT, Int.reduceLE, Int.reduceLT, Int.reduceEq, Nat.reduceMul, Nat.reduceLeDiff, e6, e7, e8, o1, o2, o3, o4, o5, o6, List.length_map, rA, Option.bind_none]
  refine ⟨fun hlt => ⟨hlt, by omega, callD (f63 _ _ (hr _ (by rw [getElem!_pos ws i (by omega)]; exact List.getElem_mem _))) ?_⟩, fun hge => ?_⟩
  · simp only [vmA, Nat.reduceEqDiff, reduceIte, Nat.reduceAdd, Nat.reduceBEq, reduceCtorEq, Nat.reduceLT, Int.reduceLE, Int.reduceLT, Int.reduceEq, Nat.reduceMul, Nat.reduceLeDiff, e6, e7, e8, o1, o2, o3, o4, o5, o6, List.length_map, rA, hlt', Option.bind_none]
    rw [wr (by omega)]
    refine ⟨by omega, (i + 1, g + 1), ⟨by dsimp only; omega, rfl, ?_⟩, by dsimp only; omega⟩
    rw [take_next ws i (by omega)]
    simp only [vmA, Nat.reduceEqDiff, reduceIte, Nat.reduceAdd, Nat.reduceBEq, reduceCtorEq, Nat.reduceLT, Int.reduceLE, Int.reduceLT, Int.reduceEq, Nat.reduceMul, Nat.reduceLeDiff, e6, e7, e8, o1, o2, o3, o4, o5, o6, rO, List.map_append, hlt', Option.bind_none]
  · obtain rfl : i = ws.length := by omega
    rw [List.take_length]
    refine ⟨by omega, callR (f64 ws) ?_⟩
    rintro _ _ ⟨rfl, rfl⟩
    simp only [vmA, Nat.reduceEqDiff, reduceIte, Nat.reduceAdd, Nat.reduceBEq, reduceCtorEq, Nat.reduceLT, Int.reduceLE, Int.reduceLT, Int.reduceEq, Nat.reduceMul, Nat.reduceLeDiff, List.length_map]
    (refine hQ _ ?_; simp only [vmA, Nat.reduceEqDiff, reduceIte, Nat.reduceAdd, Nat.reduceBEq, reduceCtorEq, Nat.reduceLT, Int.reduceLE, Int.reduceLT, Int.reduceEq, Nat.reduceMul, Nat.reduceLeDiff, Try.f24, retG, resL, St.closeVs, St.closeV, List.length_map, take_map_len])
