/- WALK of functions of the seat, or plain laws for it: each theorem f<k> says what function k returns, for every world and all arguments that stand for the values named. Conditions: none but those ahead of each theorem. -/
import Derived.Test.YtfimolakepbdbaaYA2
open Go Go.Vm Go.Proofs
set_option maxRecDepth 100000
set_option linter.unusedSimpArgs false
set_option linter.unusedVariables false
/-- A row: as it is looked at; as it is owned. -/
def rA (r : List Val) : AV := .fro none false (r.map vA)
def rO (r : List Val) : AV := .own 3 (r.map vA)
def okR (r : List Val) : Prop := r.length ≤ 9223372036854775807 ∧ ∀ v ∈ r, okV v
theorem froize_rO (r : List Val) : froize (rO r) = rA r := by
  have := map_froize_vA r
  simp only [rO, rA, froize, froizeL_eq, this]
theorem map_froize_rO (rs : List (List Val)) : (rs.map rO).map froize = rs.map rA := by simp [froize_rO]
theorem map_froize_rA (rs : List (List Val)) : (rs.map rA).map froize = rs.map rA := by
  have : ∀ r, froize (rA r) = rA r := fun r => by
    have := map_froize_vA r
    simp only [rA, froize, froizeL_eq, this]
  simp [this]
def szr (r : List Val) (l : Int) : Int := szS szv r l
theorem szr_ok : SzOk szr := szS_ok szv_ok
theorem f9 (xs : List (List Val)) (c : Bool) (left : Int) (hs : ∀ v ∈ xs, okR v) (hl : xs.length ≤ 9223372036854775807) (h0 : 0 ≤ left) (h1 : left ≤ 1048576) : Fx 9 [.fro none c (xs.map rA), .int .i64 left] (.int .i64 (szS szr xs left)) := by
  refine fn_of false Try.func9 (by kernel_rfl) rfl (by kernel_rfl) (by kernel_rfl) (Nat.le_of_ble_eq_true rfl) rfl fun Q hQ => ?_
  simp only [vmA, Nat.reduceEqDiff, reduceIte, Nat.reduceAdd, Nat.reduceBEq, reduceCtorEq, Nat.reduceLT, Int.reduceLE, Int.reduceLT, Int.reduceEq, Nat.reduceMul, Nat.reduceLeDiff, List.length_map]
  rw [wr (by omega)]
  refine ⟨fun h => ?_, fun h => ?_⟩
  · (refine hQ _ ?_; simp only [vmA, Nat.reduceEqDiff, reduceIte, Nat.reduceAdd, Nat.reduceBEq, reduceCtorEq, Nat.reduceLT, Int.reduceLE, Int.reduceLT, Int.reduceEq, Nat.reduceMul, Nat.reduceLeDiff, Try.f9, retG, resL, St.closeVs, St.closeV])
    simp [szS, h]
  refine WT_loop (fun (p : Nat × Int) σ => p.1 ≤ xs.length ∧ 0 ≤ p.2 ∧ p.2 ≤ left ∧ szL szr (xs.drop p.1) p.2 = szS szr xs left ∧ σ.sl 0 = .fro none c (xs.map rA) ∧ σ.sl 5 = .int .i64 p.1 ∧ σ.sl 1 = .int .i64 p.2) (fun p => xs.length - p.1) (0, left - xs.length)
    ⟨by omega, by omega, by omega, by simp [szS, h], by simp [put_sl, put_en, put_none, init_sl, fresh_sl, fresh_en, ent_sl, ent_en, init_en], by simp [put_sl, put_en, put_none, init_sl, fresh_sl, fresh_en, ent_sl, ent_en, init_en], by simp [put_sl, put_en, put_none, init_sl, fresh_sl, fresh_en, ent_sl, ent_en, init_en]⟩ ?_
  rintro ⟨i, l⟩ σ ⟨hi, hl0, hl1, hz, e0, e5, e1⟩
  dsimp only at hi hl0 hl1 hz e5 e1
  simp only [vmA, Nat.reduceEqDiff, reduceIte, Nat.reduceAdd, Nat.reduceBEq, reduceCtorEq, Nat.reduceLT, Int.reduceLE, Int.reduceLT, Int.reduceEq, Nat.reduceMul, Nat.reduceLeDiff, e0, e5, e1, rA, List.length_map]
  refine ⟨fun hlt => ?_, fun hge => ?_⟩
  · have hok : okR xs[i]! := hs _ (by rw [getElem!_pos xs i (by omega)]; exact List.getElem_mem _)
    refine ⟨hlt, by omega, callD (f30 xs[i]! false l hok.2 hok.1 hl0 (by omega)) ?_⟩
    rw [szL_drop szr (by omega)] at hz
    have hb := szr_ok xs[i]! l hl0
    have hd : szS szv xs[i]! l = szr xs[i]! l := rfl
    rw [hd]
    simp only [vmA, Nat.reduceEqDiff, reduceIte, Nat.reduceAdd, Nat.reduceBEq, reduceCtorEq, Nat.reduceLT, Int.reduceLE, Int.reduceLT, Int.reduceEq, Nat.reduceMul, Nat.reduceLeDiff, e0, e5]
    refine ⟨fun hneg => ?_, fun hpos => ?_⟩
    · (refine hQ _ ?_; simp only [vmA, Nat.reduceEqDiff, reduceIte, Nat.reduceAdd, Nat.reduceBEq, reduceCtorEq, Nat.reduceLT, Int.reduceLE, Int.reduceLT, Int.reduceEq, Nat.reduceMul, Nat.reduceLeDiff, Try.f9, retG, resL, St.closeVs, St.closeV])
      rw [if_pos hneg] at hz; rw [hz]
    · rw [if_neg hpos] at hz
      rw [wr (by omega)]
      refine ⟨(i + 1, szr xs[i]! l), ⟨by dsimp only; omega, by dsimp only; omega, by dsimp only; omega, hz, ?_⟩, by dsimp only; omega⟩
      simp
  · have : xs.drop i = [] := List.drop_of_length_le (by omega)
    rw [this, szL] at hz
    (refine hQ _ ?_; simp only [vmA, Nat.reduceEqDiff, reduceIte, Nat.reduceAdd, Nat.reduceBEq, reduceCtorEq, Nat.reduceLT, Int.reduceLE, Int.reduceLT, Int.reduceEq, Nat.reduceMul, Nat.reduceLeDiff, Try.f9, retG, resL, St.closeVs, St.closeV, e1])
    rw [hz]
theorem f13 (xs : List (List Val)) (c c2 : Bool) (hl : xs.length ≤ 1048576) (hs : ∀ w ∈ xs, w.length ≤ 1048576) : Fx 13 [.fro none c (xs.map rA), .fro none c2 (xs.map rA)] (.bool true) := by
  refine fn_of false Try.func13 (by kernel_rfl) rfl (by kernel_rfl) (by kernel_rfl) (Nat.le_of_ble_eq_true rfl) rfl fun Q hQ => ?_
  simp only [vmA, Nat.reduceEqDiff, reduceIte, Nat.reduceAdd, Nat.reduceBEq, reduceCtorEq, Nat.reduceLT, Int.reduceLE, Int.reduceLT, Int.reduceEq, Nat.reduceMul, Nat.reduceLeDiff, List.length_map]
  refine WT_loop (fun (i : Nat) σ => i ≤ xs.length ∧ σ.sl 0 = .fro none c (xs.map rA) ∧ σ.sl 1 = .fro none c2 (xs.map rA) ∧ σ.sl 5 = .int .i64 i) (fun i => xs.length - i) 0 ⟨by omega, by simp [put_sl, put_en, put_none, init_sl, fresh_sl, fresh_en, ent_sl, ent_en, init_en], by simp [put_sl, put_en, put_none, init_sl, fresh_sl, fresh_en, ent_sl, ent_en, init_en], by simp [put_sl, put_en, put_none, init_sl, fresh_sl, fresh_en, ent_sl, ent_en, init_en]⟩ ?_
  rintro i σ ⟨hi, e0, e1, e5⟩
  simp only [vmA, Nat.reduceEqDiff, reduceIte, Nat.reduceAdd, Nat.reduceBEq, reduceCtorEq, Nat.reduceLT, Int.reduceLE, Int.reduceLT, Int.reduceEq, Nat.reduceMul, Nat.reduceLeDiff, e0, e1, e5, rA, List.length_map]
  refine ⟨fun hlt => ?_, fun hge => ?_⟩
  · refine ⟨hlt, by omega, hlt, by omega, callD (f36 xs[i]! false false (hs _ (by rw [getElem!_pos xs i (by omega)]; exact List.getElem_mem _))) ?_⟩
    simp only [vmA, Nat.reduceEqDiff, reduceIte, Nat.reduceAdd, Nat.reduceBEq, reduceCtorEq, Nat.reduceLT, Int.reduceLE, Int.reduceLT, Int.reduceEq, Nat.reduceMul, Nat.reduceLeDiff, e0, e1, e5]
    refine ⟨i + 1, ⟨by omega, by rw [wr (by omega)]; rfl⟩, by omega⟩
  · (refine hQ _ ?_; simp only [vmA, Nat.reduceEqDiff, reduceIte, Nat.reduceAdd, Nat.reduceBEq, reduceCtorEq, Nat.reduceLT, Int.reduceLE, Int.reduceLT, Int.reduceEq, Nat.reduceMul, Nat.reduceLeDiff, Try.f13, retG, resL, St.closeVs, St.closeV])
theorem f11o (xs : List (List Val)) (c : Bool) (hl : xs.length ≤ 1048576) (hs : ∀ w ∈ xs, w.length ≤ 1048576) : Fx 11 [.fro none c (xs.map rA)] (.own 1 (xs.map rO)) := by
  refine fn_of false Try.func11 (by kernel_rfl) rfl (by kernel_rfl) (by kernel_rfl) (Nat.le_of_ble_eq_true rfl) rfl fun Q hQ => ?_
  simp only [vmA, Nat.reduceEqDiff, reduceIte, Nat.reduceAdd, Nat.reduceBEq, reduceCtorEq, Nat.reduceLT, Int.reduceLE, Int.reduceLT, Int.reduceEq, Nat.reduceMul, Nat.reduceLeDiff, List.length_map]
  refine ⟨by omega, WT_loop (fun (i : Nat) σ => i ≤ xs.length ∧ σ.sl 0 = .fro none c (xs.map rA) ∧ σ.sl 4 = .int .i64 i ∧ σ.sl 3 = .hd 448 1 0 xs.length true ∧ (σ.en 448).live = true ∧ (σ.en 448).gen = 1 ∧ (σ.en 448).frz = false ∧ (σ.en 448).sz = 1 ∧ (σ.en 448).elems = upL rO (.fro none true []) xs i) (fun i => xs.length - i) 0 ?_ ?_⟩
  · simp [put_sl, put_en, put_none, init_sl, fresh_sl, fresh_en, ent_sl, ent_en, init_en, upL_zero]
  rintro i σ ⟨hi, e0, e4, e3, l1, l2, l3, l4, l5⟩
  simp only [vmA, Nat.reduceEqDiff, reduceIte, Nat.reduceAdd, Nat.reduceBEq, reduceCtorEq, Nat.reduceLT, Int.reduceLE, Int.reduceLT, Int.reduceEq, Nat.reduceMul, Nat.reduceLeDiff, e0, e4, e3, rO, rA, l1, l2, l3, l4, l5, upL_length rO _ xs hi, List.length_map]
  refine ⟨fun hlt => ?_, fun hge => ?_⟩
  · refine ⟨hlt, by omega, callD (f34 xs[i]! false (hs _ (by rw [getElem!_pos xs i (by omega)]; exact List.getElem_mem _))) ?_⟩
    simp only [vmA, Nat.reduceEqDiff, reduceIte, Nat.reduceAdd, Nat.reduceBEq, reduceCtorEq, Nat.reduceLT, Int.reduceLE, Int.reduceLT, Int.reduceEq, Nat.reduceMul, Nat.reduceLeDiff, e0, e4, e3, rO, rA, l1, l2, l3, l4, l5, upL_length rO _ xs hi, upL_get rO _ xs (show i < xs.length by omega), Nat.le_refl, List.length_map]
    refine ⟨hlt, i + 1, ⟨by omega, by rw [wr (by omega)]; rfl, ?_⟩, by omega⟩
    exact upL_set rO _ xs (by omega)
  · obtain rfl : i = xs.length := by omega
    (refine hQ _ ?_; simp only [vmA, Nat.reduceEqDiff, reduceIte, Nat.reduceAdd, Nat.reduceBEq, reduceCtorEq, Nat.reduceLT, Int.reduceLE, Int.reduceLT, Int.reduceEq, Nat.reduceMul, Nat.reduceLeDiff, Try.f11, retG, resL, St.closeVs, St.closeV, l1, l2, l3, l4, l5, upL_full, Nat.le_refl, List.take_length])
/-- Where the marks of row i begin. -/
def pR (rs : List (List Val)) (i : Nat) : Nat := ((rs.take i).map fun r => 3 * r.length).sum
theorem pR_next (rs : List (List Val)) {i : Nat} (h : i < rs.length) : pR rs (i + 1) = pR rs i + 3 * rs[i]!.length := by
  rw [pR, take_nx rs i h]; simp [pR]
theorem pR_le (rs : List (List Val)) (hr : ∀ r ∈ rs, r.length ≤ 1048576) : ∀ i, i ≤ rs.length → pR rs i ≤ 3145728 * i := by
  intro i
  induction i with
  | zero => intro _; simp [pR]
  | succ i ih =>
    intro h
    have h1 := ih (by omega)
    have h2 : rs[i]!.length ≤ 1048576 := by rw [getElem!_pos rs i (by omega)]; exact hr _ (List.getElem_mem _)
    rw [pR_next rs (by omega)]
    omega
theorem mod_rO (ys : List (List Val)) (i : Nat) (r : List Val) (h : i < ys.length) : (ys.map rO).modify i (fun x => reEl x ((leaves x).set 0 (.own 3 (r.map vA)))) = (ys.set i r).map rO := by
  have hl : i < (ys.map rO).length := by simpa using h
  rw [List.map_set, List.modify_eq_take_cons_drop hl]
  conv => rhs; rw [List.set_eq_take_append_cons_drop, if_pos hl]
  rw [List.getElem_map]
  rfl
def mkR1 (rs : List (List Val)) (k : Int) (j : Nat) : List Val := mkVs rs[j]!.length (k + pR rs j)
def mkRs (rs : List (List Val)) (k : Int) : List (List Val) := (List.range rs.length).map (mkR1 rs k)
theorem mkRs_length (rs : List (List Val)) (k : Int) : (mkRs rs k).length = rs.length := by simp [mkRs]
theorem f14 (rs : List (List Val)) (k : Int) (hk : 0 ≤ k) (hr : ∀ r ∈ rs, r.length ≤ 1048576) (hl : k + 3145728 * rs.length ≤ 4611686018427387904) : FxR 14 [.own 1 (rs.map rO), .int .i64 k] fun r l => r = .int .i64 (k + pR rs rs.length) ∧ l = .own 1 ((mkRs rs k).map rO) := by
  refine fn_ofW false (k := 0) Try.func14 (by kernel_rfl) rfl (by kernel_rfl) (by kernel_rfl) (Nat.le_of_ble_eq_true rfl) rfl ⟨_, _, .inl rfl⟩ rfl fun Q hQ => ?_
  simp only [vmA, Nat.reduceEqDiff, reduceIte, Nat.reduceAdd, Nat.reduceBEq, reduceCtorEq, Nat.reduceLT, Int.reduceLE, Int.reduceLT, Int.reduceEq, Nat.reduceMul, Nat.reduceLeDiff, List.length_map]
  refine WT_loop (fun (p : Nat × List (List Val)) σ => (p.1 ≤ rs.length ∧ p.2.length = rs.length ∧ (∀ j, j < p.1 → p.2[j]! = mkR1 rs k j) ∧ ∀ j, p.1 ≤ j → p.2[j]! = rs[j]!) ∧ σ.sl 0 = .hd 0 1 0 rs.length false ∧ (σ.en 0).live = true ∧ (σ.en 0).gen = 1 ∧ (σ.en 0).frz = false ∧ (σ.en 0).sz = 1 ∧ (σ.en 0).elems = p.2.map rO ∧ σ.sl 1 = .int .i64 (k + pR rs p.1) ∧ σ.sl 5 = .int .i64 p.1) (fun p => rs.length - p.1) (0, rs) ⟨⟨by simp, rfl, by simp, fun _ _ => rfl⟩, by simp [put_sl, put_en, put_none, init_sl, fresh_sl, fresh_en, ent_sl, ent_en, init_en], by simp [put_sl, put_en, put_none, init_sl, fresh_sl, fresh_en, ent_sl, ent_en, init_en], by simp [put_sl, put_en, put_none, init_sl, fresh_sl, fresh_en, ent_sl, ent_en, init_en], by simp [put_sl, put_en, put_none, init_sl, fresh_sl, fresh_en, ent_sl, ent_en, init_en], by simp [put_sl, put_en, put_none, init_sl, fresh_sl, fresh_en, ent_sl, ent_en, init_en], by simp [put_sl, put_en, put_none, init_sl, fresh_sl, fresh_en, ent_sl, ent_en, init_en], by simp [put_sl, put_en, put_none, init_sl, fresh_sl, fresh_en, ent_sl, ent_en, init_en, pR], by simp [put_sl, put_en, put_none, init_sl, fresh_sl, fresh_en, ent_sl, ent_en, init_en]⟩ ?_
  rintro ⟨i, ys⟩ σ ⟨⟨hi, hyl, hy, hz⟩, e0, l1, l2, l3, l4, l5, e1, e5⟩
  dsimp only at hi hyl hy hz l5 e1 e5
  have hp := pR_le rs hr i hi
  simp only [vmA, Nat.reduceEqDiff, reduceIte, Nat.reduceAdd, Nat.reduceBEq, reduceCtorEq, Nat.reduceLT, Int.reduceLE, Int.reduceLT, Int.reduceEq, Nat.reduceMul, Nat.reduceLeDiff, e0, l1, l2, l3, l4, l5, e1, e5, List.length_map, hyl, rO]
  refine ⟨fun hlt => ?_, fun hge => ?_⟩
  · have hyi : rs[i]!.length ≤ 1048576 := by rw [getElem!_pos rs i (by omega)]; exact hr _ (List.getElem_mem _)
    have hn := pR_next rs (i := i) (by omega)
    rw [hz i (Nat.le_refl _)]
    refine ⟨hlt, by omega, by omega, callR (f37p rs[i]! (k + pR rs i) (by omega) (by omega)) ?_⟩
    rintro _ _ ⟨rfl, rfl⟩
    have hm := mod_rO ys i (mkVs rs[i]!.length (k + pR rs i)) (by omega)
    simp only [vmA, Nat.reduceEqDiff, reduceIte, Nat.reduceAdd, Nat.reduceBEq, reduceCtorEq, Nat.reduceLT, Int.reduceLE, Int.reduceLT, Int.reduceEq, Nat.reduceMul, Nat.reduceLeDiff, e0, l1, l2, l3, l4, l5, e1, e5, List.length_map, hyl, rO, List.length_set]
    rw [hm, wr (by omega)]
    refine ⟨(i + 1, ys.set i (mkR1 rs k i)), ⟨⟨by dsimp only; omega, by simpa using hyl, mk_set _ (by omega) hy, fun j hj => ?_⟩, rfl, leafJ (by dsimp only; omega), rfl⟩, by dsimp only; omega⟩
    dsimp only at hj ⊢
    rw [← hz j (by omega)]
    by_cases hjl : j < ys.length
    · rw [getElem!_pos _ j (by simpa using hjl), List.getElem_set_ne (by omega), ← getElem!_pos ys j hjl]
    · rw [getElem!_neg _ j (by simpa using hjl), getElem!_neg _ j hjl]
  · (refine hQ _ ?_; simp only [vmA, Nat.reduceEqDiff, reduceIte, Nat.reduceAdd, Nat.reduceBEq, reduceCtorEq, Nat.reduceLT, Int.reduceLE, Int.reduceLT, Int.reduceEq, Nat.reduceMul, Nat.reduceLeDiff, Try.f14, retG, resL, St.closeVs, St.closeV, leftV, ghostW, e0, l1, l2, l3, l4, l5, e1, e5, List.length_map, hyl])
    obtain rfl : i = rs.length := by omega
    refine ⟨rfl, ?_⟩
    rw [List.take_of_length_le (by simp; omega), mk_all _ hyl hy]
    rfl
theorem f15 (rs : List (List Val)) (k : Int) (c : Bool) (hk : 0 ≤ k) (hr : ∀ r ∈ rs, r.length ≤ 1048576) (hl : k + 3145728 * rs.length ≤ 4611686018427387904) : Fx 15 [.fro none c ((mkRs rs k).map rA), .int .i64 k] (.int .i64 (k + pR rs rs.length)) := by
  refine fn_of false Try.func15 (by kernel_rfl) rfl (by kernel_rfl) (by kernel_rfl) (Nat.le_of_ble_eq_true rfl) rfl fun Q hQ => ?_
  have hyl := mkRs_length rs k
  have hy : ∀ i, i < rs.length → (mkRs rs k)[i]! = mkR1 rs k i := fun i hi => mk_at _ hi
  generalize mkRs rs k = ys at hyl hy
  simp only [vmA, Nat.reduceEqDiff, reduceIte, Nat.reduceAdd, Nat.reduceBEq, reduceCtorEq, Nat.reduceLT, Int.reduceLE, Int.reduceLT, Int.reduceEq, Nat.reduceMul, Nat.reduceLeDiff, List.length_map, hyl]
  refine WT_loop (fun (i : Nat) σ => i ≤ rs.length ∧ σ.sl 0 = .fro none c (ys.map rA) ∧ σ.sl 1 = .int .i64 (k + pR rs i) ∧ σ.sl 5 = .int .i64 i) (fun i => rs.length - i) 0 ⟨by omega, by simp [put_sl, put_en, put_none, init_sl, fresh_sl, fresh_en, ent_sl, ent_en, init_en], by simp [put_sl, put_en, put_none, init_sl, fresh_sl, fresh_en, ent_sl, ent_en, init_en, pR], by simp [put_sl, put_en, put_none, init_sl, fresh_sl, fresh_en, ent_sl, ent_en, init_en]⟩ ?_
  rintro i σ ⟨hi, e0, e1, e5⟩
  have hp := pR_le rs hr i hi
  simp only [vmA, Nat.reduceEqDiff, reduceIte, Nat.reduceAdd, Nat.reduceBEq, reduceCtorEq, Nat.reduceLT, Int.reduceLE, Int.reduceLT, Int.reduceEq, Nat.reduceMul, Nat.reduceLeDiff, e0, e1, e5, List.length_map, hyl, rA]
  refine ⟨fun hlt => ?_, fun hge => ?_⟩
  · have hh := hy i (by omega)
    have hyi : rs[i]!.length ≤ 1048576 := by rw [getElem!_pos rs i (by omega)]; exact hr _ (List.getElem_mem _)
    have hn := pR_next rs (i := i) (by omega)
    rw [hh]
    refine ⟨hlt, by omega, callD (f38 _ _ _ (by omega) (by omega)) ?_⟩
    simp only [vmA, Nat.reduceEqDiff, reduceIte, Nat.reduceAdd, Nat.reduceBEq, reduceCtorEq, Nat.reduceLT, Int.reduceLE, Int.reduceLT, Int.reduceEq, Nat.reduceMul, Nat.reduceLeDiff, e0, e1, e5, List.length_map, hyl, rA]
    rw [wr (by omega)]
    exact ⟨fun h => absurd h (by omega), fun _ => ⟨i + 1, ⟨by omega, leafJ (by omega), leafJ (by omega)⟩, by omega⟩⟩
  · (refine hQ _ ?_; simp only [vmA, Nat.reduceEqDiff, reduceIte, Nat.reduceAdd, Nat.reduceBEq, reduceCtorEq, Nat.reduceLT, Int.reduceLE, Int.reduceLT, Int.reduceEq, Nat.reduceMul, Nat.reduceLeDiff, Try.f15, retG, resL, St.closeVs, St.closeV, e0, e1, e5])
    exact leafJ (by rw [show i = rs.length by omega])
theorem f81 (xs : List (List Val)) : FxR 81 [.own 1 (xs.map rO)] fun r l => r = .own 1 (xs.map rO) ∧ l = .tup [] := by
  refine fn_ofW false (k := 0) Try.func81 (by kernel_rfl) rfl (by kernel_rfl) (by kernel_rfl) (Nat.le_of_ble_eq_true rfl) rfl ⟨_, _, .inl rfl⟩ rfl fun Q hQ => ?_
  simp only [vmA, Nat.reduceEqDiff, reduceIte, Nat.reduceAdd, Nat.reduceBEq, reduceCtorEq, Nat.reduceLT, Int.reduceLE, Int.reduceLT, Int.reduceEq, Nat.reduceMul, Nat.reduceLeDiff, List.length_map]
  (refine hQ _ ?_; simp only [vmA, Nat.reduceEqDiff, reduceIte, Nat.reduceAdd, Nat.reduceBEq, reduceCtorEq, Nat.reduceLT, Int.reduceLE, Int.reduceLT, Int.reduceEq, Nat.reduceMul, Nat.reduceLeDiff, Try.f81, retG, resL, St.closeVs, St.closeV, leftV, ghostW, List.length_map, take_map_len, Nat.sub_zero, Int.toNat_zero])
theorem f59 (ws : List (List Val)) (c : Bool) (hl : ws.length ≤ 1048576) (hr : ∀ w ∈ ws, w.length ≤ 1048576) : Fx 59 [.fro none c (ws.map rA)] (.own 1 (ws.map rO)) := by
  refine fn_of false Try.func59 (by kernel_rfl) rfl (by kernel_rfl) (by kernel_rfl) (Nat.le_of_ble_eq_true rfl) rfl fun Q hQ => ?_
  simp only [vmA, Nat.reduceEqDiff, reduceIte, Nat.reduceAdd, Nat.reduceBEq, reduceCtorEq, Nat.reduceLT, Int.reduceLE, Int.reduceLT, Int.reduceEq, Nat.reduceMul, Nat.reduceLeDiff, List.length_map]
  refine WT_loopN (fun (y : Nat × Nat) σ => y.1 ≤ ws.length ∧ σ.sl 6 = .fro none c (ws.map rA) ∧ σ.sl 7 = .int .i64 ws.length ∧ σ.sl 8 = .int .i64 y.1 ∧ σ.sl 3 = .hd 192 y.2 0 y.1 false ∧ (σ.en 192).live = true ∧ (σ.en 192).gen = y.2 ∧ (σ.en 192).frz = false ∧ (σ.en 192).sz = 1 ∧ (σ.en 192).elems = (ws.take y.1).map rO) (fun y => ws.length - y.1) (0, 1) 3 1 (by simp [put_sl, put_en, put_none, init_sl, fresh_sl, fresh_en, ent_sl, ent_en, init_en]) (by simp [put_sl, put_en, put_none, init_sl, fresh_sl, fresh_en, ent_sl, ent_en, init_en, takeRes, takeV, takeLeaf, eid]) ?_
  rintro ⟨i, g⟩ σ ⟨hi, e6, e7, e8, o1, o2, o3, o4, o5, o6⟩
  dsimp only at hi e8 o1 o3 o6
  have hlt' : (ws.take i).length = i := by simp; omega
  simp only [vmA, Nat.reduceEqDiff, reduceIte, Nat.reduceAdd, Nat.reduceBEq, reduceCtorEq, Nat.reduceLT, Int.reduceLE, Int.reduceLT, Int.reduceEq, Nat.reduceMul, Nat.reduceLeDiff, e6, e7, e8, o1, o2, o3, o4, o5, o6, List.length_map, rA, Option.bind_none]
  refine ⟨fun hlt => ⟨hlt, by omega, callD (f80 _ _ (hr _ (by rw [getElem!_pos ws i (by omega)]; exact List.getElem_mem _))) ?_⟩, fun hge => ?_⟩
  · simp only [vmA, Nat.reduceEqDiff, reduceIte, Nat.reduceAdd, Nat.reduceBEq, reduceCtorEq, Nat.reduceLT, Int.reduceLE, Int.reduceLT, Int.reduceEq, Nat.reduceMul, Nat.reduceLeDiff, e6, e7, e8, o1, o2, o3, o4, o5, o6, List.length_map, rA, hlt', Option.bind_none]
    rw [wr (by omega)]
    refine ⟨by omega, (i + 1, g + 1), ⟨by dsimp only; omega, rfl, ?_⟩, by dsimp only; omega⟩
    rw [take_next ws i (by omega)]
    simp only [vmA, Nat.reduceEqDiff, reduceIte, Nat.reduceAdd, Nat.reduceBEq, reduceCtorEq, Nat.reduceLT, Int.reduceLE, Int.reduceLT, Int.reduceEq, Nat.reduceMul, Nat.reduceLeDiff, e6, e7, e8, o1, o2, o3, o4, o5, o6, rO, List.map_append, hlt', Option.bind_none]
  · obtain rfl : i = ws.length := by omega
    rw [List.take_length]
    refine ⟨by omega, callR (f81 ws) ?_⟩
    rintro _ _ ⟨rfl, rfl⟩
    simp only [vmA, Nat.reduceEqDiff, reduceIte, Nat.reduceAdd, Nat.reduceBEq, reduceCtorEq, Nat.reduceLT, Int.reduceLE, Int.reduceLT, Int.reduceEq, Nat.reduceMul, Nat.reduceLeDiff, List.length_map]
    (refine hQ _ ?_; simp only [vmA, Nat.reduceEqDiff, reduceIte, Nat.reduceAdd, Nat.reduceBEq, reduceCtorEq, Nat.reduceLT, Int.reduceLE, Int.reduceLT, Int.reduceEq, Nat.reduceMul, Nat.reduceLeDiff, Try.f59, retG, resL, St.closeVs, St.closeV, List.length_map, take_map_len])
