/- WALK of functions of the seat, or plain laws for it: each theorem f<k> says what function k returns, for every world and all arguments that stand for the values named. Conditions: none but those ahead of each theorem. -/
import Derived.Test.YtboeimkfcfdabaaWK12
import Derived.Test.YtboeimkfcfdabaaWK10
open Go Go.Vm Go.Proofs
set_option maxRecDepth 100000
set_option maxHeartbeats 8000000
set_option linter.unusedSimpArgs false
set_option linter.unusedVariables false
/-- A group. -/
structure Gp where
  key : List Val
  kn : Kn
instance : Inhabited Gp := ⟨⟨[], noK⟩⟩
def gpA (g : Gp) : AV := .agg [.fro none true (g.key.map vA), .int .i64 g.kn.many, .int .i64 g.kn.sum, .int .i64 g.kn.lo.k, .int .i64 g.kn.lo.n, .str g.kn.lo.s, .int .i64 g.kn.hi.k, .int .i64 g.kn.hi.n, .str g.kn.hi.s]
theorem f57 (g : Gp) (key : List Val) (h1 : g.key.length ≤ 1048576) (h2 : key.length ≤ 1048576) : Fx 57 [gpA g, .cptr none [.fro none true (key.map vA)]] (.bool (decide (rEq g.key key))) := by
  refine fn_of ⟨false, [], []⟩ Try.func57 (by kernel_rfl) rfl (by kernel_rfl) (by kernel_rfl) (Nat.le_of_ble_eq_true rfl) rfl fun Q hQ => ?_
  simp only [vmA, Nat.reduceEqDiff, reduceIte, Nat.reduceAdd, Nat.reduceBEq, reduceCtorEq, Nat.reduceLT, Int.reduceLE, Int.reduceLT, Int.reduceEq, Nat.reduceMul, Nat.reduceLeDiff, gpA]
  refine callD (f58 g.key key true true h1 h2) ?_
  simp only [vmA, Nat.reduceEqDiff, reduceIte, Nat.reduceAdd, Nat.reduceBEq, reduceCtorEq, Nat.reduceLT, Int.reduceLE, Int.reduceLT, Int.reduceEq, Nat.reduceMul, Nat.reduceLeDiff, gpA]
  (refine hQ _ ?_; simp only [vmA, Nat.reduceEqDiff, reduceIte, Nat.reduceAdd, Nat.reduceBEq, reduceCtorEq, Nat.reduceLT, Int.reduceLE, Int.reduceLT, Int.reduceEq, Nat.reduceMul, Nat.reduceLeDiff, Try.f57, retG, resL, St.closeVs, St.closeV])
theorem f56 (key : List Val) (hk : key.length ≤ 1048576) (xs : List Gp) (c : Bool) (hl : xs.length ≤ 9223372036854775807) (hs : ∀ g ∈ xs, g.key.length ≤ 1048576) : Fx 56 [.fro none c (xs.map gpA), .clo 57 [.cptr none [.fro none true (key.map vA)]]] (.int .i64 (idxL (fun r => rEq r.key key) xs 0)) := by
  refine fn_of ⟨false, [], []⟩ Try.func56 (by kernel_rfl) rfl (by kernel_rfl) (by kernel_rfl) (Nat.le_of_ble_eq_true rfl) rfl fun Q hQ => ?_
  simp only [vmA, Nat.reduceEqDiff, reduceIte, Nat.reduceAdd, Nat.reduceBEq, reduceCtorEq, Nat.reduceLT, Int.reduceLE, Int.reduceLT, Int.reduceEq, Nat.reduceMul, Nat.reduceLeDiff, List.length_map]
  refine WT_loop (fun (i : Nat) σ => i ≤ xs.length ∧ σ.sl 0 = .fro none c (xs.map gpA) ∧ σ.sl 1 = .clo 57 [.cptr none [.fro none true (key.map vA)]] ∧ σ.sl 7 = .int .i64 xs.length ∧ σ.sl 8 = .int .i64 i ∧ idxL (fun r => rEq r.key key) (xs.drop i) i = idxL (fun r => rEq r.key key) xs 0) (fun i => xs.length - i) 0 ⟨by omega, by simp [put_sl, put_en, put_none, init_sl, fresh_sl, fresh_en, ent_sl, ent_en, init_en], by simp [put_sl, put_en, put_none, init_sl, fresh_sl, fresh_en, ent_sl, ent_en, init_en], by simp [put_sl, put_en, put_none, init_sl, fresh_sl, fresh_en, ent_sl, ent_en, init_en], by simp [put_sl, put_en, put_none, init_sl, fresh_sl, fresh_en, ent_sl, ent_en, init_en], by simp⟩ ?_
  rintro i σ ⟨hi, e0, e1, e7, e8, hx⟩
  simp only [vmA, Nat.reduceEqDiff, reduceIte, Nat.reduceAdd, Nat.reduceBEq, reduceCtorEq, Nat.reduceLT, Int.reduceLE, Int.reduceLT, Int.reduceEq, Nat.reduceMul, Nat.reduceLeDiff, e0, e1, e7, e8, gpA, List.length_map]
  refine ⟨fun hlt => ?_, fun hge => ?_⟩
  · refine ⟨hlt, by omega, callD (f57 xs[i]! key (hs _ (by rw [getElem!_pos xs i (by omega)]; exact List.getElem_mem _)) hk) ?_⟩
    rw [idxL_drop _ (by omega)] at hx
    simp only [vmA, Nat.reduceEqDiff, reduceIte, Nat.reduceAdd, Nat.reduceBEq, reduceCtorEq, Nat.reduceLT, Int.reduceLE, Int.reduceLT, Int.reduceEq, Nat.reduceMul, Nat.reduceLeDiff, e0, e1, e7, e8]
    refine ⟨fun hn => ?_, fun hn => ?_⟩
    · rw [if_pos hn] at hx
      (refine hQ _ ?_; simp only [vmA, Nat.reduceEqDiff, reduceIte, Nat.reduceAdd, Nat.reduceBEq, reduceCtorEq, Nat.reduceLT, Int.reduceLE, Int.reduceLT, Int.reduceEq, Nat.reduceMul, Nat.reduceLeDiff, Try.f56, retG, resL, St.closeVs, St.closeV])
      rw [hx]
    · rw [if_neg (by simpa using hn)] at hx
      rw [wr (by omega)]
      exact ⟨i + 1, ⟨by omega, rfl, hx⟩, by omega⟩
  · have : xs.drop i = [] := List.drop_of_length_le (by omega)
    rw [this, idxL] at hx
    (refine hQ _ ?_; simp only [vmA, Nat.reduceEqDiff, reduceIte, Nat.reduceAdd, Nat.reduceBEq, reduceCtorEq, Nat.reduceLT, Int.reduceLE, Int.reduceLT, Int.reduceEq, Nat.reduceMul, Nat.reduceLeDiff, Try.f56, retG, resL, St.closeVs, St.closeV])
    rw [← hx]
/-- A row comes to its group. -/
def gAt (L : List Gp) (key : List Val) : Nat := if idxL (fun g => rEq g.key key) L 0 < 0 then L.length else (idxL (fun g => rEq g.key key) L 0).toNat
def gAdd (L : List Gp) (key : List Val) : List Gp := if idxL (fun g => rEq g.key key) L 0 < 0 then L ++ [⟨key, noK⟩] else L
def gStep (bl : List Int) (o : Int) (L : List Gp) (r : List Val) : List Gp := (gAdd L (takeBy r bl)).set (gAt L (takeBy r bl)) ⟨(gAdd L (takeBy r bl))[gAt L (takeBy r bl)]!.key, knBoth (gAdd L (takeBy r bl))[gAt L (takeBy r bl)]!.kn (knOf r[o.toNat]!)⟩
def gAll (rs : List (List Val)) (bl : List Int) (o : Int) : List Gp := rs.foldl (gStep bl o) []
theorem gAll_next (rs : List (List Val)) (bl : List Int) (o : Int) {i : Nat} (h : i < rs.length) : gAll (rs.take (i + 1)) bl o = gStep bl o (gAll (rs.take i) bl o) rs[i]! := by
  unfold gAll
  rw [take_next rs i h, List.foldl_append]
  rfl
theorem idxL_range {α : Type} (p : α → Prop) [DecidablePred p] : ∀ (xs : List α) (i : Int), 0 ≤ i → (idxL p xs i = -1 ∨ i ≤ idxL p xs i ∧ idxL p xs i < i + xs.length)
  | [], i, _ => .inl rfl
  | x :: xs, i, hi => by
    rw [idxL]
    split
    · exact .inr ⟨Int.le_refl _, by simp; omega⟩
    · rcases idxL_range p xs (i + 1) (by omega) with h | h
      · exact .inl h
      · exact .inr ⟨by omega, by simp; omega⟩
theorem gAt_lt (L : List Gp) (key : List Val) : gAt L key < (gAdd L key).length := by
  unfold gAt gAdd
  rcases idxL_range (fun g : Gp => rEq g.key key) L 0 (by omega) with h | ⟨h1, h2⟩
  · rw [if_pos (by omega), if_pos (by omega)]; simp
  · rw [if_neg (by omega), if_neg (by omega)]; omega
def gsP (n m : Nat) (L : List Gp) : Prop := L.length ≤ n ∧ ∀ g ∈ L, g.key.length = m ∧ okK g.kn
theorem gAdd_ok {n m : Nat} {L : List Gp} {key : List Val} (h : gsP n m L) (hk : key.length = m) : gsP (n + 1) m (gAdd L key) := by
  unfold gAdd
  split
  · refine ⟨by have := h.1; simp; omega, fun g hg => ?_⟩
    rcases List.mem_append.1 hg with hg | hg
    · exact h.2 g hg
    · rw [List.mem_singleton.1 hg]
      exact ⟨hk, Nat.zero_le _, Nat.zero_le _⟩
  · exact ⟨by have := h.1; omega, h.2⟩
theorem gStep_ok {n m : Nat} {L : List Gp} {bl : List Int} {o : Int} {r : List Val} (h : gsP n m L) (hm : bl.length = m) (hr : okV r[o.toNat]!) : gsP (n + 1) m (gStep bl o L r) := by
  have ha := gAdd_ok (key := takeBy r bl) h (by simp [takeBy, hm])
  have hlt := gAt_lt L (takeBy r bl)
  refine ⟨by unfold gStep; rw [List.length_set]; exact ha.1, fun g hg => ?_⟩
  unfold gStep at hg
  have hat := ha.2 (gAdd L (takeBy r bl))[gAt L (takeBy r bl)]! (by rw [getElem!_pos (gAdd L (takeBy r bl)) _ hlt]; exact List.getElem_mem _)
  rcases List.mem_or_eq_of_mem_set hg with hg | rfl
  · exact ha.2 g hg
  · exact ⟨hat.1, okK_both hat.2 (okK_of hr)⟩
theorem grp_v {rs : List (List Val)} {bl : List Int} {o : Int} (hg : grpP rs bl o) {r : List Val} (hr : r ∈ rs) : okV r[o.toNat]! := by
  obtain ⟨q1, _, _, q4, q5⟩ := hg r hr
  exact q1.2 _ (by rw [getElem!_pos r _ (by omega)]; exact List.getElem_mem _)
theorem gAll_ok {rs : List (List Val)} {bl : List Int} {o : Int} (hg : grpP rs bl o) : ∀ i, i ≤ rs.length → gsP i bl.length (gAll (rs.take i) bl o)
  | 0, _ => ⟨by simp [gAll], by simp [gAll]⟩
  | i + 1, h => by
    rw [gAll_next rs bl o (by omega)]
    exact gStep_ok (gAll_ok hg i (by omega)) rfl (grp_v hg (by rw [getElem!_pos rs i (by omega)]; exact List.getElem_mem _))
theorem map_froize_gpA (L : List Gp) : (L.map gpA).map froize = L.map gpA := by
  rw [List.map_map]
  exact List.map_congr_left fun g _ => rfl
theorem app_at (L : List Gp) (x : AV) : (L.map gpA ++ [x])[L.length]? = some x := by simp
theorem f22 (rs : List (List Val)) (bl : List Int) (o : Int) (c d : Bool) (hl : rs.length ≤ 1048576) (hb : bl.length ≤ 1048576) (hg : grpP rs bl o) : Fx 22 [.fro none c (rs.map rA), .fro none d (bl.map iA), .int .i64 o] (.own 9 ((gAll rs bl o).map gpA)) := by
  refine fn_ofX ⟨true, [], [(10, [], [0, 1, 2, 3, 4, 5, 6, 7, 8, 9, 10, 11, 12, 13, 14, 15])]⟩ Try.func22 (by kernel_rfl) rfl (by kernel_rfl) (by kernel_rfl) (Nat.le_of_ble_eq_true rfl) rfl fun Q hQ => ?_
  simp only [tr_seq, tr_block, tr_loop, tr_cond, tr_skip, tr_exit, tr_ret, tr_reg]
  rw [tr_any 10 [(0, [], 0), (0, [], 1), (0, [], 2), (0, [], 3), (0, [], 4), (0, [], 5), (0, [], 6), (0, [], 7), (0, [], 8), (0, [], 9), (0, [], 10), (1, [0, 1, 2, 3, 4, 5, 6, 7, 8, 9, 10], 11), (1, [0, 1, 2, 3, 4, 5, 6], 12), (0, [], 13), (0, [], 14), (1, [0, 1, 13, 14], 15), (2, [], 0)] (by kernel_rfl)]
  simp only [codeA_nil, codeA_look, codeA_hard, codeA_fin, ordC_leaf, ordC_one, ordC_both, pickL, List.getElem?_toArray, List.getElem?_cons_zero, List.getElem?_cons_succ]
  simp only [vmA, Nat.reduceEqDiff, reduceIte, Nat.reduceAdd, Nat.reduceBEq, reduceCtorEq, Nat.reduceLT, Int.reduceLE, Int.reduceLT, Int.reduceEq, Nat.reduceMul, Nat.reduceLeDiff, List.length_map, Option.bind_none]
  refine WT_loopN (fun (y : Nat × Nat × List Gp) σ => (y.1 ≤ rs.length ∧ y.2.2 = gAll (rs.take y.1) bl o) ∧ σ.sl 1 = .fro none d (bl.map iA) ∧ σ.sl 2 = .int .i64 o ∧ σ.sl 12 = .fro none c (rs.map rA) ∧ σ.sl 13 = .int .i64 rs.length ∧ σ.sl 14 = .int .i64 y.1 ∧ σ.sl 7 = .hd 448 y.2.1 0 y.2.2.length false ∧ (σ.en 448).live = true ∧ (σ.en 448).gen = y.2.1 ∧ (σ.en 448).frz = false ∧ (σ.en 448).sz = 9 ∧ (σ.en 448).elems = y.2.2.map gpA) (fun y => rs.length - y.1) (0, 1, []) 7 9 (by simp [put_sl, put_en, put_none, init_sl, fresh_sl, fresh_en, ent_sl, ent_en, init_en]) (by simp [put_sl, put_en, put_none, init_sl, fresh_sl, fresh_en, ent_sl, ent_en, init_en, takeRes, takeV, takeLeaf, eid, gAll]) ?_
  rintro ⟨i, g, L⟩ σ ⟨⟨hi, hL⟩, e1, e2, e12, e13, e14, o1, o2, o3, o4, o5, o6⟩
  dsimp only at hi hL e14 o1 o3 o6
  simp only [vmA, Nat.reduceEqDiff, reduceIte, Nat.reduceAdd, Nat.reduceBEq, reduceCtorEq, Nat.reduceLT, Int.reduceLE, Int.reduceLT, Int.reduceEq, Nat.reduceMul, Nat.reduceLeDiff, e1, e2, e12, e13, e14, o1, o2, o3, o4, o5, o6, List.length_map, rA, Option.bind_none]
  refine ⟨fun hlt => ?_, fun hge => ?_⟩
  · have hri : rs[i]! ∈ rs := by rw [getElem!_pos rs i (by omega)]; exact List.getElem_mem _
    obtain ⟨q1, q2, q3, q4, q5⟩ := hg rs[i]! hri
    have ov := grp_v hg hri
    have hP := gAll_ok hg i (by omega)
    rw [← hL] at hP
    have hLl : L.length ≤ 1048576 := by have := hP.1; omega
    have hn := gAll_next rs bl o (i := i) (by omega)
    rw [← hL] at hn
    have hkl : (takeBy rs[i]! bl).length = bl.length := by simp [takeBy]
    refine ⟨hlt, by omega, callD (f55c rs[i]! bl false d hb q3) ?_⟩
    unfold gStep at hn
    generalize takeBy rs[i]! bl = key at *
    cases hb2 : hasFro (.fro none true (List.map vA key))
    · simp only [behind_nf hb2]
      simp only [vmA, Nat.reduceEqDiff, reduceIte, Nat.reduceAdd, Nat.reduceBEq, reduceCtorEq, Nat.reduceLT, Int.reduceLE, Int.reduceLT, Int.reduceEq, Nat.reduceMul, Nat.reduceLeDiff, e1, e2, e12, e13, e14, o1, o2, o3, o4, o5, o6, List.length_map, rA, Option.bind_none, captureL, capture, get_tmp, freezeL, lentOf]
      rw [map_froize_gpA]
      refine callD (f56 key (by omega) L false (by omega) (fun g hg => by rw [(hP.2 g hg).1]; omega)) ?_
      simp only [vmA, Nat.reduceEqDiff, reduceIte, Nat.reduceAdd, Nat.reduceBEq, reduceCtorEq, Nat.reduceLT, Int.reduceLE, Int.reduceLT, Int.reduceEq, Nat.reduceMul, Nat.reduceLeDiff, e1, e2, e12, e13, e14, o1, o2, o3, o4, o5, o6, List.length_map, rA, Option.bind_none, gpA, vA, seenL]
      refine ⟨fun hneg => ?_, fun hpos => ?_⟩
      · refine ⟨⟨by omega, by omega⟩, ⟨by omega, by simp⟩, ?_⟩
        rw [app_at]
        have hgA : (gAdd L key) = L ++ [⟨key, noK⟩] := by unfold gAdd; rw [if_pos hneg]
        have hgT : gAt L key = L.length := by unfold gAt; rw [if_pos hneg]
        rw [hgA, hgT] at hn
        simp only [vmA, Nat.reduceEqDiff, reduceIte, Nat.reduceAdd, Nat.reduceBEq, reduceCtorEq, Nat.reduceLT, Int.reduceLE, Int.reduceLT, Int.reduceEq, Nat.reduceMul, Nat.reduceLeDiff, e1, e2, e12, e13, e14, o1, o2, o3, o4, o5, o6, List.length_map, rA, Option.bind_none, gpA, vA, seenL, app_at]
        refine ⟨⟨q4, q5⟩, by omega, ⟨⟨by omega, by simp⟩, ⟨q4, q5⟩, by omega⟩, ?_⟩
        refine callD (f60 rs[i]![o.toNat]! ov) ?_
        simp only [vmA, Nat.reduceEqDiff, reduceIte, Nat.reduceAdd, Nat.reduceBEq, reduceCtorEq, Nat.reduceLT, Int.reduceLE, Int.reduceLT, Int.reduceEq, Nat.reduceMul, Nat.reduceLeDiff, e1, e2, e12, e13, e14, o1, o2, o3, o4, o5, o6, List.length_map, rA, Option.bind_none, gpA, vA, kA, seenL, app_at]
        refine ⟨⟨by omega, by simp⟩, callD (f59 noK (knOf rs[i]![o.toNat]!) ⟨Nat.zero_le _, Nat.zero_le _⟩ (okK_of ov)) ?_⟩
        simp only [vmA, Nat.reduceEqDiff, reduceIte, Nat.reduceAdd, Nat.reduceBEq, reduceCtorEq, Nat.reduceLT, Int.reduceLE, Int.reduceLT, Int.reduceEq, Nat.reduceMul, Nat.reduceLeDiff, e1, e2, e12, e13, e14, o1, o2, o3, o4, o5, o6, List.length_map, rA, Option.bind_none, gpA, vA, kA, seenL, app_at]
        refine ⟨⟨by omega, by simp⟩, ⟨by omega, by simp⟩, (i + 1, _, gAll (rs.take (i + 1)) bl o), ⟨⟨by omega, rfl⟩, by rw [wr (by omega)]; rfl, ?_, rfl, ?_⟩, by omega⟩
        · rw [hn]; simp
        · rw [hn]; simp [gpA, kA]
      · have hj := idxL_range (fun g : Gp => rEq g.key key) L 0 (by omega)
        have hgA : (gAdd L key) = L := by unfold gAdd; rw [if_neg hpos]
        have hgT : gAt L key = (idxL (fun g : Gp => rEq g.key key) L 0).toNat := by unfold gAt; rw [if_neg hpos]
        rw [hgA, hgT] at hn
        have hj2 : ((idxL (fun g : Gp => rEq g.key key) L 0).toNat : Int) = idxL (fun g : Gp => rEq g.key key) L 0 := by omega
        have hj3 : (idxL (fun g : Gp => rEq g.key key) L 0).toNat < L.length := by omega
        generalize hJ : (idxL (fun g : Gp => rEq g.key key) L 0).toNat = J at *
        refine ⟨⟨by omega, by omega⟩, hj3, ⟨q4, q5⟩, by omega, ⟨⟨by omega, by omega⟩, hj3, ⟨q4, q5⟩, by omega⟩, ?_⟩
        refine callD (f60 rs[i]![o.toNat]! ov) ?_
        simp only [vmA, Nat.reduceEqDiff, reduceIte, Nat.reduceAdd, Nat.reduceBEq, reduceCtorEq, Nat.reduceLT, Int.reduceLE, Int.reduceLT, Int.reduceEq, Nat.reduceMul, Nat.reduceLeDiff, e1, e2, e12, e13, e14, o1, o2, o3, o4, o5, o6, List.length_map, rA, Option.bind_none, gpA, vA, kA, seenL]
        have hok : okK L[J]!.kn := (hP.2 _ (by rw [getElem!_pos L J hj3]; exact List.getElem_mem _)).2
        refine ⟨⟨⟨⟨by omega, by omega⟩, by rw [hJ]⟩, hj3⟩, callD (f59 L[J]!.kn (knOf rs[i]![o.toNat]!) hok (okK_of ov)) ?_⟩
        simp only [vmA, Nat.reduceEqDiff, reduceIte, Nat.reduceAdd, Nat.reduceBEq, reduceCtorEq, Nat.reduceLT, Int.reduceLE, Int.reduceLT, Int.reduceEq, Nat.reduceMul, Nat.reduceLeDiff, e1, e2, e12, e13, e14, o1, o2, o3, o4, o5, o6, List.length_map, rA, Option.bind_none, gpA, vA, kA, seenL]
        refine ⟨⟨by omega, by omega⟩, ⟨by omega, by omega⟩, by omega, (i + 1, _, gAll (rs.take (i + 1)) bl o), ⟨⟨by omega, rfl⟩, by rw [wr (by omega)]; rfl, ?_, rfl, ?_⟩, by omega⟩
        · rw [hn]; simp
        · rw [hn, List.map_set]; simp [gpA, kA, hJ, hj3]
    · simp only [behind_yes hb2]
      simp only [vmA, Nat.reduceEqDiff, reduceIte, Nat.reduceAdd, Nat.reduceBEq, reduceCtorEq, Nat.reduceLT, Int.reduceLE, Int.reduceLT, Int.reduceEq, Nat.reduceMul, Nat.reduceLeDiff, e1, e2, e12, e13, e14, o1, o2, o3, o4, o5, o6, List.length_map, rA, Option.bind_none, captureL, capture, get_tmp, freezeL, lentOf]
      rw [map_froize_gpA]
      refine callD (f56 key (by omega) L false (by omega) (fun g hg => by rw [(hP.2 g hg).1]; omega)) ?_
      simp only [vmA, Nat.reduceEqDiff, reduceIte, Nat.reduceAdd, Nat.reduceBEq, reduceCtorEq, Nat.reduceLT, Int.reduceLE, Int.reduceLT, Int.reduceEq, Nat.reduceMul, Nat.reduceLeDiff, e1, e2, e12, e13, e14, o1, o2, o3, o4, o5, o6, List.length_map, rA, Option.bind_none, gpA, vA, seenL]
      refine ⟨fun hneg => ?_, fun hpos => ?_⟩
      · refine ⟨⟨by omega, by omega⟩, ⟨by omega, by simp⟩, ?_⟩
        rw [app_at]
        have hgA : (gAdd L key) = L ++ [⟨key, noK⟩] := by unfold gAdd; rw [if_pos hneg]
        have hgT : gAt L key = L.length := by unfold gAt; rw [if_pos hneg]
        rw [hgA, hgT] at hn
        simp only [vmA, Nat.reduceEqDiff, reduceIte, Nat.reduceAdd, Nat.reduceBEq, reduceCtorEq, Nat.reduceLT, Int.reduceLE, Int.reduceLT, Int.reduceEq, Nat.reduceMul, Nat.reduceLeDiff, e1, e2, e12, e13, e14, o1, o2, o3, o4, o5, o6, List.length_map, rA, Option.bind_none, gpA, vA, seenL, app_at]
        refine ⟨⟨q4, q5⟩, by omega, ⟨⟨by omega, by simp⟩, ⟨q4, q5⟩, by omega⟩, ?_⟩
        refine callD (f60 rs[i]![o.toNat]! ov) ?_
        simp only [vmA, Nat.reduceEqDiff, reduceIte, Nat.reduceAdd, Nat.reduceBEq, reduceCtorEq, Nat.reduceLT, Int.reduceLE, Int.reduceLT, Int.reduceEq, Nat.reduceMul, Nat.reduceLeDiff, e1, e2, e12, e13, e14, o1, o2, o3, o4, o5, o6, List.length_map, rA, Option.bind_none, gpA, vA, kA, seenL, app_at]
        refine ⟨⟨by omega, by simp⟩, callD (f59 noK (knOf rs[i]![o.toNat]!) ⟨Nat.zero_le _, Nat.zero_le _⟩ (okK_of ov)) ?_⟩
        simp only [vmA, Nat.reduceEqDiff, reduceIte, Nat.reduceAdd, Nat.reduceBEq, reduceCtorEq, Nat.reduceLT, Int.reduceLE, Int.reduceLT, Int.reduceEq, Nat.reduceMul, Nat.reduceLeDiff, e1, e2, e12, e13, e14, o1, o2, o3, o4, o5, o6, List.length_map, rA, Option.bind_none, gpA, vA, kA, seenL, app_at]
        refine ⟨⟨by omega, by simp⟩, ⟨by omega, by simp⟩, (i + 1, _, gAll (rs.take (i + 1)) bl o), ⟨⟨by omega, rfl⟩, by rw [wr (by omega)]; rfl, ?_, rfl, ?_⟩, by omega⟩
        · rw [hn]; simp
        · rw [hn]; simp [gpA, kA]
      · have hj := idxL_range (fun g : Gp => rEq g.key key) L 0 (by omega)
        have hgA : (gAdd L key) = L := by unfold gAdd; rw [if_neg hpos]
        have hgT : gAt L key = (idxL (fun g : Gp => rEq g.key key) L 0).toNat := by unfold gAt; rw [if_neg hpos]
        rw [hgA, hgT] at hn
        have hj2 : ((idxL (fun g : Gp => rEq g.key key) L 0).toNat : Int) = idxL (fun g : Gp => rEq g.key key) L 0 := by omega
        have hj3 : (idxL (fun g : Gp => rEq g.key key) L 0).toNat < L.length := by omega
        generalize hJ : (idxL (fun g : Gp => rEq g.key key) L 0).toNat = J at *
        refine ⟨⟨by omega, by omega⟩, hj3, ⟨q4, q5⟩, by omega, ⟨⟨by omega, by omega⟩, hj3, ⟨q4, q5⟩, by omega⟩, ?_⟩
        refine callD (f60 rs[i]![o.toNat]! ov) ?_
        simp only [vmA, Nat.reduceEqDiff, reduceIte, Nat.reduceAdd, Nat.reduceBEq, reduceCtorEq, Nat.reduceLT, Int.reduceLE, Int.reduceLT, Int.reduceEq, Nat.reduceMul, Nat.reduceLeDiff, e1, e2, e12, e13, e14, o1, o2, o3, o4, o5, o6, List.length_map, rA, Option.bind_none, gpA, vA, kA, seenL]
        have hok : okK L[J]!.kn := (hP.2 _ (by rw [getElem!_pos L J hj3]; exact List.getElem_mem _)).2
        refine ⟨⟨⟨⟨by omega, by omega⟩, by rw [hJ]⟩, hj3⟩, callD (f59 L[J]!.kn (knOf rs[i]![o.toNat]!) hok (okK_of ov)) ?_⟩
        simp only [vmA, Nat.reduceEqDiff, reduceIte, Nat.reduceAdd, Nat.reduceBEq, reduceCtorEq, Nat.reduceLT, Int.reduceLE, Int.reduceLT, Int.reduceEq, Nat.reduceMul, Nat.reduceLeDiff, e1, e2, e12, e13, e14, o1, o2, o3, o4, o5, o6, List.length_map, rA, Option.bind_none, gpA, vA, kA, seenL]
        refine ⟨⟨by omega, by omega⟩, ⟨by omega, by omega⟩, by omega, (i + 1, _, gAll (rs.take (i + 1)) bl o), ⟨⟨by omega, rfl⟩, by rw [wr (by omega)]; rfl, ?_, rfl, ?_⟩, by omega⟩
        · rw [hn]; simp
        · rw [hn, List.map_set]; simp [gpA, kA, hJ, hj3]
  · (refine hQ _ ?_; simp only [vmA, Nat.reduceEqDiff, reduceIte, Nat.reduceAdd, Nat.reduceBEq, reduceCtorEq, Nat.reduceLT, Int.reduceLE, Int.reduceLT, Int.reduceEq, Nat.reduceMul, Nat.reduceLeDiff, Try.f22, retG, resL, St.closeVs, St.closeV, e1, e2, e12, e13, e14, o1, o2, o3, o4, o5, o6, Option.bind_none, List.take_length, take_map_len, List.length_map])
    rw [hL, List.take_of_length_le (by omega)]
