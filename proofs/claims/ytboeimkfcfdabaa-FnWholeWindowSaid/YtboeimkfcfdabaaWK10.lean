/- WALK of functions of the seat, or plain laws for it: each theorem f<k> says what function k returns, for every world and all arguments that stand for the values named. Conditions: none but those ahead of each theorem. -/
import Derived.Test.YtboeimkfcfdabaaWK7
import Derived.Test.YtboeimkfcfdabaaWK8
import Derived.Test.YtboeimkfcfdabaaWK9
import Derived.Test.YtboeimkfcfdabaaWK4
open Go Go.Vm Go.Proofs
set_option maxRecDepth 100000
set_option maxHeartbeats 8000000
set_option linter.unusedSimpArgs false
set_option linter.unusedVariables false
theorem okK_of {v : Val} (h : okV v) : okK (knOf v) := by
  unfold knOf
  split
  · exact ⟨Nat.zero_le _, Nat.zero_le _⟩
  · exact ⟨h, h⟩
theorem okK_both {a b : Kn} (ha : okK a) (hb : okK b) : okK (knBoth a b) := by
  unfold knBoth
  split
  · exact ⟨Nat.zero_le _, Nat.zero_le _⟩
  split
  · exact hb
  split
  · exact ha
  split
  · exact ⟨Nat.zero_le _, Nat.zero_le _⟩
  refine ⟨?_, ?_⟩
  · show okV (if _ then _ else _)
    split
    · exact hb.1
    · exact ha.1
  · show okV (if _ then _ else _)
    split
    · exact hb.2
    · exact ha.2
/-- What is known of a group. -/
def knStep (bl : List Int) (o : Int) (key : List Val) (k : Kn) (r : List Val) : Kn := if rEq (takeBy r bl) key then knBoth k (knOf r[o.toNat]!) else k
def knL (rs : List (List Val)) (bl : List Int) (o : Int) (key : List Val) : Kn := rs.foldl (knStep bl o key) noK
theorem knL_next (rs : List (List Val)) (bl : List Int) (o : Int) (key : List Val) {i : Nat} (h : i < rs.length) : knL (rs.take (i + 1)) bl o key = knStep bl o key (knL (rs.take i) bl o key) rs[i]! := by
  unfold knL
  rw [take_next rs i h, List.foldl_append]
  rfl
/-- Rows that can be grouped. -/
def grpP (rs : List (List Val)) (bl : List Int) (o : Int) : Prop := ∀ r ∈ rs, okR r ∧ r.length ≤ 1048576 ∧ (∀ n ∈ bl, 0 ≤ n ∧ n < (r.length : Int)) ∧ 0 ≤ o ∧ o < (r.length : Int)
theorem knL_ok {rs : List (List Val)} {bl : List Int} {o : Int} {key : List Val} (h : grpP rs bl o) : okK (knL rs bl o key) := by
  have go : ∀ (l : List (List Val)) (k : Kn), (∀ r ∈ l, okR r ∧ 0 ≤ o ∧ o < (r.length : Int)) → okK k → okK (l.foldl (knStep bl o key) k) := by
    intro l
    induction l with
    | nil => exact fun k _ hk => hk
    | cons r l ih =>
      intro k hl hk
      refine ih _ (fun x hx => hl x (by simp [hx])) ?_
      obtain ⟨h1, h2, h3⟩ := hl r (by simp)
      unfold knStep
      split
      · exact okK_both hk (okK_of (h1.2 _ (by rw [getElem!_pos r _ (by omega)]; exact List.getElem_mem _)))
      · exact hk
  exact go rs noK (fun r hr => ⟨(h r hr).1, (h r hr).2.2.2⟩) ⟨Nat.zero_le _, Nat.zero_le _⟩
theorem f33 (rs : List (List Val)) (bl : List Int) (o : Int) (key : List Val) (c d e : Bool) (hl : rs.length ≤ 1048576) (hb : bl.length ≤ 1048576) (hk : key.length ≤ 1048576) (hg : grpP rs bl o) : Fx 33 [.fro none c (rs.map rA), .fro none d (bl.map iA), .int .i64 o, .fro none e (key.map vA)] (kA (knL rs bl o key)) := by
  refine fn_ofX ⟨true, [], [(6, [], [0, 1, 2, 3, 4, 5, 6, 7, 8, 9, 10])]⟩ Try.func33 (by kernel_rfl) rfl (by kernel_rfl) (by kernel_rfl) (Nat.le_of_ble_eq_true rfl) rfl fun Q hQ => ?_
  simp only [tr_seq, tr_block, tr_loop, tr_cond, tr_skip, tr_exit, tr_ret, tr_reg]
  rw [tr_any 6 [(0, [], 0), (0, [], 1), (0, [], 2), (0, [], 3), (0, [], 4), (0, [], 5), (0, [], 6), (0, [], 7), (1, [0, 1, 2, 3, 4, 5, 6, 7], 8), (1, [0], 9), (1, [], 10), (2, [], 0)] (by kernel_rfl)]
  simp only [codeA_nil, codeA_look, codeA_hard, codeA_fin, ordC_leaf, ordC_one, ordC_both, pickL, List.getElem?_toArray, List.getElem?_cons_zero, List.getElem?_cons_succ]
  simp only [vmA, Nat.reduceEqDiff, reduceIte, Nat.reduceAdd, Nat.reduceBEq, reduceCtorEq, Nat.reduceLT, Int.reduceLE, Int.reduceLT, Int.reduceEq, Nat.reduceMul, Nat.reduceLeDiff, List.length_map, Option.bind_none]
  refine WT_loop (fun (i : Nat) σ => (i ≤ rs.length) ∧ σ.sl 10 = .int .i64 i ∧ σ.sl 0 = .fro none c (rs.map rA) ∧ σ.sl 1 = .fro none d (bl.map iA) ∧ σ.sl 2 = .int .i64 o ∧ σ.sl 3 = .fro none e (key.map vA) ∧ σ.sl 8 = .ptr 512 1 0 0 ∧ (σ.en 512).live = true ∧ (σ.en 512).gen = 1 ∧ (σ.en 512).frz = false ∧ (σ.en 512).sz = 8 ∧ (σ.en 512).elems = [.agg [.int .i64 0, .int .i64 0, .int .i64 0, .int .i64 0, .str ⟨⟨[]⟩⟩, .int .i64 0, .int .i64 0, .str ⟨⟨[]⟩⟩]] ∧ σ.sl 9 = .ptr 576 1 0 0 ∧ (σ.en 576).live = true ∧ (σ.en 576).gen = 1 ∧ (σ.en 576).frz = false ∧ (σ.en 576).sz = 8 ∧ (σ.en 576).elems = [kA (knL (rs.take i) bl o key)]) (fun i => rs.length - i) (0) ⟨Nat.zero_le _, by simp [put_sl, put_en, put_none, init_sl, fresh_sl, fresh_en, ent_sl, ent_en, init_en, kA, knL, noK, zV], by simp [put_sl, put_en, put_none, init_sl, fresh_sl, fresh_en, ent_sl, ent_en, init_en, kA, knL, noK, zV], by simp [put_sl, put_en, put_none, init_sl, fresh_sl, fresh_en, ent_sl, ent_en, init_en, kA, knL, noK, zV], by simp [put_sl, put_en, put_none, init_sl, fresh_sl, fresh_en, ent_sl, ent_en, init_en, kA, knL, noK, zV], by simp [put_sl, put_en, put_none, init_sl, fresh_sl, fresh_en, ent_sl, ent_en, init_en, kA, knL, noK, zV], by simp [put_sl, put_en, put_none, init_sl, fresh_sl, fresh_en, ent_sl, ent_en, init_en, kA, knL, noK, zV], by simp [put_sl, put_en, put_none, init_sl, fresh_sl, fresh_en, ent_sl, ent_en, init_en, kA, knL, noK, zV], by simp [put_sl, put_en, put_none, init_sl, fresh_sl, fresh_en, ent_sl, ent_en, init_en, kA, knL, noK, zV], by simp [put_sl, put_en, put_none, init_sl, fresh_sl, fresh_en, ent_sl, ent_en, init_en, kA, knL, noK, zV], by simp [put_sl, put_en, put_none, init_sl, fresh_sl, fresh_en, ent_sl, ent_en, init_en, kA, knL, noK, zV], by simp [put_sl, put_en, put_none, init_sl, fresh_sl, fresh_en, ent_sl, ent_en, init_en, kA, knL, noK, zV], by simp [put_sl, put_en, put_none, init_sl, fresh_sl, fresh_en, ent_sl, ent_en, init_en, kA, knL, noK, zV], by simp [put_sl, put_en, put_none, init_sl, fresh_sl, fresh_en, ent_sl, ent_en, init_en, kA, knL, noK, zV], by simp [put_sl, put_en, put_none, init_sl, fresh_sl, fresh_en, ent_sl, ent_en, init_en, kA, knL, noK, zV], by simp [put_sl, put_en, put_none, init_sl, fresh_sl, fresh_en, ent_sl, ent_en, init_en, kA, knL, noK, zV], by simp [put_sl, put_en, put_none, init_sl, fresh_sl, fresh_en, ent_sl, ent_en, init_en, kA, knL, noK, zV], by simp [put_sl, put_en, put_none, init_sl, fresh_sl, fresh_en, ent_sl, ent_en, init_en, kA, knL, noK, zV]⟩ ?_
  rintro i σ ⟨hi, e10, e0, e1, e2, e3, e8, m512a, m512b, m512c, m512d, m512e, e9, m576a, m576b, m576c, m576d, m576e⟩
  have hok : okK (knL (rs.take i) bl o key) := knL_ok fun r hr => hg r (List.mem_of_mem_take hr)
  simp only [vmA, Nat.reduceEqDiff, reduceIte, Nat.reduceAdd, Nat.reduceBEq, reduceCtorEq, Nat.reduceLT, Int.reduceLE, Int.reduceLT, Int.reduceEq, Nat.reduceMul, Nat.reduceLeDiff, e10, e0, e1, e2, e3, e8, m512a, m512b, m512c, m512d, m512e, e9, m576a, m576b, m576c, m576d, m576e, rA, kA, vA, List.length_map, Option.bind_none]
  refine ⟨fun hlt => ?_, fun hge => ?_⟩
  · obtain ⟨q1, q2, q3, q4, q5⟩ := hg rs[i]! (by rw [getElem!_pos rs i (by omega)]; exact List.getElem_mem _)
    have hn := knL_next rs bl o key (i := i) (by omega)
    refine ⟨hlt, by omega, callD (f30 rs[i]! bl false d hb q3) ?_⟩
    simp only [vmA, Nat.reduceEqDiff, reduceIte, Nat.reduceAdd, Nat.reduceBEq, reduceCtorEq, Nat.reduceLT, Int.reduceLE, Int.reduceLT, Int.reduceEq, Nat.reduceMul, Nat.reduceLeDiff, e10, e0, e1, e2, e3, e8, m512a, m512b, m512c, m512d, m512e, e9, m576a, m576b, m576c, m576d, m576e, rA, kA, vA, List.length_map, Option.bind_none, map_froize_vA]
    refine callD (f70 (takeBy rs[i]! bl) key false e (by simp [takeBy]; omega) hk) ?_
    simp only [vmA, Nat.reduceEqDiff, reduceIte, Nat.reduceAdd, Nat.reduceBEq, reduceCtorEq, Nat.reduceLT, Int.reduceLE, Int.reduceLT, Int.reduceEq, Nat.reduceMul, Nat.reduceLeDiff, e10, e0, e1, e2, e3, e8, m512a, m512b, m512c, m512d, m512e, e9, m576a, m576b, m576c, m576d, m576e, rA, kA, vA, List.length_map, Option.bind_none]
    have ov : okV rs[i]![o.toNat]! := q1.2 _ (by rw [getElem!_pos rs[i]! _ (by omega)]; exact List.getElem_mem _)
    refine ⟨fun h => ?_, fun h => ?_⟩
    · have hn2 : knL (rs.take (i + 1)) bl o key = knBoth (knL (rs.take i) bl o key) (knOf rs[i]![o.toNat]!) := by rw [hn]; exact if_pos h
      repeat refine ⟨by first | omega | exact ⟨by omega, by omega⟩, ?_⟩
      refine callD (f72 rs[i]![o.toNat]! ov) ?_
      simp only [vmA, Nat.reduceEqDiff, reduceIte, Nat.reduceAdd, Nat.reduceBEq, reduceCtorEq, Nat.reduceLT, Int.reduceLE, Int.reduceLT, Int.reduceEq, Nat.reduceMul, Nat.reduceLeDiff, e10, e0, e1, e2, e3, e8, m512a, m512b, m512c, m512d, m512e, e9, m576a, m576b, m576c, m576d, m576e, rA, kA, vA, List.length_map, Option.bind_none]
      repeat refine ⟨by first | omega | exact ⟨by omega, by omega⟩, ?_⟩
      refine callD (f71 (knL (rs.take i) bl o key) (knOf rs[i]![o.toNat]!) hok (okK_of ov)) ?_
      simp only [vmA, Nat.reduceEqDiff, reduceIte, Nat.reduceAdd, Nat.reduceBEq, reduceCtorEq, Nat.reduceLT, Int.reduceLE, Int.reduceLT, Int.reduceEq, Nat.reduceMul, Nat.reduceLeDiff, e10, e0, e1, e2, e3, e8, m512a, m512b, m512c, m512d, m512e, e9, m576a, m576b, m576c, m576d, m576e, rA, kA, vA, List.length_map, Option.bind_none]
      rw [wr (by omega)]
      exact ⟨i + 1, ⟨by omega, rfl, by rw [hn2]⟩, by omega⟩
    · have hn2 : knL (rs.take (i + 1)) bl o key = knL (rs.take i) bl o key := by rw [hn]; exact if_neg h
      rw [wr (by omega)]
      exact ⟨i + 1, ⟨by omega, rfl, by rw [hn2]⟩, by omega⟩
  · (refine hQ _ ?_; simp only [vmA, Nat.reduceEqDiff, reduceIte, Nat.reduceAdd, Nat.reduceBEq, reduceCtorEq, Nat.reduceLT, Int.reduceLE, Int.reduceLT, Int.reduceEq, Nat.reduceMul, Nat.reduceLeDiff, Try.f33, retG, resL, St.closeVs, St.closeV, e10, e0, e1, e2, e3, e8, m512a, m512b, m512c, m512d, m512e, e9, m576a, m576b, m576c, m576d, m576e, kA, Option.bind_none])
    rw [List.take_of_length_le (by omega)]
