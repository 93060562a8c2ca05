/- WALK of functions of the seat, or plain laws for it: each theorem f<k> says what function k returns, for every world and all arguments that stand for the values named. Conditions: none but those ahead of each theorem. -/
import Derived.Test.YtickagjmjlnabaaGreatXG2
import Derived.Test.YtickagjmjlnabaaGreatXH8
import Derived.Test.YtickagjmjlnabaaGreatXF11
open Go Go.Vm Go.Proofs
set_option maxRecDepth 100000
set_option maxHeartbeats 8000000
set_option linter.unusedSimpArgs false
set_option linter.unusedVariables false
structure S39 where
  k : Int
  ns : List Int
  q : Int
  g : Nat
  b : Bool
theorem f15 (xs : List UInt8) (c : Bool) (p n : Int) (hl : xs.length ≤ 2000) (h0 : 0 ≤ p) (h1 : p ≤ 1099511610000) (hn : 0 < n ∧ n ≤ 1000) :
    FxR 15 [rdP xs c p, .int .i64 n] fun r l => ∃ (es : List En) (ns : List Int) (p' : Int), r = .tup [.own 2 (es.map eO), .own 1 (ns.map iA)] ∧ es.length ≤ 6 ∧ (∀ e ∈ es, okE e) ∧ ns.length ≤ 10 ∧ p ≤ p' ∧ p' ≤ p + 120 ∧ l = rdP xs c p' := by
  refine fn_ofW false (k := 0) Tryz.func15 (by kernel_rfl) rfl (by kernel_rfl) (by kernel_rfl) (Nat.le_of_ble_eq_true rfl) rfl ⟨_, _, .inr ⟨_, _, rfl⟩⟩ rfl fun Q hQ => ?_
  simp only [vmA, Nat.reduceEqDiff, reduceIte, Nat.reduceAdd, Nat.reduceBEq, reduceCtorEq, Nat.reduceLT, Int.reduceLE, Int.reduceLT, Int.reduceEq, Nat.reduceMul, Nat.reduceLeDiff, rdP, rdA]
  refine callR (f33 xs c p hl h0 (by omega)) ?_
  rintro _ _ ⟨es, q1, rfl, he1, he2, hq10, hq11, rfl⟩
  simp only [vmA, Nat.reduceEqDiff, reduceIte, Nat.reduceAdd, Nat.reduceBEq, reduceCtorEq, Nat.reduceLT, Int.reduceLE, Int.reduceLT, Int.reduceEq, Nat.reduceMul, Nat.reduceLeDiff, rdP, rdA]
  refine callR (f34 xs c q1 5 hl (by omega) (by omega)) ?_
  rintro _ _ ⟨k0, rfl, hk00, hk0n, rfl⟩
  simp only [vmA, Nat.reduceEqDiff, reduceIte, Nat.reduceAdd, Nat.reduceBEq, reduceCtorEq, Nat.reduceLT, Int.reduceLE, Int.reduceLT, Int.reduceEq, Nat.reduceMul, Nat.reduceLeDiff, rdP, rdA]
  rw [wr (by omega)]
  refine WT_loop (fun (y : S39) σ => ((0 ≤ y.k ∧ y.k ≤ 5) ∧ (1 ≤ y.ns.length + y.k ∧ y.ns.length + y.k ≤ 5) ∧ q1 ≤ y.q ∧ y.q ≤ q1 + 1 + (5 - y.k)) ∧ σ.sl 1 = .int .i64 n ∧ σ.sl 6 = .hd 640 1 0 es.length false ∧ (σ.en 640).live = true ∧ (σ.en 640).gen = 1 ∧ (σ.en 640).frz = false ∧ (σ.en 640).sz = 2 ∧ (σ.en 640).elems = es.map eO ∧ σ.sl 8 = .int .i64 y.k ∧ rdI σ xs c y.q ∧ outI σ 7 704 1664 1 (y.ns.map iA) y.g y.b) (fun y => y.k.toNat) ⟨1 + k0, [], q1 + 1, 0, false⟩ ?_ ?_
  · refine ⟨⟨by dsimp only; omega, by simp <;> omega, by dsimp only; omega, by dsimp only; omega⟩, by simp [put_sl, put_en, put_none, init_sl, fresh_sl, fresh_en, ent_sl, ent_en, init_en], by simp [put_sl, put_en, put_none, init_sl, fresh_sl, fresh_en, ent_sl, ent_en, init_en], by simp [put_sl, put_en, put_none, init_sl, fresh_sl, fresh_en, ent_sl, ent_en, init_en], by simp [put_sl, put_en, put_none, init_sl, fresh_sl, fresh_en, ent_sl, ent_en, init_en], by simp [put_sl, put_en, put_none, init_sl, fresh_sl, fresh_en, ent_sl, ent_en, init_en], by simp [put_sl, put_en, put_none, init_sl, fresh_sl, fresh_en, ent_sl, ent_en, init_en], by simp [put_sl, put_en, put_none, init_sl, fresh_sl, fresh_en, ent_sl, ent_en, init_en], by simp [put_sl, put_en, put_none, init_sl, fresh_sl, fresh_en, ent_sl, ent_en, init_en], ?_, ?_⟩
    · simp [put_sl, put_en, put_none, init_sl, fresh_sl, fresh_en, ent_sl, ent_en, init_en, rdI, rdA]
    · simp [put_sl, put_en, put_none, init_sl, fresh_sl, fresh_en, ent_sl, ent_en, init_en, outI]
  rintro ⟨k, ns, q, g, b⟩ σ ⟨⟨hk, hkl, hq0, hq1⟩, e1, e6, s1, s2, s3, s4, s5, e8, ⟨e0, r1, r2, r3, r4, r5⟩, ho⟩
  dsimp only at hk hkl hq0 hq1 e8 r5 ho
  cases b
  all_goals simp only [outI] at ho
  · obtain ⟨h00, o1, o2, o3, o4, o5, o6⟩ := ho
    obtain rfl : ns = [] := by simpa using h00
    simp only [vmA, Nat.reduceEqDiff, reduceIte, Nat.reduceAdd, Nat.reduceBEq, reduceCtorEq, Nat.reduceLT, Int.reduceLE, Int.reduceLT, Int.reduceEq, Nat.reduceMul, Nat.reduceLeDiff, e0, e1, e6, e8, s1, s2, s3, s4, s5, r1, r2, r3, r4, r5, rdA, o1, o2, o3, o4, o5, o6, List.length_map]
    refine ⟨fun hlt => ?_, fun hge => ?_⟩
    · rw [wr (by omega)]
      refine callR (f34 xs c q _ hl (by omega) (by omega)) ?_
      rintro _ _ ⟨k1, rfl, hk10, hk1n, rfl⟩
      simp only [vmA, Nat.reduceEqDiff, reduceIte, Nat.reduceAdd, Nat.reduceBEq, reduceCtorEq, Nat.reduceLT, Int.reduceLE, Int.reduceLT, Int.reduceEq, Nat.reduceMul, Nat.reduceLeDiff, e0, e1, e6, e8, s1, s2, s3, s4, s5, r1, r2, r3, r4, r5, rdA, o1, o2, o3, o4, o5, o6, List.length_map, rdP]
      rw [wr (by omega)]
      refine ⟨⟨k - 1, [k1], q + 1, (σ.en 1664).gen + 1, true⟩, ⟨⟨by dsimp only; omega, by simp <;> omega, by dsimp only; omega, by dsimp only; omega⟩, ?_⟩, by dsimp only; omega⟩
      simp only [vmA, Nat.reduceEqDiff, reduceIte, Nat.reduceAdd, Nat.reduceBEq, reduceCtorEq, Nat.reduceLT, Int.reduceLE, Int.reduceLT, Int.reduceEq, Nat.reduceMul, Nat.reduceLeDiff, rdI, outI, e0, e1, e6, e8, s1, s2, s3, s4, s5, r1, r2, r3, r4, r5, rdA, o1, o2, o3, o4, o5, o6, List.length_map, rdP, List.map_append, List.length_append]
    · simp at hkl; omega
  · obtain ⟨o1, o2, rfl, o3, o4, o5⟩ := ho
    skip
    simp only [vmA, Nat.reduceEqDiff, reduceIte, Nat.reduceAdd, Nat.reduceBEq, reduceCtorEq, Nat.reduceLT, Int.reduceLE, Int.reduceLT, Int.reduceEq, Nat.reduceMul, Nat.reduceLeDiff, e0, e1, e6, e8, s1, s2, s3, s4, s5, r1, r2, r3, r4, r5, rdA, o1, o2, o3, o4, o5, List.length_map]
    refine ⟨fun hlt => ?_, fun hge => ?_⟩
    · rw [wr (by omega)]
      refine callR (f34 xs c q _ hl (by omega) (by omega)) ?_
      rintro _ _ ⟨k1, rfl, hk10, hk1n, rfl⟩
      simp only [vmA, Nat.reduceEqDiff, reduceIte, Nat.reduceAdd, Nat.reduceBEq, reduceCtorEq, Nat.reduceLT, Int.reduceLE, Int.reduceLT, Int.reduceEq, Nat.reduceMul, Nat.reduceLeDiff, e0, e1, e6, e8, s1, s2, s3, s4, s5, r1, r2, r3, r4, r5, rdA, o1, o2, o3, o4, o5, List.length_map, rdP]
      refine ⟨by omega, ?_⟩
      rw [wr (by omega)]
      refine ⟨⟨k - 1, ns ++ [k1], q + 1, (σ.en 1664).gen + 1, true⟩, ⟨⟨by dsimp only; omega, by simp <;> omega, by dsimp only; omega, by dsimp only; omega⟩, ?_⟩, by dsimp only; omega⟩
      simp only [vmA, Nat.reduceEqDiff, reduceIte, Nat.reduceAdd, Nat.reduceBEq, reduceCtorEq, Nat.reduceLT, Int.reduceLE, Int.reduceLT, Int.reduceEq, Nat.reduceMul, Nat.reduceLeDiff, rdI, outI, e0, e1, e6, e8, s1, s2, s3, s4, s5, r1, r2, r3, r4, r5, rdA, o1, o2, o3, o4, o5, List.length_map, rdP, List.map_append, List.length_append]
    · refine callR (f35 xs c q n hl (by omega) (by omega) (by omega)) ?_
      rintro _ _ ⟨bb, rfl, rfl⟩
      cases bb
      all_goals simp only [vmA, Nat.reduceEqDiff, reduceIte, Nat.reduceAdd, Nat.reduceBEq, reduceCtorEq, Nat.reduceLT, Int.reduceLE, Int.reduceLT, Int.reduceEq, Nat.reduceMul, Nat.reduceLeDiff, e0, e1, e6, e8, s1, s2, s3, s4, s5, r1, r2, r3, r4, r5, rdA, o1, o2, o3, o4, o5, List.length_map, rdP]
      · (refine hQ _ ?_; simp only [vmA, Nat.reduceEqDiff, reduceIte, Nat.reduceAdd, Nat.reduceBEq, reduceCtorEq, Nat.reduceLT, Int.reduceLE, Int.reduceLT, Int.reduceEq, Nat.reduceMul, Nat.reduceLeDiff, Tryz.f15, retG, resL, St.closeVs, St.closeV, leftV, ghostW, e0, e1, e6, e8, s1, s2, s3, s4, s5, r1, r2, r3, r4, r5, rdA, o1, o2, o3, o4, o5, List.length_map, rdP, take_map_len])
        exact ⟨es, ns, q + 1, rfl, he1, he2, by omega, by omega, by omega, rfl⟩
      · refine callR (f34 xs c (q + 1) 3 hl (by omega) (by omega)) ?_
        rintro _ _ ⟨k2, rfl, hk20, hk2n, rfl⟩
        simp only [vmA, Nat.reduceEqDiff, reduceIte, Nat.reduceAdd, Nat.reduceBEq, reduceCtorEq, Nat.reduceLT, Int.reduceLE, Int.reduceLT, Int.reduceEq, Nat.reduceMul, Nat.reduceLeDiff, e0, e1, e6, e8, s1, s2, s3, s4, s5, r1, r2, r3, r4, r5, rdA, o1, o2, o3, o4, o5, List.length_map, rdP]
        refine ⟨fun h2 => ⟨by omega, by omega, ?_⟩, fun h2 => ⟨fun h3 => ⟨by omega, ?_⟩, fun h3 => ?_⟩⟩
        · (refine hQ _ ?_; simp only [vmA, Nat.reduceEqDiff, reduceIte, Nat.reduceAdd, Nat.reduceBEq, reduceCtorEq, Nat.reduceLT, Int.reduceLE, Int.reduceLT, Int.reduceEq, Nat.reduceMul, Nat.reduceLeDiff, Tryz.f15, retG, resL, St.closeVs, St.closeV, leftV, ghostW, e0, e1, e6, e8, s1, s2, s3, s4, s5, r1, r2, r3, r4, r5, rdA, o1, o2, o3, o4, o5, List.length_map, rdP, take_map_len, List.length_set])
          refine ⟨es, ns.set 0 (IntKind.i64.wrap (es.length + 1)), q + 1 + 1, ?_, he1, he2, by simp <;> omega, by omega, by omega, rfl⟩
          rw [List.map_set, List.take_of_length_le (by simp)]
          rfl
        · (refine hQ _ ?_; simp only [vmA, Nat.reduceEqDiff, reduceIte, Nat.reduceAdd, Nat.reduceBEq, reduceCtorEq, Nat.reduceLT, Int.reduceLE, Int.reduceLT, Int.reduceEq, Nat.reduceMul, Nat.reduceLeDiff, Tryz.f15, retG, resL, St.closeVs, St.closeV, leftV, ghostW, e0, e1, e6, e8, s1, s2, s3, s4, s5, r1, r2, r3, r4, r5, rdA, o1, o2, o3, o4, o5, List.length_map, rdP, take_map_len, List.length_append])
          refine ⟨es, ns ++ [0, 0, 0, 0, 0], q + 1 + 1, ?_, he1, he2, by simp <;> omega, by omega, by omega, rfl⟩
          rw [List.map_append, List.take_of_length_le (by simp)]
          rfl
        · (refine hQ _ ?_; simp only [vmA, Nat.reduceEqDiff, reduceIte, Nat.reduceAdd, Nat.reduceBEq, reduceCtorEq, Nat.reduceLT, Int.reduceLE, Int.reduceLT, Int.reduceEq, Nat.reduceMul, Nat.reduceLeDiff, Tryz.f15, retG, resL, St.closeVs, St.closeV, leftV, ghostW, e0, e1, e6, e8, s1, s2, s3, s4, s5, r1, r2, r3, r4, r5, rdA, o1, o2, o3, o4, o5, List.length_map, rdP, take_map_len, List.take_nil])
          exact ⟨es, [], q + 1 + 1, rfl, he1, he2, by simp, by omega, by omega, rfl⟩
structure S56 where
  i : Nat
  ns : List Int
  q : Int
  g : Nat
  b : Bool
theorem f16 (xs : List UInt8) (c : Bool) (p : Int) (m : Nat) (hl : xs.length ≤ 2000) (h0 : 0 ≤ p) (h1 : p ≤ 1099511600000) (hm : m ≤ 1000) :
    FxR 16 [rdP xs c p, .int .i64 m] fun r l => ∃ (ns : List Int) (p' : Int), r = .own 1 (ns.map iA) ∧ ns.length ≤ m + 1 ∧ p ≤ p' ∧ p' ≤ p + m + 2 ∧ l = rdP xs c p' := by
  refine fn_ofW false (k := 0) Tryz.func16 (by kernel_rfl) rfl (by kernel_rfl) (by kernel_rfl) (Nat.le_of_ble_eq_true rfl) rfl ⟨_, _, .inr ⟨_, _, rfl⟩⟩ rfl fun Q hQ => ?_
  simp only [vmA, Nat.reduceEqDiff, reduceIte, Nat.reduceAdd, Nat.reduceBEq, reduceCtorEq, Nat.reduceLT, Int.reduceLE, Int.reduceLT, Int.reduceEq, Nat.reduceMul, Nat.reduceLeDiff, rdP, rdA]
  refine WT_loop (fun (y : S56) σ => (y.i ≤ m ∧ y.ns.length ≤ y.i ∧ p ≤ y.q ∧ y.q ≤ p + y.i) ∧ σ.sl 1 = .int .i64 m ∧ σ.sl 6 = .int .i64 y.i ∧ rdI σ xs c y.q ∧ outI σ 5 448 1216 1 (y.ns.map iA) y.g y.b) (fun y => m - y.i) ⟨0, [], p, 0, false⟩ ?_ ?_
  · refine ⟨⟨by dsimp only; omega, by simp, by dsimp only; omega, by dsimp only; omega⟩, by simp [put_sl, put_en, put_none, init_sl, fresh_sl, fresh_en, ent_sl, ent_en, init_en], by simp [put_sl, put_en, put_none, init_sl, fresh_sl, fresh_en, ent_sl, ent_en, init_en], ?_, ?_⟩
    · simp [put_sl, put_en, put_none, init_sl, fresh_sl, fresh_en, ent_sl, ent_en, init_en, rdI, rdA]
    · simp [put_sl, put_en, put_none, init_sl, fresh_sl, fresh_en, ent_sl, ent_en, init_en, outI]
  rintro ⟨i, ns, q, g, b⟩ σ ⟨⟨hi, hnl, hq0, hq1⟩, e1, e6, ⟨e0, r1, r2, r3, r4, r5⟩, ho⟩
  dsimp only at hi hnl hq0 hq1 e6 r5 ho
  cases b
  all_goals simp only [outI] at ho
  · obtain ⟨h00, o1, o2, o3, o4, o5, o6⟩ := ho
    obtain rfl : ns = [] := by simpa using h00
    simp only [vmA, Nat.reduceEqDiff, reduceIte, Nat.reduceAdd, Nat.reduceBEq, reduceCtorEq, Nat.reduceLT, Int.reduceLE, Int.reduceLT, Int.reduceEq, Nat.reduceMul, Nat.reduceLeDiff, e0, e1, e6, r1, r2, r3, r4, r5, rdA, o1, o2, o3, o4, o5, o6, List.length_map]
    refine ⟨fun hlt => callR (f34 xs c q 4 hl (by omega) (by omega)) ?_, fun hge => callR (f34 xs c q 15 hl (by omega) (by omega)) ?_⟩
    · rintro _ _ ⟨k1, rfl, hk10, hk1n, rfl⟩
      simp only [vmA, Nat.reduceEqDiff, reduceIte, Nat.reduceAdd, Nat.reduceBEq, reduceCtorEq, Nat.reduceLT, Int.reduceLE, Int.reduceLT, Int.reduceEq, Nat.reduceMul, Nat.reduceLeDiff, e0, e1, e6, r1, r2, r3, r4, r5, rdA, o1, o2, o3, o4, o5, o6, List.length_map, rdP]
      refine ⟨fun hk => ?_, fun hk => ?_⟩
      · rw [wr (by omega)]
        refine ⟨⟨i + 1, [(i : Int)], q + 1, (σ.en 1216).gen + 1, true⟩, ⟨⟨by dsimp only; omega, by simp <;> omega, by dsimp only; omega, by dsimp only; omega⟩, ?_⟩, by dsimp only; omega⟩
        simp only [vmA, Nat.reduceEqDiff, reduceIte, Nat.reduceAdd, Nat.reduceBEq, reduceCtorEq, Nat.reduceLT, Int.reduceLE, Int.reduceLT, Int.reduceEq, Nat.reduceMul, Nat.reduceLeDiff, rdI, outI, e0, e1, e6, r1, r2, r3, r4, r5, rdA, o1, o2, o3, o4, o5, o6, List.length_map, rdP, List.map_append, List.length_append]
        rfl
      · rw [wr (by omega)]
        refine ⟨⟨i + 1, [], q + 1, g, false⟩, ⟨⟨by dsimp only; omega, by first | (simp; done) | (dsimp only; omega), by dsimp only; omega, by dsimp only; omega⟩, ?_⟩, by dsimp only; omega⟩
        simp only [vmA, Nat.reduceEqDiff, reduceIte, Nat.reduceAdd, Nat.reduceBEq, reduceCtorEq, Nat.reduceLT, Int.reduceLE, Int.reduceLT, Int.reduceEq, Nat.reduceMul, Nat.reduceLeDiff, rdI, outI, e0, e1, e6, r1, r2, r3, r4, r5, rdA, o1, o2, o3, o4, o5, o6, List.length_map, rdP]
        rfl
    · rintro _ _ ⟨k1, rfl, hk10, hk1n, rfl⟩
      simp only [vmA, Nat.reduceEqDiff, reduceIte, Nat.reduceAdd, Nat.reduceBEq, reduceCtorEq, Nat.reduceLT, Int.reduceLE, Int.reduceLT, Int.reduceEq, Nat.reduceMul, Nat.reduceLeDiff, e0, e1, e6, r1, r2, r3, r4, r5, rdA, o1, o2, o3, o4, o5, o6, List.length_map, rdP]
      refine ⟨fun hk => callR (f34 xs c (q + 1) 7 hl (by omega) (by omega)) ?_, fun hk => ?_⟩
      · rintro _ _ ⟨k2, rfl, hk20, hk2n, rfl⟩
        simp only [vmA, Nat.reduceEqDiff, reduceIte, Nat.reduceAdd, Nat.reduceBEq, reduceCtorEq, Nat.reduceLT, Int.reduceLE, Int.reduceLT, Int.reduceEq, Nat.reduceMul, Nat.reduceLeDiff, e0, e1, e6, r1, r2, r3, r4, r5, rdA, o1, o2, o3, o4, o5, o6, List.length_map, rdP]
        (refine hQ _ ?_; simp only [vmA, Nat.reduceEqDiff, reduceIte, Nat.reduceAdd, Nat.reduceBEq, reduceCtorEq, Nat.reduceLT, Int.reduceLE, Int.reduceLT, Int.reduceEq, Nat.reduceMul, Nat.reduceLeDiff, Tryz.f16, retG, resL, St.closeVs, St.closeV, leftV, ghostW, e0, e1, e6, r1, r2, r3, r4, r5, rdA, o1, o2, o3, o4, o5, o6, List.length_map, rdP, take_map_len, List.length_append])
        exact ⟨[IntKind.i64.wrap (k2 - 1)], q + 1 + 1, rfl, by simp, by omega, by omega, rfl⟩
      · (refine hQ _ ?_; simp only [vmA, Nat.reduceEqDiff, reduceIte, Nat.reduceAdd, Nat.reduceBEq, reduceCtorEq, Nat.reduceLT, Int.reduceLE, Int.reduceLT, Int.reduceEq, Nat.reduceMul, Nat.reduceLeDiff, Tryz.f16, retG, resL, St.closeVs, St.closeV, leftV, ghostW, e0, e1, e6, r1, r2, r3, r4, r5, rdA, o1, o2, o3, o4, o5, o6, List.length_map, rdP, take_map_len, List.take_nil])
        exact ⟨[], q + 1, rfl, by first | (simp; done) | omega, by omega, by omega, rfl⟩
  · obtain ⟨o1, o2, rfl, o3, o4, o5⟩ := ho
    skip
    simp only [vmA, Nat.reduceEqDiff, reduceIte, Nat.reduceAdd, Nat.reduceBEq, reduceCtorEq, Nat.reduceLT, Int.reduceLE, Int.reduceLT, Int.reduceEq, Nat.reduceMul, Nat.reduceLeDiff, e0, e1, e6, r1, r2, r3, r4, r5, rdA, o1, o2, o3, o4, o5, List.length_map]
    refine ⟨fun hlt => callR (f34 xs c q 4 hl (by omega) (by omega)) ?_, fun hge => callR (f34 xs c q 15 hl (by omega) (by omega)) ?_⟩
    · rintro _ _ ⟨k1, rfl, hk10, hk1n, rfl⟩
      simp only [vmA, Nat.reduceEqDiff, reduceIte, Nat.reduceAdd, Nat.reduceBEq, reduceCtorEq, Nat.reduceLT, Int.reduceLE, Int.reduceLT, Int.reduceEq, Nat.reduceMul, Nat.reduceLeDiff, e0, e1, e6, r1, r2, r3, r4, r5, rdA, o1, o2, o3, o4, o5, List.length_map, rdP]
      refine ⟨fun hk => ?_, fun hk => ?_⟩
      · refine ⟨by omega, ?_⟩
        rw [wr (by omega)]
        refine ⟨⟨i + 1, ns ++ [(i : Int)], q + 1, (σ.en 1216).gen + 1, true⟩, ⟨⟨by dsimp only; omega, by simp <;> omega, by dsimp only; omega, by dsimp only; omega⟩, ?_⟩, by dsimp only; omega⟩
        simp only [vmA, Nat.reduceEqDiff, reduceIte, Nat.reduceAdd, Nat.reduceBEq, reduceCtorEq, Nat.reduceLT, Int.reduceLE, Int.reduceLT, Int.reduceEq, Nat.reduceMul, Nat.reduceLeDiff, rdI, outI, e0, e1, e6, r1, r2, r3, r4, r5, rdA, o1, o2, o3, o4, o5, List.length_map, rdP, List.map_append, List.length_append]
        rfl
      · rw [wr (by omega)]
        refine ⟨⟨i + 1, ns, q + 1, (σ.en 1216).gen, true⟩, ⟨⟨by dsimp only; omega, by first | (simp; done) | (dsimp only; omega), by dsimp only; omega, by dsimp only; omega⟩, ?_⟩, by dsimp only; omega⟩
        simp only [vmA, Nat.reduceEqDiff, reduceIte, Nat.reduceAdd, Nat.reduceBEq, reduceCtorEq, Nat.reduceLT, Int.reduceLE, Int.reduceLT, Int.reduceEq, Nat.reduceMul, Nat.reduceLeDiff, rdI, outI, e0, e1, e6, r1, r2, r3, r4, r5, rdA, o1, o2, o3, o4, o5, List.length_map, rdP]
        rfl
    · rintro _ _ ⟨k1, rfl, hk10, hk1n, rfl⟩
      simp only [vmA, Nat.reduceEqDiff, reduceIte, Nat.reduceAdd, Nat.reduceBEq, reduceCtorEq, Nat.reduceLT, Int.reduceLE, Int.reduceLT, Int.reduceEq, Nat.reduceMul, Nat.reduceLeDiff, e0, e1, e6, r1, r2, r3, r4, r5, rdA, o1, o2, o3, o4, o5, List.length_map, rdP]
      refine ⟨fun hk => callR (f34 xs c (q + 1) 7 hl (by omega) (by omega)) ?_, fun hk => ?_⟩
      · rintro _ _ ⟨k2, rfl, hk20, hk2n, rfl⟩
        simp only [vmA, Nat.reduceEqDiff, reduceIte, Nat.reduceAdd, Nat.reduceBEq, reduceCtorEq, Nat.reduceLT, Int.reduceLE, Int.reduceLT, Int.reduceEq, Nat.reduceMul, Nat.reduceLeDiff, e0, e1, e6, r1, r2, r3, r4, r5, rdA, o1, o2, o3, o4, o5, List.length_map, rdP]
        refine ⟨by omega, ?_⟩
        (refine hQ _ ?_; simp only [vmA, Nat.reduceEqDiff, reduceIte, Nat.reduceAdd, Nat.reduceBEq, reduceCtorEq, Nat.reduceLT, Int.reduceLE, Int.reduceLT, Int.reduceEq, Nat.reduceMul, Nat.reduceLeDiff, Tryz.f16, retG, resL, St.closeVs, St.closeV, leftV, ghostW, e0, e1, e6, r1, r2, r3, r4, r5, rdA, o1, o2, o3, o4, o5, List.length_map, rdP, take_map_len, List.length_append])
        refine ⟨ns ++ [IntKind.i64.wrap (k2 - 1)], q + 1 + 1, ?_, by simp <;> omega, by omega, by omega, rfl⟩
        rw [List.map_append, List.take_of_length_le (by simp)]
        rfl
      · (refine hQ _ ?_; simp only [vmA, Nat.reduceEqDiff, reduceIte, Nat.reduceAdd, Nat.reduceBEq, reduceCtorEq, Nat.reduceLT, Int.reduceLE, Int.reduceLT, Int.reduceEq, Nat.reduceMul, Nat.reduceLeDiff, Tryz.f16, retG, resL, St.closeVs, St.closeV, leftV, ghostW, e0, e1, e6, r1, r2, r3, r4, r5, rdA, o1, o2, o3, o4, o5, List.length_map, rdP, take_map_len, List.take_nil])
        exact ⟨ns, q + 1, rfl, by first | (simp; done) | omega, by omega, by omega, rfl⟩
theorem bestL_ge (ps : List Int) : ∀ (th : List Int) (b : Int), ps[b.toNat]! ≤ ps[(bestL ps th b).toNat]! ∧ ∀ x ∈ th, ps[x.toNat]! ≤ ps[(bestL ps th b).toNat]!
  | [], b => ⟨Int.le_refl _, by simp⟩
  | n :: r, b => by
    rw [bestL]
    obtain ⟨h1, h2⟩ := bestL_ge ps r (if ps[b.toNat]! < ps[n.toNat]! then n else b)
    refine ⟨?_, fun x hx => ?_⟩
    · split at h1 <;> split <;> omega
    · rcases List.mem_cons.1 hx with rfl | hx
      · split at h1 <;> split <;> omega
      · exact h2 x hx
theorem tkV_cases (es : List En) (ps th : List Int) : (tkV es ps th = -1) ∨ (0 ≤ tkV es ps th ∧ tkV es ps th < ps.length ∧ tkV es ps th ∈ th ∧ (∀ x ∈ th, ps[x.toNat]! ≤ ps[(tkV es ps th).toNat]!) ∧ (∀ x ∈ th, 0 ≤ x ∧ x < ps.length) ∧ ps.length < 2 * th.length) := by
  unfold tkV
  split
  · rename_i h
    right
    have h0 : 0 < th.length := by have := h.2.2; omega
    have hall : ∀ x ∈ th, 0 ≤ x ∧ x < ps.length := fun x hx => by
      obtain ⟨k, hk, rfl⟩ := List.mem_iff_getElem.1 hx
      have := riP_mem h.2.1 hk
      rw [getElem!_pos th k hk] at this
      omega
    have hm : th[0]! ∈ th := by rw [getElem!_pos th 0 h0]; exact List.getElem_mem _
    have hb : bestL ps th th[0]! ∈ th := by
      rcases bestL_mem ps th th[0]! with h | h
      · rw [h]; exact hm
      · exact h
    exact ⟨(hall _ hb).1, (hall _ hb).2, hb, (bestL_ge ps th th[0]!).2, hall, h.2.2⟩
  · exact .inl rfl
