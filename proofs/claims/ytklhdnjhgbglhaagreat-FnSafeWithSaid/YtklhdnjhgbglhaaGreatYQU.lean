/- WALK, or plain laws for it: theorem f<k> says what function k returns. Conditions: none but those ahead of each theorem. -/
import Derived.Test.YtklhdnjhgbglhaaGreatYQT
set_option linter.unusedVariables false
set_option linter.unusedSimpArgs false
open Nat renaming reduceEqDiff → sN1, reduceAdd → sN2, reduceBEq → sN3, reduceLT → sN4, reduceMul → sN5, reduceLeDiff → sN6, reduceSub → sN7
open Int renaming reduceLE → sI1, reduceLT → sI2, reduceEq → sI3
open Go Go.Vm Go.Proofs
set_option maxRecDepth 100000
set_option maxHeartbeats 16000000
theorem f84 (xs : List UInt8) (c : Bool) (p : Int) (hl : xs.length ≤ 2000) (h0 : 0 ≤ p) (h1 : p ≤ 1099511626000) : FxR 84 [rdP xs c p] fun r l => ∃ (h' : Hs) (w : Int), r = .tup [hA h', .int .i64 w] ∧ houseP h' ∧ ∃ q : Int, (p ≤ q ∧ q ≤ p + 200) ∧ l = rdP xs c q := by
  refine fn_ofW ⟨true, [], []⟩ (k := 0) Tryz.func84 (by kernel_rfl) rfl (by kernel_rfl) (by kernel_rfl) (Nat.le_of_ble_eq_true rfl) rfl ⟨_, _, .inr ⟨_, _, rfl⟩⟩ rfl fun Q hQ => ?_
  simp only [vmA, sN1, reduceIte, sN2, sN3, reduceCtorEq, sN4, sI1, sI2, sI3, sN5, sN6, rdP, rdA]
  refine WT_loopR (fun (zz : Nat × Nat) σ => (zz.1 ≤ 4) ∧ σ.sl 5 = .int .i64 zz.1 ∧ σ.sl 0 = .ptr 0 1 0 0 ∧ (σ.en 0).live = true ∧ (σ.en 0).gen = 1 ∧ (σ.en 0).frz = false ∧ (σ.en 0).sz = 2 ∧ (σ.en 0).elems = [rdA xs c p] ∧ σ.sl 2 = .ptr 128 1 0 0 ∧ (σ.en 128).live = true ∧ (σ.en 128).gen = 1 ∧ (σ.en 128).frz = false ∧ (σ.en 128).sz = 3 ∧ (σ.en 128).elems = [.agg [.fro none true [], .int .i64 0, .fro none true []]] ∧ σ.sl 4 = .hd 256 zz.2 0 (zz.1) false ∧ (σ.en 256).live = true ∧ (σ.en 256).gen = zz.2 ∧ (σ.en 256).frz = false ∧ (σ.en 256).sz = 4 ∧ (σ.en 256).elems = (begL zz.1).map mvB) (fun zz => 4 - zz.1) 4 ?_ ?_
  · simp only [vmA, sN1, reduceIte, sN2, sN3, reduceCtorEq, sN4, sI1, sI2, sI3, sN5, sN6, reown, rdA, rdP]
    exact ⟨(0, 1), Nat.zero_le _, rfl, rfl, rfl, rfl⟩
  rintro ⟨i, γ⟩ σ ⟨hi, e5, e0, m0a, m0b, m0c, m0d, m0e, e2, m128a, m128b, m128c, m128d, m128e, e4, m256a, m256b, m256c, m256d, m256e⟩
  try dsimp only at e5 e0 m0a m0b m0c m0d m0e e2 m128a m128b m128c m128d m128e e4 m256a m256b m256c m256d m256e hi
  simp only [vmA, sN1, reduceIte, sN2, sN3, reduceCtorEq, sN4, sI1, sI2, sI3, sN5, sN6, e5, e0, m0a, m0b, m0c, m0d, m0e, e2, m128a, m128b, m128c, m128d, m128e, e4, m256a, m256b, m256c, m256d, m256e, rdA, rdP, List.length_map, Option.bind_none, reown, begL_len]
  refine ⟨fun hlt => ?_, fun hge => ?_⟩
  · rw [wr (by omega)]
    refine ⟨⟨by omega, by omega⟩, by simp [begL_len], (i + 1, γ + 1 + 1), ⟨by dsimp only; omega, rfl, ?_⟩, by dsimp only; omega⟩
    dsimp only
    rw [begL_next, List.map_append, List.take_of_length_le (by simp [begL_len])]
    refine ⟨?_, rfl, rfl⟩
    simp [begL_len]
  obtain rfl : i = 4 := by omega
  have hb4 := begL_len 4
  have hr4 := begL_row 4
  refine callR (f61 xs c p 4 hl h0 (by omega)) ?_
  rintro _ _ ⟨x, rfl, hx0, hx1, rfl⟩
  simp only [vmA, sN1, reduceIte, sN2, sN3, reduceCtorEq, sN4, sI1, sI2, sI3, sN5, sN6, e5, e0, m0a, m0b, m0c, m0d, m0e, e2, m128a, m128b, m128c, m128d, m128e, e4, m256a, m256b, m256c, m256d, m256e, rdA, rdP, List.length_map, Option.bind_none]
  refine callR (f61 xs c (p + 1) 3 hl (by omega) (by omega)) ?_
  rintro _ _ ⟨d1, rfl, hd0, hd1, rfl⟩
  have w1 : IntKind.i64.wrap (IntKind.i64.wrap (x + 1) + d1) = x + 1 + d1 := by rw [show IntKind.i64.wrap (x + 1) = x + 1 from wr (by omega)]; exact wr (by omega)
  obtain ⟨y, hy, hy0⟩ : ∃ y, (x + 1 + d1).tmod 4 = y ∧ 0 ≤ y ∧ y < 4 := ⟨_, rfl, tm (by omega) (by omega)⟩
  simp only [vmA, sN1, reduceIte, sN2, sN3, reduceCtorEq, sN4, sI1, sI2, sI3, sN5, sN6, e5, e0, m0a, m0b, m0c, m0d, m0e, e2, m128a, m128b, m128c, m128d, m128e, e4, m256a, m256b, m256c, m256d, m256e, rdA, rdP, List.length_map, Option.bind_none, w1, hy]
  refine callR (f61 xs c (p + 1 + 1) 2 hl (by omega) (by omega)) ?_
  rintro _ _ ⟨d2, rfl, he0, he1, rfl⟩
  simp only [vmA, sN1, reduceIte, sN2, sN3, reduceCtorEq, sN4, sI1, sI2, sI3, sN5, sN6, e5, e0, m0a, m0b, m0c, m0d, m0e, e2, m128a, m128b, m128c, m128d, m128e, e4, m256a, m256b, m256c, m256d, m256e, rdA, rdP, List.length_map, Option.bind_none, w1, hy]
  refine ⟨fun z2 => ?_, fun z2 => ?_⟩
  · skip
    refine WT_loop (fun (z : Int) σ => (0 ≤ z ∧ z ≤ 4) ∧ σ.sl 8 = .int .i64 z ∧ σ.sl 6 = .int .i64 x ∧ σ.sl 7 = .int .i64 y ∧ σ.sl 0 = .ptr 0 1 0 0 ∧ (σ.en 0).live = true ∧ (σ.en 0).gen = 1 ∧ (σ.en 0).frz = false ∧ (σ.en 0).sz = 2 ∧ (σ.en 0).elems = [rdA xs c (p + 1 + 1 + 1)] ∧ σ.sl 2 = .ptr 128 1 0 0 ∧ (σ.en 128).live = true ∧ (σ.en 128).gen = 1 ∧ (σ.en 128).frz = false ∧ (σ.en 128).sz = 3 ∧ (σ.en 128).elems = [.agg [.fro none true [], .int .i64 0, .fro none true []]] ∧ σ.sl 4 = .hd 256 γ 0 (4) false ∧ (σ.en 256).live = true ∧ (σ.en 256).gen = γ ∧ (σ.en 256).frz = false ∧ (σ.en 256).sz = 4 ∧ (σ.en 256).elems = (begL 4).map mvB) (fun z => (5 - z).toNat) (0) ⟨⟨by omega, by omega⟩, by simp [vmI, e5, e0, m0a, m0b, m0c, m0d, m0e, e2, m128a, m128b, m128c, m128d, m128e, e4, m256a, m256b, m256c, m256d, m256e, rdA], by simp [vmI, e5, e0, m0a, m0b, m0c, m0d, m0e, e2, m128a, m128b, m128c, m128d, m128e, e4, m256a, m256b, m256c, m256d, m256e, rdA], by simp [vmI, e5, e0, m0a, m0b, m0c, m0d, m0e, e2, m128a, m128b, m128c, m128d, m128e, e4, m256a, m256b, m256c, m256d, m256e, rdA], by simp [vmI, e5, e0, m0a, m0b, m0c, m0d, m0e, e2, m128a, m128b, m128c, m128d, m128e, e4, m256a, m256b, m256c, m256d, m256e, rdA], by simp [vmI, e5, e0, m0a, m0b, m0c, m0d, m0e, e2, m128a, m128b, m128c, m128d, m128e, e4, m256a, m256b, m256c, m256d, m256e, rdA], by simp [vmI, e5, e0, m0a, m0b, m0c, m0d, m0e, e2, m128a, m128b, m128c, m128d, m128e, e4, m256a, m256b, m256c, m256d, m256e, rdA], by simp [vmI, e5, e0, m0a, m0b, m0c, m0d, m0e, e2, m128a, m128b, m128c, m128d, m128e, e4, m256a, m256b, m256c, m256d, m256e, rdA], by simp [vmI, e5, e0, m0a, m0b, m0c, m0d, m0e, e2, m128a, m128b, m128c, m128d, m128e, e4, m256a, m256b, m256c, m256d, m256e, rdA], by simp [vmI, e5, e0, m0a, m0b, m0c, m0d, m0e, e2, m128a, m128b, m128c, m128d, m128e, e4, m256a, m256b, m256c, m256d, m256e, rdA], by simp [vmI, e5, e0, m0a, m0b, m0c, m0d, m0e, e2, m128a, m128b, m128c, m128d, m128e, e4, m256a, m256b, m256c, m256d, m256e, rdA], by simp [vmI, e5, e0, m0a, m0b, m0c, m0d, m0e, e2, m128a, m128b, m128c, m128d, m128e, e4, m256a, m256b, m256c, m256d, m256e, rdA], by simp [vmI, e5, e0, m0a, m0b, m0c, m0d, m0e, e2, m128a, m128b, m128c, m128d, m128e, e4, m256a, m256b, m256c, m256d, m256e, rdA], by simp [vmI, e5, e0, m0a, m0b, m0c, m0d, m0e, e2, m128a, m128b, m128c, m128d, m128e, e4, m256a, m256b, m256c, m256d, m256e, rdA], by simp [vmI, e5, e0, m0a, m0b, m0c, m0d, m0e, e2, m128a, m128b, m128c, m128d, m128e, e4, m256a, m256b, m256c, m256d, m256e, rdA], by simp [vmI, e5, e0, m0a, m0b, m0c, m0d, m0e, e2, m128a, m128b, m128c, m128d, m128e, e4, m256a, m256b, m256c, m256d, m256e, rdA], by simp [vmI, e5, e0, m0a, m0b, m0c, m0d, m0e, e2, m128a, m128b, m128c, m128d, m128e, e4, m256a, m256b, m256c, m256d, m256e, rdA], by simp [vmI, e5, e0, m0a, m0b, m0c, m0d, m0e, e2, m128a, m128b, m128c, m128d, m128e, e4, m256a, m256b, m256c, m256d, m256e, rdA], by simp [vmI, e5, e0, m0a, m0b, m0c, m0d, m0e, e2, m128a, m128b, m128c, m128d, m128e, e4, m256a, m256b, m256c, m256d, m256e, rdA], by simp [vmI, e5, e0, m0a, m0b, m0c, m0d, m0e, e2, m128a, m128b, m128c, m128d, m128e, e4, m256a, m256b, m256c, m256d, m256e, rdA], by simp [vmI, e5, e0, m0a, m0b, m0c, m0d, m0e, e2, m128a, m128b, m128c, m128d, m128e, e4, m256a, m256b, m256c, m256d, m256e, rdA], by simp [vmI, e5, e0, m0a, m0b, m0c, m0d, m0e, e2, m128a, m128b, m128c, m128d, m128e, e4, m256a, m256b, m256c, m256d, m256e, rdA]⟩ ?_
    clear e5 e0 m0a m0b m0c m0d m0e e2 m128a m128b m128c m128d m128e e4 m256a m256b m256c m256d m256e
    rintro z σ ⟨hz, e8, e6, e7, e0, m0a, m0b, m0c, m0d, m0e, e2, m128a, m128b, m128c, m128d, m128e, e4, m256a, m256b, m256c, m256d, m256e⟩
    simp only [vmA, sN1, reduceIte, sN2, sN3, reduceCtorEq, sN4, sI1, sI2, sI3, sN5, sN6, e8, e6, e7, e0, m0a, m0b, m0c, m0d, m0e, e2, m128a, m128b, m128c, m128d, m128e, e4, m256a, m256b, m256c, m256d, m256e, rdA, rdP, List.length_map, Option.bind_none]
    refine ⟨fun q1 => ?_, fun q1 => ⟨fun q2 => ?_, fun q2 => ?_⟩⟩
    · rw [wr (by omega)]
      exact ⟨z + 1, ⟨⟨by omega, by omega⟩, rfl⟩, by omega⟩
    · rw [wr (by omega)]
      exact ⟨z + 1, ⟨⟨by omega, by omega⟩, rfl⟩, by omega⟩
    · skip
      refine callR (f61 xs c (p + 1 + 1 + 1) 3 hl (by omega) (by omega)) ?_
      rintro _ _ ⟨a, rfl, ha0, ha1, rfl⟩
      simp only [vmA, sN1, reduceIte, sN2, sN3, reduceCtorEq, sN4, sI1, sI2, sI3, sN5, sN6, e8, e6, e7, e0, m0a, m0b, m0c, m0d, m0e, e2, m128a, m128b, m128c, m128d, m128e, e4, m256a, m256b, m256c, m256d, m256e, rdA, rdP, List.length_map, Option.bind_none]
      refine callR (f61 xs c (p + 1 + 1 + 1 + 1) 2 hl (by omega) (by omega)) ?_
      rintro _ _ ⟨b, rfl, hb0, hb1, rfl⟩
      have w2 : IntKind.i64.wrap (IntKind.i64.wrap (a + 1) + b) = a + 1 + b := by rw [show IntKind.i64.wrap (a + 1) = a + 1 from wr (by omega)]; exact wr (by omega)
      obtain ⟨g, hg⟩ : ∃ g, (a + 1 + b).tmod 3 = g := ⟨_, rfl⟩
      simp only [vmA, sN1, reduceIte, sN2, sN3, reduceCtorEq, sN4, sI1, sI2, sI3, sN5, sN6, e8, e6, e7, e0, m0a, m0b, m0c, m0d, m0e, e2, m128a, m128b, m128c, m128d, m128e, e4, m256a, m256b, m256c, m256d, m256e, rdA, rdP, List.length_map, Option.bind_none, w2, hg, begL_len, behind_yes, behind_nf, hasFro, hasFro.hasFroL, freezeL, lentOf, List.length_append, Nat.le_refl, true_and]
      refine callR (f119F xs c (p + 1 + 1 + 1 + 1 + 1) hl (by omega) (by omega)) ?_
      rintro _ _ ⟨k5, rfl, rfl⟩
      simp only [vmA, sN1, reduceIte, sN2, sN3, reduceCtorEq, sN4, sI1, sI2, sI3, sN5, sN6, e8, e6, e7, e0, m0a, m0b, m0c, m0d, m0e, e2, m128a, m128b, m128c, m128d, m128e, e4, m256a, m256b, m256c, m256d, m256e, rdA, rdP, List.length_map, Option.bind_none, w2, hg, begL_len, behind_yes, behind_nf, hasFro, hasFro.hasFroL, freezeL, lentOf, List.length_append, Nat.le_refl, true_and]
      refine callR (f119F xs c (p + 1 + 1 + 1 + 1 + 1 + 1) hl (by omega) (by omega)) ?_
      rintro _ _ ⟨k6, rfl, rfl⟩
      simp only [vmA, sN1, reduceIte, sN2, sN3, reduceCtorEq, sN4, sI1, sI2, sI3, sN5, sN6, e8, e6, e7, e0, m0a, m0b, m0c, m0d, m0e, e2, m128a, m128b, m128c, m128d, m128e, e4, m256a, m256b, m256c, m256d, m256e, rdA, rdP, List.length_map, Option.bind_none, w2, hg, begL_len, behind_yes, behind_nf, hasFro, hasFro.hasFroL, freezeL, lentOf, List.length_append, Nat.le_refl, true_and]
      refine ⟨fun _ => callR (f61 xs c (p + 1 + 1 + 1 + 1 + 1 + 1 + 1) 2 hl (by omega) (by omega)) ?_, fun h => absurd h q1⟩
      rintro _ _ ⟨e, rfl, hee0, hee1, rfl⟩
      simp only [vmA, sN1, reduceIte, sN2, sN3, reduceCtorEq, sN4, sI1, sI2, sI3, sN5, sN6, e8, e6, e7, e0, m0a, m0b, m0c, m0d, m0e, e2, m128a, m128b, m128c, m128d, m128e, e4, m256a, m256b, m256c, m256d, m256e, rdA, rdP, List.length_map, Option.bind_none, hg, begL_len, behind_yes, behind_nf, hasFro, hasFro.hasFroL, freezeL, lentOf, List.length_append, Nat.le_refl, true_and]
      refine ⟨fun z3 => ?_, fun z3 => ?_⟩
      · skip
        refine callR (f43F 0) ?_
        rintro _ _ ⟨rfl, rfl⟩
        simp only [vmA, sN1, reduceIte, sN2, sN3, reduceCtorEq, sN4, sI1, sI2, sI3, sN5, sN6, e8, e6, e7, e0, m0a, m0b, m0c, m0d, m0e, e2, m128a, m128b, m128c, m128d, m128e, e4, m256a, m256b, m256c, m256d, m256e, rdA, rdP, List.length_map, Option.bind_none, hg, begL_len, behind_yes, behind_nf, hasFro, hasFro.hasFroL, freezeL, lentOf, List.length_append, Nat.le_refl, true_and, hF, map_froize_gA, map_froize_xA, map_froize_mvB, List.map_append]
        have ff := f38B newH newH_ok (begL 4 ++ [(true, ⟨2, x, a, []⟩), (true, ⟨2, y, g, []⟩)] ++ [(false, ⟨3, y, a, [⟨1, k5, ⟨⟨[]⟩⟩⟩]⟩), (false, ⟨3, z, g, [⟨1, k6, ⟨⟨[]⟩⟩⟩]⟩)] ++ [(true, ⟨5, z, 0, []⟩)] ++ [(true, ⟨5, y, 0, []⟩)]) false (by simp [begL_len]) (fun u hu => okRs (by
          simp only [List.append_assoc, List.mem_append, List.mem_cons, List.not_mem_nil, or_false, List.cons_append, List.nil_append] at hu
          rcases hu with hu | hu
          · exact hr4 u hu
          · rcases hu with rfl | rfl | rfl | rfl | rfl | rfl
            all_goals first
              | exact .inl rfl
              | exact .inr ⟨_, rfl⟩))
        simp only [List.map_append, List.map_cons, List.map_nil, mvB, vA] at ff
        rw [List.take_of_length_le (by simp [begL_len])]
        simp only [List.map_append, List.map_cons, List.map_nil, map_froize_mvB, froize, froizeL, froizeL_eq, vA]
        refine callR ff ?_
        rintro _ _ ⟨h', rfl, hp', rfl⟩
        cases hb : hasFro (hA h')
        · simp only [behind_nf hb]
          simp only [vmA, sN1, reduceIte, sN2, sN3, reduceCtorEq, sN4, sI1, sI2, sI3, sN5, sN6, e8, e6, e7, e0, m0a, m0b, m0c, m0d, m0e, e2, m128a, m128b, m128c, m128d, m128e, e4, m256a, m256b, m256c, m256d, m256e, rdA, rdP, hA, List.length_map, Option.bind_none]
          (refine hQ _ ?_; simp only [vmA, sN1, reduceIte, sN2, sN3, reduceCtorEq, sN4, sI1, sI2, sI3, sN5, sN6, Tryz.f84, retG, resL, St.closeVs, St.closeV, leftV, ghostW, e8, e6, e7, e0, m0a, m0b, m0c, m0d, m0e, e2, m128a, m128b, m128c, m128d, m128e, e4, m256a, m256b, m256c, m256d, m256e, rdA, rdP, hA, Option.bind_none])
          exact ⟨h', x, rfl, hp', p + 1 + 1 + 1 + 1 + 1 + 1 + 1 + 1, ⟨by omega, by omega⟩, rfl⟩
        · simp only [behind_yes hb]
          simp only [vmA, sN1, reduceIte, sN2, sN3, reduceCtorEq, sN4, sI1, sI2, sI3, sN5, sN6, e8, e6, e7, e0, m0a, m0b, m0c, m0d, m0e, e2, m128a, m128b, m128c, m128d, m128e, e4, m256a, m256b, m256c, m256d, m256e, rdA, rdP, hA, List.length_map, Option.bind_none, freezeL, lentOf]
          (refine hQ _ ?_; simp only [vmA, sN1, reduceIte, sN2, sN3, reduceCtorEq, sN4, sI1, sI2, sI3, sN5, sN6, Tryz.f84, retG, resL, St.closeVs, St.closeV, leftV, ghostW, e8, e6, e7, e0, m0a, m0b, m0c, m0d, m0e, e2, m128a, m128b, m128c, m128d, m128e, e4, m256a, m256b, m256c, m256d, m256e, rdA, rdP, hA, Option.bind_none])
          exact ⟨h', x, rfl, hp', p + 1 + 1 + 1 + 1 + 1 + 1 + 1 + 1, ⟨by omega, by omega⟩, rfl⟩
      · skip
        refine callR (f43F 0) ?_
        rintro _ _ ⟨rfl, rfl⟩
        simp only [vmA, sN1, reduceIte, sN2, sN3, reduceCtorEq, sN4, sI1, sI2, sI3, sN5, sN6, e8, e6, e7, e0, m0a, m0b, m0c, m0d, m0e, e2, m128a, m128b, m128c, m128d, m128e, e4, m256a, m256b, m256c, m256d, m256e, rdA, rdP, List.length_map, Option.bind_none, hg, begL_len, behind_yes, behind_nf, hasFro, hasFro.hasFroL, freezeL, lentOf, List.length_append, Nat.le_refl, true_and, hF, map_froize_gA, map_froize_xA, map_froize_mvB, List.map_append]
        have ff := f38B newH newH_ok (begL 4 ++ [(true, ⟨2, x, a, []⟩), (true, ⟨2, y, g, []⟩)] ++ [(false, ⟨3, y, a, [⟨1, k5, ⟨⟨[]⟩⟩⟩]⟩), (false, ⟨3, z, g, [⟨1, k6, ⟨⟨[]⟩⟩⟩]⟩)] ++ [(true, ⟨5, z, 0, []⟩)] ++ [(true, ⟨5, x, 0, []⟩)]) false (by simp [begL_len]) (fun u hu => okRs (by
          simp only [List.append_assoc, List.mem_append, List.mem_cons, List.not_mem_nil, or_false, List.cons_append, List.nil_append] at hu
          rcases hu with hu | hu
          · exact hr4 u hu
          · rcases hu with rfl | rfl | rfl | rfl | rfl | rfl
            all_goals first
              | exact .inl rfl
              | exact .inr ⟨_, rfl⟩))
        simp only [List.map_append, List.map_cons, List.map_nil, mvB, vA] at ff
        rw [List.take_of_length_le (by simp [begL_len])]
        simp only [List.map_append, List.map_cons, List.map_nil, map_froize_mvB, froize, froizeL, froizeL_eq, vA]
        refine callR ff ?_
        rintro _ _ ⟨h', rfl, hp', rfl⟩
        cases hb : hasFro (hA h')
        · simp only [behind_nf hb]
          simp only [vmA, sN1, reduceIte, sN2, sN3, reduceCtorEq, sN4, sI1, sI2, sI3, sN5, sN6, e8, e6, e7, e0, m0a, m0b, m0c, m0d, m0e, e2, m128a, m128b, m128c, m128d, m128e, e4, m256a, m256b, m256c, m256d, m256e, rdA, rdP, hA, List.length_map, Option.bind_none]
          (refine hQ _ ?_; simp only [vmA, sN1, reduceIte, sN2, sN3, reduceCtorEq, sN4, sI1, sI2, sI3, sN5, sN6, Tryz.f84, retG, resL, St.closeVs, St.closeV, leftV, ghostW, e8, e6, e7, e0, m0a, m0b, m0c, m0d, m0e, e2, m128a, m128b, m128c, m128d, m128e, e4, m256a, m256b, m256c, m256d, m256e, rdA, rdP, hA, Option.bind_none])
          exact ⟨h', y, rfl, hp', p + 1 + 1 + 1 + 1 + 1 + 1 + 1 + 1, ⟨by omega, by omega⟩, rfl⟩
        · simp only [behind_yes hb]
          simp only [vmA, sN1, reduceIte, sN2, sN3, reduceCtorEq, sN4, sI1, sI2, sI3, sN5, sN6, e8, e6, e7, e0, m0a, m0b, m0c, m0d, m0e, e2, m128a, m128b, m128c, m128d, m128e, e4, m256a, m256b, m256c, m256d, m256e, rdA, rdP, hA, List.length_map, Option.bind_none, freezeL, lentOf]
          (refine hQ _ ?_; simp only [vmA, sN1, reduceIte, sN2, sN3, reduceCtorEq, sN4, sI1, sI2, sI3, sN5, sN6, Tryz.f84, retG, resL, St.closeVs, St.closeV, leftV, ghostW, e8, e6, e7, e0, m0a, m0b, m0c, m0d, m0e, e2, m128a, m128b, m128c, m128d, m128e, e4, m256a, m256b, m256c, m256d, m256e, rdA, rdP, hA, Option.bind_none])
          exact ⟨h', y, rfl, hp', p + 1 + 1 + 1 + 1 + 1 + 1 + 1 + 1, ⟨by omega, by omega⟩, rfl⟩
  · skip
    refine callR (f61 xs c (p + 1 + 1 + 1) 3 hl (by omega) (by omega)) ?_
    rintro _ _ ⟨a, rfl, ha0, ha1, rfl⟩
    simp only [vmA, sN1, reduceIte, sN2, sN3, reduceCtorEq, sN4, sI1, sI2, sI3, sN5, sN6, e5, e0, m0a, m0b, m0c, m0d, m0e, e2, m128a, m128b, m128c, m128d, m128e, e4, m256a, m256b, m256c, m256d, m256e, rdA, rdP, List.length_map, Option.bind_none]
    refine callR (f61 xs c (p + 1 + 1 + 1 + 1) 2 hl (by omega) (by omega)) ?_
    rintro _ _ ⟨b, rfl, hb0, hb1, rfl⟩
    have w2 : IntKind.i64.wrap (IntKind.i64.wrap (a + 1) + b) = a + 1 + b := by rw [show IntKind.i64.wrap (a + 1) = a + 1 from wr (by omega)]; exact wr (by omega)
    obtain ⟨g, hg⟩ : ∃ g, (a + 1 + b).tmod 3 = g := ⟨_, rfl⟩
    simp only [vmA, sN1, reduceIte, sN2, sN3, reduceCtorEq, sN4, sI1, sI2, sI3, sN5, sN6, e5, e0, m0a, m0b, m0c, m0d, m0e, e2, m128a, m128b, m128c, m128d, m128e, e4, m256a, m256b, m256c, m256d, m256e, rdA, rdP, List.length_map, Option.bind_none, w2, hg, begL_len, behind_yes, behind_nf, hasFro, hasFro.hasFroL, freezeL, lentOf, List.length_append, Nat.le_refl, true_and]
    refine callR (f119F xs c (p + 1 + 1 + 1 + 1 + 1) hl (by omega) (by omega)) ?_
    rintro _ _ ⟨k5, rfl, rfl⟩
    simp only [vmA, sN1, reduceIte, sN2, sN3, reduceCtorEq, sN4, sI1, sI2, sI3, sN5, sN6, e5, e0, m0a, m0b, m0c, m0d, m0e, e2, m128a, m128b, m128c, m128d, m128e, e4, m256a, m256b, m256c, m256d, m256e, rdA, rdP, List.length_map, Option.bind_none, w2, hg, begL_len, behind_yes, behind_nf, hasFro, hasFro.hasFroL, freezeL, lentOf, List.length_append, Nat.le_refl, true_and]
    refine callR (f119F xs c (p + 1 + 1 + 1 + 1 + 1 + 1) hl (by omega) (by omega)) ?_
    rintro _ _ ⟨k6, rfl, rfl⟩
    simp only [vmA, sN1, reduceIte, sN2, sN3, reduceCtorEq, sN4, sI1, sI2, sI3, sN5, sN6, e5, e0, m0a, m0b, m0c, m0d, m0e, e2, m128a, m128b, m128c, m128d, m128e, e4, m256a, m256b, m256c, m256d, m256e, rdA, rdP, List.length_map, Option.bind_none, w2, hg, begL_len, behind_yes, behind_nf, hasFro, hasFro.hasFroL, freezeL, lentOf, List.length_append, Nat.le_refl, true_and]
    refine callR (f43F 0) ?_
    rintro _ _ ⟨rfl, rfl⟩
    simp only [vmA, sN1, reduceIte, sN2, sN3, reduceCtorEq, sN4, sI1, sI2, sI3, sN5, sN6, e5, e0, m0a, m0b, m0c, m0d, m0e, e2, m128a, m128b, m128c, m128d, m128e, e4, m256a, m256b, m256c, m256d, m256e, rdA, rdP, List.length_map, Option.bind_none, hg, begL_len, behind_yes, behind_nf, hasFro, hasFro.hasFroL, freezeL, lentOf, List.length_append, Nat.le_refl, true_and, hF, map_froize_gA, map_froize_xA, map_froize_mvB, List.map_append]
    have ff := f38B newH newH_ok (begL 4 ++ [(true, ⟨2, x, a, []⟩), (true, ⟨2, y, g, []⟩)] ++ [(false, ⟨3, y, a, [⟨1, k5, ⟨⟨[]⟩⟩⟩]⟩), (false, ⟨3, x, g, [⟨1, k6, ⟨⟨[]⟩⟩⟩]⟩)] ++ [(true, ⟨5, x, 0, []⟩)]) false (by simp [begL_len]) (fun u hu => okRs (by
      simp only [List.append_assoc, List.mem_append, List.mem_cons, List.not_mem_nil, or_false, List.cons_append, List.nil_append] at hu
      rcases hu with hu | hu
      · exact hr4 u hu
      · rcases hu with rfl | rfl | rfl | rfl | rfl
        all_goals first
          | exact .inl rfl
          | exact .inr ⟨_, rfl⟩))
    simp only [List.map_append, List.map_cons, List.map_nil, mvB, vA] at ff
    rw [List.take_of_length_le (by simp [begL_len])]
    simp only [List.map_append, List.map_cons, List.map_nil, map_froize_mvB, froize, froizeL, froizeL_eq, vA]
    refine callR ff ?_
    rintro _ _ ⟨h', rfl, hp', rfl⟩
    cases hb : hasFro (hA h')
    · simp only [behind_nf hb]
      simp only [vmA, sN1, reduceIte, sN2, sN3, reduceCtorEq, sN4, sI1, sI2, sI3, sN5, sN6, e5, e0, m0a, m0b, m0c, m0d, m0e, e2, m128a, m128b, m128c, m128d, m128e, e4, m256a, m256b, m256c, m256d, m256e, rdA, rdP, hA, List.length_map, Option.bind_none]
      (refine hQ _ ?_; simp only [vmA, sN1, reduceIte, sN2, sN3, reduceCtorEq, sN4, sI1, sI2, sI3, sN5, sN6, Tryz.f84, retG, resL, St.closeVs, St.closeV, leftV, ghostW, e5, e0, m0a, m0b, m0c, m0d, m0e, e2, m128a, m128b, m128c, m128d, m128e, e4, m256a, m256b, m256c, m256d, m256e, rdA, rdP, hA, Option.bind_none])
      exact ⟨h', y, rfl, hp', p + 1 + 1 + 1 + 1 + 1 + 1 + 1, ⟨by omega, by omega⟩, rfl⟩
    · simp only [behind_yes hb]
      simp only [vmA, sN1, reduceIte, sN2, sN3, reduceCtorEq, sN4, sI1, sI2, sI3, sN5, sN6, e5, e0, m0a, m0b, m0c, m0d, m0e, e2, m128a, m128b, m128c, m128d, m128e, e4, m256a, m256b, m256c, m256d, m256e, rdA, rdP, hA, List.length_map, Option.bind_none, freezeL, lentOf]
      (refine hQ _ ?_; simp only [vmA, sN1, reduceIte, sN2, sN3, reduceCtorEq, sN4, sI1, sI2, sI3, sN5, sN6, Tryz.f84, retG, resL, St.closeVs, St.closeV, leftV, ghostW, e5, e0, m0a, m0b, m0c, m0d, m0e, e2, m128a, m128b, m128c, m128d, m128e, e4, m256a, m256b, m256c, m256d, m256e, rdA, rdP, hA, Option.bind_none])
      exact ⟨h', y, rfl, hp', p + 1 + 1 + 1 + 1 + 1 + 1 + 1, ⟨by omega, by omega⟩, rfl⟩
