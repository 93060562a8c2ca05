/- WALK of functions of the seat, or plain laws for it: each theorem f<k> says what function k returns, for every world and all arguments that stand for the values named. Conditions: none but those ahead of each theorem. -/
import Derived.Test.YtickagjmjlnabaaGreatXT3
import Derived.Test.YtickagjmjlnabaaGreatXF11
open Go Go.Vm Go.Proofs
set_option maxRecDepth 100000
set_option maxHeartbeats 8000000
set_option linter.unusedSimpArgs false
set_option linter.unusedVariables false
theorem f73 (xs : List UInt8) (c : Bool) (p : Int) (hl : xs.length ≤ 2000) (h0 : 0 ≤ p) (h1 : p ≤ 1099511627776) :
    FxR 73 [rdP xs c p] fun r l => ∃ k, r = .own 3 [vA ⟨1, k, ⟨⟨[]⟩⟩⟩] ∧ l = rdP xs c (p + 1) := by
  refine fn_ofW false (k := 0) Tryz.func73 (by kernel_rfl) rfl (by kernel_rfl) (by kernel_rfl) (Nat.le_of_ble_eq_true rfl) rfl ⟨_, _, .inr ⟨_, _, rfl⟩⟩ rfl fun Q hQ => ?_
  simp only [vmA, Nat.reduceEqDiff, reduceIte, Nat.reduceAdd, Nat.reduceBEq, reduceCtorEq, Nat.reduceLT, Int.reduceLE, Int.reduceLT, Int.reduceEq, Nat.reduceMul, Nat.reduceLeDiff, rdP, rdA]
  refine callR (f34 xs c p 4 hl h0 h1) ?_
  rintro _ _ ⟨k, rfl, hk0, hkn, rfl⟩
  simp only [vmA, Nat.reduceEqDiff, reduceIte, Nat.reduceAdd, Nat.reduceBEq, reduceCtorEq, Nat.reduceLT, Int.reduceLE, Int.reduceLT, Int.reduceEq, Nat.reduceMul, Nat.reduceLeDiff, rdP, rdA]
  (refine hQ _ ?_; simp only [vmA, Nat.reduceEqDiff, reduceIte, Nat.reduceAdd, Nat.reduceBEq, reduceCtorEq, Nat.reduceLT, Int.reduceLE, Int.reduceLT, Int.reduceEq, Nat.reduceMul, Nat.reduceLeDiff, Tryz.f73, retG, resL, St.closeVs, St.closeV, leftV, ghostW, vA, rdA, rdP])
  exact ⟨k, rfl⟩
/-- The reader, in slot 0. -/
def rdI (σ : St) (xs : List UInt8) (c : Bool) (q : Int) : Prop := σ.sl 0 = .ptr 0 1 0 0 ∧ (σ.en 0).live = true ∧ (σ.en 0).gen = 1 ∧ (σ.en 0).frz = false ∧ (σ.en 0).sz = 2 ∧ (σ.en 0).elems = [rdA xs c q]
/-- A list that grows, in slot s: empty in entry e0, or in entry e1. -/
def outI (σ : St) (s e0 e1 sz : Nat) (L : List AV) (g : Nat) : Bool → Prop
  | true => σ.sl s = .hd e1 g 0 L.length false ∧ (σ.en e1).live = true ∧ (σ.en e1).gen = g ∧ (σ.en e1).frz = false ∧ (σ.en e1).sz = sz ∧ (σ.en e1).elems = L
  | false => L = [] ∧ σ.sl s = .hd e0 1 0 0 true ∧ (σ.en e0).live = true ∧ (σ.en e0).gen = 1 ∧ (σ.en e0).frz = false ∧ (σ.en e0).sz = sz ∧ (σ.en e0).elems = []
structure S82 where
  i : Nat
  L : List AV
  ws : List Wr
  q : Int
  g : Nat
  b : Bool
theorem f55 (xs : List UInt8) (c : Bool) (p : Int) (hl : xs.length ≤ 2000) (h0 : 0 ≤ p) (h1 : p ≤ 1099511627000) :
    FxR 55 [rdP xs c p, .int .i64 0] fun r l => ∃ (ws : List Wr) (p' : Int), r = .own 3 (ws.map wA) ∧ ws.length ≤ 5 ∧ (∀ w ∈ ws, okW w) ∧ p ≤ p' ∧ p' ≤ p + 15 ∧ l = rdP xs c p' := by
  refine FxR.wkR (R := fun r l => ∃ (L : List AV) (ws : List Wr) (p' : Int), r = .own 3 L ∧ L.map wk = ws.map wA ∧ ws.length ≤ 5 ∧ (∀ w ∈ ws, okW w) ∧ p ≤ p' ∧ p' ≤ p + 15 ∧ l = rdP xs c p') ?_ ?_
  rotate_left
  · rintro _ _ ⟨L, ws, p', rfl, hL, h2, h3, h4, h5, rfl⟩
    exact ⟨ws, p', by simp only [wk, wkL_eq, hL], h2, h3, h4, h5, rfl⟩
  refine fn_ofW false (k := 0) Tryz.func55 (by kernel_rfl) rfl (by kernel_rfl) (by kernel_rfl) (Nat.le_of_ble_eq_true rfl) rfl ⟨_, _, .inr ⟨_, _, rfl⟩⟩ rfl fun Q hQ => ?_
  simp only [vmA, Nat.reduceEqDiff, reduceIte, Nat.reduceAdd, Nat.reduceBEq, reduceCtorEq, Nat.reduceLT, Int.reduceLE, Int.reduceLT, Int.reduceEq, Nat.reduceMul, Nat.reduceLeDiff, rdP, rdA]
  refine WT_loop (fun (y : S82) σ => (y.i ≤ 5 ∧ y.ws.length ≤ y.i ∧ y.L.map wk = y.ws.map wA ∧ (∀ w ∈ y.ws, okW w) ∧ p ≤ y.q ∧ y.q ≤ p + 3 * y.i) ∧ y.L.all noOwnE = true ∧ σ.sl 1 = .int .i64 0 ∧ σ.sl 6 = .int .i64 y.i ∧ rdI σ xs c y.q ∧ outI σ 5 512 1792 3 y.L y.g y.b) (fun y => 5 - y.i) ⟨0, [], [], p, 0, false⟩ ?_ ?_
  · refine ⟨⟨by dsimp only; omega, by simp, by simp, by simp, by dsimp only; omega, by dsimp only; omega⟩, by simp, by simp [put_sl, put_en, put_none, init_sl, fresh_sl, fresh_en, ent_sl, ent_en, init_en], by simp [put_sl, put_en, put_none, init_sl, fresh_sl, fresh_en, ent_sl, ent_en, init_en], ?_, ?_⟩
    · simp [put_sl, put_en, put_none, init_sl, fresh_sl, fresh_en, ent_sl, ent_en, init_en, rdI, rdA]
    · simp [put_sl, put_en, put_none, init_sl, fresh_sl, fresh_en, ent_sl, ent_en, init_en, outI]
  rintro ⟨i, L, ws, q, g, b⟩ σ ⟨⟨hi, hw, hL, hok, hq0, hq1⟩, hno, e1, e6, ⟨e0, r1, r2, r3, r4, r5⟩, ho⟩
  dsimp only at hi hw hL hok hq0 hq1 hno e6 r5 ho
  cases b
  all_goals simp only [outI] at ho
  · obtain ⟨rfl, o1, o2, o3, o4, o5, o6⟩ := ho
    obtain rfl : ws = [] := by simpa using hL
    simp only [vmA, Nat.reduceEqDiff, reduceIte, Nat.reduceAdd, Nat.reduceBEq, reduceCtorEq, Nat.reduceLT, Int.reduceLE, Int.reduceLT, Int.reduceEq, Nat.reduceMul, Nat.reduceLeDiff, e0, e1, e6, r1, r2, r3, r4, r5, rdA, o1, o2, o3, o4, o5, o6]
    refine ⟨fun hlt => callR (f34 xs c q 3 hl (by omega) (by omega)) ?_, fun hge => callR (f35z xs c q) ?_⟩
    · rintro _ _ ⟨k, rfl, hk0, hkn, rfl⟩
      simp only [vmA, Nat.reduceEqDiff, reduceIte, Nat.reduceAdd, Nat.reduceBEq, reduceCtorEq, Nat.reduceLT, Int.reduceLE, Int.reduceLT, Int.reduceEq, Nat.reduceMul, Nat.reduceLeDiff, e0, e1, e6, r1, r2, r3, r4, r5, rdA, o1, o2, o3, o4, o5, o6, rdP]
      refine ⟨fun hk => callR (f34 xs c (q + 1) 3 hl (by omega) (by omega)) ?_, fun hk => ?_⟩
      · rintro _ _ ⟨k2, rfl, hk20, hk2n, rfl⟩
        simp only [vmA, Nat.reduceEqDiff, reduceIte, Nat.reduceAdd, Nat.reduceBEq, reduceCtorEq, Nat.reduceLT, Int.reduceLE, Int.reduceLT, Int.reduceEq, Nat.reduceMul, Nat.reduceLeDiff, e0, e1, e6, r1, r2, r3, r4, r5, rdA, o1, o2, o3, o4, o5, o6, rdP]
        refine ⟨fun hg => ?_, fun hg => callR (f73 xs c (q + 1 + 1) hl (by omega) (by omega)) ?_⟩
        · rw [wr (by omega)]
          refine ⟨⟨i + 1, [.agg [.int .i64 i, .fro none true [], .bool true]], [⟨i, [], true⟩], q + 1 + 1, ((σ.en 1792).gen + 1), true⟩, ⟨⟨by dsimp only; omega, by simp <;> omega, by simp [hL, wk, wkL, wA, vA], ?_, by dsimp only; omega, by dsimp only; omega⟩, ?_, ?_⟩, by dsimp only; omega⟩
          · intro w hw'; simp at hw'; rcases hw' with rfl; exact ⟨by simp, by intro v hv; simp at hv⟩
          · simp only [List.all_append, List.all_cons, List.all_nil, hno, noOwnE, leaves, noOwn, Bool.and_self]
          · simp only [vmA, Nat.reduceEqDiff, reduceIte, Nat.reduceAdd, Nat.reduceBEq, reduceCtorEq, Nat.reduceLT, Int.reduceLE, Int.reduceLT, Int.reduceEq, Nat.reduceMul, Nat.reduceLeDiff, rdI, outI, e0, e1, e6, r1, r2, r3, r4, r5, rdA, o1, o2, o3, o4, o5, o6, rdP, vA, List.length_append]
            rfl
        · rintro _ _ ⟨k3, rfl, rfl⟩
          simp only [vmA, Nat.reduceEqDiff, reduceIte, Nat.reduceAdd, Nat.reduceBEq, reduceCtorEq, Nat.reduceLT, Int.reduceLE, Int.reduceLT, Int.reduceEq, Nat.reduceMul, Nat.reduceLeDiff, e0, e1, e6, r1, r2, r3, r4, r5, rdA, o1, o2, o3, o4, o5, o6, rdP, vA]
          rw [wr (by omega)]
          refine ⟨⟨i + 1, [.agg [.int .i64 i, .fro none false [.agg [.int .i64 1, .int .i64 k3, .str ⟨⟨[]⟩⟩]], .bool false]], [⟨i, [⟨1, k3, ⟨⟨[]⟩⟩⟩], false⟩], q + 1 + 1 + 1, ((σ.en 1792).gen + 1), true⟩, ⟨⟨by dsimp only; omega, by simp <;> omega, by simp [hL, wk, wkL, wA, vA], ?_, by dsimp only; omega, by dsimp only; omega⟩, ?_, ?_⟩, by dsimp only; omega⟩
          · intro w hw'; simp at hw'; rcases hw' with rfl; exact ⟨by simp, by intro v hv; simp at hv; subst hv; exact Nat.zero_le _⟩
          · simp only [List.all_append, List.all_cons, List.all_nil, hno, noOwnE, leaves, noOwn, Bool.and_self]
          · simp only [vmA, Nat.reduceEqDiff, reduceIte, Nat.reduceAdd, Nat.reduceBEq, reduceCtorEq, Nat.reduceLT, Int.reduceLE, Int.reduceLT, Int.reduceEq, Nat.reduceMul, Nat.reduceLeDiff, rdI, outI, e0, e1, e6, r1, r2, r3, r4, r5, rdA, o1, o2, o3, o4, o5, o6, rdP, vA, List.length_append]
            rfl
      · rw [wr (by omega)]
        refine ⟨⟨i + 1, [], [], q + 1, g, false⟩, ⟨⟨by dsimp only; omega, by first | (simp; done) | (dsimp only; omega), hL, hok, by dsimp only; omega, by dsimp only; omega⟩, hno, ?_⟩, by dsimp only; omega⟩
        simp only [vmA, Nat.reduceEqDiff, reduceIte, Nat.reduceAdd, Nat.reduceBEq, reduceCtorEq, Nat.reduceLT, Int.reduceLE, Int.reduceLT, Int.reduceEq, Nat.reduceMul, Nat.reduceLeDiff, rdI, outI, e0, e1, e6, r1, r2, r3, r4, r5, rdA, o1, o2, o3, o4, o5, o6, rdP]
        rfl
    · rintro _ _ ⟨rfl, rfl⟩
      simp only [vmA, Nat.reduceEqDiff, reduceIte, Nat.reduceAdd, Nat.reduceBEq, reduceCtorEq, Nat.reduceLT, Int.reduceLE, Int.reduceLT, Int.reduceEq, Nat.reduceMul, Nat.reduceLeDiff, e0, e1, e6, r1, r2, r3, r4, r5, rdA, o1, o2, o3, o4, o5, o6, rdP]
      (refine hQ _ ?_; simp only [vmA, Nat.reduceEqDiff, reduceIte, Nat.reduceAdd, Nat.reduceBEq, reduceCtorEq, Nat.reduceLT, Int.reduceLE, Int.reduceLT, Int.reduceEq, Nat.reduceMul, Nat.reduceLeDiff, Tryz.f55, retG, resL, St.closeVs, St.closeV, leftV, ghostW, e0, e1, e6, r1, r2, r3, r4, r5, rdA, o1, o2, o3, o4, o5, o6, rdP, List.take_length, List.take_nil])
      exact ⟨_, [], q, rfl, hL, by first | omega | (simp; done), hok, hq0, by omega, rfl⟩
  · obtain ⟨o1, o2, rfl, o3, o4, o5⟩ := ho
    have hLl : L.length = ws.length := by simpa using congrArg List.length hL
    simp only [vmA, Nat.reduceEqDiff, reduceIte, Nat.reduceAdd, Nat.reduceBEq, reduceCtorEq, Nat.reduceLT, Int.reduceLE, Int.reduceLT, Int.reduceEq, Nat.reduceMul, Nat.reduceLeDiff, e0, e1, e6, r1, r2, r3, r4, r5, rdA, o1, o2, o3, o4, o5]
    refine ⟨fun hlt => callR (f34 xs c q 3 hl (by omega) (by omega)) ?_, fun hge => callR (f35z xs c q) ?_⟩
    · rintro _ _ ⟨k, rfl, hk0, hkn, rfl⟩
      simp only [vmA, Nat.reduceEqDiff, reduceIte, Nat.reduceAdd, Nat.reduceBEq, reduceCtorEq, Nat.reduceLT, Int.reduceLE, Int.reduceLT, Int.reduceEq, Nat.reduceMul, Nat.reduceLeDiff, e0, e1, e6, r1, r2, r3, r4, r5, rdA, o1, o2, o3, o4, o5, rdP]
      refine ⟨fun hk => callR (f34 xs c (q + 1) 3 hl (by omega) (by omega)) ?_, fun hk => ?_⟩
      · rintro _ _ ⟨k2, rfl, hk20, hk2n, rfl⟩
        simp only [vmA, Nat.reduceEqDiff, reduceIte, Nat.reduceAdd, Nat.reduceBEq, reduceCtorEq, Nat.reduceLT, Int.reduceLE, Int.reduceLT, Int.reduceEq, Nat.reduceMul, Nat.reduceLeDiff, e0, e1, e6, r1, r2, r3, r4, r5, rdA, o1, o2, o3, o4, o5, rdP]
        refine ⟨fun hg => ?_, fun hg => callR (f73 xs c (q + 1 + 1) hl (by omega) (by omega)) ?_⟩
        · refine ⟨by omega, ?_⟩
          rw [wr (by omega)]
          refine ⟨⟨i + 1, L ++ [.agg [.int .i64 i, .fro none true [], .bool true]], ws ++ [⟨i, [], true⟩], q + 1 + 1, ((σ.en 1792).gen + 1), true⟩, ⟨⟨by dsimp only; omega, by simp <;> omega, by simp [hL, wk, wkL, wA, vA], ?_, by dsimp only; omega, by dsimp only; omega⟩, ?_, ?_⟩, by dsimp only; omega⟩
          · intro w hw'; simp at hw'; rcases hw' with hw' | rfl; exact hok w hw'; exact ⟨by simp, by intro v hv; simp at hv⟩
          · simp only [List.all_append, List.all_cons, List.all_nil, hno, noOwnE, leaves, noOwn, Bool.and_self]
          · simp only [vmA, Nat.reduceEqDiff, reduceIte, Nat.reduceAdd, Nat.reduceBEq, reduceCtorEq, Nat.reduceLT, Int.reduceLE, Int.reduceLT, Int.reduceEq, Nat.reduceMul, Nat.reduceLeDiff, rdI, outI, e0, e1, e6, r1, r2, r3, r4, r5, rdA, o1, o2, o3, o4, o5, rdP, vA, List.length_append]
            rfl
        · rintro _ _ ⟨k3, rfl, rfl⟩
          simp only [vmA, Nat.reduceEqDiff, reduceIte, Nat.reduceAdd, Nat.reduceBEq, reduceCtorEq, Nat.reduceLT, Int.reduceLE, Int.reduceLT, Int.reduceEq, Nat.reduceMul, Nat.reduceLeDiff, e0, e1, e6, r1, r2, r3, r4, r5, rdA, o1, o2, o3, o4, o5, rdP, vA]
          refine ⟨by omega, ?_⟩
          rw [wr (by omega)]
          refine ⟨⟨i + 1, L ++ [.agg [.int .i64 i, .fro none false [.agg [.int .i64 1, .int .i64 k3, .str ⟨⟨[]⟩⟩]], .bool false]], ws ++ [⟨i, [⟨1, k3, ⟨⟨[]⟩⟩⟩], false⟩], q + 1 + 1 + 1, ((σ.en 1792).gen + 1), true⟩, ⟨⟨by dsimp only; omega, by simp <;> omega, by simp [hL, wk, wkL, wA, vA], ?_, by dsimp only; omega, by dsimp only; omega⟩, ?_, ?_⟩, by dsimp only; omega⟩
          · intro w hw'; simp at hw'; rcases hw' with hw' | rfl; exact hok w hw'; exact ⟨by simp, by intro v hv; simp at hv; subst hv; exact Nat.zero_le _⟩
          · simp only [List.all_append, List.all_cons, List.all_nil, hno, noOwnE, leaves, noOwn, Bool.and_self]
          · simp only [vmA, Nat.reduceEqDiff, reduceIte, Nat.reduceAdd, Nat.reduceBEq, reduceCtorEq, Nat.reduceLT, Int.reduceLE, Int.reduceLT, Int.reduceEq, Nat.reduceMul, Nat.reduceLeDiff, rdI, outI, e0, e1, e6, r1, r2, r3, r4, r5, rdA, o1, o2, o3, o4, o5, rdP, vA, List.length_append]
            rfl
      · rw [wr (by omega)]
        refine ⟨⟨i + 1, L, ws, q + 1, (σ.en 1792).gen, true⟩, ⟨⟨by dsimp only; omega, by first | (simp; done) | (dsimp only; omega), hL, hok, by dsimp only; omega, by dsimp only; omega⟩, hno, ?_⟩, by dsimp only; omega⟩
        simp only [vmA, Nat.reduceEqDiff, reduceIte, Nat.reduceAdd, Nat.reduceBEq, reduceCtorEq, Nat.reduceLT, Int.reduceLE, Int.reduceLT, Int.reduceEq, Nat.reduceMul, Nat.reduceLeDiff, rdI, outI, e0, e1, e6, r1, r2, r3, r4, r5, rdA, o1, o2, o3, o4, o5, rdP]
        rfl
    · rintro _ _ ⟨rfl, rfl⟩
      simp only [vmA, Nat.reduceEqDiff, reduceIte, Nat.reduceAdd, Nat.reduceBEq, reduceCtorEq, Nat.reduceLT, Int.reduceLE, Int.reduceLT, Int.reduceEq, Nat.reduceMul, Nat.reduceLeDiff, e0, e1, e6, r1, r2, r3, r4, r5, rdA, o1, o2, o3, o4, o5, rdP]
      (refine hQ _ ?_; simp only [vmA, Nat.reduceEqDiff, reduceIte, Nat.reduceAdd, Nat.reduceBEq, reduceCtorEq, Nat.reduceLT, Int.reduceLE, Int.reduceLT, Int.reduceEq, Nat.reduceMul, Nat.reduceLeDiff, Tryz.f55, retG, resL, St.closeVs, St.closeV, leftV, ghostW, e0, e1, e6, r1, r2, r3, r4, r5, rdA, o1, o2, o3, o4, o5, rdP, List.take_length, List.take_nil])
      exact ⟨_, ws, q, rfl, hL, by first | omega | (simp; done), hok, hq0, by omega, rfl⟩
def eO (e : En) : AV := .agg [.int .i64 e.time, .own 3 (e.ws.map wA)]
theorem froize_eO (e : En) : froize (eO e) = eA e := by
  have := map_froize_wA e.ws
  simp only [eO, eA, froize, froizeL, froizeL_eq, this]
theorem map_froize_eO (es : List En) : (es.map eO).map froize = es.map eA := by simp [froize_eO]
structure S63 where
  k : Int
  es : List En
  tm : Int
  q : Int
  g : Nat
  b : Bool
theorem f33 (xs : List UInt8) (c : Bool) (p : Int) (hl : xs.length ≤ 2000) (h0 : 0 ≤ p) (h1 : p ≤ 1099511620000) :
    FxR 33 [rdP xs c p, .int .i64 0] fun r l => ∃ (es : List En) (p' : Int), r = .own 2 (es.map eO) ∧ es.length ≤ 6 ∧ (∀ e ∈ es, okE e) ∧ p ≤ p' ∧ p' ≤ p + 110 ∧ l = rdP xs c p' := by
  refine fn_ofW false (k := 0) Tryz.func33 (by kernel_rfl) rfl (by kernel_rfl) (by kernel_rfl) (Nat.le_of_ble_eq_true rfl) rfl ⟨_, _, .inr ⟨_, _, rfl⟩⟩ rfl fun Q hQ => ?_
  simp only [vmA, Nat.reduceEqDiff, reduceIte, Nat.reduceAdd, Nat.reduceBEq, reduceCtorEq, Nat.reduceLT, Int.reduceLE, Int.reduceLT, Int.reduceEq, Nat.reduceMul, Nat.reduceLeDiff, rdP, rdA]
  refine callR (f34 xs c p 7 hl h0 (by omega)) ?_
  rintro _ _ ⟨k0, rfl, hk00, hk0n, rfl⟩
  simp only [vmA, Nat.reduceEqDiff, reduceIte, Nat.reduceAdd, Nat.reduceBEq, reduceCtorEq, Nat.reduceLT, Int.reduceLE, Int.reduceLT, Int.reduceEq, Nat.reduceMul, Nat.reduceLeDiff, rdP, rdA]
  refine WT_loop (fun (y : S63) σ => ((0 ≤ y.k ∧ y.k ≤ 6) ∧ y.es.length + y.k ≤ 6 ∧ (∀ e ∈ y.es, okE e) ∧ (0 ≤ y.tm ∧ y.tm ≤ 3 * (6 - y.k)) ∧ p ≤ y.q ∧ y.q ≤ p + 1 + 16 * (6 - y.k)) ∧ σ.sl 1 = .int .i64 0 ∧ σ.sl 6 = .int .i64 y.tm ∧ σ.sl 7 = .int .i64 y.k ∧ rdI σ xs c y.q ∧ outI σ 5 576 1728 2 (y.es.map eO) y.g y.b) (fun y => y.k.toNat) ⟨k0, [], 0, p + 1, 0, false⟩ ?_ ?_
  · refine ⟨⟨by dsimp only; omega, by simp; omega, by simp, by dsimp only; omega, by dsimp only; omega, by dsimp only; omega⟩, by simp [put_sl, put_en, put_none, init_sl, fresh_sl, fresh_en, ent_sl, ent_en, init_en], by simp [put_sl, put_en, put_none, init_sl, fresh_sl, fresh_en, ent_sl, ent_en, init_en], by simp [put_sl, put_en, put_none, init_sl, fresh_sl, fresh_en, ent_sl, ent_en, init_en], ?_, ?_⟩
    · simp [put_sl, put_en, put_none, init_sl, fresh_sl, fresh_en, ent_sl, ent_en, init_en, rdI, rdA]
    · simp [put_sl, put_en, put_none, init_sl, fresh_sl, fresh_en, ent_sl, ent_en, init_en, outI]
  rintro ⟨k, es, tm, q, g, b⟩ σ ⟨⟨hk, hkl, hok, htm, hq0, hq1⟩, e1, e6, e7, ⟨e0, r1, r2, r3, r4, r5⟩, ho⟩
  dsimp only at hk hkl hok htm hq0 hq1 e6 e7 r5 ho
  cases b
  all_goals simp only [outI] at ho
  · obtain ⟨h00, o1, o2, o3, o4, o5, o6⟩ := ho
    obtain rfl : es = [] := by simpa using h00
    simp only [vmA, Nat.reduceEqDiff, reduceIte, Nat.reduceAdd, Nat.reduceBEq, reduceCtorEq, Nat.reduceLT, Int.reduceLE, Int.reduceLT, Int.reduceEq, Nat.reduceMul, Nat.reduceLeDiff, e0, e1, e6, e7, r1, r2, r3, r4, r5, rdA, o1, o2, o3, o4, o5, o6, List.length_map]
    refine ⟨fun hlt => callR (f34 xs c q 3 hl (by omega) (by omega)) ?_, fun hge => ?_⟩
    · rintro _ _ ⟨k1, rfl, hk10, hk1n, rfl⟩
      simp only [vmA, Nat.reduceEqDiff, reduceIte, Nat.reduceAdd, Nat.reduceBEq, reduceCtorEq, Nat.reduceLT, Int.reduceLE, Int.reduceLT, Int.reduceEq, Nat.reduceMul, Nat.reduceLeDiff, e0, e1, e6, e7, r1, r2, r3, r4, r5, rdA, o1, o2, o3, o4, o5, o6, List.length_map, rdP]
      rw [wr (x := tm + 1) (by omega), wr (by omega)]
      refine callR (f55 xs c (q + 1) hl (by omega) (by omega)) ?_
      rintro _ _ ⟨ws, q', rfl, hw1, hw2, hq2, hq3, rfl⟩
      simp only [vmA, Nat.reduceEqDiff, reduceIte, Nat.reduceAdd, Nat.reduceBEq, reduceCtorEq, Nat.reduceLT, Int.reduceLE, Int.reduceLT, Int.reduceEq, Nat.reduceMul, Nat.reduceLeDiff, e0, e1, e6, e7, r1, r2, r3, r4, r5, rdA, o1, o2, o3, o4, o5, o6, List.length_map, rdP]
      rw [wr (by omega)]
      refine ⟨⟨k - 1, [⟨tm + 1 + k1, ws⟩], tm + 1 + k1, q', (σ.en 1728).gen + 1, true⟩, ⟨⟨by dsimp only; omega, by simp <;> omega, ?_, by dsimp only; omega, by dsimp only; omega, by dsimp only; omega⟩, ?_⟩, by dsimp only; omega⟩
      · intro e he; simp at he; rcases he with rfl; exact ⟨by show ws.length ≤ _; omega, hw2⟩
      · simp only [vmA, Nat.reduceEqDiff, reduceIte, Nat.reduceAdd, Nat.reduceBEq, reduceCtorEq, Nat.reduceLT, Int.reduceLE, Int.reduceLT, Int.reduceEq, Nat.reduceMul, Nat.reduceLeDiff, rdI, outI, e0, e1, e6, e7, r1, r2, r3, r4, r5, rdA, o1, o2, o3, o4, o5, o6, List.length_map, rdP, eO, List.map_append, List.length_append]
    · refine ⟨fun hp => absurd hp (by simp), fun hp => ?_⟩
      (refine hQ _ ?_; simp only [vmA, Nat.reduceEqDiff, reduceIte, Nat.reduceAdd, Nat.reduceBEq, reduceCtorEq, Nat.reduceLT, Int.reduceLE, Int.reduceLT, Int.reduceEq, Nat.reduceMul, Nat.reduceLeDiff, Tryz.f33, retG, resL, St.closeVs, St.closeV, leftV, ghostW, e0, e1, e6, e7, r1, r2, r3, r4, r5, rdA, o1, o2, o3, o4, o5, o6, List.length_map, rdP, List.take_nil])
      exact ⟨[], q, rfl, by simp, by simp, hq0, by omega, rfl⟩
  · obtain ⟨o1, o2, rfl, o3, o4, o5⟩ := ho
    skip
    simp only [vmA, Nat.reduceEqDiff, reduceIte, Nat.reduceAdd, Nat.reduceBEq, reduceCtorEq, Nat.reduceLT, Int.reduceLE, Int.reduceLT, Int.reduceEq, Nat.reduceMul, Nat.reduceLeDiff, e0, e1, e6, e7, r1, r2, r3, r4, r5, rdA, o1, o2, o3, o4, o5, List.length_map]
    refine ⟨fun hlt => callR (f34 xs c q 3 hl (by omega) (by omega)) ?_, fun hge => ?_⟩
    · rintro _ _ ⟨k1, rfl, hk10, hk1n, rfl⟩
      simp only [vmA, Nat.reduceEqDiff, reduceIte, Nat.reduceAdd, Nat.reduceBEq, reduceCtorEq, Nat.reduceLT, Int.reduceLE, Int.reduceLT, Int.reduceEq, Nat.reduceMul, Nat.reduceLeDiff, e0, e1, e6, e7, r1, r2, r3, r4, r5, rdA, o1, o2, o3, o4, o5, List.length_map, rdP]
      rw [wr (x := tm + 1) (by omega), wr (by omega)]
      refine callR (f55 xs c (q + 1) hl (by omega) (by omega)) ?_
      rintro _ _ ⟨ws, q', rfl, hw1, hw2, hq2, hq3, rfl⟩
      simp only [vmA, Nat.reduceEqDiff, reduceIte, Nat.reduceAdd, Nat.reduceBEq, reduceCtorEq, Nat.reduceLT, Int.reduceLE, Int.reduceLT, Int.reduceEq, Nat.reduceMul, Nat.reduceLeDiff, e0, e1, e6, e7, r1, r2, r3, r4, r5, rdA, o1, o2, o3, o4, o5, List.length_map, rdP]
      refine ⟨by omega, ?_⟩
      rw [wr (by omega)]
      refine ⟨⟨k - 1, es ++ [⟨tm + 1 + k1, ws⟩], tm + 1 + k1, q', (σ.en 1728).gen + 1, true⟩, ⟨⟨by dsimp only; omega, by simp <;> omega, ?_, by dsimp only; omega, by dsimp only; omega, by dsimp only; omega⟩, ?_⟩, by dsimp only; omega⟩
      · intro e he; simp at he; rcases he with he | rfl; exact hok e he; exact ⟨by show ws.length ≤ _; omega, hw2⟩
      · simp only [vmA, Nat.reduceEqDiff, reduceIte, Nat.reduceAdd, Nat.reduceBEq, reduceCtorEq, Nat.reduceLT, Int.reduceLE, Int.reduceLT, Int.reduceEq, Nat.reduceMul, Nat.reduceLeDiff, rdI, outI, e0, e1, e6, e7, r1, r2, r3, r4, r5, rdA, o1, o2, o3, o4, o5, List.length_map, rdP, eO, List.map_append, List.length_append]
    · refine ⟨fun hp => callR (f35z xs c q) ?_, fun hp => ?_⟩
      · rintro _ _ ⟨rfl, rfl⟩
        simp only [vmA, Nat.reduceEqDiff, reduceIte, Nat.reduceAdd, Nat.reduceBEq, reduceCtorEq, Nat.reduceLT, Int.reduceLE, Int.reduceLT, Int.reduceEq, Nat.reduceMul, Nat.reduceLeDiff, e0, e1, e6, e7, r1, r2, r3, r4, r5, rdA, o1, o2, o3, o4, o5, List.length_map, rdP]
        (refine hQ _ ?_; simp only [vmA, Nat.reduceEqDiff, reduceIte, Nat.reduceAdd, Nat.reduceBEq, reduceCtorEq, Nat.reduceLT, Int.reduceLE, Int.reduceLT, Int.reduceEq, Nat.reduceMul, Nat.reduceLeDiff, Tryz.f33, retG, resL, St.closeVs, St.closeV, leftV, ghostW, e0, e1, e6, e7, r1, r2, r3, r4, r5, rdA, o1, o2, o3, o4, o5, List.length_map, rdP, take_map_len])
        exact ⟨es, q, rfl, by omega, hok, hq0, by omega, rfl⟩
      · (refine hQ _ ?_; simp only [vmA, Nat.reduceEqDiff, reduceIte, Nat.reduceAdd, Nat.reduceBEq, reduceCtorEq, Nat.reduceLT, Int.reduceLE, Int.reduceLT, Int.reduceEq, Nat.reduceMul, Nat.reduceLeDiff, Tryz.f33, retG, resL, St.closeVs, St.closeV, leftV, ghostW, e0, e1, e6, e7, r1, r2, r3, r4, r5, rdA, o1, o2, o3, o4, o5, List.length_map, rdP, take_map_len])
        exact ⟨es, q, rfl, by omega, hok, hq0, by omega, rfl⟩
