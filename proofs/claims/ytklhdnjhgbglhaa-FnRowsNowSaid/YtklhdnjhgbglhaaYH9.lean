/- WALK of functions of the seat, or plain laws for it: each theorem f<k> says what function k returns, for every world and all arguments that stand for the values named. Conditions: none but those ahead of each theorem. -/
import Derived.Test.YtklhdnjhgbglhaaYH10
import Derived.Test.YtklhdnjhgbglhaaYT1
import Derived.Test.YtklhdnjhgbglhaaYLib6
import Derived.Test.YtklhdnjhgbglhaaYFz2
open Go Go.Vm Go.Proofs
set_option maxRecDepth 100000
set_option maxHeartbeats 16000000
set_option linter.unusedSimpArgs false
set_option linter.unusedVariables false
def enJ (σ : St) (e g sz : Nat) (L : List AV) : Prop := (σ.en e).live = true ∧ (σ.en e).gen = g ∧ (σ.en e).frz = false ∧ (σ.en e).sz = sz ∧ (σ.en e).elems = L
theorem f72 (xs : List UInt8) (c : Bool) (p : Int) (hl : xs.length ≤ 2000) (h0 : 0 ≤ p) (h1 : p ≤ 1099511627000) : FxR 72 [rdP xs c p, .int .i64 0] fun r l => ∃ (m : Mv) (rv : AV), r = .agg [.int .i64 m.kind, .int .i64 m.who, .int .i64 m.key, rv] ∧ (rv = .fro none true [] ∧ m.row = [] ∨ rv = .own 3 (m.row.map vA)) ∧ (okR m.row ∧ m.row.length ≤ 1) ∧ ∃ q : Int, (p ≤ q ∧ q ≤ p + 4) ∧ l = rdP xs c q := by
  refine fn_ofWX ⟨true, [], [(1, [], [1000, 1, 5])]⟩ (k := 0) Try.func72 (by kernel_rfl) rfl (by kernel_rfl) (by kernel_rfl) (Nat.le_of_ble_eq_true rfl) rfl ⟨_, _, .inr ⟨_, _, rfl⟩⟩ rfl fun Q hQ => ?_
  simp only [tr_seq, tr_block, tr_loop, tr_cond, tr_skip, tr_exit, tr_ret, tr_reg]
  rw [tr_tree 1 [1, 5] (.both 0 (.both 2 (.both 3 (.both 4 (.both 6 (.both 7 (.both 8 (.both 9 .leaf .leaf) .leaf) (.both 8 (.both 7 (.both 9 .leaf .leaf) .leaf) .leaf)) (.both 8 (.both 6 (.both 7 (.both 9 .leaf .leaf) .leaf) .leaf) .leaf)) (.both 6 (.both 4 (.both 7 (.both 8 (.both 9 .leaf .leaf) .leaf) (.both 8 (.both 7 (.both 9 .leaf .leaf) .leaf) .leaf)) (.both 8 (.both 4 (.both 7 (.both 9 .leaf .leaf) .leaf) .leaf) .leaf)) (.both 8 (.both 4 (.both 6 (.both 7 (.both 9 .leaf .leaf) .leaf) .leaf) (.both 6 (.both 4 (.both 7 (.both 9 .leaf .leaf) .leaf) .leaf) .leaf)) .leaf))) (.both 6 (.both 3 (.both 4 (.both 7 (.both 8 (.both 9 .leaf .leaf) .leaf) (.both 8 (.both 7 (.both 9 .leaf .leaf) .leaf) .leaf)) (.both 8 (.both 4 (.both 7 (.both 9 .leaf .leaf) .leaf) .leaf) .leaf)) (.both 8 (.both 3 (.both 4 (.both 7 (.both 9 .leaf .leaf) .leaf) .leaf) .leaf) .leaf)) (.both 8 (.both 3 (.both 4 (.both 6 (.both 7 (.both 9 .leaf .leaf) .leaf) .leaf) (.both 6 (.both 4 (.both 7 (.both 9 .leaf .leaf) .leaf) .leaf) .leaf)) (.both 6 (.both 3 (.both 4 (.both 7 (.both 9 .leaf .leaf) .leaf) .leaf) .leaf) .leaf)) .leaf))) (.both 8 (.both 2 (.both 3 (.both 4 (.both 6 (.both 7 (.both 9 .leaf .leaf) .leaf) .leaf) (.both 6 (.both 4 (.both 7 (.both 9 .leaf .leaf) .leaf) .leaf) .leaf)) (.both 6 (.both 3 (.both 4 (.both 7 (.both 9 .leaf .leaf) .leaf) .leaf) .leaf) .leaf)) .leaf) .leaf)) (.both 2 (.both 0 (.both 3 (.both 4 (.both 6 (.both 7 (.both 8 (.both 9 .leaf .leaf) .leaf) (.both 8 (.both 7 (.both 9 .leaf .leaf) .leaf) .leaf)) (.both 8 (.both 6 (.both 7 (.both 9 .leaf .leaf) .leaf) .leaf) .leaf)) (.both 6 (.both 4 (.both 7 (.both 8 (.both 9 .leaf .leaf) .leaf) (.both 8 (.both 7 (.both 9 .leaf .leaf) .leaf) .leaf)) (.both 8 (.both 4 (.both 7 (.both 9 .leaf .leaf) .leaf) .leaf) .leaf)) (.both 8 (.both 4 (.both 6 (.both 7 (.both 9 .leaf .leaf) .leaf) .leaf) (.both 6 (.both 4 (.both 7 (.both 9 .leaf .leaf) .leaf) .leaf) .leaf)) .leaf))) (.both 6 (.both 3 (.both 4 (.both 7 (.both 8 (.both 9 .leaf .leaf) .leaf) (.both 8 (.both 7 (.both 9 .leaf .leaf) .leaf) .leaf)) (.both 8 (.both 4 (.both 7 (.both 9 .leaf .leaf) .leaf) .leaf) .leaf)) (.both 8 (.both 3 (.both 4 (.both 7 (.both 9 .leaf .leaf) .leaf) .leaf) .leaf) .leaf)) (.both 8 (.both 3 (.both 4 (.both 6 (.both 7 (.both 9 .leaf .leaf) .leaf) .leaf) (.both 6 (.both 4 (.both 7 (.both 9 .leaf .leaf) .leaf) .leaf) .leaf)) (.both 6 (.both 3 (.both 4 (.both 7 (.both 9 .leaf .leaf) .leaf) .leaf) .leaf) .leaf)) .leaf))) (.both 6 (.both 0 (.both 3 (.both 4 (.both 7 (.both 8 (.both 9 .leaf .leaf) .leaf) (.both 8 (.both 7 (.both 9 .leaf .leaf) .leaf) .leaf)) (.both 8 (.both 4 (.both 7 (.both 9 .leaf .leaf) .leaf) .leaf) .leaf)) (.both 8 (.both 3 (.both 4 (.both 7 (.both 9 .leaf .leaf) .leaf) .leaf) .leaf) .leaf)) (.both 8 (.both 0 (.both 3 (.both 4 (.both 7 (.both 9 .leaf .leaf) .leaf) .leaf) .leaf) .leaf) .leaf)) (.both 8 (.both 0 (.both 3 (.both 4 (.both 6 (.both 7 (.both 9 .leaf .leaf) .leaf) .leaf) (.both 6 (.both 4 (.both 7 (.both 9 .leaf .leaf) .leaf) .leaf) .leaf)) (.both 6 (.both 3 (.both 4 (.both 7 (.both 9 .leaf .leaf) .leaf) .leaf) .leaf) .leaf)) (.both 6 (.both 0 (.both 3 (.both 4 (.both 7 (.both 9 .leaf .leaf) .leaf) .leaf) .leaf) .leaf) .leaf)) .leaf))) (.both 8 (.both 0 (.both 2 (.both 3 (.both 4 (.both 6 (.both 7 (.both 9 .leaf .leaf) .leaf) .leaf) (.both 6 (.both 4 (.both 7 (.both 9 .leaf .leaf) .leaf) .leaf) .leaf)) (.both 6 (.both 3 (.both 4 (.both 7 (.both 9 .leaf .leaf) .leaf) .leaf) .leaf) .leaf)) .leaf) (.both 2 (.both 0 (.both 3 (.both 4 (.both 6 (.both 7 (.both 9 .leaf .leaf) .leaf) .leaf) (.both 6 (.both 4 (.both 7 (.both 9 .leaf .leaf) .leaf) .leaf) .leaf)) (.both 6 (.both 3 (.both 4 (.both 7 (.both 9 .leaf .leaf) .leaf) .leaf) .leaf) .leaf)) (.both 6 (.both 0 (.both 3 (.both 4 (.both 7 (.both 9 .leaf .leaf) .leaf) .leaf) .leaf) .leaf) .leaf)) .leaf)) .leaf))) (by kernel_rfl)]
  simp only [codeA_nil, codeA_look, codeA_hard, codeA_fin, ordC_leaf, ordC_one, ordC_both, pickL, List.getElem?_toArray, List.getElem?_cons_zero, List.getElem?_cons_succ]
  simp only [vmA, Nat.reduceEqDiff, reduceIte, Nat.reduceAdd, Nat.reduceBEq, reduceCtorEq, Nat.reduceLT, Int.reduceLE, Int.reduceLT, Int.reduceEq, Nat.reduceMul, Nat.reduceLeDiff, rdP, rdA]
  obtain ⟨ks, hks, hkl⟩ : ∃ ks : List Int, [AV.int .i64 1, .int .i64 1, .int .i64 2, .int .i64 2, .int .i64 3, .int .i64 3, .int .i64 3, .int .i64 4, .int .i64 5, .int .i64 5, .int .i64 6] = ks.map iA ∧ ks.length = 11 := ⟨[1, 1, 2, 2, 3, 3, 3, 4, 5, 5, 6], rfl, rfl⟩
  refine WT_cut (fun σ => ∃ k1 k2 : Int, (σ.sl 0 = .ptr 0 1 0 0 ∧ enJ σ 0 1 2 [rdA xs c (p + 1 + 1)]) ∧ σ.sl 1 = .int .i64 0 ∧ (σ.sl 4 = .ptr 256 1 0 0 ∧ enJ σ 256 1 4 [.agg [.int .i64 0, .int .i64 0, .int .i64 0, .fro none true []]]) ∧ (σ.sl 5 = .ptr 320 1 0 0 ∧ enJ σ 320 1 4 [.agg [.int .i64 k1, .int .i64 k2, .int .i64 0, .fro none true []]])) ?_ ?_
  · simp only [vmA, Nat.reduceEqDiff, reduceIte, Nat.reduceAdd, Nat.reduceBEq, reduceCtorEq, Nat.reduceLT, Int.reduceLE, Int.reduceLT, Int.reduceEq, Nat.reduceMul, Nat.reduceLeDiff, WT_both, rdP, rdA, Option.bind_none, hks, List.length_map, hkl]
    repeat' first
      | refine And.intro ?_ ?_
      | (refine callR (f46 xs c _ _ hl (by omega) (by omega)) ?_
         rintro _ _ ⟨k, rfl, hk0, hkn, rfl⟩
         simp only [vmA, Nat.reduceEqDiff, reduceIte, Nat.reduceAdd, Nat.reduceBEq, reduceCtorEq, Nat.reduceLT, Int.reduceLE, Int.reduceLT, Int.reduceEq, Nat.reduceMul, Nat.reduceLeDiff, WT_both, rdP, rdA, Option.bind_none, hks, List.length_map, hkl])
    all_goals first
      | omega
      | (simp only [vmA, Nat.reduceEqDiff, reduceIte, Nat.reduceAdd, Nat.reduceBEq, reduceCtorEq, Nat.reduceLT, Int.reduceLE, Int.reduceLT, Int.reduceEq, Nat.reduceMul, Nat.reduceLeDiff, enJ, rdA, rdP, bA]
         exact ⟨_, _, rfl⟩)
  · rintro σ ⟨k1, k2, ⟨e0, r1, r2, r3, r4, r5⟩, e1, ⟨e4, a1, a2, a3, a4, a5⟩, e5, b1, b2, b3, b4, b5⟩
    show WT _ _ _ _ _ _
    simp only [vmA, Nat.reduceEqDiff, reduceIte, Nat.reduceAdd, Nat.reduceBEq, reduceCtorEq, Nat.reduceLT, Int.reduceLE, Int.reduceLT, Int.reduceEq, Nat.reduceMul, Nat.reduceLeDiff, e0, r1, r2, r3, r4, r5, e1, e4, a1, a2, a3, a4, a5, e5, b1, b2, b3, b4, b5, rdP, rdA, Option.bind_none]
    have hz : okV ⟨1, 0, ⟨⟨[]⟩⟩⟩ := Nat.zero_le _
    refine ⟨fun c2 => callR (f46 xs c _ 3 hl (by omega) (by omega)) ?_, fun c2 => ⟨fun c4 => callR (f46 xs c _ 3 hl (by omega) (by omega)) ?_, fun c4 => ⟨fun c3 => callR (f46 xs c _ 3 hl (by omega) (by omega)) ?_, fun c3 => callR (f45z xs c _) ?_⟩⟩⟩
    · rintro _ _ ⟨k, rfl, hk0, hkn, rfl⟩
      simp only [vmA, Nat.reduceEqDiff, reduceIte, Nat.reduceAdd, Nat.reduceBEq, reduceCtorEq, Nat.reduceLT, Int.reduceLE, Int.reduceLT, Int.reduceEq, Nat.reduceMul, Nat.reduceLeDiff, e0, r1, r2, r3, r4, r5, e1, e4, a1, a2, a3, a4, a5, e5, b1, b2, b3, b4, b5, rdP, rdA, Option.bind_none]
      refine callR (f45z xs c _) ?_
      rintro _ _ ⟨rfl, rfl⟩
      simp only [vmA, Nat.reduceEqDiff, reduceIte, Nat.reduceAdd, Nat.reduceBEq, reduceCtorEq, Nat.reduceLT, Int.reduceLE, Int.reduceLT, Int.reduceEq, Nat.reduceMul, Nat.reduceLeDiff, e0, r1, r2, r3, r4, r5, e1, e4, a1, a2, a3, a4, a5, e5, b1, b2, b3, b4, b5, rdP, rdA, Option.bind_none]
      (refine hQ _ ?_; simp only [vmA, Nat.reduceEqDiff, reduceIte, Nat.reduceAdd, Nat.reduceBEq, reduceCtorEq, Nat.reduceLT, Int.reduceLE, Int.reduceLT, Int.reduceEq, Nat.reduceMul, Nat.reduceLeDiff, Try.f72, retG, resL, St.closeVs, St.closeV, leftV, ghostW, e0, r1, r2, r3, r4, r5, e1, e4, a1, a2, a3, a4, a5, e5, b1, b2, b3, b4, b5, rdP, rdA, Option.bind_none])
      exact ⟨⟨k1, k2, k, []⟩, _, rfl, .inl ⟨rfl, rfl⟩, ⟨⟨by simp, by simp⟩, by simp⟩, _, ⟨by omega, by omega⟩, rfl⟩
    · rintro _ _ ⟨k, rfl, hk0, hkn, rfl⟩
      simp only [vmA, Nat.reduceEqDiff, reduceIte, Nat.reduceAdd, Nat.reduceBEq, reduceCtorEq, Nat.reduceLT, Int.reduceLE, Int.reduceLT, Int.reduceEq, Nat.reduceMul, Nat.reduceLeDiff, e0, r1, r2, r3, r4, r5, e1, e4, a1, a2, a3, a4, a5, e5, b1, b2, b3, b4, b5, rdP, rdA, Option.bind_none]
      refine callR (f45z xs c _) ?_
      rintro _ _ ⟨rfl, rfl⟩
      simp only [vmA, Nat.reduceEqDiff, reduceIte, Nat.reduceAdd, Nat.reduceBEq, reduceCtorEq, Nat.reduceLT, Int.reduceLE, Int.reduceLT, Int.reduceEq, Nat.reduceMul, Nat.reduceLeDiff, e0, r1, r2, r3, r4, r5, e1, e4, a1, a2, a3, a4, a5, e5, b1, b2, b3, b4, b5, rdP, rdA, Option.bind_none]
      (refine hQ _ ?_; simp only [vmA, Nat.reduceEqDiff, reduceIte, Nat.reduceAdd, Nat.reduceBEq, reduceCtorEq, Nat.reduceLT, Int.reduceLE, Int.reduceLT, Int.reduceEq, Nat.reduceMul, Nat.reduceLeDiff, Try.f72, retG, resL, St.closeVs, St.closeV, leftV, ghostW, e0, r1, r2, r3, r4, r5, e1, e4, a1, a2, a3, a4, a5, e5, b1, b2, b3, b4, b5, rdP, rdA, Option.bind_none])
      exact ⟨⟨k1, k2, k, []⟩, _, rfl, .inl ⟨rfl, rfl⟩, ⟨⟨by simp, by simp⟩, by simp⟩, _, ⟨by omega, by omega⟩, rfl⟩
    · rintro _ _ ⟨k, rfl, hk0, hkn, rfl⟩
      simp only [vmA, Nat.reduceEqDiff, reduceIte, Nat.reduceAdd, Nat.reduceBEq, reduceCtorEq, Nat.reduceLT, Int.reduceLE, Int.reduceLT, Int.reduceEq, Nat.reduceMul, Nat.reduceLeDiff, e0, r1, r2, r3, r4, r5, e1, e4, a1, a2, a3, a4, a5, e5, b1, b2, b3, b4, b5, rdP, rdA, Option.bind_none]
      refine callR (f98 xs c _ hl (by omega) (by omega)) ?_
      rintro _ _ ⟨k3, rfl, rfl⟩
      simp only [vmA, Nat.reduceEqDiff, reduceIte, Nat.reduceAdd, Nat.reduceBEq, reduceCtorEq, Nat.reduceLT, Int.reduceLE, Int.reduceLT, Int.reduceEq, Nat.reduceMul, Nat.reduceLeDiff, e0, r1, r2, r3, r4, r5, e1, e4, a1, a2, a3, a4, a5, e5, b1, b2, b3, b4, b5, rdP, rdA, Option.bind_none]
      refine callR (f45z xs c _) ?_
      rintro _ _ ⟨rfl, rfl⟩
      simp only [vmA, Nat.reduceEqDiff, reduceIte, Nat.reduceAdd, Nat.reduceBEq, reduceCtorEq, Nat.reduceLT, Int.reduceLE, Int.reduceLT, Int.reduceEq, Nat.reduceMul, Nat.reduceLeDiff, e0, r1, r2, r3, r4, r5, e1, e4, a1, a2, a3, a4, a5, e5, b1, b2, b3, b4, b5, rdP, rdA, Option.bind_none]
      (refine hQ _ ?_; simp only [vmA, Nat.reduceEqDiff, reduceIte, Nat.reduceAdd, Nat.reduceBEq, reduceCtorEq, Nat.reduceLT, Int.reduceLE, Int.reduceLT, Int.reduceEq, Nat.reduceMul, Nat.reduceLeDiff, Try.f72, retG, resL, St.closeVs, St.closeV, leftV, ghostW, e0, r1, r2, r3, r4, r5, e1, e4, a1, a2, a3, a4, a5, e5, b1, b2, b3, b4, b5, rdP, rdA, Option.bind_none])
      exact ⟨⟨k1, k2, k, [⟨1, k3, ⟨⟨[]⟩⟩⟩]⟩, _, rfl, .inr rfl, ⟨⟨by simp, fun v hv => by rw [List.mem_singleton.1 hv]; exact Nat.zero_le _⟩, by simp⟩, _, ⟨by omega, by omega⟩, rfl⟩
    · rintro _ _ ⟨rfl, rfl⟩
      simp only [vmA, Nat.reduceEqDiff, reduceIte, Nat.reduceAdd, Nat.reduceBEq, reduceCtorEq, Nat.reduceLT, Int.reduceLE, Int.reduceLT, Int.reduceEq, Nat.reduceMul, Nat.reduceLeDiff, e0, r1, r2, r3, r4, r5, e1, e4, a1, a2, a3, a4, a5, e5, b1, b2, b3, b4, b5, rdP, rdA, Option.bind_none]
      (refine hQ _ ?_; simp only [vmA, Nat.reduceEqDiff, reduceIte, Nat.reduceAdd, Nat.reduceBEq, reduceCtorEq, Nat.reduceLT, Int.reduceLE, Int.reduceLT, Int.reduceEq, Nat.reduceMul, Nat.reduceLeDiff, Try.f72, retG, resL, St.closeVs, St.closeV, leftV, ghostW, e0, r1, r2, r3, r4, r5, e1, e4, a1, a2, a3, a4, a5, e5, b1, b2, b3, b4, b5, rdP, rdA, Option.bind_none])
      exact ⟨⟨k1, k2, 0, []⟩, _, rfl, .inl ⟨rfl, rfl⟩, ⟨⟨by simp, by simp⟩, by simp⟩, _, ⟨by omega, by omega⟩, rfl⟩
theorem map_wk_vA (xs : List Val) : (xs.map vA).map wk = xs.map vA := by
  rw [List.map_map]
  exact List.map_congr_left fun v _ => rfl
/-- A move, told as what nobody writes any more. -/
theorem f72F (xs : List UInt8) (c : Bool) (p : Int) (hl : xs.length ≤ 2000) (h0 : 0 ≤ p) (h1 : p ≤ 1099511627000) : FxR 72 [rdP xs c p, .int .i64 0] fun r l => ∃ m : Mv, r = mA m ∧ (okR m.row ∧ m.row.length ≤ 1) ∧ ∃ q : Int, (p ≤ q ∧ q ≤ p + 4) ∧ l = rdP xs c q := by
  have h := f72 xs c p hl h0 h1
  refine FxR.wkR (R := _) ⟨h.1, DoesR.froA h.2⟩ ?_
  rintro r l ⟨r0, ⟨m, rv, rfl, hrv, hm, hq⟩, rfl⟩
  refine ⟨m, ?_, hm, hq⟩
  rcases hrv with ⟨rfl, e⟩ | rfl
  · simp only [froR, froize, froizeL, wk, wkL, mA, e, List.map_nil]
  · simp only [froR, froize, froizeL, froizeL_eq, map_froize_vA, wk, wkL, mA, wkL_eq, map_wk_vA]
