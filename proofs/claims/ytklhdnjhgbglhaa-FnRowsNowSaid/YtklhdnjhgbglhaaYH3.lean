/- WALK of functions of the seat, or plain laws for it: each theorem f<k> says what function k returns, for every world and all arguments that stand for the values named. Conditions: none but those ahead of each theorem. -/
import Derived.Test.YtklhdnjhgbglhaaYH2
import Derived.Test.YtklhdnjhgbglhaaYB6
open Go Go.Vm Go.Proofs
set_option maxRecDepth 100000
set_option maxHeartbeats 8000000
set_option linter.unusedSimpArgs false
set_option linter.unusedVariables false
/-- What spec.l14Put makes. -/
def putL (w : Wr) : List Wr → Bool → List Wr
  | [], d => if d then [] else [w]
  | x :: xs, d => (if w.key ≤ x.key ∧ d = false then [w] else []) ++ ((if x.key ≠ w.key then [x] else []) ++ putL w xs (d || decide (w.key ≤ x.key)))
theorem putL_at (w : Wr) (xs : List Wr) (i : Nat) (d : Bool) (h : i < xs.length) : putL w (xs.drop i) d = (if w.key ≤ xs[i]!.key ∧ d = false then [w] else []) ++ ((if xs[i]!.key ≠ w.key then [xs[i]!] else []) ++ putL w (xs.drop (i + 1)) (d || decide (w.key ≤ xs[i]!.key))) := by
  rw [List.drop_eq_getElem_cons h, putL, getElem!_pos xs i h]
theorem app_wA (L : List Wr) (k : Int) (r : List Val) (g : Bool) : List.map wA L ++ [.agg [.int .i64 k, .fro none false (r.map vA), .bool g]] = List.map wA (L ++ [⟨k, r, g⟩]) := app_f wA L ⟨k, r, g⟩ _ rfl
theorem f95 (xs : List Wr) (c : Bool) (w : Wr) (hl : xs.length ≤ 1048576) : Fx 95 [.fro none c (xs.map wA), wA w] (.own 3 ((putL w xs false).map wA)) := by
  refine fn_of ⟨true, [], []⟩ Try.func95 (by kernel_rfl) rfl (by kernel_rfl) (by kernel_rfl) (Nat.le_of_ble_eq_true rfl) rfl fun Q hQ => ?_
  simp only [vmA, Nat.reduceEqDiff, reduceIte, Nat.reduceAdd, Nat.reduceBEq, reduceCtorEq, Nat.reduceLT, Int.reduceLE, Int.reduceLT, Int.reduceEq, Nat.reduceMul, Nat.reduceLeDiff, List.length_map, wA]
  refine WT_loopR (fun (zz : Nat × Nat × List Wr × Bool) σ => (zz.1 ≤ xs.length ∧ zz.2.2.1 ++ putL w (xs.drop zz.1) zz.2.2.2 = putL w xs false ∧ zz.2.2.1.length ≤ 2 * zz.1) ∧ σ.sl 7 = .int .i64 zz.1 ∧ σ.sl 6 = .bool zz.2.2.2 ∧ σ.sl 0 = .fro none c (xs.map wA) ∧ σ.sl 3 = .ptr 192 1 0 0 ∧ (σ.en 192).live = true ∧ (σ.en 192).gen = 1 ∧ (σ.en 192).frz = false ∧ (σ.en 192).sz = 3 ∧ (σ.en 192).elems = [wA w] ∧ σ.sl 5 = .hd 320 zz.2.1 0 (zz.2.2.1.length) false ∧ (σ.en 320).live = true ∧ (σ.en 320).gen = zz.2.1 ∧ (σ.en 320).frz = false ∧ (σ.en 320).sz = 3 ∧ (σ.en 320).elems = zz.2.2.1.map wA) (fun zz => xs.length - zz.1) 5 ?_ ?_
  · simp only [vmA, Nat.reduceEqDiff, reduceIte, Nat.reduceAdd, Nat.reduceBEq, reduceCtorEq, Nat.reduceLT, Int.reduceLE, Int.reduceLT, Int.reduceEq, Nat.reduceMul, Nat.reduceLeDiff, reown, wA]
    exact ⟨(0, 1, [], false), ⟨Nat.zero_le _, by simp, by simp⟩, rfl, by simp⟩
  rintro ⟨i, γ, L, d⟩ σ ⟨hi, e7, e6, e0, e3, m192a, m192b, m192c, m192d, m192e, e5, m320a, m320b, m320c, m320d, m320e⟩
  try dsimp only at e7 e6 e0 e3 m192a m192b m192c m192d m192e e5 m320a m320b m320c m320d m320e hi
  obtain ⟨hi, hL, hn⟩ := hi
  cases d
  · simp only [vmA, Nat.reduceEqDiff, reduceIte, Nat.reduceAdd, Nat.reduceBEq, reduceCtorEq, Nat.reduceLT, Int.reduceLE, Int.reduceLT, Int.reduceEq, Nat.reduceMul, Nat.reduceLeDiff, e7, e6, e0, e3, m192a, m192b, m192c, m192d, m192e, e5, m320a, m320b, m320c, m320d, m320e, List.length_map, Bool.not_false, Bool.not_true, reown, Option.bind_none, app_wA, wA, len1, tk1, tk2]
    refine ⟨fun h => ⟨h, by omega, ?_⟩, fun h => ?_⟩
    · rw [putL_at w xs i _ (by omega)] at hL
      refine ⟨fun hk => ?_, fun hk => ?_⟩
      · rw [if_pos ⟨hk, rfl⟩, decide_eq_true hk] at hL
        refine ⟨by omega, h, by omega, fun hne => ?_, fun he => ?_⟩
        · rw [if_pos hne] at hL
          refine ⟨h, by omega, by omega, ?_⟩
          rw [wr (by omega)]
          exact ⟨(i + 1, γ + 1 + 1 + 1, L ++ [w] ++ [xs[i]!], true), ⟨⟨by dsimp only; omega, by dsimp only; simpa using hL, by dsimp only; (try simp); omega⟩, rfl, rfl, by simp, rfl, rfl⟩, by dsimp only; omega⟩
        · rw [if_neg (fun h => h he)] at hL
          rw [wr (by omega)]
          exact ⟨(i + 1, γ + 1 + 1, L ++ [w], true), ⟨⟨by dsimp only; omega, by dsimp only; simpa using hL, by dsimp only; (try simp); omega⟩, rfl, rfl, by simp, rfl, rfl⟩, by dsimp only; omega⟩
      · rw [if_neg (fun h => hk h.1), decide_eq_false hk] at hL
        refine ⟨h, by omega, fun hne => ?_, fun he => ?_⟩
        · rw [if_pos hne] at hL
          rw [wr (by omega)]
          exact ⟨h, by omega, by omega, ⟨(i + 1, γ + 1 + 1, L ++ [xs[i]!], false), ⟨⟨by dsimp only; omega, by dsimp only; simpa using hL, by dsimp only; (try simp); omega⟩, rfl, rfl, by simp, rfl, rfl⟩, by dsimp only; omega⟩⟩
        · rw [if_neg (fun h => h he)] at hL
          rw [wr (by omega)]
          exact ⟨(i + 1, γ + 1, L, false), ⟨⟨by dsimp only; omega, by dsimp only; simpa using hL, by dsimp only; (try simp); omega⟩, rfl, rfl, by simp, rfl, rfl⟩, by dsimp only; omega⟩
    · refine ⟨by omega, ?_⟩
      (refine hQ _ ?_; simp only [vmA, Nat.reduceEqDiff, reduceIte, Nat.reduceAdd, Nat.reduceBEq, reduceCtorEq, Nat.reduceLT, Int.reduceLE, Int.reduceLT, Int.reduceEq, Nat.reduceMul, Nat.reduceLeDiff, Try.f95, retG, resL, St.closeVs, St.closeV, e7, e6, e0, e3, m192a, m192b, m192c, m192d, m192e, e5, m320a, m320b, m320c, m320d, m320e, List.length_map, Bool.not_false, Bool.not_true, reown, Option.bind_none, app_wA, wA, len1, tk1, tk2])
      obtain rfl : i = xs.length := by omega
      rw [List.drop_length, putL] at hL
      rw [← hL]
      rfl
  · simp only [vmA, Nat.reduceEqDiff, reduceIte, Nat.reduceAdd, Nat.reduceBEq, reduceCtorEq, Nat.reduceLT, Int.reduceLE, Int.reduceLT, Int.reduceEq, Nat.reduceMul, Nat.reduceLeDiff, e7, e6, e0, e3, m192a, m192b, m192c, m192d, m192e, e5, m320a, m320b, m320c, m320d, m320e, List.length_map, Bool.not_false, Bool.not_true, reown, Option.bind_none, app_wA, wA, len1, tk1, tk2]
    refine ⟨fun h => ⟨h, by omega, ?_⟩, fun h => ?_⟩
    · rw [putL_at w xs i _ (by omega)] at hL
      rw [if_neg (fun h => by simp at h), Bool.true_or] at hL
      rw [wr (by omega)]
      have key1 : ∀ (_ : True), (¬xs[i]!.key = w.key → xs.length - (i + 1) < xs.length - i ∧ L ++ [xs[i]!] ++ putL w (xs.drop (i + 1)) true = putL w xs false) ∧ (xs[i]!.key = w.key → L ++ putL w (xs.drop (i + 1)) true = putL w xs false) := fun _ => ⟨fun hne => ⟨by omega, by rw [if_pos hne] at hL; simpa using hL⟩, fun he => by rw [if_neg (fun h => h he)] at hL; simpa using hL⟩
      refine ⟨fun _ => ⟨h, by omega, fun hne => ?_, fun he => ?_⟩, fun _ => ⟨h, by omega, fun hne => ?_, fun he => ?_⟩⟩
      all_goals first
        | (have hL := ((key1 trivial).1 hne).2
           exact ⟨h, by omega, by omega, ⟨(i + 1, γ + 1 + 1, L ++ [xs[i]!], true), ⟨⟨by dsimp only; omega, by dsimp only; simpa using hL, by dsimp only; (try simp); omega⟩, rfl, rfl, by simp, rfl, rfl⟩, by dsimp only; omega⟩⟩)
        | (have hL := (key1 trivial).2 he
           exact ⟨(i + 1, γ + 1, L, true), ⟨⟨by dsimp only; omega, by dsimp only; simpa using hL, by dsimp only; (try simp); omega⟩, rfl, rfl, by simp, rfl, rfl⟩, by dsimp only; omega⟩)
    · (refine hQ _ ?_; simp only [vmA, Nat.reduceEqDiff, reduceIte, Nat.reduceAdd, Nat.reduceBEq, reduceCtorEq, Nat.reduceLT, Int.reduceLE, Int.reduceLT, Int.reduceEq, Nat.reduceMul, Nat.reduceLeDiff, Try.f95, retG, resL, St.closeVs, St.closeV, e7, e6, e0, e3, m192a, m192b, m192c, m192d, m192e, e5, m320a, m320b, m320c, m320d, m320e])
      obtain rfl : i = xs.length := by omega
      rw [List.drop_length, putL] at hL
      rw [← hL]
      simp
