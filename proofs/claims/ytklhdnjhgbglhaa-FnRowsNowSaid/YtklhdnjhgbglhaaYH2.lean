/- WALK of functions of the seat, or plain laws for it: each theorem f<k> says what function k returns, for every world and all arguments that stand for the values named. Conditions: none but those ahead of each theorem. -/
import Derived.Test.YtklhdnjhgbglhaaYH1
import Derived.Test.YtklhdnjhgbglhaaYB4
open Go Go.Vm Go.Proofs
set_option maxRecDepth 100000
set_option maxHeartbeats 8000000
set_option linter.unusedSimpArgs false
set_option linter.unusedVariables false
/-- What spec.l14Note makes. -/
def noteL (key : Int) : List Int → Bool → List Int
  | [], d => if d then [] else [key]
  | x :: xs, d => (if key ≤ x ∧ d = false then [key] else []) ++ ((if x ≠ key then [x] else []) ++ noteL key xs (d || decide (key ≤ x)))
theorem noteL_at (key : Int) (xs : List Int) (i : Nat) (d : Bool) (h : i < xs.length) : noteL key (xs.drop i) d = (if key ≤ xs[i]! ∧ d = false then [key] else []) ++ ((if xs[i]! ≠ key then [xs[i]!] else []) ++ noteL key (xs.drop (i + 1)) (d || decide (key ≤ xs[i]!))) := by
  rw [List.drop_eq_getElem_cons h, noteL, getElem!_pos xs i h]
theorem app_f {α : Type} (f : α → AV) (L : List α) (k : α) (x : AV) (h : x = f k) : List.map f L ++ [x] = List.map f (L ++ [k]) := by rw [h, List.map_append]; rfl
theorem app_iA (L : List Int) (k : Int) : List.map iA L ++ [AV.int .i64 k] = List.map iA (L ++ [k]) := app_f iA L k _ rfl
theorem len1 {α : Type} (L : List α) (k : α) : (L ++ [k]).length = L.length + 1 := by simp
theorem tk1 {α : Type} (f : α → AV) (L : List α) (k : α) : List.take (L.length + 1) (List.map f (L ++ [k])) = List.map f (L ++ [k]) := List.take_of_length_le (by simp)
theorem tk2 {α : Type} (f : α → AV) (L : List α) (k m : α) : List.take (L.length + 1 + 1) (List.map f (L ++ [k] ++ [m])) = List.map f (L ++ [k] ++ [m]) := List.take_of_length_le (by simp)
theorem f94 (xs : List Int) (c : Bool) (key : Int) (hl : xs.length ≤ 1048576) : Fx 94 [.fro none c (xs.map iA), .int .i64 key] (.own 1 ((noteL key xs false).map iA)) := by
  refine fn_of ⟨true, [], []⟩ Try.func94 (by kernel_rfl) rfl (by kernel_rfl) (by kernel_rfl) (Nat.le_of_ble_eq_true rfl) rfl fun Q hQ => ?_
  simp only [vmA, Nat.reduceEqDiff, reduceIte, Nat.reduceAdd, Nat.reduceBEq, reduceCtorEq, Nat.reduceLT, Int.reduceLE, Int.reduceLT, Int.reduceEq, Nat.reduceMul, Nat.reduceLeDiff, List.length_map]
  refine WT_loopR (fun (zz : Nat × Nat × List Int × Bool) σ => (zz.1 ≤ xs.length ∧ zz.2.2.1 ++ noteL key (xs.drop zz.1) zz.2.2.2 = noteL key xs false ∧ zz.2.2.1.length ≤ 2 * zz.1) ∧ σ.sl 7 = .int .i64 zz.1 ∧ σ.sl 6 = .bool zz.2.2.2 ∧ σ.sl 0 = .fro none c (xs.map iA) ∧ σ.sl 1 = .int .i64 key ∧ σ.sl 5 = .hd 320 zz.2.1 0 (zz.2.2.1.length) false ∧ (σ.en 320).live = true ∧ (σ.en 320).gen = zz.2.1 ∧ (σ.en 320).frz = false ∧ (σ.en 320).sz = 1 ∧ (σ.en 320).elems = zz.2.2.1.map iA) (fun zz => xs.length - zz.1) 5 ?_ ?_
  · simp only [vmA, Nat.reduceEqDiff, reduceIte, Nat.reduceAdd, Nat.reduceBEq, reduceCtorEq, Nat.reduceLT, Int.reduceLE, Int.reduceLT, Int.reduceEq, Nat.reduceMul, Nat.reduceLeDiff, reown]
    exact ⟨(0, 1, [], false), ⟨Nat.zero_le _, by simp, by simp⟩, rfl, by simp⟩
  rintro ⟨i, γ, L, d⟩ σ ⟨hi, e7, e6, e0, e1, e5, m320a, m320b, m320c, m320d, m320e⟩
  try dsimp only at e7 e6 e0 e1 e5 m320a m320b m320c m320d m320e hi
  obtain ⟨hi, hL, hn⟩ := hi
  cases d
  · simp only [vmA, Nat.reduceEqDiff, reduceIte, Nat.reduceAdd, Nat.reduceBEq, reduceCtorEq, Nat.reduceLT, Int.reduceLE, Int.reduceLT, Int.reduceEq, Nat.reduceMul, Nat.reduceLeDiff, e7, e6, e0, e1, e5, m320a, m320b, m320c, m320d, m320e, List.length_map, Bool.not_false, Bool.not_true, reown, Option.bind_none, app_iA, len1, tk1, tk2]
    refine ⟨fun h => ⟨h, by omega, ?_⟩, fun h => ?_⟩
    · rw [noteL_at key xs i _ (by omega)] at hL
      refine ⟨fun hk => ?_, fun hk => ?_⟩
      · rw [if_pos ⟨hk, rfl⟩, decide_eq_true hk] at hL
        refine ⟨by omega, h, by omega, fun hne => ?_, fun he => ?_⟩
        · rw [if_pos hne] at hL
          refine ⟨h, by omega, by omega, ?_⟩
          rw [wr (by omega)]
          exact ⟨(i + 1, γ + 1 + 1 + 1, L ++ [key] ++ [xs[i]!], true), ⟨⟨by dsimp only; omega, by dsimp only; simpa using hL, by dsimp only; (try simp); omega⟩, rfl, rfl, by simp, rfl, rfl⟩, by dsimp only; omega⟩
        · rw [if_neg (fun h => h he)] at hL
          rw [wr (by omega)]
          exact ⟨(i + 1, γ + 1 + 1, L ++ [key], true), ⟨⟨by dsimp only; omega, by dsimp only; simpa using hL, by dsimp only; (try simp); omega⟩, rfl, rfl, by simp, rfl, rfl⟩, by dsimp only; omega⟩
      · rw [if_neg (fun h => hk h.1), decide_eq_false hk] at hL
        refine ⟨h, by omega, fun hne => ?_, fun he => ?_⟩
        · rw [if_pos hne] at hL
          rw [wr (by omega)]
          exact ⟨h, by omega, by omega, ⟨(i + 1, γ + 1 + 1, L ++ [xs[i]!], false), ⟨⟨by dsimp only; omega, by dsimp only; simpa using hL, by dsimp only; (try simp); omega⟩, rfl, rfl, by simp, rfl, rfl⟩, by dsimp only; omega⟩⟩
        · rw [if_neg (fun h => h he)] at hL
          rw [wr (by omega)]
          exact ⟨(i + 1, γ + 1, L, false), ⟨⟨by dsimp only; omega, by dsimp only; simpa using hL, by dsimp only; (try simp); omega⟩, rfl, rfl, by simp, rfl, rfl⟩, by dsimp only; omega⟩
    · refine ⟨by omega, ?_⟩
      (refine hQ _ ?_; simp only [vmA, Nat.reduceEqDiff, reduceIte, Nat.reduceAdd, Nat.reduceBEq, reduceCtorEq, Nat.reduceLT, Int.reduceLE, Int.reduceLT, Int.reduceEq, Nat.reduceMul, Nat.reduceLeDiff, Try.f94, retG, resL, St.closeVs, St.closeV, e7, e6, e0, e1, e5, m320a, m320b, m320c, m320d, m320e, List.length_map, Bool.not_false, Bool.not_true, reown, Option.bind_none, app_iA, len1, tk1, tk2])
      obtain rfl : i = xs.length := by omega
      rw [List.drop_length, noteL] at hL
      rw [← hL]
      rfl
  · simp only [vmA, Nat.reduceEqDiff, reduceIte, Nat.reduceAdd, Nat.reduceBEq, reduceCtorEq, Nat.reduceLT, Int.reduceLE, Int.reduceLT, Int.reduceEq, Nat.reduceMul, Nat.reduceLeDiff, e7, e6, e0, e1, e5, m320a, m320b, m320c, m320d, m320e, List.length_map, Bool.not_false, Bool.not_true, reown, Option.bind_none, app_iA, len1, tk1, tk2]
    refine ⟨fun h => ⟨h, by omega, ?_⟩, fun h => ?_⟩
    · rw [noteL_at key xs i _ (by omega)] at hL
      rw [if_neg (fun h => by simp at h), Bool.true_or] at hL
      rw [wr (by omega)]
      have key1 : ∀ (_ : True), (¬xs[i]! = key → xs.length - (i + 1) < xs.length - i ∧ L ++ [xs[i]!] ++ noteL key (xs.drop (i + 1)) true = noteL key xs false) ∧ (xs[i]! = key → L ++ noteL key (xs.drop (i + 1)) true = noteL key xs false) := fun _ => ⟨fun hne => ⟨by omega, by rw [if_pos hne] at hL; simpa using hL⟩, fun he => by rw [if_neg (fun h => h he)] at hL; simpa using hL⟩
      refine ⟨fun _ => ⟨h, by omega, fun hne => ?_, fun he => ?_⟩, fun _ => ⟨h, by omega, fun hne => ?_, fun he => ?_⟩⟩
      all_goals first
        | (have hL := ((key1 trivial).1 hne).2
           exact ⟨h, by omega, by omega, ⟨(i + 1, γ + 1 + 1, L ++ [xs[i]!], true), ⟨⟨by dsimp only; omega, by dsimp only; simpa using hL, by dsimp only; (try simp); omega⟩, rfl, rfl, by simp, rfl, rfl⟩, by dsimp only; omega⟩⟩)
        | (have hL := (key1 trivial).2 he
           exact ⟨(i + 1, γ + 1, L, true), ⟨⟨by dsimp only; omega, by dsimp only; simpa using hL, by dsimp only; (try simp); omega⟩, rfl, rfl, by simp, rfl, rfl⟩, by dsimp only; omega⟩)
    · (refine hQ _ ?_; simp only [vmA, Nat.reduceEqDiff, reduceIte, Nat.reduceAdd, Nat.reduceBEq, reduceCtorEq, Nat.reduceLT, Int.reduceLE, Int.reduceLT, Int.reduceEq, Nat.reduceMul, Nat.reduceLeDiff, Try.f94, retG, resL, St.closeVs, St.closeV, e7, e6, e0, e1, e5, m320a, m320b, m320c, m320d, m320e])
      obtain rfl : i = xs.length := by omega
      rw [List.drop_length, noteL] at hL
      rw [← hL]
      simp
