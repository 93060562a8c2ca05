/- WALK of functions of the seat, or plain laws for it: each theorem f<k> says what function k returns, for every world and all arguments that stand for the values named. Conditions: none but those ahead of each theorem. -/
import Derived.Test.YtklhdnjhgbglhaaYB4
open Go Go.Vm Go.Proofs
set_option maxRecDepth 100000
set_option maxHeartbeats 8000000
set_option linter.unusedSimpArgs false
set_option linter.unusedVariables false
/-- A transaction. -/
structure Tx where
  st : Int
  bg : Int
  fn : Int
  rd : List Int
  ws : List Wr
instance : Inhabited Tx := ⟨⟨0, 0, 0, [], []⟩⟩
def xA (t : Tx) : AV := .agg [.int .i64 t.st, .int .i64 t.bg, .int .i64 t.fn, .fro none false (t.rd.map iA), .fro none false (t.ws.map wA)]
def txN (t : Tx) : Prop := t.bg = 0 ∧ t.fn = 0 ∧ t.rd.length = 0 ∧ t.ws.length = 0
def txB (t : Tx) (k : Int) : Prop := (0 ≤ t.bg ∧ t.bg ≤ k) ∧ riP 0 4 t.rd ∧ wrsP t.ws
def txP (t : Tx) (k : Int) : Prop := (t.st = 0 ∧ txN t) ∨ (t.st = 2 ∧ (t.bg + 1 ≤ t.fn ∧ t.fn ≤ k) ∧ txB t k) ∨ ((t.st = 1 ∨ t.st = 3) ∧ t.fn = 0 ∧ txB t k)
instance (t : Tx) : Decidable (txN t) := by unfold txN; exact inferInstance
instance (t : Tx) (k : Int) : Decidable (txB t k) := by unfold txB; exact inferInstance
instance (t : Tx) (k : Int) : Decidable (txP t k) := by unfold txP; exact inferInstance
def okX (t : Tx) : Prop := t.rd.length ≤ 9223372036854775807 ∧ t.ws.length ≤ 9223372036854775807 ∧ ∀ w ∈ t.ws, okW w
theorem f74 (xs : List Int) (c : Bool) (hl : xs.length ≤ 9223372036854775807) : Fx 74 [.fro none c (xs.map iA)] (.bool (decide (riP 0 4 xs))) := by
  refine fn_of ⟨false, [], []⟩ Try.func74 (by kernel_rfl) rfl (by kernel_rfl) (by kernel_rfl) (Nat.le_of_ble_eq_true rfl) rfl fun Q hQ => ?_
  simp only [vmA, Nat.reduceEqDiff, reduceIte, Nat.reduceAdd, Nat.reduceBEq, reduceCtorEq, Nat.reduceLT, Int.reduceLE, Int.reduceLT, Int.reduceEq, Nat.reduceMul, Nat.reduceLeDiff, List.length_map]
  refine WT_loop (fun (i : Nat) σ => (i ≤ xs.length ∧ (∀ k, k < i → riAt 0 4 xs k)) ∧ σ.sl 3 = .int .i64 i ∧ σ.sl 0 = .fro none c (xs.map iA)) (fun i => xs.length - i) (0) ⟨⟨Nat.zero_le _, by omega⟩, by simp [put_sl, put_en, put_none, init_sl, fresh_sl, fresh_en, ent_sl, ent_en, init_en], by simp [put_sl, put_en, put_none, init_sl, fresh_sl, fresh_en, ent_sl, ent_en, init_en]⟩ ?_
  rintro i σ ⟨hi, e3, e0⟩
  obtain ⟨hi, hall⟩ := hi
  have nxt : riAt 0 4 xs i → ∀ k, k < i + 1 → riAt 0 4 xs k := fun h k hk => by
    rcases Nat.lt_or_eq_of_le (Nat.le_of_lt_succ hk) with h2 | rfl
    · exact hall k h2
    · exact h
  simp only [vmA, Nat.reduceEqDiff, reduceIte, Nat.reduceAdd, Nat.reduceBEq, reduceCtorEq, Nat.reduceLT, Int.reduceLE, Int.reduceLT, Int.reduceEq, Nat.reduceMul, Nat.reduceLeDiff, e3, e0, List.length_map]
  refine ⟨fun hlt => ⟨hlt, by omega, callD (f48 _ _ _) ?_⟩, fun hge => ?_⟩
  · simp only [vmA, Nat.reduceEqDiff, reduceIte, Nat.reduceAdd, Nat.reduceBEq, reduceCtorEq, Nat.reduceLT, Int.reduceLE, Int.reduceLT, Int.reduceEq, Nat.reduceMul, Nat.reduceLeDiff, e3, e0, List.length_map]
    refine ⟨fun hk => ?_, fun hk => ⟨fun hpos => ?_, fun hz => ?_⟩⟩
    · (refine hQ _ ?_; simp only [vmA, Nat.reduceEqDiff, reduceIte, Nat.reduceAdd, Nat.reduceBEq, reduceCtorEq, Nat.reduceLT, Int.reduceLE, Int.reduceLT, Int.reduceEq, Nat.reduceMul, Nat.reduceLeDiff, Try.f74, retG, resL, St.closeVs, St.closeV, e3, e0])
      exact leafF fun h => hk (h i (by omega)).1
    · have hw : IntKind.i64.wrap ((i : Int) - 1) = ((i - 1 : Nat) : Int) := by rw [wr (by omega)]; omega
      simp only [hw, Int.toNat_natCast]
      refine ⟨⟨by omega, by omega⟩, by omega, by omega, by omega, fun hge => ?_, fun hlt2 => ?_⟩
      · (refine hQ _ ?_; simp only [vmA, Nat.reduceEqDiff, reduceIte, Nat.reduceAdd, Nat.reduceBEq, reduceCtorEq, Nat.reduceLT, Int.reduceLE, Int.reduceLT, Int.reduceEq, Nat.reduceMul, Nat.reduceLeDiff, Try.f74, retG, resL, St.closeVs, St.closeV, e3, e0])
        exact leafF fun h => (h i (by omega)).2 ⟨by omega, hge⟩
      · rw [wr (by omega)]
        exact ⟨i + 1, ⟨⟨by omega, nxt ⟨hk, fun h => hlt2 h.2⟩⟩, rfl⟩, by omega⟩
    · rw [wr (by omega)]
      exact ⟨i + 1, ⟨⟨by omega, nxt ⟨hk, by omega⟩⟩, rfl⟩, by omega⟩
  · (refine hQ _ ?_; simp only [vmA, Nat.reduceEqDiff, reduceIte, Nat.reduceAdd, Nat.reduceBEq, reduceCtorEq, Nat.reduceLT, Int.reduceLE, Int.reduceLT, Int.reduceEq, Nat.reduceMul, Nat.reduceLeDiff, Try.f74, retG, resL, St.closeVs, St.closeV, e3, e0])
    exact leafB ⟨fun _ k hk => hall k (by omega), fun _ => trivial⟩
theorem leafG {b : Bool} {q : Prop} [Decidable q] (h : b = true ↔ q) : AV.bool b = AV.bool (decide q) := by
  congr 1
  cases b
  · exact (decide_eq_false (fun hq => by have := h.2 hq; cases this)).symm
  · exact (decide_eq_true (h.1 rfl)).symm
set_option maxHeartbeats 8000000 in
theorem f27 (t : Tx) (k : Int) (hk : 0 ≤ k ∧ k ≤ 40) (ho : okX t) : Fx 27 [xA t, .int .i64 k] (.bool (decide (txP t k))) := by
  have hw : 0 ≤ t.bg ∧ t.bg ≤ k → IntKind.i64.wrap (t.bg + 1) = t.bg + 1 := fun h => wr (by omega)
  refine fn_of ⟨false, [], []⟩ Try.func27 (by kernel_rfl) rfl (by kernel_rfl) (by kernel_rfl) (Nat.le_of_ble_eq_true rfl) rfl fun Q hQ => ?_
  simp only [vmA, Nat.reduceEqDiff, reduceIte, Nat.reduceAdd, Nat.reduceBEq, reduceCtorEq, Nat.reduceLT, Int.reduceLE, Int.reduceLT, Int.reduceEq, Nat.reduceMul, Nat.reduceLeDiff, xA, List.length_map]
  repeat' (first | (with_reducible refine And.intro ?_ ?_) | (with_reducible intro _))
  all_goals try ((refine hQ _ ?_; simp only [vmA, Nat.reduceEqDiff, reduceIte, Nat.reduceAdd, Nat.reduceBEq, reduceCtorEq, Nat.reduceLT, Int.reduceLE, Int.reduceLT, Int.reduceEq, Nat.reduceMul, Nat.reduceLeDiff, Try.f27, retG, resL, St.closeVs, St.closeV]); exact leafG (by grind [txP, txN, txB]))
  all_goals (first | refine callD (f25 _ _ _) ?_ | refine callD (f55 t.rd false 0 4 ho.1) ?_ | refine callD (f56 t.ws false ho.2.1 ho.2.2) ?_)
  all_goals simp only [vmA, Nat.reduceEqDiff, reduceIte, Nat.reduceAdd, Nat.reduceBEq, reduceCtorEq, Nat.reduceLT, Int.reduceLE, Int.reduceLT, Int.reduceEq, Nat.reduceMul, Nat.reduceLeDiff, xA, List.length_map]
  all_goals repeat' (first | (with_reducible refine And.intro ?_ ?_) | (with_reducible intro _))
  all_goals try ((refine hQ _ ?_; simp only [vmA, Nat.reduceEqDiff, reduceIte, Nat.reduceAdd, Nat.reduceBEq, reduceCtorEq, Nat.reduceLT, Int.reduceLE, Int.reduceLT, Int.reduceEq, Nat.reduceMul, Nat.reduceLeDiff, Try.f27, retG, resL, St.closeVs, St.closeV]); exact leafG (by grind [txP, txN, txB]))
  all_goals (first | refine callD (f25 _ _ _) ?_ | refine callD (f55 t.rd false 0 4 ho.1) ?_ | refine callD (f56 t.ws false ho.2.1 ho.2.2) ?_)
  all_goals simp only [vmA, Nat.reduceEqDiff, reduceIte, Nat.reduceAdd, Nat.reduceBEq, reduceCtorEq, Nat.reduceLT, Int.reduceLE, Int.reduceLT, Int.reduceEq, Nat.reduceMul, Nat.reduceLeDiff, xA, List.length_map]
  all_goals repeat' (first | (with_reducible refine And.intro ?_ ?_) | (with_reducible intro _))
  all_goals try ((refine hQ _ ?_; simp only [vmA, Nat.reduceEqDiff, reduceIte, Nat.reduceAdd, Nat.reduceBEq, reduceCtorEq, Nat.reduceLT, Int.reduceLE, Int.reduceLT, Int.reduceEq, Nat.reduceMul, Nat.reduceLeDiff, Try.f27, retG, resL, St.closeVs, St.closeV]); exact leafG (by grind [txP, txN, txB]))
  all_goals (first | refine callD (f25 _ _ _) ?_ | refine callD (f55 t.rd false 0 4 ho.1) ?_ | refine callD (f56 t.ws false ho.2.1 ho.2.2) ?_)
  all_goals simp only [vmA, Nat.reduceEqDiff, reduceIte, Nat.reduceAdd, Nat.reduceBEq, reduceCtorEq, Nat.reduceLT, Int.reduceLE, Int.reduceLT, Int.reduceEq, Nat.reduceMul, Nat.reduceLeDiff, xA, List.length_map]
  all_goals repeat' (first | (with_reducible refine And.intro ?_ ?_) | (with_reducible intro _))
  all_goals try ((refine hQ _ ?_; simp only [vmA, Nat.reduceEqDiff, reduceIte, Nat.reduceAdd, Nat.reduceBEq, reduceCtorEq, Nat.reduceLT, Int.reduceLE, Int.reduceLT, Int.reduceEq, Nat.reduceMul, Nat.reduceLeDiff, Try.f27, retG, resL, St.closeVs, St.closeV]); exact leafG (by grind [txP, txN, txB]))
  all_goals (first | refine callD (f25 _ _ _) ?_ | refine callD (f55 t.rd false 0 4 ho.1) ?_ | refine callD (f56 t.ws false ho.2.1 ho.2.2) ?_)
  all_goals simp only [vmA, Nat.reduceEqDiff, reduceIte, Nat.reduceAdd, Nat.reduceBEq, reduceCtorEq, Nat.reduceLT, Int.reduceLE, Int.reduceLT, Int.reduceEq, Nat.reduceMul, Nat.reduceLeDiff, xA, List.length_map]
  all_goals repeat' (first | (with_reducible refine And.intro ?_ ?_) | (with_reducible intro _))
  all_goals try ((refine hQ _ ?_; simp only [vmA, Nat.reduceEqDiff, reduceIte, Nat.reduceAdd, Nat.reduceBEq, reduceCtorEq, Nat.reduceLT, Int.reduceLE, Int.reduceLT, Int.reduceEq, Nat.reduceMul, Nat.reduceLeDiff, Try.f27, retG, resL, St.closeVs, St.closeV]); exact leafG (by grind [txP, txN, txB]))
set_option maxHeartbeats 8000000 in
theorem f50 (t : Tx) (k : Int) (hk : 0 ≤ k ∧ k ≤ 40) (ho : okX t) : Fx 50 [xA t, .int .i64 k] (.bool (decide (txP t k))) := by
  have hw : 0 ≤ t.bg ∧ t.bg ≤ k → IntKind.i64.wrap (t.bg + 1) = t.bg + 1 := fun h => wr (by omega)
  refine fn_of ⟨false, [], []⟩ Try.func50 (by kernel_rfl) rfl (by kernel_rfl) (by kernel_rfl) (Nat.le_of_ble_eq_true rfl) rfl fun Q hQ => ?_
  simp only [vmA, Nat.reduceEqDiff, reduceIte, Nat.reduceAdd, Nat.reduceBEq, reduceCtorEq, Nat.reduceLT, Int.reduceLE, Int.reduceLT, Int.reduceEq, Nat.reduceMul, Nat.reduceLeDiff, xA, List.length_map]
  repeat' (first | (with_reducible refine And.intro ?_ ?_) | (with_reducible intro _))
  all_goals try ((refine hQ _ ?_; simp only [vmA, Nat.reduceEqDiff, reduceIte, Nat.reduceAdd, Nat.reduceBEq, reduceCtorEq, Nat.reduceLT, Int.reduceLE, Int.reduceLT, Int.reduceEq, Nat.reduceMul, Nat.reduceLeDiff, Try.f50, retG, resL, St.closeVs, St.closeV]); exact leafG (by grind [txP, txN, txB]))
  all_goals (first | refine callD (f48 _ _ _) ?_ | refine callD (f74 t.rd false ho.1) ?_ | refine callD (f75 t.ws false ho.2.1 ho.2.2) ?_)
  all_goals simp only [vmA, Nat.reduceEqDiff, reduceIte, Nat.reduceAdd, Nat.reduceBEq, reduceCtorEq, Nat.reduceLT, Int.reduceLE, Int.reduceLT, Int.reduceEq, Nat.reduceMul, Nat.reduceLeDiff, xA, List.length_map]
  all_goals repeat' (first | (with_reducible refine And.intro ?_ ?_) | (with_reducible intro _))
  all_goals try ((refine hQ _ ?_; simp only [vmA, Nat.reduceEqDiff, reduceIte, Nat.reduceAdd, Nat.reduceBEq, reduceCtorEq, Nat.reduceLT, Int.reduceLE, Int.reduceLT, Int.reduceEq, Nat.reduceMul, Nat.reduceLeDiff, Try.f50, retG, resL, St.closeVs, St.closeV]); exact leafG (by grind [txP, txN, txB]))
  all_goals (first | refine callD (f48 _ _ _) ?_ | refine callD (f74 t.rd false ho.1) ?_ | refine callD (f75 t.ws false ho.2.1 ho.2.2) ?_)
  all_goals simp only [vmA, Nat.reduceEqDiff, reduceIte, Nat.reduceAdd, Nat.reduceBEq, reduceCtorEq, Nat.reduceLT, Int.reduceLE, Int.reduceLT, Int.reduceEq, Nat.reduceMul, Nat.reduceLeDiff, xA, List.length_map]
  all_goals repeat' (first | (with_reducible refine And.intro ?_ ?_) | (with_reducible intro _))
  all_goals try ((refine hQ _ ?_; simp only [vmA, Nat.reduceEqDiff, reduceIte, Nat.reduceAdd, Nat.reduceBEq, reduceCtorEq, Nat.reduceLT, Int.reduceLE, Int.reduceLT, Int.reduceEq, Nat.reduceMul, Nat.reduceLeDiff, Try.f50, retG, resL, St.closeVs, St.closeV]); exact leafG (by grind [txP, txN, txB]))
  all_goals (first | refine callD (f48 _ _ _) ?_ | refine callD (f74 t.rd false ho.1) ?_ | refine callD (f75 t.ws false ho.2.1 ho.2.2) ?_)
  all_goals simp only [vmA, Nat.reduceEqDiff, reduceIte, Nat.reduceAdd, Nat.reduceBEq, reduceCtorEq, Nat.reduceLT, Int.reduceLE, Int.reduceLT, Int.reduceEq, Nat.reduceMul, Nat.reduceLeDiff, xA, List.length_map]
  all_goals repeat' (first | (with_reducible refine And.intro ?_ ?_) | (with_reducible intro _))
  all_goals try ((refine hQ _ ?_; simp only [vmA, Nat.reduceEqDiff, reduceIte, Nat.reduceAdd, Nat.reduceBEq, reduceCtorEq, Nat.reduceLT, Int.reduceLE, Int.reduceLT, Int.reduceEq, Nat.reduceMul, Nat.reduceLeDiff, Try.f50, retG, resL, St.closeVs, St.closeV]); exact leafG (by grind [txP, txN, txB]))
  all_goals (first | refine callD (f48 _ _ _) ?_ | refine callD (f74 t.rd false ho.1) ?_ | refine callD (f75 t.ws false ho.2.1 ho.2.2) ?_)
  all_goals simp only [vmA, Nat.reduceEqDiff, reduceIte, Nat.reduceAdd, Nat.reduceBEq, reduceCtorEq, Nat.reduceLT, Int.reduceLE, Int.reduceLT, Int.reduceEq, Nat.reduceMul, Nat.reduceLeDiff, xA, List.length_map]
  all_goals repeat' (first | (with_reducible refine And.intro ?_ ?_) | (with_reducible intro _))
  all_goals try ((refine hQ _ ?_; simp only [vmA, Nat.reduceEqDiff, reduceIte, Nat.reduceAdd, Nat.reduceBEq, reduceCtorEq, Nat.reduceLT, Int.reduceLE, Int.reduceLT, Int.reduceEq, Nat.reduceMul, Nat.reduceLeDiff, Try.f50, retG, resL, St.closeVs, St.closeV]); exact leafG (by grind [txP, txN, txB]))
