/- WALK of functions of the seat, or plain laws for it: each theorem f<k> says what function k returns, for every world and all arguments that stand for the values named. Conditions: none but those ahead of each theorem. -/
import Derived.Test.YtfimolakepbdbaaYA3
import Derived.Test.YtfimolakepbdbaaYCap
open Go Go.Vm Go.Proofs
set_option maxRecDepth 100000
set_option maxHeartbeats 8000000
set_option linter.unusedSimpArgs false
set_option linter.unusedVariables false
theorem f74 (m : Int) (h0 : 0 < m) (hm : m ≤ 1048576) : Fx 74 [.fro none true [], .int .i64 m] (.own 1 []) := by
  refine fn_of ⟨false, [], []⟩ Try.func74 (by kernel_rfl) rfl (by kernel_rfl) (by kernel_rfl) (Nat.le_of_ble_eq_true rfl) rfl fun Q hQ => ?_
  have e1 : (m < 0) = False := eq_false (by omega)
  have e2 : (0 < m) = True := eq_true h0
  have e3 : IntKind.i64.wrap (m - IntKind.i64.wrap (((0 : Nat) : Int) - ((0 : Nat) : Int))) = m := by
    have : IntKind.i64.wrap (((0 : Nat) : Int) - ((0 : Nat) : Int)) = 0 := rfl
    rw [this, Int.sub_zero]; exact wr (by omega)
  simp only [vmA, Nat.reduceEqDiff, reduceIte, Nat.reduceAdd, Nat.reduceBEq, reduceCtorEq, Nat.reduceLT, Int.reduceLE, Int.reduceLT, Int.reduceEq, Nat.reduceMul, Nat.reduceLeDiff, t_cap, capF, e1, e2, e3, List.isEmpty_nil]
  refine ⟨⟨by omega, by omega⟩, by omega, ?_⟩
  (refine hQ _ ?_; simp only [vmA, Nat.reduceEqDiff, reduceIte, Nat.reduceAdd, Nat.reduceBEq, reduceCtorEq, Nat.reduceLT, Int.reduceLE, Int.reduceLT, Int.reduceEq, Nat.reduceMul, Nat.reduceLeDiff, Try.f74, retG, resL, St.closeVs, St.closeV, Int.toNat_zero, Nat.sub_zero, List.take_zero])
  exact Nat.zero_le _
abbrev rrA (w : List (List Val)) : AV := .fro none false (w.map rA)
theorem f48 (a b : List (List Val)) (c : Bool) (hl : a.length ≤ 1048 ∧ b.length ≤ 1048) (hpos : 0 < a.length + b.length) : Fx 48 [.fro none c [rrA a, rrA b]] (.own 1 ((a ++ b).map rA)) := by
  refine fn_of ⟨false, [], []⟩ Try.func48 (by kernel_rfl) rfl (by kernel_rfl) (by kernel_rfl) (Nat.le_of_ble_eq_true rfl) rfl fun Q hQ => ?_
  simp only [vmA, Nat.reduceEqDiff, reduceIte, Nat.reduceAdd, Nat.reduceBEq, reduceCtorEq, Nat.reduceLT, Int.reduceLE, Int.reduceLT, Int.reduceEq, Nat.reduceMul, Nat.reduceLeDiff, rrA, List.length_map]
  refine WT_loop (fun (i : Nat) σ => (i ≤ 2) ∧ σ.sl 11 = .int .i64 i ∧ σ.sl 10 = .int .i64 2 ∧ σ.sl 9 = .fro none c [rrA a, rrA b] ∧ σ.sl 3 = .int .i64 ((if i = 0 then 0 else if i = 1 then a.length else a.length + b.length : Nat) : Int) ∧ σ.sl 0 = .fro none c [rrA a, rrA b]) (fun i => 2 - i) (0) ⟨by omega, by simp [put_sl, put_en, put_none, init_sl, fresh_sl, fresh_en, ent_sl, ent_en, init_en, rrA], by simp [put_sl, put_en, put_none, init_sl, fresh_sl, fresh_en, ent_sl, ent_en, init_en, rrA], by simp [put_sl, put_en, put_none, init_sl, fresh_sl, fresh_en, ent_sl, ent_en, init_en, rrA], by simp [put_sl, put_en, put_none, init_sl, fresh_sl, fresh_en, ent_sl, ent_en, init_en, rrA], by simp [put_sl, put_en, put_none, init_sl, fresh_sl, fresh_en, ent_sl, ent_en, init_en, rrA]⟩ ?_
  rintro i σ ⟨hi, e11, e10, e9, e3, e0⟩
  obtain rfl | rfl | rfl : i = 0 ∨ i = 1 ∨ i = 2 := by omega
  · have h8 : IntKind.i64.wrap (((0 : Nat) : Int) + (a.length : Int)) = a.length := by rw [wr (by omega)]; omega
    simp only [vmA, Nat.reduceEqDiff, reduceIte, Nat.reduceAdd, Nat.reduceBEq, reduceCtorEq, Nat.reduceLT, Int.reduceLE, Int.reduceLT, Int.reduceEq, Nat.reduceMul, Nat.reduceLeDiff, e11, e10, e9, e3, e0, rrA, List.length_map, h8]
    exact ⟨fun _ => ⟨by omega, fun h => absurd h (by omega), fun _ => ⟨1, ⟨by omega, rfl, rfl⟩, by omega⟩⟩, fun h => absurd h (by omega)⟩
  · have h8 : IntKind.i64.wrap ((a.length : Int) + (b.length : Int)) = ((a.length + b.length : Nat) : Int) := by rw [wr (by omega)]; omega
    simp only [vmA, Nat.reduceEqDiff, reduceIte, Nat.reduceAdd, Nat.reduceBEq, reduceCtorEq, Nat.reduceLT, Int.reduceLE, Int.reduceLT, Int.reduceEq, Nat.reduceMul, Nat.reduceLeDiff, e11, e10, e9, e3, e0, rrA, List.length_map, h8]
    exact ⟨fun _ => ⟨by omega, fun h => absurd h (by omega), fun _ => ⟨2, ⟨by omega, rfl, rfl⟩, by omega⟩⟩, fun h => absurd h (by omega)⟩
  · simp only [vmA, Nat.reduceEqDiff, reduceIte, Nat.reduceAdd, Nat.reduceBEq, reduceCtorEq, Nat.reduceLT, Int.reduceLE, Int.reduceLT, Int.reduceEq, Nat.reduceMul, Nat.reduceLeDiff, e11, e10, e9, e3, e0, rrA, List.length_map]
    refine ⟨fun h => absurd h (by omega), fun _ => callD (f74 ((a.length + b.length : Nat) : Int) (by omega) (by omega)) ?_⟩
    simp only [vmA, Nat.reduceEqDiff, reduceIte, Nat.reduceAdd, Nat.reduceBEq, reduceCtorEq, Nat.reduceLT, Int.reduceLE, Int.reduceLT, Int.reduceEq, Nat.reduceMul, Nat.reduceLeDiff, e11, e10, e9, e3, e0, rrA, List.length_map]
    refine WT_loopR (fun (zz : Nat × List (List Val) × Nat) σ => (zz.1 ≤ 2 ∧ zz.2.1 = (if zz.1 = 0 then [] else if zz.1 = 1 then a else a ++ b)) ∧ σ.sl 27 = .int .i64 zz.1 ∧ σ.sl 26 = .int .i64 2 ∧ σ.sl 25 = .fro none c [rrA a, rrA b] ∧ σ.sl 6 = .hd 384 zz.2.2 0 zz.2.1.length false ∧ (σ.en 384).live = true ∧ (σ.en 384).gen = zz.2.2 ∧ (σ.en 384).frz = false ∧ (σ.en 384).sz = 1 ∧ (σ.en 384).elems = zz.2.1.map rA) (fun zz => 2 - zz.1) 6 ?_ ?_
    · obtain ⟨g0, hg0⟩ : ∃ g0, (σ.en 384).gen + 1 = g0 := ⟨_, rfl⟩
      simp only [vmA, Nat.reduceEqDiff, reduceIte, Nat.reduceAdd, Nat.reduceBEq, reduceCtorEq, Nat.reduceLT, Int.reduceLE, Int.reduceLT, Int.reduceEq, Nat.reduceMul, Nat.reduceLeDiff, e11, e10, e9, e3, e0, rrA, reown, Nat.le_refl, hg0]
      exact ⟨(0, [], g0), ⟨by dsimp only; omega, rfl⟩, rfl, rfl, rfl, rfl, rfl⟩
    clear e11 e10 e9 e3 e0
    rintro ⟨i, L, γ⟩ σ ⟨hi, e27, e26, e25, e6, m384a, m384b, m384c, m384d, m384e⟩
    try dsimp only at e27 e26 e25 e6 m384a m384b m384c m384d m384e hi
    obtain ⟨h1, hL⟩ := hi
    obtain rfl | rfl | rfl : i = 0 ∨ i = 1 ∨ i = 2 := by omega
    · have hL : L = [] := hL
      subst hL
      simp only [vmA, Nat.reduceEqDiff, reduceIte, Nat.reduceAdd, Nat.reduceBEq, reduceCtorEq, Nat.reduceLT, Int.reduceLE, Int.reduceLT, Int.reduceEq, Nat.reduceMul, Nat.reduceLeDiff, e27, e26, e25, e6, m384a, m384b, m384c, m384d, m384e, rrA, List.length_map, reown]
      refine ⟨fun _ => ⟨by omega, fun z hz => ?_, ⟨by omega, by omega⟩, ?_⟩, fun h => absurd h (by omega)⟩
      · obtain ⟨w, _, rfl⟩ := List.mem_map.1 hz; rfl
      exact ⟨(1, a, γ + 1 + 1), ⟨⟨by dsimp only; omega, rfl⟩, rfl, by simp, by simp, by simp⟩, by dsimp only; omega⟩
    · have hL : L = a := hL
      subst hL
      simp only [vmA, Nat.reduceEqDiff, reduceIte, Nat.reduceAdd, Nat.reduceBEq, reduceCtorEq, Nat.reduceLT, Int.reduceLE, Int.reduceLT, Int.reduceEq, Nat.reduceMul, Nat.reduceLeDiff, e27, e26, e25, e6, m384a, m384b, m384c, m384d, m384e, rrA, List.length_map, reown]
      refine ⟨fun _ => ⟨by omega, fun z hz => ?_, ⟨by omega, by omega⟩, ?_⟩, fun h => absurd h (by omega)⟩
      · obtain ⟨w, _, rfl⟩ := List.mem_map.1 hz; rfl
      rw [List.take_of_length_le (by simp)]
      exact ⟨by simp, (2, L ++ b, γ + 1 + 1), ⟨⟨by dsimp only; omega, rfl⟩, rfl, by simp, by simp, by simp⟩, by dsimp only; omega⟩
    · have hL : L = a ++ b := hL
      subst hL
      simp only [vmA, Nat.reduceEqDiff, reduceIte, Nat.reduceAdd, Nat.reduceBEq, reduceCtorEq, Nat.reduceLT, Int.reduceLE, Int.reduceLT, Int.reduceEq, Nat.reduceMul, Nat.reduceLeDiff, e27, e26, e25, e6, m384a, m384b, m384c, m384d, m384e, rrA, List.length_map]
      refine ⟨fun h => absurd h (by omega), fun _ => ?_⟩
      (refine hQ _ ?_; simp only [vmA, Nat.reduceEqDiff, reduceIte, Nat.reduceAdd, Nat.reduceBEq, reduceCtorEq, Nat.reduceLT, Int.reduceLE, Int.reduceLT, Int.reduceEq, Nat.reduceMul, Nat.reduceLeDiff, Try.f48, retG, resL, St.closeVs, St.closeV, e27, e26, e25, e6, m384a, m384b, m384c, m384d, m384e])
