/- WALK of functions of the seat, or plain laws for it: each theorem f<k> says what function k returns, for every world and all arguments that stand for the values named. Conditions: none but those ahead of each theorem. -/
import Derived.Test.YtfimolakepbdbaaYC2
open Go Go.Vm Go.Proofs
set_option maxRecDepth 100000
set_option linter.unusedSimpArgs false
set_option linter.unusedVariables false
structure Spt where
  r : Int
  s : Int
instance : Inhabited Spt := ⟨⟨0, 0⟩⟩
def sA (s : Spt) : AV := .agg [.int .i64 s.r, .int .i64 s.s]
theorem map_froize_sA (l : List Spt) : (l.map sA).map froize = l.map sA := by
  rw [List.map_map]; rfl
theorem set_sA (ys : List Spt) (i : Nat) (a b : Int) : (ys.map sA).set i (.agg [.int .i64 a, .int .i64 b]) = (ys.set i ⟨a, b⟩).map sA := by rw [List.map_set]; rfl
theorem f50 (s : Spt) : Fx 50 [sA s, sA s] (.bool true) := by
  refine fn_of false Try.func50 (by kernel_rfl) rfl (by kernel_rfl) (by kernel_rfl) (Nat.le_of_ble_eq_true rfl) rfl fun Q hQ => ?_
  simp only [vmA, Nat.reduceEqDiff, reduceIte, Nat.reduceAdd, Nat.reduceBEq, reduceCtorEq, Nat.reduceLT, Int.reduceLE, Int.reduceLT, Int.reduceEq, Nat.reduceMul, Nat.reduceLeDiff, sA]
  (refine hQ _ ?_; simp only [vmA, Nat.reduceEqDiff, reduceIte, Nat.reduceAdd, Nat.reduceBEq, reduceCtorEq, Nat.reduceLT, Int.reduceLE, Int.reduceLT, Int.reduceEq, Nat.reduceMul, Nat.reduceLeDiff, Try.f50, retG, resL, St.closeVs, St.closeV])
theorem f24 (xs : List Spt) (c c2 : Bool) (hl : xs.length ≤ 9223372036854775806) : Fx 24 [.fro none c (xs.map sA), .fro none c2 (xs.map sA)] (.bool true) := by
  refine fn_of false Try.func24 (by kernel_rfl) rfl (by kernel_rfl) (by kernel_rfl) (Nat.le_of_ble_eq_true rfl) rfl fun Q hQ => ?_
  simp only [vmA, Nat.reduceEqDiff, reduceIte, Nat.reduceAdd, Nat.reduceBEq, reduceCtorEq, Nat.reduceLT, Int.reduceLE, Int.reduceLT, Int.reduceEq, Nat.reduceMul, Nat.reduceLeDiff, List.length_map]
  refine WT_loop (fun (i : Nat) σ => i ≤ xs.length ∧ σ.sl 0 = .fro none c (xs.map sA) ∧ σ.sl 1 = .fro none c2 (xs.map sA) ∧ σ.sl 5 = .int .i64 i) (fun i => xs.length - i) 0 ⟨by omega, by simp [put_sl, put_en, put_none, init_sl, fresh_sl, fresh_en, ent_sl, ent_en, init_en], by simp [put_sl, put_en, put_none, init_sl, fresh_sl, fresh_en, ent_sl, ent_en, init_en], by simp [put_sl, put_en, put_none, init_sl, fresh_sl, fresh_en, ent_sl, ent_en, init_en]⟩ ?_
  rintro i σ ⟨hi, e0, e1, e5⟩
  simp only [vmA, Nat.reduceEqDiff, reduceIte, Nat.reduceAdd, Nat.reduceBEq, reduceCtorEq, Nat.reduceLT, Int.reduceLE, Int.reduceLT, Int.reduceEq, Nat.reduceMul, Nat.reduceLeDiff, e0, e1, e5, sA, List.length_map]
  refine ⟨fun hlt => ?_, fun hge => ?_⟩
  · refine ⟨hlt, by omega, hlt, by omega, callD (f50 xs[i]!) ?_⟩
    simp only [vmA, Nat.reduceEqDiff, reduceIte, Nat.reduceAdd, Nat.reduceBEq, reduceCtorEq, Nat.reduceLT, Int.reduceLE, Int.reduceLT, Int.reduceEq, Nat.reduceMul, Nat.reduceLeDiff, e0, e1, e5]
    refine ⟨i + 1, ⟨by omega, by rw [wr (by omega)]; rfl⟩, by omega⟩
  · (refine hQ _ ?_; simp only [vmA, Nat.reduceEqDiff, reduceIte, Nat.reduceAdd, Nat.reduceBEq, reduceCtorEq, Nat.reduceLT, Int.reduceLE, Int.reduceLT, Int.reduceEq, Nat.reduceMul, Nat.reduceLeDiff, Try.f24, retG, resL, St.closeVs, St.closeV])
def mkS1 (k : Int) (j : Nat) : Spt := ⟨k + 2 * j, k + 2 * j + 1⟩
def mkSs (n : Nat) (k : Int) : List Spt := (List.range n).map (mkS1 k)
theorem mkSs_length (n : Nat) (k : Int) : (mkSs n k).length = n := by simp [mkSs]
theorem f25 (xs : List Spt) (k : Int) (hk : 0 ≤ k) (hl : k + 2 * xs.length ≤ 4611686018427387904) : FxR 25 [.own 2 (xs.map sA), .int .i64 k] fun r l => r = .int .i64 (k + 2 * xs.length) ∧ l = .own 2 ((mkSs xs.length k).map sA) := by
  refine fn_ofW false (k := 0) Try.func25 (by kernel_rfl) rfl (by kernel_rfl) (by kernel_rfl) (Nat.le_of_ble_eq_true rfl) rfl ⟨_, _, .inl rfl⟩ rfl fun Q hQ => ?_
  simp only [vmA, Nat.reduceEqDiff, reduceIte, Nat.reduceAdd, Nat.reduceBEq, reduceCtorEq, Nat.reduceLT, Int.reduceLE, Int.reduceLT, Int.reduceEq, Nat.reduceMul, Nat.reduceLeDiff, List.length_map]
  refine WT_loop (fun (p : Nat × List Spt) σ => (p.1 ≤ xs.length ∧ p.2.length = xs.length ∧ ∀ j, j < p.1 → p.2[j]! = mkS1 k j) ∧ σ.sl 0 = .hd 0 1 0 xs.length false ∧ (σ.en 0).live = true ∧ (σ.en 0).gen = 1 ∧ (σ.en 0).frz = false ∧ (σ.en 0).sz = 2 ∧ (σ.en 0).elems = p.2.map sA ∧ σ.sl 1 = .int .i64 (k + 2 * p.1) ∧ σ.sl 5 = .int .i64 p.1) (fun p => xs.length - p.1) (0, xs) ⟨⟨by simp, rfl, by simp⟩, by simp [put_sl, put_en, put_none, init_sl, fresh_sl, fresh_en, ent_sl, ent_en, init_en], by simp [put_sl, put_en, put_none, init_sl, fresh_sl, fresh_en, ent_sl, ent_en, init_en], by simp [put_sl, put_en, put_none, init_sl, fresh_sl, fresh_en, ent_sl, ent_en, init_en], by simp [put_sl, put_en, put_none, init_sl, fresh_sl, fresh_en, ent_sl, ent_en, init_en], by simp [put_sl, put_en, put_none, init_sl, fresh_sl, fresh_en, ent_sl, ent_en, init_en], by simp [put_sl, put_en, put_none, init_sl, fresh_sl, fresh_en, ent_sl, ent_en, init_en], by simp [put_sl, put_en, put_none, init_sl, fresh_sl, fresh_en, ent_sl, ent_en, init_en], by simp [put_sl, put_en, put_none, init_sl, fresh_sl, fresh_en, ent_sl, ent_en, init_en]⟩ ?_
  rintro ⟨i, ys⟩ σ ⟨⟨hi, hyl, hy⟩, e0, l1, l2, l3, l4, l5, e1, e5⟩
  dsimp only at hi hyl hy l5 e1 e5
  simp only [vmA, Nat.reduceEqDiff, reduceIte, Nat.reduceAdd, Nat.reduceBEq, reduceCtorEq, Nat.reduceLT, Int.reduceLE, Int.reduceLT, Int.reduceEq, Nat.reduceMul, Nat.reduceLeDiff, e0, l1, l2, l3, l4, l5, e1, e5, List.length_map, hyl, sA, set_sA]
  refine ⟨fun hlt => ?_, fun hge => ?_⟩
  · simp (disch := omega) only [wr, List.length_set]
    refine ⟨by omega, by omega, ⟨by omega, by omega⟩, by omega, (i + 1, ys.set i (mkS1 k i)), ⟨⟨by dsimp only; omega, by simpa using hyl, mk_set _ (by omega) hy⟩, ?_, leafJ (by dsimp only; omega), leafJ (by dsimp only; omega)⟩, by dsimp only; omega⟩
    simp only [List.set_set, get_set ys i _ (show i < ys.length by omega), mkS1]
  · (refine hQ _ ?_; simp only [vmA, Nat.reduceEqDiff, reduceIte, Nat.reduceAdd, Nat.reduceBEq, reduceCtorEq, Nat.reduceLT, Int.reduceLE, Int.reduceLT, Int.reduceEq, Nat.reduceMul, Nat.reduceLeDiff, Try.f25, retG, resL, St.closeVs, St.closeV, leftV, ghostW, e0, l1, l2, l3, l4, l5, e1, e5, List.length_map, hyl])
    obtain rfl : i = xs.length := by omega
    refine ⟨rfl, ?_⟩
    rw [List.take_of_length_le (by simp; omega), mk_all _ hyl hy]
    rfl
theorem f26 (n : Nat) (k : Int) (c : Bool) (hk : 0 ≤ k) (hl : k + 2 * n ≤ 4611686018427387904) : Fx 26 [.fro none c ((mkSs n k).map sA), .int .i64 k] (.int .i64 (k + 2 * n)) := by
  refine fn_of false Try.func26 (by kernel_rfl) rfl (by kernel_rfl) (by kernel_rfl) (Nat.le_of_ble_eq_true rfl) rfl fun Q hQ => ?_
  have hyl := mkSs_length n k
  have hy : ∀ i, i < n → (mkSs n k)[i]! = mkS1 k i := fun i hi => mk_at _ hi
  generalize mkSs n k = ys at hyl hy
  simp only [vmA, Nat.reduceEqDiff, reduceIte, Nat.reduceAdd, Nat.reduceBEq, reduceCtorEq, Nat.reduceLT, Int.reduceLE, Int.reduceLT, Int.reduceEq, Nat.reduceMul, Nat.reduceLeDiff, List.length_map, hyl]
  refine WT_loop (fun (i : Nat) σ => i ≤ n ∧ σ.sl 0 = .fro none c (ys.map sA) ∧ σ.sl 1 = .int .i64 (k + 2 * i) ∧ σ.sl 5 = .int .i64 i) (fun i => n - i) 0 ⟨by omega, by simp [put_sl, put_en, put_none, init_sl, fresh_sl, fresh_en, ent_sl, ent_en, init_en], by simp [put_sl, put_en, put_none, init_sl, fresh_sl, fresh_en, ent_sl, ent_en, init_en], by simp [put_sl, put_en, put_none, init_sl, fresh_sl, fresh_en, ent_sl, ent_en, init_en]⟩ ?_
  rintro i σ ⟨hi, e0, e1, e5⟩
  simp only [vmA, Nat.reduceEqDiff, reduceIte, Nat.reduceAdd, Nat.reduceBEq, reduceCtorEq, Nat.reduceLT, Int.reduceLE, Int.reduceLT, Int.reduceEq, Nat.reduceMul, Nat.reduceLeDiff, e0, e1, e5, List.length_map, hyl, sA]
  refine ⟨fun hlt => ⟨hlt, by omega, ?_⟩, fun hge => ?_⟩
  · have hh := hy i (by omega)
    rw [hh]
    simp only [mkS1]
    rw [wr (x := k + 2 * (i : Int) + 1) (by omega)]
    refine ⟨fun h => absurd trivial h, fun _ => ⟨hlt, by omega, fun h => absurd rfl h, fun _ => ?_⟩⟩
    rw [wr (by omega), wr (by omega)]
    exact ⟨i + 1, ⟨by omega, leafJ (by omega), leafJ (by omega)⟩, by omega⟩
  · (refine hQ _ ?_; simp only [vmA, Nat.reduceEqDiff, reduceIte, Nat.reduceAdd, Nat.reduceBEq, reduceCtorEq, Nat.reduceLT, Int.reduceLE, Int.reduceLT, Int.reduceEq, Nat.reduceMul, Nat.reduceLeDiff, Try.f26, retG, resL, St.closeVs, St.closeV, e0, e1, e5])
    exact leafJ (by rw [show i = n by omega])
theorem f68 (xs : List Spt) : FxR 68 [.own 2 (xs.map sA)] fun r l => r = .own 2 (xs.map sA) ∧ l = .tup [] := by
  refine fn_ofW false (k := 0) Try.func68 (by kernel_rfl) rfl (by kernel_rfl) (by kernel_rfl) (Nat.le_of_ble_eq_true rfl) rfl ⟨_, _, .inl rfl⟩ rfl fun Q hQ => ?_
  simp only [vmA, Nat.reduceEqDiff, reduceIte, Nat.reduceAdd, Nat.reduceBEq, reduceCtorEq, Nat.reduceLT, Int.reduceLE, Int.reduceLT, Int.reduceEq, Nat.reduceMul, Nat.reduceLeDiff, List.length_map]
  (refine hQ _ ?_; simp only [vmA, Nat.reduceEqDiff, reduceIte, Nat.reduceAdd, Nat.reduceBEq, reduceCtorEq, Nat.reduceLT, Int.reduceLE, Int.reduceLT, Int.reduceEq, Nat.reduceMul, Nat.reduceLeDiff, Try.f68, retG, resL, St.closeVs, St.closeV, leftV, ghostW, List.length_map, take_map_len, Nat.sub_zero, Int.toNat_zero])
theorem f42 (xs : List Spt) (c : Bool) (hl : xs.length ≤ 1048576) : Fx 42 [.fro none c (xs.map sA)] (.own 2 (xs.map sA)) := by
  refine FxR.weakR' (R := fun r l => ((xs = [] ∧ r = .fro none true []) ∨ r = .own 2 (xs.map sA)) ∧ l = .und) ?_ ?_
  rotate_left
  · rintro _ _ ⟨⟨rfl, rfl⟩ | rfl, rfl⟩
    · exact ⟨_, ⟨rfl, rfl⟩, weak_nil 2⟩
    · exact ⟨_, ⟨rfl, rfl⟩, Weak.refl _⟩
  refine fn_ofR false Try.func42 (by kernel_rfl) rfl (by kernel_rfl) (by kernel_rfl) (Nat.le_of_ble_eq_true rfl) rfl fun Q hQ => ?_
  simp only [vmA, Nat.reduceEqDiff, reduceIte, Nat.reduceAdd, Nat.reduceBEq, reduceCtorEq, Nat.reduceLT, Int.reduceLE, Int.reduceLT, Int.reduceEq, Nat.reduceMul, Nat.reduceLeDiff, List.length_map]
  refine ⟨fun h => ?_, fun h => ?_⟩
  · (refine hQ _ ?_; simp only [vmA, Nat.reduceEqDiff, reduceIte, Nat.reduceAdd, Nat.reduceBEq, reduceCtorEq, Nat.reduceLT, Int.reduceLE, Int.reduceLT, Int.reduceEq, Nat.reduceMul, Nat.reduceLeDiff, Try.f42, retG, resL, St.closeVs, St.closeV])
    exact List.eq_nil_of_length_eq_zero (by omega)
  · refine ⟨fun z hz => ?_, ?_⟩
    · obtain ⟨b, _, rfl⟩ := List.mem_map.1 hz; rfl
    refine ⟨.inl trivial, by omega, callR (f68 xs) ?_⟩
    rintro _ _ ⟨rfl, rfl⟩
    simp only [vmA, Nat.reduceEqDiff, reduceIte, Nat.reduceAdd, Nat.reduceBEq, reduceCtorEq, Nat.reduceLT, Int.reduceLE, Int.reduceLT, Int.reduceEq, Nat.reduceMul, Nat.reduceLeDiff, List.length_map]
    (refine hQ _ ?_; simp only [vmA, Nat.reduceEqDiff, reduceIte, Nat.reduceAdd, Nat.reduceBEq, reduceCtorEq, Nat.reduceLT, Int.reduceLE, Int.reduceLT, Int.reduceEq, Nat.reduceMul, Nat.reduceLeDiff, Try.f42, retG, resL, St.closeVs, St.closeV, List.length_map, take_map_len])
theorem f44 (a : Int) (r : List Val) (c : Bool) (hw : winP r) : Fx 44 [.int .i64 a, .fro none c (r.map vA)] (.int .i64 (if r[2]!.k = 1 then IntKind.i64.wrap (a + r[2]!.n) else a)) := by
  have hl := hw.1
  refine fn_of false Try.func44 (by kernel_rfl) rfl (by kernel_rfl) (by kernel_rfl) (Nat.le_of_ble_eq_true rfl) rfl fun Q hQ => ?_
  have h3 : ((2 : Int) < r.length) = True := eq_true (by omega)
  have h4 : (2 < r.length) = True := eq_true (by omega)
  simp only [vmA, Nat.reduceEqDiff, reduceIte, Nat.reduceAdd, Nat.reduceBEq, reduceCtorEq, Nat.reduceLT, Int.reduceLE, Int.reduceLT, Int.reduceEq, Nat.reduceMul, Nat.reduceLeDiff, vA, List.length_map, show Int.toNat 2 = 2 from rfl, h3, h4]
  refine ⟨fun h => ?_, fun h => ?_⟩ <;> (refine hQ _ ?_; simp only [vmA, Nat.reduceEqDiff, reduceIte, Nat.reduceAdd, Nat.reduceBEq, reduceCtorEq, Nat.reduceLT, Int.reduceLE, Int.reduceLT, Int.reduceEq, Nat.reduceMul, Nat.reduceLeDiff, Try.f44, retG, resL, St.closeVs, St.closeV]) <;> refine leafJ ?_
  · rw [if_pos h]
  · rw [if_neg h]
