/- WALK of functions of the seat, or plain laws for it: each theorem f<k> says what function k returns, for every world and all arguments that stand for the values named. Conditions: none but those ahead of each theorem. -/
import Derived.Test.YtfimolakepbdbaaYA1
open Go Go.Vm Go.Proofs
set_option maxRecDepth 100000
set_option linter.unusedSimpArgs false
set_option linter.unusedVariables false
theorem exT_ens' {c : Prop} [Decidable c] {K : Unit → Prop} {t : Tag K} (h : c) (hk : K ()) : exT (ensure c) K t := ⟨(), if_pos h, hk⟩
theorem FxR.weakR' {f : Nat} {args : List AV} {R R' : AV → AV → Prop} (h : FxR f args R) (hR : ∀ r l, R r l → ∃ r', R' r' l ∧ Weak r r') : FxR f args R' := ⟨h.1, h.2.weak hR⟩
theorem f33 (xs : List Val) (c : Bool) (hl : xs.length ≤ 1048576) : Fx 33 [.fro none c (xs.map vA)] (.own 3 (xs.map vA)) := by
  rcases xs with _ | ⟨x, xs⟩
  · refine fn_of false Try.func33 (by kernel_rfl) rfl (by kernel_rfl) (by kernel_rfl) (Nat.le_of_ble_eq_true rfl) rfl fun Q hQ => ?_
    simp only [vmA, Nat.reduceEqDiff, reduceIte, Nat.reduceAdd, Nat.reduceBEq, reduceCtorEq, Nat.reduceLT, Int.reduceLE, Int.reduceLT, Int.reduceEq, Nat.reduceMul, Nat.reduceLeDiff, List.length_map]
    (refine hQ _ ?_; simp only [vmA, Nat.reduceEqDiff, reduceIte, Nat.reduceAdd, Nat.reduceBEq, reduceCtorEq, Nat.reduceLT, Int.reduceLE, Int.reduceLT, Int.reduceEq, Nat.reduceMul, Nat.reduceLeDiff, Try.f33, retG, resL, St.closeVs, St.closeV, List.length_map])
  generalize hys : x :: xs = ys at hl
  have hne : ¬ ys.map vA = [] := by rw [← hys]; simp
  refine fn_of false Try.func33 (by kernel_rfl) rfl (by kernel_rfl) (by kernel_rfl) (Nat.le_of_ble_eq_true rfl) rfl fun Q hQ => ?_
  simp only [vmA, Nat.reduceEqDiff, reduceIte, Nat.reduceAdd, Nat.reduceBEq, reduceCtorEq, Nat.reduceLT, Int.reduceLE, Int.reduceLT, Int.reduceEq, Nat.reduceMul, Nat.reduceLeDiff, List.length_map]
  refine ⟨fun z hz => ?_, ?_⟩
  · obtain ⟨b, _, rfl⟩ := List.mem_map.1 hz; rfl
  simp only [vmA, Nat.reduceEqDiff, reduceIte, Nat.reduceAdd, Nat.reduceBEq, reduceCtorEq, Nat.reduceLT, Int.reduceLE, Int.reduceLT, Int.reduceEq, Nat.reduceMul, Nat.reduceLeDiff, List.length_map, hne, not_false_eq_true]
  refine ⟨by omega, ?_⟩
  (refine hQ _ ?_; simp only [vmA, Nat.reduceEqDiff, reduceIte, Nat.reduceAdd, Nat.reduceBEq, reduceCtorEq, Nat.reduceLT, Int.reduceLE, Int.reduceLT, Int.reduceEq, Nat.reduceMul, Nat.reduceLeDiff, Try.f33, retG, resL, St.closeVs, St.closeV, List.length_map, take_map_len])
theorem f91 (xs : List Val) : FxR 91 [.own 3 (xs.map vA)] fun r l => r = .own 3 (xs.map vA) ∧ l = .tup [] := by
  refine fn_ofW false (k := 0) Try.func91 (by kernel_rfl) rfl (by kernel_rfl) (by kernel_rfl) (Nat.le_of_ble_eq_true rfl) rfl ⟨_, _, .inl rfl⟩ rfl fun Q hQ => ?_
  simp only [vmA, Nat.reduceEqDiff, reduceIte, Nat.reduceAdd, Nat.reduceBEq, reduceCtorEq, Nat.reduceLT, Int.reduceLE, Int.reduceLT, Int.reduceEq, Nat.reduceMul, Nat.reduceLeDiff, List.length_map]
  (refine hQ _ ?_; simp only [vmA, Nat.reduceEqDiff, reduceIte, Nat.reduceAdd, Nat.reduceBEq, reduceCtorEq, Nat.reduceLT, Int.reduceLE, Int.reduceLT, Int.reduceEq, Nat.reduceMul, Nat.reduceLeDiff, Try.f91, retG, resL, St.closeVs, St.closeV, leftV, ghostW, List.length_map, take_map_len, Nat.sub_zero, Int.toNat_zero])
theorem f80 (xs : List Val) (c : Bool) (hl : xs.length ≤ 1048576) : Fx 80 [.fro none c (xs.map vA)] (.own 3 (xs.map vA)) := by
  refine FxR.weakR' (R := fun r l => ((xs = [] ∧ r = .fro none true []) ∨ r = .own 3 (xs.map vA)) ∧ l = .und) ?_ ?_
  rotate_left
  · rintro _ _ ⟨⟨rfl, rfl⟩ | rfl, rfl⟩
    · exact ⟨_, ⟨rfl, rfl⟩, weak_nil 3⟩
    · exact ⟨_, ⟨rfl, rfl⟩, Weak.refl _⟩
  refine fn_ofR false Try.func80 (by kernel_rfl) rfl (by kernel_rfl) (by kernel_rfl) (Nat.le_of_ble_eq_true rfl) rfl fun Q hQ => ?_
  simp only [vmA, Nat.reduceEqDiff, reduceIte, Nat.reduceAdd, Nat.reduceBEq, reduceCtorEq, Nat.reduceLT, Int.reduceLE, Int.reduceLT, Int.reduceEq, Nat.reduceMul, Nat.reduceLeDiff, List.length_map]
  refine ⟨fun h => ?_, fun h => ?_⟩
  · (refine hQ _ ?_; simp only [vmA, Nat.reduceEqDiff, reduceIte, Nat.reduceAdd, Nat.reduceBEq, reduceCtorEq, Nat.reduceLT, Int.reduceLE, Int.reduceLT, Int.reduceEq, Nat.reduceMul, Nat.reduceLeDiff, Try.f80, retG, resL, St.closeVs, St.closeV])
    exact List.eq_nil_of_length_eq_zero (by omega)
  · refine ⟨fun z hz => ?_, ?_⟩
    · obtain ⟨b, _, rfl⟩ := List.mem_map.1 hz; rfl
    refine ⟨.inl trivial, by omega, callR (f91 xs) ?_⟩
    rintro _ _ ⟨rfl, rfl⟩
    simp only [vmA, Nat.reduceEqDiff, reduceIte, Nat.reduceAdd, Nat.reduceBEq, reduceCtorEq, Nat.reduceLT, Int.reduceLE, Int.reduceLT, Int.reduceEq, Nat.reduceMul, Nat.reduceLeDiff, List.length_map]
    (refine hQ _ ?_; simp only [vmA, Nat.reduceEqDiff, reduceIte, Nat.reduceAdd, Nat.reduceBEq, reduceCtorEq, Nat.reduceLT, Int.reduceLE, Int.reduceLT, Int.reduceEq, Nat.reduceMul, Nat.reduceLeDiff, Try.f80, retG, resL, St.closeVs, St.closeV, List.length_map, take_map_len])
theorem take_next {α : Type} [Inhabited α] (ws : List α) (i : Nat) (h : i < ws.length) : ws.take (i + 1) = ws.take i ++ [ws[i]!] := by
  rw [List.take_add_one, getElem!_pos ws i h]; simp [h]
theorem leafJ {k : IntKind} {a b : Int} (h : a = b) : AV.int k a = AV.int k b := by rw [h]
theorem binStr_add (a b : ByteArray) (h : a.size + b.size ≤ 9223372036854775807) : binStr .add a b = some (.str (a ++ b)) := by
  simp only [binStr]
  rw [if_neg (by omega)]
theorem textOf_one (n : Int) : (textOf [n]).size = 1 := rfl
theorem cv22 (m : Md) (σ : St) (x : AV) : convA (CC m) σ 30 9 x = convS (CC m) σ 30 9 x := by
  unfold convA
  have h1 : convF (CC m) 30 9 x = none := by simp only [convF, tt30, tt9, Option.bind_eq_bind, Option.bind_some]
  have h2 : convB (CC m) 30 9 x = none := by simp only [convB, tt30, tt9, Option.bind_eq_bind, Option.bind_some]
  rw [h1, h2]
  cases convS (CC m) σ 30 9 x <;> rfl
/-- Marks on a row of values. -/
theorem set_vA (ys : List Val) (i : Nat) (a b : Int) (s : ByteArray) : (ys.map vA).set i (.agg [.int .i64 a, .int .i64 b, .str s]) = (ys.set i ⟨a, b, s⟩).map vA := by rw [List.map_set]; rfl
theorem get_set {α : Type} [Inhabited α] (ys : List α) (i : Nat) (v : α) (h : i < ys.length) : (ys.set i v)[i]! = v := by rw [getElem!_pos _ i (by simpa using h), List.getElem_set_self]
/-- The text of a mark. -/
def mkD (k : Int) (s : ByteArray) : ByteArray := if h : k ≤ 0 then s else mkD (k.tdiv 10) (textOf [IntKind.u8.wrap (IntKind.i64.wrap (48 + k.tmod 10))] ++ s)
termination_by k.toNat
decreasing_by
  have : k.tdiv 10 ≤ k - 1 := by
    rw [Int.tdiv_eq_ediv_of_nonneg (by omega)]
    omega
  omega
def mkT (k : Int) : ByteArray := if k ≤ 0 then ⟨⟨[109, 48]⟩⟩ else ⟨⟨[109]⟩⟩ ++ mkD k ⟨⟨[]⟩⟩
theorem f62p (k : Int) (hk : k ≤ 4611686018427387904) : Fx 62 [.int .i64 k] (.str (mkT k)) := by
  refine fn_of false Try.func62 (by kernel_rfl) rfl (by kernel_rfl) (by kernel_rfl) (Nat.le_of_ble_eq_true rfl) rfl fun Q hQ => ?_
  simp only [vmA, Nat.reduceEqDiff, reduceIte, Nat.reduceAdd, Nat.reduceBEq, reduceCtorEq, Nat.reduceLT, Int.reduceLE, Int.reduceLT, Int.reduceEq, Nat.reduceMul, Nat.reduceLeDiff]
  refine ⟨fun h => ?_, fun h => ?_⟩
  · (refine hQ _ ?_; simp only [vmA, Nat.reduceEqDiff, reduceIte, Nat.reduceAdd, Nat.reduceBEq, reduceCtorEq, Nat.reduceLT, Int.reduceLE, Int.reduceLT, Int.reduceEq, Nat.reduceMul, Nat.reduceLeDiff, Try.f62, retG, resL, St.closeVs, St.closeV])
    rw [mkT, if_pos (by omega)]
  refine WT_loop (fun (p : Int × ByteArray) σ => (0 ≤ p.1 ∧ p.1 + p.2.size ≤ k ∧ mkD p.1 p.2 = mkD k ⟨⟨[]⟩⟩) ∧ σ.sl 0 = .int .i64 p.1 ∧ σ.sl 3 = .str p.2) (fun p => p.1.toNat) (k, ⟨⟨[]⟩⟩) ⟨⟨by dsimp only; omega, by dsimp only; show k + ((0 : Nat) : Int) ≤ k; omega, rfl⟩, by simp [put_sl, put_en, put_none, init_sl, fresh_sl, fresh_en, ent_sl, ent_en, init_en], by simp [put_sl, put_en, put_none, init_sl, fresh_sl, fresh_en, ent_sl, ent_en, init_en]⟩ ?_
  rintro ⟨m, s⟩ σ ⟨⟨h0, h1, h2⟩, e0, e3⟩
  dsimp only at h0 h1 h2 e0 e3
  simp only [vmA, Nat.reduceEqDiff, reduceIte, Nat.reduceAdd, Nat.reduceBEq, reduceCtorEq, Nat.reduceLT, Int.reduceLE, Int.reduceLT, Int.reduceEq, Nat.reduceMul, Nat.reduceLeDiff, e0, e3, ↓cv22, convS, bytesL, intsOf, Int.reduceEq, Option.map_some]
  refine ⟨fun hlt => ?_, fun hge => ?_⟩
  · rw [binStr_add _ _ (by rw [textOf_one]; omega)]
    simp only [vmA, Nat.reduceEqDiff, reduceIte, Nat.reduceAdd, Nat.reduceBEq, reduceCtorEq, Nat.reduceLT, Int.reduceLE, Int.reduceLT, Int.reduceEq, Nat.reduceMul, Nat.reduceLeDiff, e0, e3, Int.reduceEq]
    have hq : 0 ≤ m.tdiv 10 ∧ m.tdiv 10 ≤ m - 1 := by
      rw [Int.tdiv_eq_ediv_of_nonneg (by omega)]
      omega
    rw [wr (x := m.tdiv 10) (by omega)]
    refine ⟨(m.tdiv 10, _ ++ s), ⟨⟨by dsimp only; omega, ?_, ?_⟩, rfl, rfl⟩, by dsimp only; omega⟩
    · dsimp only
      rw [ByteArray.size_append, textOf_one]
      omega
    · rw [← h2]
      conv => rhs; rw [mkD, dif_neg (by omega)]
  · rw [binStr_add _ _ (show 1 + s.size ≤ _ by omega)]
    simp only [vmA, Nat.reduceEqDiff, reduceIte, Nat.reduceAdd, Nat.reduceBEq, reduceCtorEq, Nat.reduceLT, Int.reduceLE, Int.reduceLT, Int.reduceEq, Nat.reduceMul, Nat.reduceLeDiff, e0, e3]
    (refine hQ _ ?_; simp only [vmA, Nat.reduceEqDiff, reduceIte, Nat.reduceAdd, Nat.reduceBEq, reduceCtorEq, Nat.reduceLT, Int.reduceLE, Int.reduceLT, Int.reduceEq, Nat.reduceMul, Nat.reduceLeDiff, Try.f62, retG, resL, St.closeVs, St.closeV, e0, e3])
    rw [mkT, if_neg (by omega), ← h2, mkD, dif_pos (by omega)]
/-- Lists that are marked one by one. -/
theorem mk_set {α : Type} [Inhabited α] (f : Nat → α) {ys : List α} {i : Nat} (hi : i < ys.length) (h : ∀ j, j < i → ys[j]! = f j) : ∀ j, j < i + 1 → (ys.set i (f i))[j]! = f j := fun j hj => by
  by_cases hji : j = i
  · subst hji; exact get_set _ _ _ hi
  · rw [getElem!_pos _ j (by simp; omega), List.getElem_set_ne (by omega), ← getElem!_pos ys j (by omega)]; exact h j (by omega)
theorem mk_all {α : Type} [Inhabited α] (f : Nat → α) {ys : List α} {n : Nat} (hl : ys.length = n) (h : ∀ j, j < n → ys[j]! = f j) : ys = (List.range n).map f := by
  refine List.ext_getElem (by simp [hl]) fun j h1 h2 => ?_
  have := h j (by omega)
  rw [getElem!_pos ys j h1] at this
  simpa using this
theorem mk_at {α : Type} [Inhabited α] (f : Nat → α) {n j : Nat} (h : j < n) : ((List.range n).map f)[j]! = f j := by
  rw [getElem!_pos _ j (by simpa using h)]; simp
theorem take_nx {α : Type} [Inhabited α] (ws : List α) (i : Nat) (h : i < ws.length) : ws.take (i + 1) = ws.take i ++ [ws[i]!] := by
  rw [List.take_add_one, getElem!_pos ws i h]; simp [h]
def mkV1 (k : Int) (j : Nat) : Val := ⟨k + 3 * j, k + 3 * j + 1, mkT (k + 3 * j + 2)⟩
def mkVs (n : Nat) (k : Int) : List Val := (List.range n).map (mkV1 k)
theorem mkVs_length (n : Nat) (k : Int) : (mkVs n k).length = n := by simp [mkVs]
theorem f37p (xs : List Val) (k : Int) (hk : 0 ≤ k) (hl : k + 3 * xs.length ≤ 4611686018427387904) : FxR 37 [.own 3 (xs.map vA), .int .i64 k] fun r l => r = .int .i64 (k + 3 * xs.length) ∧ l = .own 3 ((mkVs xs.length k).map vA) := by
  refine fn_ofW false (k := 0) Try.func37 (by kernel_rfl) rfl (by kernel_rfl) (by kernel_rfl) (Nat.le_of_ble_eq_true rfl) rfl ⟨_, _, .inl rfl⟩ rfl fun Q hQ => ?_
  simp only [vmA, Nat.reduceEqDiff, reduceIte, Nat.reduceAdd, Nat.reduceBEq, reduceCtorEq, Nat.reduceLT, Int.reduceLE, Int.reduceLT, Int.reduceEq, Nat.reduceMul, Nat.reduceLeDiff, List.length_map]
  refine WT_loop (fun (p : Nat × List Val) σ => (p.1 ≤ xs.length ∧ p.2.length = xs.length ∧ ∀ j, j < p.1 → p.2[j]! = mkV1 k j) ∧ σ.sl 0 = .hd 0 1 0 xs.length false ∧ (σ.en 0).live = true ∧ (σ.en 0).gen = 1 ∧ (σ.en 0).frz = false ∧ (σ.en 0).sz = 3 ∧ (σ.en 0).elems = p.2.map vA ∧ σ.sl 1 = .int .i64 (k + 3 * p.1) ∧ σ.sl 5 = .int .i64 p.1) (fun p => xs.length - p.1) (0, xs) ⟨⟨by simp, rfl, by simp⟩, by simp [put_sl, put_en, put_none, init_sl, fresh_sl, fresh_en, ent_sl, ent_en, init_en], by simp [put_sl, put_en, put_none, init_sl, fresh_sl, fresh_en, ent_sl, ent_en, init_en], by simp [put_sl, put_en, put_none, init_sl, fresh_sl, fresh_en, ent_sl, ent_en, init_en], by simp [put_sl, put_en, put_none, init_sl, fresh_sl, fresh_en, ent_sl, ent_en, init_en], by simp [put_sl, put_en, put_none, init_sl, fresh_sl, fresh_en, ent_sl, ent_en, init_en], by simp [put_sl, put_en, put_none, init_sl, fresh_sl, fresh_en, ent_sl, ent_en, init_en], by simp [put_sl, put_en, put_none, init_sl, fresh_sl, fresh_en, ent_sl, ent_en, init_en], by simp [put_sl, put_en, put_none, init_sl, fresh_sl, fresh_en, ent_sl, ent_en, init_en]⟩ ?_
  rintro ⟨i, ys⟩ σ ⟨⟨hi, hyl, hy⟩, e0, l1, l2, l3, l4, l5, e1, e5⟩
  dsimp only at hi hyl hy l5 e1 e5
  simp only [vmA, Nat.reduceEqDiff, reduceIte, Nat.reduceAdd, Nat.reduceBEq, reduceCtorEq, Nat.reduceLT, Int.reduceLE, Int.reduceLT, Int.reduceEq, Nat.reduceMul, Nat.reduceLeDiff, e0, l1, l2, l3, l4, l5, e1, e5, List.length_map, hyl, vA, set_vA]
  refine ⟨fun hlt => ⟨hlt, by omega, ?_, ?_, ?_⟩, fun hge => ?_⟩
  · simp <;> omega
  · simp <;> omega
  · simp (disch := omega) only [wr]
    refine callD (f62p _ (by omega)) ?_
    simp only [vmA, Nat.reduceEqDiff, reduceIte, Nat.reduceAdd, Nat.reduceBEq, reduceCtorEq, Nat.reduceLT, Int.reduceLE, Int.reduceLT, Int.reduceEq, Nat.reduceMul, Nat.reduceLeDiff, e0, l1, l2, l3, l4, l5, e1, e5, List.length_map, hyl, vA, set_vA, List.length_set]
    simp (disch := omega) only [wr]
    refine ⟨hlt, by omega, (i + 1, ys.set i (mkV1 k i)), ⟨⟨by dsimp only; omega, by simpa using hyl, mk_set _ (by omega) hy⟩, ?_, leafJ (by dsimp only; omega), rfl⟩, by dsimp only; omega⟩
    simp only [List.set_set, get_set ys i _ (show i < ys.length by omega), mkV1]
    rw [Int.add_assoc _ 1 1]
    rfl
  · (refine hQ _ ?_; simp only [vmA, Nat.reduceEqDiff, reduceIte, Nat.reduceAdd, Nat.reduceBEq, reduceCtorEq, Nat.reduceLT, Int.reduceLE, Int.reduceLT, Int.reduceEq, Nat.reduceMul, Nat.reduceLeDiff, Try.f37, retG, resL, St.closeVs, St.closeV, leftV, ghostW, e0, l1, l2, l3, l4, l5, e1, e5, List.length_map, hyl])
    obtain rfl : i = xs.length := by omega
    refine ⟨rfl, ?_⟩
    rw [List.take_of_length_le (by simp; omega), mk_all _ hyl hy]
    rfl
theorem f38 (n : Nat) (k : Int) (c : Bool) (hk : 0 ≤ k) (hl : k + 3 * n ≤ 4611686018427387904) : Fx 38 [.fro none c ((mkVs n k).map vA), .int .i64 k] (.int .i64 (k + 3 * n)) := by
  refine fn_of false Try.func38 (by kernel_rfl) rfl (by kernel_rfl) (by kernel_rfl) (Nat.le_of_ble_eq_true rfl) rfl fun Q hQ => ?_
  have hyl := mkVs_length n k
  have hy : ∀ i, i < n → (mkVs n k)[i]! = mkV1 k i := fun i hi => mk_at _ hi
  generalize mkVs n k = ys at hyl hy
  simp only [vmA, Nat.reduceEqDiff, reduceIte, Nat.reduceAdd, Nat.reduceBEq, reduceCtorEq, Nat.reduceLT, Int.reduceLE, Int.reduceLT, Int.reduceEq, Nat.reduceMul, Nat.reduceLeDiff, List.length_map, hyl]
  refine WT_loop (fun (i : Nat) σ => i ≤ n ∧ σ.sl 0 = .fro none c (ys.map vA) ∧ σ.sl 1 = .int .i64 (k + 3 * i) ∧ σ.sl 5 = .int .i64 i) (fun i => n - i) 0 ⟨by omega, by simp [put_sl, put_en, put_none, init_sl, fresh_sl, fresh_en, ent_sl, ent_en, init_en], by simp [put_sl, put_en, put_none, init_sl, fresh_sl, fresh_en, ent_sl, ent_en, init_en], by simp [put_sl, put_en, put_none, init_sl, fresh_sl, fresh_en, ent_sl, ent_en, init_en]⟩ ?_
  rintro i σ ⟨hi, e0, e1, e5⟩
  simp only [vmA, Nat.reduceEqDiff, reduceIte, Nat.reduceAdd, Nat.reduceBEq, reduceCtorEq, Nat.reduceLT, Int.reduceLE, Int.reduceLT, Int.reduceEq, Nat.reduceMul, Nat.reduceLeDiff, e0, e1, e5, List.length_map, hyl, vA]
  refine ⟨fun hlt => ⟨hlt, by omega, ?_⟩, fun hge => ?_⟩
  · have hh := hy i (by omega)
    rw [hh]
    simp only [mkV1]
    rw [wr (x := k + 3 * (i : Int) + 1) (by omega), wr (x := k + 3 * (i : Int) + 1 + 1) (by omega)]
    refine ⟨fun h => absurd trivial h, fun _ => ⟨hlt, by omega, fun h => absurd rfl h, fun _ => ⟨hlt, by omega, callD (f62p _ (by omega)) ?_⟩⟩⟩
    simp only [vmA, Nat.reduceEqDiff, reduceIte, Nat.reduceAdd, Nat.reduceBEq, reduceCtorEq, Nat.reduceLT, Int.reduceLE, Int.reduceLT, Int.reduceEq, Nat.reduceMul, Nat.reduceLeDiff, e0, e1, e5, List.length_map, hyl, vA]
    rw [wr (by omega), wr (by omega), show k + 3 * (i : Int) + 1 + 1 = k + 3 * (i : Int) + 2 by omega]
    exact ⟨fun h => absurd rfl h, fun _ => ⟨i + 1, ⟨by omega, leafJ (by omega), leafJ (by omega)⟩, by omega⟩⟩
  · (refine hQ _ ?_; simp only [vmA, Nat.reduceEqDiff, reduceIte, Nat.reduceAdd, Nat.reduceBEq, reduceCtorEq, Nat.reduceLT, Int.reduceLE, Int.reduceLT, Int.reduceEq, Nat.reduceMul, Nat.reduceLeDiff, Try.f38, retG, resL, St.closeVs, St.closeV, e0, e1, e5])
    exact leafJ (by omega)
