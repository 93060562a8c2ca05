/- WALK of functions of the seat, or plain laws for it: each theorem f<k> says what function k returns, for every world and all arguments that stand for the values named. Conditions: none but those ahead of each theorem. -/
import Derived.Test.YtklhdnjhgbglhaaGreatVEA
import Derived.Test.YtklhdnjhgbglhaaGreatVH7
section
/- Who is in the way: plain laws. -/
open Go Go.Vm Go.Proofs
set_option linter.unusedVariables false
def outN (L : List Int) (who : Int) (n : Nat) : List Int := ((List.range n).map fun n : Nat => (n : Int)).filter fun k => decide (k ∈ L ∧ k ≠ who)
def outS (L : List Int) (who : Int) : List Int := outN L who 4
theorem outN_yes {L : List Int} {who : Int} {n : Nat} (h1 : (n : Int) ∈ L) (h2 : (n : Int) ≠ who) : outN L who (n + 1) = outN L who n ++ [(n : Int)] := by
  unfold outN
  rw [List.range_succ, List.map_append, List.filter_append]
  simp [h1, h2]
theorem outN_no {L : List Int} {who : Int} {n : Nat} (h : ¬ ((n : Int) ∈ L ∧ (n : Int) ≠ who)) : outN L who (n + 1) = outN L who n := by
  unfold outN
  rw [List.range_succ, List.map_append, List.filter_append]
  have : List.filter (fun k => decide (k ∈ L ∧ k ≠ who)) (List.map (fun n : Nat => (n : Int)) [n]) = [] := by
    simp only [List.map_cons, List.map_nil, List.filter_cons, List.filter_nil]
    rw [if_neg (by simpa using h)]
  rw [this, List.append_nil]
theorem outN_length (L : List Int) (who : Int) (n : Nat) : (outN L who n).length ≤ n := by
  unfold outN
  refine Nat.le_trans (List.length_filter_le _ _) ?_
  simp
theorem outS_ord (L : List Int) (who : Int) : (outS L who).Pairwise (· < ·) := by
  unfold outS outN
  refine List.Pairwise.sublist List.filter_sublist ?_
  decide
theorem outS_mem {L : List Int} {who x : Int} : x ∈ outS L who ↔ (0 ≤ x ∧ x ≤ 3) ∧ x ∈ L ∧ x ≠ who := by
  unfold outS outN
  rw [List.mem_filter, decide_eq_true_eq]
  have : x ∈ List.map (fun n : Nat => (n : Int)) (List.range 4) ↔ 0 ≤ x ∧ x ≤ 3 := by
    simp only [List.mem_map, List.mem_range]
    constructor
    · rintro ⟨a, h, rfl⟩; omega
    · intro h; exact ⟨x.toNat, by omega, by omega⟩
  rw [this]
theorem ord_uniq : ∀ {a b : List Int}, a.Pairwise (· < ·) → b.Pairwise (· < ·) → (∀ x, x ∈ a ↔ x ∈ b) → a = b
  | [], [], _, _, _ => rfl
  | [], y :: ys, _, _, h => by have := (h y).2 (by simp); simp at this
  | x :: xs, [], _, _, h => by have := (h x).1 (by simp); simp at this
  | x :: xs, y :: ys, ha, hb, h => by
    rw [List.pairwise_cons] at ha hb
    have h1 := (h x).1 (by simp)
    have h2 := (h y).2 (by simp)
    have hxy : x = y := by
      rcases List.mem_cons.1 h1 with e | e
      · exact e
      · rcases List.mem_cons.1 h2 with e2 | e2
        · exact e2.symm
        · have := ha.1 _ e2
          have := hb.1 _ e
          omega
    subst hxy
    rw [ord_uniq ha.2 hb.2 fun z => ?_]
    constructor
    · intro hz
      rcases List.mem_cons.1 ((h z).1 (by simp [hz])) with e | e
      · have := ha.1 _ hz; omega
      · exact e
    · intro hz
      rcases List.mem_cons.1 ((h z).2 (by simp [hz])) with e | e
      · have := hb.1 _ hz; omega
      · exact e
theorem three_in {n : Nat} (hn : n < 64) : ∀ x ∈ threeN n, 0 ≤ x ∧ x ≤ 3 := by
  intro x hx
  unfold threeN at hx
  simp only [List.mem_cons, List.not_mem_nil, or_false] at hx
  omega
theorem dan_in (ts : List Tx) : ∀ x ∈ danL ts, 0 ≤ x ∧ x ≤ 3 := by
  intro x hx
  rcases danL_cases ts with h | ⟨n, hn, h⟩
  · rw [h] at hx; simp at hx
  · rw [h] at hx; exact three_in hn x hx
theorem dan_len (ts : List Tx) : (danL ts).length ≤ 3 := by
  rcases danL_cases ts with h | ⟨n, hn, h⟩ <;> rw [h]
  · exact Nat.zero_le _
  · exact Nat.le_refl _
/-- In order, without doubles: one list only. -/
theorem safe_out {L ys : List Int} {who : Int} (hL : ∀ x ∈ L, 0 ≤ x ∧ x ≤ 3) (ho : ys.Pairwise (· < ·)) (hm : ∀ x, x ∈ ys ↔ x ∈ L ∧ x ≠ who) : ys = outS L who :=
  ord_uniq ho (outS_ord L who) fun x => by
    rw [hm, outS_mem]
    exact ⟨fun h => ⟨hL x h.1, h⟩, fun h => h.2⟩
end
section
open Go Go.Vm Go.Proofs
set_option maxRecDepth 100000
set_option maxHeartbeats 8000000
set_option linter.unusedSimpArgs false
set_option linter.unusedVariables false
theorem mem_at {xs : List Int} {k : Int} : k ∈ xs ↔ ∃ j, j < xs.length ∧ xs[j]! = k := by
  rw [List.mem_iff_getElem]
  exact ⟨fun ⟨i, h, e⟩ => ⟨i, h, by rw [getElem!_pos xs i h]; exact e⟩, fun ⟨i, h, e⟩ => ⟨i, h, by rw [← getElem!_pos xs i h]; exact e⟩⟩
theorem own_has (k : Int) : ∀ (ws : List Wr) (i : Nat), 0 ≤ ownL k ws i ↔ hasW ws k
  | [], i => by
    unfold hasW ownL
    simp
  | w :: ws, i => by
    rw [ownL]
    by_cases h : w.key = k
    · rw [if_pos h]
      exact ⟨fun _ => ⟨w, by simp, h⟩, fun _ => by omega⟩
    · rw [if_neg h, own_has k ws (i + 1)]
      unfold hasW
      constructor
      · rintro ⟨x, hx, e⟩; exact ⟨x, by simp [hx], e⟩
      · rintro ⟨x, hx, e⟩
        rcases List.mem_cons.1 hx with rfl | hx
        · exact absurd e h
        · exact ⟨x, hx, e⟩
theorem blN_succ {a b : Tx} {k : Nat} (h : ¬ blN a b k) (h2 : ¬ ((k : Int) ∈ a.rd ∧ hasW b.ws k ∧ a.bg < b.fn)) : ¬ blN a b (k + 1) := by
  rintro ⟨j, hj, e⟩
  by_cases hjk : j = k
  · subst hjk; exact h2 e
  · exact h ⟨j, by omega, e⟩
theorem f226 (t : Tx) (key : Int) (hs : t.rd.length ≤ 9223372036854775807) : Fx 226 [xA t, .int .i64 key] (.bool (decide (key ∈ t.rd))) := by
  refine fn_of ⟨false, [], []⟩ Tryz.func226 (by kernel_rfl) rfl (by kernel_rfl) (by kernel_rfl) (Nat.le_of_ble_eq_true rfl) rfl fun Q hQ => ?_
  simp only [vmA, Nat.reduceEqDiff, reduceIte, Nat.reduceAdd, Nat.reduceBEq, reduceCtorEq, Nat.reduceLT, Int.reduceLE, Int.reduceLT, Int.reduceEq, Nat.reduceMul, Nat.reduceLeDiff, xA, List.length_map]
  refine WT_loop (fun (i : Nat) σ => (i ≤ t.rd.length ∧ ∀ j, j < i → t.rd[j]! ≠ key) ∧ σ.sl 5 = .int .i64 i ∧ σ.sl 2 = .ptr 128 1 0 0 ∧ (σ.en 128).live = true ∧ (σ.en 128).gen = 1 ∧ (σ.en 128).frz = false ∧ (σ.en 128).sz = 5 ∧ (σ.en 128).elems = [xA t] ∧ σ.sl 1 = .int .i64 key) (fun i => t.rd.length - i) (0) ⟨⟨Nat.zero_le _, fun j hj => absurd hj (Nat.not_lt_zero _)⟩, by simp [vmI, xA], by simp [vmI, xA], by simp [vmI, xA], by simp [vmI, xA], by simp [vmI, xA], by simp [vmI, xA], by simp [vmI, xA], by simp [vmI, xA]⟩ ?_
  rintro i σ ⟨hi, e5, e2, m128a, m128b, m128c, m128d, m128e, e1⟩
  obtain ⟨hi, hL⟩ := hi
  simp only [vmA, Nat.reduceEqDiff, reduceIte, Nat.reduceAdd, Nat.reduceBEq, reduceCtorEq, Nat.reduceLT, Int.reduceLE, Int.reduceLT, Int.reduceEq, Nat.reduceMul, Nat.reduceLeDiff, e5, e2, m128a, m128b, m128c, m128d, m128e, e1, xA, List.length_map]
  refine ⟨fun h => ⟨h, by omega, fun he => ?_, fun hne => ?_⟩, fun h => ?_⟩
  · (refine hQ _ ?_; simp only [vmA, Nat.reduceEqDiff, reduceIte, Nat.reduceAdd, Nat.reduceBEq, reduceCtorEq, Nat.reduceLT, Int.reduceLE, Int.reduceLT, Int.reduceEq, Nat.reduceMul, Nat.reduceLeDiff, Tryz.f226, retG, resL, St.closeVs, St.closeV, e5, e2, m128a, m128b, m128c, m128d, m128e, e1])
    exact leafG ⟨fun _ => mem_at.2 ⟨i, by omega, he⟩, fun _ => rfl⟩
  · rw [wr (by omega)]
    exact ⟨i + 1, ⟨⟨by omega, fun j hj => by
      by_cases hji : j = i
      · subst hji; exact hne
      · exact hL j (by omega)⟩, rfl⟩, by omega⟩
  · (refine hQ _ ?_; simp only [vmA, Nat.reduceEqDiff, reduceIte, Nat.reduceAdd, Nat.reduceBEq, reduceCtorEq, Nat.reduceLT, Int.reduceLE, Int.reduceLT, Int.reduceEq, Nat.reduceMul, Nat.reduceLeDiff, Tryz.f226, retG, resL, St.closeVs, St.closeV, e5, e2, m128a, m128b, m128c, m128d, m128e, e1])
    exact leafG ⟨fun e => (by cases e), fun e => by
      obtain ⟨j, hj, e⟩ := mem_at.1 e
      exact absurd e (hL j (by omega))⟩
theorem f190 (a b : Tx) (ha : okX a) (hb : okX b) : Fx 190 [xA a, xA b, .int .i64 3] (.bool (decide (blP a b))) := by
  refine fn_of ⟨false, [], []⟩ Tryz.func190 (by kernel_rfl) rfl (by kernel_rfl) (by kernel_rfl) (Nat.le_of_ble_eq_true rfl) rfl fun Q hQ => ?_
  simp only [vmA, Nat.reduceEqDiff, reduceIte, Nat.reduceAdd, Nat.reduceBEq, reduceCtorEq, Nat.reduceLT, Int.reduceLE, Int.reduceLT, Int.reduceEq, Nat.reduceMul, Nat.reduceLeDiff, xA]
  refine WT_loop (fun (k : Nat) σ => (k ≤ 5 ∧ ¬ blN a b k) ∧ σ.sl 7 = .int .i64 k ∧ σ.sl 3 = .ptr 192 1 0 0 ∧ (σ.en 192).live = true ∧ (σ.en 192).gen = 1 ∧ (σ.en 192).frz = false ∧ (σ.en 192).sz = 5 ∧ (σ.en 192).elems = [xA a] ∧ σ.sl 4 = .ptr 256 1 0 0 ∧ (σ.en 256).live = true ∧ (σ.en 256).gen = 1 ∧ (σ.en 256).frz = false ∧ (σ.en 256).sz = 5 ∧ (σ.en 256).elems = [xA b] ∧ σ.sl 2 = .int .i64 3) (fun k => 5 - k) (0) ⟨⟨Nat.zero_le _, fun ⟨j, hj, _⟩ => absurd hj (Nat.not_lt_zero _)⟩, by simp [vmI, xA], by simp [vmI, xA], by simp [vmI, xA], by simp [vmI, xA], by simp [vmI, xA], by simp [vmI, xA], by simp [vmI, xA], by simp [vmI, xA], by simp [vmI, xA], by simp [vmI, xA], by simp [vmI, xA], by simp [vmI, xA], by simp [vmI, xA], by simp [vmI, xA]⟩ ?_
  rintro k σ ⟨hk, e7, e3, m192a, m192b, m192c, m192d, m192e, e4, m256a, m256b, m256c, m256d, m256e, e2⟩
  obtain ⟨hk, hn⟩ := hk
  simp only [vmA, Nat.reduceEqDiff, reduceIte, Nat.reduceAdd, Nat.reduceBEq, reduceCtorEq, Nat.reduceLT, Int.reduceLE, Int.reduceLT, Int.reduceEq, Nat.reduceMul, Nat.reduceLeDiff, e7, e3, m192a, m192b, m192c, m192d, m192e, e4, m256a, m256b, m256c, m256d, m256e, e2, xA]
  refine ⟨fun hlt => callD (f127x a k ha.2.1) ?_, fun hge => ?_⟩
  · simp only [vmA, Nat.reduceEqDiff, reduceIte, Nat.reduceAdd, Nat.reduceBEq, reduceCtorEq, Nat.reduceLT, Int.reduceLE, Int.reduceLT, Int.reduceEq, Nat.reduceMul, Nat.reduceLeDiff, e7, e3, m192a, m192b, m192c, m192d, m192e, e4, m256a, m256b, m256c, m256d, m256e, e2, xA]
    refine callD (f127x b k hb.2.1) ?_
    simp only [vmA, Nat.reduceEqDiff, reduceIte, Nat.reduceAdd, Nat.reduceBEq, reduceCtorEq, Nat.reduceLT, Int.reduceLE, Int.reduceLT, Int.reduceEq, Nat.reduceMul, Nat.reduceLeDiff, e7, e3, m192a, m192b, m192c, m192d, m192e, e4, m256a, m256b, m256c, m256d, m256e, e2, xA]
    refine callD (f226 a k ha.1) ?_
    simp only [vmA, Nat.reduceEqDiff, reduceIte, Nat.reduceAdd, Nat.reduceBEq, reduceCtorEq, Nat.reduceLT, Int.reduceLE, Int.reduceLT, Int.reduceEq, Nat.reduceMul, Nat.reduceLeDiff, e7, e3, m192a, m192b, m192c, m192d, m192e, e4, m256a, m256b, m256c, m256d, m256e, e2, xA, decide_eq_true_eq]
    have e1 := own_has k b.ws 0
    have nx : ¬ ((k : Int) ∈ a.rd ∧ hasW b.ws k ∧ a.bg < b.fn) → k + 1 ≤ 5 ∧ ¬ blN a b (k + 1) := fun hx => ⟨by omega, blN_succ hn hx⟩
    refine ⟨fun h1 => ⟨fun h2 => ⟨fun h3 => ?_, fun h3 => ?_⟩, fun h2 => ?_⟩, fun h1 => ?_⟩
    · (refine hQ _ ?_; simp only [vmA, Nat.reduceEqDiff, reduceIte, Nat.reduceAdd, Nat.reduceBEq, reduceCtorEq, Nat.reduceLT, Int.reduceLE, Int.reduceLT, Int.reduceEq, Nat.reduceMul, Nat.reduceLeDiff, Tryz.f190, retG, resL, St.closeVs, St.closeV, e7, e3, m192a, m192b, m192c, m192d, m192e, e4, m256a, m256b, m256c, m256d, m256e, e2])
      exact leafG ⟨fun _ => ⟨k, by omega, h1, e1.1 h2, h3⟩, fun _ => rfl⟩
    · rw [wr (by omega)]
      exact ⟨k + 1, ⟨nx fun e => h3 e.2.2, rfl⟩, by omega⟩
    · rw [wr (by omega)]
      exact ⟨k + 1, ⟨nx fun e => h2 (e1.2 e.2.1), rfl⟩, by omega⟩
    · rw [wr (by omega)]
      exact ⟨k + 1, ⟨nx fun e => h1 e.1, rfl⟩, by omega⟩
  · (refine hQ _ ?_; simp only [vmA, Nat.reduceEqDiff, reduceIte, Nat.reduceAdd, Nat.reduceBEq, reduceCtorEq, Nat.reduceLT, Int.reduceLE, Int.reduceLT, Int.reduceEq, Nat.reduceMul, Nat.reduceLeDiff, Tryz.f190, retG, resL, St.closeVs, St.closeV, e7, e3, m192a, m192b, m192c, m192d, m192e, e4, m256a, m256b, m256c, m256d, m256e, e2])
    exact leafG ⟨fun e => (by cases e), fun e => by
      obtain rfl : k = 5 := by omega
      exact absurd e hn⟩
theorem f133 (a b : Tx) : Fx 133 [xA a, xA b] (.bool (decide (besP a b))) := by
  refine fn_of ⟨false, [], []⟩ Tryz.func133 (by kernel_rfl) rfl (by kernel_rfl) (by kernel_rfl) (Nat.le_of_ble_eq_true rfl) rfl fun Q hQ => ?_
  simp only [vmA, Nat.reduceEqDiff, reduceIte, Nat.reduceAdd, Nat.reduceBEq, reduceCtorEq, Nat.reduceLT, Int.reduceLE, Int.reduceLT, Int.reduceEq, Nat.reduceMul, Nat.reduceLeDiff, xA]
  refine ⟨fun h1 => ?_, fun h1 => ?_⟩
  · (refine hQ _ ?_; simp only [vmA, Nat.reduceEqDiff, reduceIte, Nat.reduceAdd, Nat.reduceBEq, reduceCtorEq, Nat.reduceLT, Int.reduceLE, Int.reduceLT, Int.reduceEq, Nat.reduceMul, Nat.reduceLeDiff, Tryz.f133, retG, resL, St.closeVs, St.closeV])
    exact leafB ⟨fun h => ⟨h1, h⟩, fun h => h.2⟩
  · (refine hQ _ ?_; simp only [vmA, Nat.reduceEqDiff, reduceIte, Nat.reduceAdd, Nat.reduceBEq, reduceCtorEq, Nat.reduceLT, Int.reduceLE, Int.reduceLT, Int.reduceEq, Nat.reduceMul, Nat.reduceLeDiff, Tryz.f133, retG, resL, St.closeVs, St.closeV])
    exact leafF fun h => h1 h.1
theorem f132 (h : Hs) (a b : Nat) (ho : okH h) (h4 : h.tx.length = 4) (ha : a < 4) (hb : b < 4) : Fx 132 [hA h, .int .i64 a, .int .i64 b, .int .i64 3] (.bool (decide (edgeP h.tx a b))) := by
  refine fn_of ⟨false, [], []⟩ Tryz.func132 (by kernel_rfl) rfl (by kernel_rfl) (by kernel_rfl) (Nat.le_of_ble_eq_true rfl) rfl fun Q hQ => ?_
  simp only [vmA, Nat.reduceEqDiff, reduceIte, Nat.reduceAdd, Nat.reduceBEq, reduceCtorEq, Nat.reduceLT, Int.reduceLE, Int.reduceLT, Int.reduceEq, Nat.reduceMul, Nat.reduceLeDiff, hA, xA, List.length_map, h4]
  have oa := ho.at (i := a) (by omega)
  have ob := ho.at (i := b) (by omega)
  refine ⟨fun h1 => ⟨by omega, by omega, fun h2 => ⟨by omega, by omega, fun h3 => ⟨by omega, by omega, by omega, by omega, callD (f190 h.tx[a]! h.tx[b]! oa ob) ?_⟩, fun h3 => ?_⟩, fun h2 => ?_⟩, fun h1 => ?_⟩
  · simp only [vmA, Nat.reduceEqDiff, reduceIte, Nat.reduceAdd, Nat.reduceBEq, reduceCtorEq, Nat.reduceLT, Int.reduceLE, Int.reduceLT, Int.reduceEq, Nat.reduceMul, Nat.reduceLeDiff, hA, xA, List.length_map, h4]
    (refine hQ _ ?_; simp only [vmA, Nat.reduceEqDiff, reduceIte, Nat.reduceAdd, Nat.reduceBEq, reduceCtorEq, Nat.reduceLT, Int.reduceLE, Int.reduceLT, Int.reduceEq, Nat.reduceMul, Nat.reduceLeDiff, Tryz.f132, retG, resL, St.closeVs, St.closeV])
    exact leafB ⟨fun e => ⟨fun e2 => h1 (by rw [e2]), h2, h3, e⟩, fun e => e.2.2.2⟩
  · (refine hQ _ ?_; simp only [vmA, Nat.reduceEqDiff, reduceIte, Nat.reduceAdd, Nat.reduceBEq, reduceCtorEq, Nat.reduceLT, Int.reduceLE, Int.reduceLT, Int.reduceEq, Nat.reduceMul, Nat.reduceLeDiff, Tryz.f132, retG, resL, St.closeVs, St.closeV])
    exact leafF fun e => h3 e.2.2.1
  · (refine hQ _ ?_; simp only [vmA, Nat.reduceEqDiff, reduceIte, Nat.reduceAdd, Nat.reduceBEq, reduceCtorEq, Nat.reduceLT, Int.reduceLE, Int.reduceLT, Int.reduceEq, Nat.reduceMul, Nat.reduceLeDiff, Tryz.f132, retG, resL, St.closeVs, St.closeV])
    exact leafF fun e => h2 e.2.1
  · (refine hQ _ ?_; simp only [vmA, Nat.reduceEqDiff, reduceIte, Nat.reduceAdd, Nat.reduceBEq, reduceCtorEq, Nat.reduceLT, Int.reduceLE, Int.reduceLT, Int.reduceEq, Nat.reduceMul, Nat.reduceLeDiff, Tryz.f132, retG, resL, St.closeVs, St.closeV])
    exact leafF fun e => e.1 (by omega)
end
