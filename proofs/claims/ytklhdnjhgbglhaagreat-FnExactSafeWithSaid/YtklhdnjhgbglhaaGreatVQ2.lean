/- WALK of functions of the seat, or plain laws for it: each theorem f<k> says what function k returns, for every world and all arguments that stand for the values named. Conditions: none but those ahead of each theorem. -/
import Derived.Test.YtklhdnjhgbglhaaGreatVQ1
open Go Go.Vm Go.Proofs
set_option maxRecDepth 100000
set_option maxHeartbeats 8000000
set_option linter.unusedSimpArgs false
set_option linter.unusedVariables false
def noDan (ts : List Tx) (n : Nat) : Prop := ∀ m, m < n → ¬ danN ts m
theorem noDan_zero (ts : List Tx) : noDan ts 0 := fun m hm => absurd hm (Nat.not_lt_zero _)
theorem noDan_next {ts : List Tx} {a b c : Nat} (h : noDan ts (16 * a + 4 * b + c)) (hb : b < 4) (hc : c < 4) (h2 : ¬ danP ts a b c) : noDan ts (16 * a + 4 * b + (c + 1)) := fun m hm => by
  by_cases hx : m = 16 * a + 4 * b + c
  · rw [hx, danN_abc hb hc]; exact h2
  · exact h m (by omega)
theorem f71 (h : Hs) (ho : okH h) (hp : houseP h) : Fx 71 [hA h] (.own 1 ((danL h.tx).map iA)) := by
  have h4 := hp.2.2.2.1
  refine fn_of ⟨false, [], []⟩ Tryz.func71 (by kernel_rfl) rfl (by kernel_rfl) (by kernel_rfl) (Nat.le_of_ble_eq_true rfl) rfl fun Q hQ => ?_
  simp only [vmA, Nat.reduceEqDiff, reduceIte, Nat.reduceAdd, Nat.reduceBEq, reduceCtorEq, Nat.reduceLT, Int.reduceLE, Int.reduceLT, Int.reduceEq, Nat.reduceMul, Nat.reduceLeDiff, hA]
  refine WT_loop (fun (a : Nat) σ => (a ≤ 4 ∧ noDan h.tx (16 * a)) ∧ σ.sl 3 = .int .i64 a ∧ σ.sl 1 = .ptr 64 1 0 0 ∧ (σ.en 64).live = true ∧ (σ.en 64).gen = 1 ∧ (σ.en 64).frz = false ∧ (σ.en 64).sz = 3 ∧ (σ.en 64).elems = [hA h]) (fun a => 4 - a) (0) ⟨⟨Nat.zero_le _, noDan_zero _⟩, by simp [vmI, hA], by simp [vmI, hA], by simp [vmI, hA], by simp [vmI, hA], by simp [vmI, hA], by simp [vmI, hA], by simp [vmI, hA]⟩ ?_
  rintro a σ ⟨hn, e3, e1, m64a, m64b, m64c, m64d, m64e⟩
  obtain ⟨ha, hn⟩ := hn
  simp only [vmA, Nat.reduceEqDiff, reduceIte, Nat.reduceAdd, Nat.reduceBEq, reduceCtorEq, Nat.reduceLT, Int.reduceLE, Int.reduceLT, Int.reduceEq, Nat.reduceMul, Nat.reduceLeDiff, e3, e1, m64a, m64b, m64c, m64d, m64e, hA]
  refine ⟨fun hlt => callD (f53 h ho) ?_, fun hge => ?_⟩
  · simp only [vmA, Nat.reduceEqDiff, reduceIte, Nat.reduceAdd, Nat.reduceBEq, reduceCtorEq, Nat.reduceLT, Int.reduceLE, Int.reduceLT, Int.reduceEq, Nat.reduceMul, Nat.reduceLeDiff, e3, e1, m64a, m64b, m64c, m64d, m64e, hA, decide_eq_true hp]
    refine WT_loop (fun (b : Nat) σ => (b ≤ 4 ∧ noDan h.tx (16 * a + 4 * b)) ∧ σ.sl 4 = .int .i64 b ∧ σ.sl 3 = .int .i64 a ∧ σ.sl 1 = .ptr 64 1 0 0 ∧ (σ.en 64).live = true ∧ (σ.en 64).gen = 1 ∧ (σ.en 64).frz = false ∧ (σ.en 64).sz = 3 ∧ (σ.en 64).elems = [hA h]) (fun b => 4 - b) (0) ⟨⟨Nat.zero_le _, hn⟩, by simp [vmI, e3, e1, m64a, m64b, m64c, m64d, m64e, hA], by simp [vmI, e3, e1, m64a, m64b, m64c, m64d, m64e, hA], by simp [vmI, e3, e1, m64a, m64b, m64c, m64d, m64e, hA], by simp [vmI, e3, e1, m64a, m64b, m64c, m64d, m64e, hA], by simp [vmI, e3, e1, m64a, m64b, m64c, m64d, m64e, hA], by simp [vmI, e3, e1, m64a, m64b, m64c, m64d, m64e, hA], by simp [vmI, e3, e1, m64a, m64b, m64c, m64d, m64e, hA], by simp [vmI, e3, e1, m64a, m64b, m64c, m64d, m64e, hA]⟩ ?_
    clear e3 e1 m64a m64b m64c m64d m64e
    rintro b σ ⟨hn, e4, e3, e1, m64a, m64b, m64c, m64d, m64e⟩
    obtain ⟨hb, hn⟩ := hn
    simp only [vmA, Nat.reduceEqDiff, reduceIte, Nat.reduceAdd, Nat.reduceBEq, reduceCtorEq, Nat.reduceLT, Int.reduceLE, Int.reduceLT, Int.reduceEq, Nat.reduceMul, Nat.reduceLeDiff, e4, e3, e1, m64a, m64b, m64c, m64d, m64e, hA]
    refine ⟨fun hlt2 => ?_, fun hge2 => ?_⟩
    · skip
      refine WT_loop (fun (c : Nat) σ => (c ≤ 4 ∧ noDan h.tx (16 * a + 4 * b + c)) ∧ σ.sl 5 = .int .i64 c ∧ σ.sl 4 = .int .i64 b ∧ σ.sl 3 = .int .i64 a ∧ σ.sl 1 = .ptr 64 1 0 0 ∧ (σ.en 64).live = true ∧ (σ.en 64).gen = 1 ∧ (σ.en 64).frz = false ∧ (σ.en 64).sz = 3 ∧ (σ.en 64).elems = [hA h]) (fun c => 4 - c) (0) ⟨⟨Nat.zero_le _, hn⟩, by simp [vmI, e4, e3, e1, m64a, m64b, m64c, m64d, m64e, hA], by simp [vmI, e4, e3, e1, m64a, m64b, m64c, m64d, m64e, hA], by simp [vmI, e4, e3, e1, m64a, m64b, m64c, m64d, m64e, hA], by simp [vmI, e4, e3, e1, m64a, m64b, m64c, m64d, m64e, hA], by simp [vmI, e4, e3, e1, m64a, m64b, m64c, m64d, m64e, hA], by simp [vmI, e4, e3, e1, m64a, m64b, m64c, m64d, m64e, hA], by simp [vmI, e4, e3, e1, m64a, m64b, m64c, m64d, m64e, hA], by simp [vmI, e4, e3, e1, m64a, m64b, m64c, m64d, m64e, hA], by simp [vmI, e4, e3, e1, m64a, m64b, m64c, m64d, m64e, hA]⟩ ?_
      clear e4 e3 e1 m64a m64b m64c m64d m64e
      rintro c σ ⟨hn, e5, e4, e3, e1, m64a, m64b, m64c, m64d, m64e⟩
      obtain ⟨hc, hn⟩ := hn
      have nx : c < 4 → ¬ danP h.tx a b c → c + 1 ≤ 4 ∧ noDan h.tx (16 * a + 4 * b + (c + 1)) := fun hc hx => ⟨by omega, noDan_next hn (by omega) hc hx⟩
      simp only [vmA, Nat.reduceEqDiff, reduceIte, Nat.reduceAdd, Nat.reduceBEq, reduceCtorEq, Nat.reduceLT, Int.reduceLE, Int.reduceLT, Int.reduceEq, Nat.reduceMul, Nat.reduceLeDiff, e5, e4, e3, e1, m64a, m64b, m64c, m64d, m64e, hA]
      refine ⟨fun hlt3 => callD (f132 h a b ho h4 (by omega) (by omega)) ?_, fun hge3 => ?_⟩
      · simp only [vmA, Nat.reduceEqDiff, reduceIte, Nat.reduceAdd, Nat.reduceBEq, reduceCtorEq, Nat.reduceLT, Int.reduceLE, Int.reduceLT, Int.reduceEq, Nat.reduceMul, Nat.reduceLeDiff, e5, e4, e3, e1, m64a, m64b, m64c, m64d, m64e, hA]
        refine ⟨fun q1 => callD (f132 h b c ho h4 (by omega) (by omega)) ?_, fun q1 => ?_⟩
        · simp only [vmA, Nat.reduceEqDiff, reduceIte, Nat.reduceAdd, Nat.reduceBEq, reduceCtorEq, Nat.reduceLT, Int.reduceLE, Int.reduceLT, Int.reduceEq, Nat.reduceMul, Nat.reduceLeDiff, e5, e4, e3, e1, m64a, m64b, m64c, m64d, m64e, hA, xA, List.length_map, h4]
          refine ⟨fun q2 => ⟨by omega, by omega, by omega, by omega, callD (f133 h.tx[a]! h.tx[b]!) ?_⟩, fun q2 => ?_⟩
          · simp only [vmA, Nat.reduceEqDiff, reduceIte, Nat.reduceAdd, Nat.reduceBEq, reduceCtorEq, Nat.reduceLT, Int.reduceLE, Int.reduceLT, Int.reduceEq, Nat.reduceMul, Nat.reduceLeDiff, e5, e4, e3, e1, m64a, m64b, m64c, m64d, m64e, hA, xA, List.length_map, h4]
            refine ⟨fun q3 => ⟨by omega, by omega, by omega, by omega, callD (f133 h.tx[b]! h.tx[c]!) ?_⟩, fun q3 => ?_⟩
            · simp only [vmA, Nat.reduceEqDiff, reduceIte, Nat.reduceAdd, Nat.reduceBEq, reduceCtorEq, Nat.reduceLT, Int.reduceLE, Int.reduceLT, Int.reduceEq, Nat.reduceMul, Nat.reduceLeDiff, e5, e4, e3, e1, m64a, m64b, m64c, m64d, m64e, hA, xA, List.length_map, h4]
              refine ⟨fun q4 => ⟨by omega, by omega, by omega, by omega, fun q5 => ⟨by omega, by omega, by omega, by omega, fun q6 => ?_, fun q6 => ?_⟩, fun q5 => ?_⟩, fun q4 => ?_⟩
              · have hd : danL h.tx = [(a : Int), (b : Int), (c : Int)] := by
                  rw [danL_some (by omega) ((danN_abc (by omega) (by omega)).2 ⟨q1, q2, q3, q4, q5, q6⟩) hn, three_abc (by omega) (by omega)]
                (refine hQ _ ?_; simp only [vmA, Nat.reduceEqDiff, reduceIte, Nat.reduceAdd, Nat.reduceBEq, reduceCtorEq, Nat.reduceLT, Int.reduceLE, Int.reduceLT, Int.reduceEq, Nat.reduceMul, Nat.reduceLeDiff, Tryz.f71, retG, resL, St.closeVs, St.closeV, hd])
              · rw [wr (by omega)]
                exact ⟨c + 1, ⟨nx (by omega) fun z => q6 z.2.2.2.2.2, rfl⟩, by omega⟩
              · rw [wr (by omega)]
                exact ⟨c + 1, ⟨nx (by omega) fun z => q5 z.2.2.2.2.1, rfl⟩, by omega⟩
              · rw [wr (by omega)]
                exact ⟨c + 1, ⟨nx (by omega) fun z => q4 z.2.2.2.1, rfl⟩, by omega⟩
            · rw [wr (by omega)]
              exact ⟨c + 1, ⟨nx (by omega) fun z => q3 z.2.2.1, rfl⟩, by omega⟩
          · rw [wr (by omega)]
            exact ⟨c + 1, ⟨nx (by omega) fun z => q2 z.2.1, rfl⟩, by omega⟩
        · rw [wr (by omega)]
          exact ⟨c + 1, ⟨nx (by omega) fun z => q1 z.1, rfl⟩, by omega⟩
      · rw [wr (by omega)]
        obtain rfl : c = 4 := by omega
        exact ⟨b + 1, ⟨⟨by omega, hn⟩, rfl⟩, by omega⟩
    · rw [wr (by omega)]
      obtain rfl : b = 4 := by omega
      exact ⟨a + 1, ⟨⟨by omega, hn⟩, rfl⟩, by omega⟩
  · obtain rfl : a = 4 := by omega
    have hd := danL_none hn
    (refine hQ _ ?_; simp only [vmA, Nat.reduceEqDiff, reduceIte, Nat.reduceAdd, Nat.reduceBEq, reduceCtorEq, Nat.reduceLT, Int.reduceLE, Int.reduceLT, Int.reduceEq, Nat.reduceMul, Nat.reduceLeDiff, Tryz.f71, retG, resL, St.closeVs, St.closeV, hd])
