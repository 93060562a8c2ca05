/- WALK, or plain laws for it: theorem f<k> says what function k returns. Conditions: none but those ahead of each theorem. -/
import Derived.Test.YtklhdnjhgbglhaaGreatYEE
set_option linter.unusedVariables false
set_option linter.unusedSimpArgs false
open Nat renaming reduceEqDiff → sN1, reduceAdd → sN2, reduceBEq → sN3, reduceLT → sN4, reduceMul → sN5, reduceLeDiff → sN6, reduceSub → sN7
open Int renaming reduceLE → sI1, reduceLT → sI2, reduceEq → sI3
open Go Go.Vm Go.Proofs
set_option maxRecDepth 100000
set_option maxHeartbeats 8000000
theorem f146e {ts : List Tx} {L : List Ed} (hL : edI ts L 4 0 1) (hl : L.length ≤ 48) (hw : ∀ t ∈ ts, wrsP t.ws) (h4 : ts.length = 4) (a b : Nat) (ha : a < 4) (hb : b < 4) : Fx 146 [.int .i64 a, .int .i64 b, .cptr none [.fro none false (L.map dgA)]] (.bool (decide (edgeP ts a b))) := by
  have := f146 L false a b (by omega)
  rwa [decide_eq_decide.2 (dg_edge hL hw ha hb h4)] at this
theorem map_froize_dg (L : List Ed) : (L.map dgA).map froize = L.map dgA := by
  rw [List.map_map]
  exact List.map_congr_left fun t _ => rfl
theorem f87 (h : Hs) (ho : okH h) (hp : houseP h) : Fx 87 [hA h] (.own 1 ((danL h.tx).map iA)) := by
  have h4 := hp.2.2.2.1
  have hw : ∀ t ∈ h.tx, wrsP t.ws := fun t ht => by
    obtain ⟨i, hi, rfl⟩ := List.mem_iff_getElem.1 ht
    have := hp.2.2.2.2.1 i (by omega)
    rw [getElem!_pos h.tx i hi] at this
    rcases this with ⟨_, _, _, _, e⟩ | ⟨_, _, e⟩ | ⟨_, _, e⟩
    · rw [List.eq_nil_of_length_eq_zero e]
      intro i hi; exact absurd hi (Nat.not_lt_zero _)
    · exact e.2.2
    · exact e.2.2
  refine FxR.weakR' (R := fun r l => ((danL h.tx = [] ∧ r = .fro none true []) ∨ r = .own 1 ((danL h.tx).map iA)) ∧ l = .und) ?_ ?_
  rotate_left
  · rintro _ _ ⟨⟨h0, rfl⟩ | rfl, rfl⟩
    · exact ⟨_, ⟨rfl, rfl⟩, by rw [h0]; exact weak_nil 1⟩
    · exact ⟨_, ⟨rfl, rfl⟩, Weak.refl _⟩
  refine fn_ofR ⟨false, [], []⟩ Tryz.func87 (by kernel_rfl) rfl (by kernel_rfl) (by kernel_rfl) (Nat.le_of_ble_eq_true rfl) rfl fun Q hQ => ?_
  simp only [vmA, sN1, reduceIte, sN2, sN3, reduceCtorEq, sN4, sI1, sI2, sI3, sN5, sN6, hA]
  refine callR (f145 h ho h4) ?_
  rintro _ _ ⟨⟨L, rfl, hl, hL⟩, rfl⟩
  simp only [vmA, sN1, reduceIte, sN2, sN3, reduceCtorEq, sN4, sI1, sI2, sI3, sN5, sN6, hA, captureL, capture, get_tmp, Option.bind_none, map_froize_dg]
  refine WT_loop (fun (a : Nat) σ => (a ≤ 4 ∧ noDanI h.tx (16 * a)) ∧ σ.sl 11 = .int .i64 a ∧ σ.sl 4 = .clo 146 [.cptr none [.fro none false (L.map dgA)]] ∧ σ.sl 1 = .ptr 64 1 0 0 ∧ (σ.en 64).live = true ∧ (σ.en 64).gen = 1 ∧ (σ.en 64).frz = false ∧ (σ.en 64).sz = 3 ∧ (σ.en 64).elems = [hA h]) (fun a => 4 - a) (0) ⟨⟨Nat.zero_le _, noDanI_zero _⟩, by simp [vmI, hA, map_froize_dg, Go.Vm.freeze_sl, Go.Vm.freeze_en, kill_sl, kill_en], by simp [vmI, hA, map_froize_dg, Go.Vm.freeze_sl, Go.Vm.freeze_en, kill_sl, kill_en], by simp [vmI, hA, map_froize_dg, Go.Vm.freeze_sl, Go.Vm.freeze_en, kill_sl, kill_en], by simp [vmI, hA, map_froize_dg, Go.Vm.freeze_sl, Go.Vm.freeze_en, kill_sl, kill_en], by simp [vmI, hA, map_froize_dg, Go.Vm.freeze_sl, Go.Vm.freeze_en, kill_sl, kill_en], by simp [vmI, hA, map_froize_dg, Go.Vm.freeze_sl, Go.Vm.freeze_en, kill_sl, kill_en], by simp [vmI, hA, map_froize_dg, Go.Vm.freeze_sl, Go.Vm.freeze_en, kill_sl, kill_en], by simp [vmI, hA, map_froize_dg, Go.Vm.freeze_sl, Go.Vm.freeze_en, kill_sl, kill_en]⟩ ?_
  rintro a σ ⟨hn, e11, e4, e1, m64a, m64b, m64c, m64d, m64e⟩
  obtain ⟨ha, hn⟩ := hn
  simp only [vmA, sN1, reduceIte, sN2, sN3, reduceCtorEq, sN4, sI1, sI2, sI3, sN5, sN6, e11, e4, e1, m64a, m64b, m64c, m64d, m64e, hA]
  refine ⟨fun hlt => ?_, fun hge => ?_⟩
  · skip
    refine WT_loop (fun (b : Nat) σ => (b ≤ 4 ∧ noDanI h.tx (16 * a + 4 * b)) ∧ σ.sl 14 = .int .i64 b ∧ σ.sl 5 = .int .i64 a ∧ σ.sl 11 = .int .i64 a ∧ σ.sl 4 = .clo 146 [.cptr none [.fro none false (L.map dgA)]] ∧ σ.sl 1 = .ptr 64 1 0 0 ∧ (σ.en 64).live = true ∧ (σ.en 64).gen = 1 ∧ (σ.en 64).frz = false ∧ (σ.en 64).sz = 3 ∧ (σ.en 64).elems = [hA h]) (fun b => 4 - b) (0) ⟨⟨Nat.zero_le _, hn⟩, by simp [vmI, e11, e4, e1, m64a, m64b, m64c, m64d, m64e, hA], by simp [vmI, e11, e4, e1, m64a, m64b, m64c, m64d, m64e, hA], by simp [vmI, e11, e4, e1, m64a, m64b, m64c, m64d, m64e, hA], by simp [vmI, e11, e4, e1, m64a, m64b, m64c, m64d, m64e, hA], by simp [vmI, e11, e4, e1, m64a, m64b, m64c, m64d, m64e, hA], by simp [vmI, e11, e4, e1, m64a, m64b, m64c, m64d, m64e, hA], by simp [vmI, e11, e4, e1, m64a, m64b, m64c, m64d, m64e, hA], by simp [vmI, e11, e4, e1, m64a, m64b, m64c, m64d, m64e, hA], by simp [vmI, e11, e4, e1, m64a, m64b, m64c, m64d, m64e, hA], by simp [vmI, e11, e4, e1, m64a, m64b, m64c, m64d, m64e, hA]⟩ ?_
    clear e11 e4 e1 m64a m64b m64c m64d m64e
    rintro b σ ⟨hn, e14, e5, e11, e4, e1, m64a, m64b, m64c, m64d, m64e⟩
    obtain ⟨hb, hn⟩ := hn
    simp only [vmA, sN1, reduceIte, sN2, sN3, reduceCtorEq, sN4, sI1, sI2, sI3, sN5, sN6, e14, e5, e11, e4, e1, m64a, m64b, m64c, m64d, m64e, hA]
    refine ⟨fun hlt2 => ?_, fun hge2 => ?_⟩
    · skip
      refine WT_loop (fun (c : Nat) σ => (c ≤ 4 ∧ noDanI h.tx (16 * a + 4 * b + c)) ∧ σ.sl 17 = .int .i64 c ∧ σ.sl 6 = .int .i64 b ∧ σ.sl 14 = .int .i64 b ∧ σ.sl 5 = .int .i64 a ∧ σ.sl 11 = .int .i64 a ∧ σ.sl 4 = .clo 146 [.cptr none [.fro none false (L.map dgA)]] ∧ σ.sl 1 = .ptr 64 1 0 0 ∧ (σ.en 64).live = true ∧ (σ.en 64).gen = 1 ∧ (σ.en 64).frz = false ∧ (σ.en 64).sz = 3 ∧ (σ.en 64).elems = [hA h]) (fun c => 4 - c) (0) ⟨⟨Nat.zero_le _, hn⟩, by simp [vmI, e14, e5, e11, e4, e1, m64a, m64b, m64c, m64d, m64e, hA], by simp [vmI, e14, e5, e11, e4, e1, m64a, m64b, m64c, m64d, m64e, hA], by simp [vmI, e14, e5, e11, e4, e1, m64a, m64b, m64c, m64d, m64e, hA], by simp [vmI, e14, e5, e11, e4, e1, m64a, m64b, m64c, m64d, m64e, hA], by simp [vmI, e14, e5, e11, e4, e1, m64a, m64b, m64c, m64d, m64e, hA], by simp [vmI, e14, e5, e11, e4, e1, m64a, m64b, m64c, m64d, m64e, hA], by simp [vmI, e14, e5, e11, e4, e1, m64a, m64b, m64c, m64d, m64e, hA], by simp [vmI, e14, e5, e11, e4, e1, m64a, m64b, m64c, m64d, m64e, hA], by simp [vmI, e14, e5, e11, e4, e1, m64a, m64b, m64c, m64d, m64e, hA], by simp [vmI, e14, e5, e11, e4, e1, m64a, m64b, m64c, m64d, m64e, hA], by simp [vmI, e14, e5, e11, e4, e1, m64a, m64b, m64c, m64d, m64e, hA], by simp [vmI, e14, e5, e11, e4, e1, m64a, m64b, m64c, m64d, m64e, hA]⟩ ?_
      clear e14 e5 e11 e4 e1 m64a m64b m64c m64d m64e
      rintro c σ ⟨hn, e17, e6, e14, e5, e11, e4, e1, m64a, m64b, m64c, m64d, m64e⟩
      obtain ⟨hc, hn⟩ := hn
      have nx : c < 4 → ¬ danP h.tx a b c → c + 1 ≤ 4 ∧ noDanI h.tx (16 * a + 4 * b + (c + 1)) := fun hc hx => ⟨by omega, noDanI_next hn (by omega) hc hx⟩
      simp only [vmA, sN1, reduceIte, sN2, sN3, reduceCtorEq, sN4, sI1, sI2, sI3, sN5, sN6, e17, e6, e14, e5, e11, e4, e1, m64a, m64b, m64c, m64d, m64e, hA]
      refine ⟨fun hlt3 => callD (f146e hL hl hw h4 a b (by omega) (by omega)) ?_, fun hge3 => ?_⟩
      · simp only [vmA, sN1, reduceIte, sN2, sN3, reduceCtorEq, sN4, sI1, sI2, sI3, sN5, sN6, e17, e6, e14, e5, e11, e4, e1, m64a, m64b, m64c, m64d, m64e, hA]
        refine ⟨fun q1 => callD (f146e hL hl hw h4 b c (by omega) (by omega)) ?_, fun q1 => ?_⟩
        · simp only [vmA, sN1, reduceIte, sN2, sN3, reduceCtorEq, sN4, sI1, sI2, sI3, sN5, sN6, e17, e6, e14, e5, e11, e4, e1, m64a, m64b, m64c, m64d, m64e, hA, xA, List.length_map, h4]
          refine ⟨fun q2 => callD (f148 h a b ho h4 (by omega) (by omega)) ?_, fun q2 => ?_⟩
          · simp only [vmA, sN1, reduceIte, sN2, sN3, reduceCtorEq, sN4, sI1, sI2, sI3, sN5, sN6, e17, e6, e14, e5, e11, e4, e1, m64a, m64b, m64c, m64d, m64e, hA, xA, List.length_map, h4]
            refine ⟨fun q3 => callD (f148 h b c ho h4 (by omega) (by omega)) ?_, fun q3 => ?_⟩
            · simp only [vmA, sN1, reduceIte, sN2, sN3, reduceCtorEq, sN4, sI1, sI2, sI3, sN5, sN6, e17, e6, e14, e5, e11, e4, e1, m64a, m64b, m64c, m64d, m64e, hA, xA, List.length_map, h4]
              refine ⟨fun q4 => ⟨by omega, by omega, by omega, by omega, fun q5 => ⟨by omega, by omega, by omega, by omega, fun q6 => ?_, fun q6 => ?_⟩, fun q5 => ?_⟩, fun q4 => ?_⟩
              · have hd : danL h.tx = [(a : Int), (b : Int), (c : Int)] := by
                  rw [danL_some (by omega) ((danN_abc (by omega) (by omega)).2 ⟨q1, q2, q3.2.2.2, q4.2.2.2, q5, q6⟩) hn, three_abc (by omega) (by omega)]
                (refine hQ _ ?_; simp only [vmA, sN1, reduceIte, sN2, sN3, reduceCtorEq, sN4, sI1, sI2, sI3, sN5, sN6, Tryz.f87, retG, resL, St.closeVs, St.closeV, hd])
              · rw [wr (by omega)]
                exact ⟨c + 1, ⟨nx (by omega) fun z => q6 z.2.2.2.2.2, rfl⟩, by omega⟩
              · rw [wr (by omega)]
                exact ⟨c + 1, ⟨nx (by omega) fun z => q5 z.2.2.2.2.1, rfl⟩, by omega⟩
              · rw [wr (by omega)]
                exact ⟨c + 1, ⟨nx (by omega) fun z => q4 ⟨z.2.1.1, z.2.1.2.1, z.2.1.2.2.1, z.2.2.2.1⟩, rfl⟩, by omega⟩
            · rw [wr (by omega)]
              exact ⟨c + 1, ⟨nx (by omega) fun z => q3 ⟨z.1.1, z.1.2.1, z.1.2.2.1, z.2.2.1⟩, rfl⟩, by omega⟩
          · rw [wr (by omega)]
            exact ⟨c + 1, ⟨nx (by omega) fun z => q2 z.2.1, rfl⟩, by omega⟩
        · rw [wr (by omega)]
          exact ⟨c + 1, ⟨nx (by omega) fun z => q1 z.1, rfl⟩, by omega⟩
      · rw [wr (by omega)]
        obtain rfl : c = 4 := by omega
        exact ⟨b + 1, ⟨⟨by omega, hn⟩, rfl⟩, by omega⟩
    · rw [wr (by omega)]
      obtain rfl : b = 4 := by omega
      exact ⟨a + 1, ⟨⟨by omega, hn⟩, rfl⟩, by omega⟩
  · obtain rfl : a = 4 := by omega
    have hd := danL_none hn
    (refine hQ _ ?_; simp only [vmA, sN1, reduceIte, sN2, sN3, reduceCtorEq, sN4, sI1, sI2, sI3, sN5, sN6, Tryz.f87, retG, resL, St.closeVs, St.closeV, hd])
