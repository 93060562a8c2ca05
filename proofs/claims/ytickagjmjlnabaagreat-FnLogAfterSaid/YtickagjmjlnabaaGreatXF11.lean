/- WALK of functions of the seat, or plain laws for it: each theorem f<k> says what function k returns, for every world and all arguments that stand for the values named. Conditions: none but those ahead of each theorem. -/
import Derived.Test.YtickagjmjlnabaaGreatXF9
open Go Go.Vm Go.Proofs
set_option maxRecDepth 100000
set_option maxHeartbeats 8000000
set_option linter.unusedSimpArgs false
set_option linter.unusedVariables false
def smE (e : En) : Prop := e.ws.length ≤ 1048576 ∧ ∀ w ∈ e.ws, w.row.length ≤ 1048576
theorem szL_mem {α : Type} {f : α → Int → Int} (hf : SzOk f) : ∀ (xs : List α) (l : Int), 0 ≤ l → 0 ≤ szL f xs l → ∀ x ∈ xs, ∃ l', 0 ≤ l' ∧ l' ≤ l ∧ 0 ≤ f x l'
  | [], l, _, _, x, hx => by simp at hx
  | y :: ys, l, hl, h, x, hx => by
    rw [szL] at h
    split at h
    · omega
    · rename_i hn
      have hb := hf y l hl
      rcases List.mem_cons.1 hx with rfl | hx
      · exact ⟨l, hl, Int.le_refl _, by omega⟩
      · obtain ⟨l', h1, h2, h3⟩ := szL_mem hf ys (f y l) (by omega) h x hx
        exact ⟨l', h1, by omega, h3⟩
theorem szS_mem {α : Type} {f : α → Int → Int} (hf : SzOk f) {xs : List α} {l : Int} (h : 0 ≤ szS f xs l) : xs.length ≤ l ∧ ∀ x ∈ xs, ∃ l', 0 ≤ l' ∧ l' ≤ l ∧ 0 ≤ f x l' := by
  unfold szS at h
  split at h
  · omega
  · refine ⟨by omega, fun x hx => ?_⟩
    obtain ⟨l', h1, h2, h3⟩ := szL_mem hf xs _ (by omega) h x hx
    exact ⟨l', h1, by omega, h3⟩
theorem sz_smE {es : List En} (h : 0 ≤ szS sze es 1048576) : es.length ≤ 1048576 ∧ ∀ e ∈ es, smE e := by
  obtain ⟨h1, h2⟩ := szS_mem sze_ok h
  refine ⟨by omega, fun e he => ?_⟩
  obtain ⟨l', _, h4, h5⟩ := h2 e he
  obtain ⟨h6, h7⟩ := szS_mem szw_ok (show 0 ≤ szS szw e.ws l' from h5)
  refine ⟨by omega, fun w hw => ?_⟩
  obtain ⟨l2, _, h8, h9⟩ := h7 w hw
  obtain ⟨h10, _⟩ := szS_mem szv_ok (show 0 ≤ szS szv w.row l2 from h9)
  omega
def riAt (lo hi : Int) (xs : List Int) (i : Nat) : Prop := (lo ≤ xs[i]! ∧ xs[i]! ≤ hi) ∧ ¬ (0 < i ∧ xs[i]! ≤ xs[i - 1]!)
instance (lo hi : Int) (xs : List Int) (i : Nat) : Decidable (riAt lo hi xs i) := by unfold riAt; exact inferInstance
def riP (lo hi : Int) (xs : List Int) : Prop := ∀ i, i < xs.length → riAt lo hi xs i
instance (lo hi : Int) (xs : List Int) : Decidable (riP lo hi xs) := by unfold riP; exact inferInstance
def bestL (ps : List Int) : List Int → Int → Int
  | [], b => b
  | n :: r, b => bestL ps r (if ps[b.toNat]! < ps[n.toNat]! then n else b)
theorem bestL_drop (ps : List Int) {th : List Int} {i : Nat} (h : i < th.length) (b : Int) : bestL ps (th.drop i) b = bestL ps (th.drop (i + 1)) (if ps[b.toNat]! < ps[th[i]!.toNat]! then th[i]! else b) := by
  have e : th.drop i = th[i]! :: th.drop (i + 1) := by rw [getElem!_pos th i h]; simp
  rw [e, bestL]
def toP (es : List En) (ps th : List Int) : Prop := plP es ps ∧ riP 0 (ps.length - 1) th ∧ ps.length < 2 * th.length
instance (es : List En) (ps th : List Int) : Decidable (toP es ps th) := by unfold toP; exact inferInstance
def tkV (es : List En) (ps th : List Int) : Int := if toP es ps th then bestL ps th th[0]! else -1
theorem leafI {k : IntKind} {a b : Int} (h : a = b) : AV.int k a = AV.int k b := by rw [h]
theorem f36 (xs : List Int) (c : Bool) (lo hi : Int) (hl : xs.length ≤ 9223372036854775807) : Fx 36 [.fro none c (xs.map iA), .int .i64 lo, .int .i64 hi] (.bool (decide (riP lo hi xs))) := by
  refine fn_of false Tryz.func36 (by kernel_rfl) rfl (by kernel_rfl) (by kernel_rfl) (Nat.le_of_ble_eq_true rfl) rfl fun Q hQ => ?_
  simp only [vmA, Nat.reduceEqDiff, reduceIte, Nat.reduceAdd, Nat.reduceBEq, reduceCtorEq, Nat.reduceLT, Int.reduceLE, Int.reduceLT, Int.reduceEq, Nat.reduceMul, Nat.reduceLeDiff]
  refine WT_loop (fun (i : Nat) σ => i ≤ xs.length ∧ σ.sl 0 = .fro none c (xs.map iA) ∧ σ.sl 1 = .int .i64 lo ∧ σ.sl 2 = .int .i64 hi ∧ σ.sl 9 = .fro none c (xs.map iA) ∧ σ.sl 10 = .int .i64 xs.length ∧ σ.sl 11 = .int .i64 i ∧ ∀ k, k < i → riAt lo hi xs k) (fun i => xs.length - i) 0 ⟨by omega, by simp [put_sl, put_en, put_none, init_sl, fresh_sl, fresh_en, ent_sl, ent_en, init_en], by simp [put_sl, put_en, put_none, init_sl, fresh_sl, fresh_en, ent_sl, ent_en, init_en], by simp [put_sl, put_en, put_none, init_sl, fresh_sl, fresh_en, ent_sl, ent_en, init_en], by simp [put_sl, put_en, put_none, init_sl, fresh_sl, fresh_en, ent_sl, ent_en, init_en], by simp [put_sl, put_en, put_none, init_sl, fresh_sl, fresh_en, ent_sl, ent_en, init_en], by simp [put_sl, put_en, put_none, init_sl, fresh_sl, fresh_en, ent_sl, ent_en, init_en], by omega⟩ ?_
  rintro i σ ⟨hi', e0, e1, e2, e9, e10, e11, hall⟩
  simp only [vmA, Nat.reduceEqDiff, reduceIte, Nat.reduceAdd, Nat.reduceBEq, reduceCtorEq, Nat.reduceLT, Int.reduceLE, Int.reduceLT, Int.reduceEq, Nat.reduceMul, Nat.reduceLeDiff, e0, e1, e2, e9, e10, e11]
  refine ⟨fun hlt => ⟨hlt, by omega, callD (f31 _ _ _) ?_⟩, fun hge => ?_⟩
  · simp only [vmA, Nat.reduceEqDiff, reduceIte, Nat.reduceAdd, Nat.reduceBEq, reduceCtorEq, Nat.reduceLT, Int.reduceLE, Int.reduceLT, Int.reduceEq, Nat.reduceMul, Nat.reduceLeDiff, e0, e1, e2, e9, e10, e11]
    refine ⟨fun hk => ?_, fun hk => ⟨fun hpos => ?_, fun hz => ?_⟩⟩
    · (refine hQ _ ?_; simp only [vmA, Nat.reduceEqDiff, reduceIte, Nat.reduceAdd, Nat.reduceBEq, reduceCtorEq, Nat.reduceLT, Int.reduceLE, Int.reduceLT, Int.reduceEq, Nat.reduceMul, Nat.reduceLeDiff, Tryz.f36, retG, resL, St.closeVs, St.closeV])
      exact leafF fun h => hk (h i (by omega)).1
    · rw [wr (by omega)]
      refine ⟨by omega, by omega, ?_⟩
      rw [show ((i : Int) - 1).toNat = i - 1 by omega]
      refine ⟨fun hge => ?_, fun hlt2 => ?_⟩
      · (refine hQ _ ?_; simp only [vmA, Nat.reduceEqDiff, reduceIte, Nat.reduceAdd, Nat.reduceBEq, reduceCtorEq, Nat.reduceLT, Int.reduceLE, Int.reduceLT, Int.reduceEq, Nat.reduceMul, Nat.reduceLeDiff, Tryz.f36, retG, resL, St.closeVs, St.closeV])
        exact leafF fun h => (h i (by omega)).2 ⟨by omega, hge⟩
      · rw [wr (by omega)]
        refine ⟨i + 1, ⟨by omega, rfl, fun k hkk => ?_⟩, by omega⟩
        rcases Nat.lt_or_eq_of_le (Nat.le_of_lt_succ hkk) with h | rfl
        · exact hall k h
        · exact ⟨hk, fun h => hlt2 h.2⟩
    · rw [wr (by omega)]
      refine ⟨i + 1, ⟨by omega, rfl, fun k hkk => ?_⟩, by omega⟩
      rcases Nat.lt_or_eq_of_le (Nat.le_of_lt_succ hkk) with h | rfl
      · exact hall k h
      · exact ⟨hk, by omega⟩
  · (refine hQ _ ?_; simp only [vmA, Nat.reduceEqDiff, reduceIte, Nat.reduceAdd, Nat.reduceBEq, reduceCtorEq, Nat.reduceLT, Int.reduceLE, Int.reduceLT, Int.reduceEq, Nat.reduceMul, Nat.reduceLeDiff, Tryz.f36, retG, resL, St.closeVs, St.closeV])
    exact leafB ⟨fun _ k hk => hall k (by omega), fun _ => trivial⟩
theorem f40 (xs : List Int) (c : Bool) (m : Nat) (hl : xs.length ≤ 9223372036854775807) (hm : m ≤ 9223372036854775807) : Fx 40 [.fro none c (xs.map iA), .int .i64 m] (.bool (decide (riP 0 (m - 1) xs))) := by
  refine fn_of false Tryz.func40 (by kernel_rfl) rfl (by kernel_rfl) (by kernel_rfl) (Nat.le_of_ble_eq_true rfl) rfl fun Q hQ => ?_
  simp only [vmA, Nat.reduceEqDiff, reduceIte, Nat.reduceAdd, Nat.reduceBEq, reduceCtorEq, Nat.reduceLT, Int.reduceLE, Int.reduceLT, Int.reduceEq, Nat.reduceMul, Nat.reduceLeDiff]
  refine WT_loop (fun (i : Nat) σ => i ≤ xs.length ∧ σ.sl 0 = .fro none c (xs.map iA) ∧ σ.sl 1 = .int .i64 m ∧ σ.sl 5 = .int .i64 i ∧ ∀ k, k < i → riAt 0 (m - 1) xs k) (fun i => xs.length - i) 0 ⟨by omega, by simp [put_sl, put_en, put_none, init_sl, fresh_sl, fresh_en, ent_sl, ent_en, init_en], by simp [put_sl, put_en, put_none, init_sl, fresh_sl, fresh_en, ent_sl, ent_en, init_en], by simp [put_sl, put_en, put_none, init_sl, fresh_sl, fresh_en, ent_sl, ent_en, init_en], by omega⟩ ?_
  rintro i σ ⟨hi', e0, e1, e5, hall⟩
  simp only [vmA, Nat.reduceEqDiff, reduceIte, Nat.reduceAdd, Nat.reduceBEq, reduceCtorEq, Nat.reduceLT, Int.reduceLE, Int.reduceLT, Int.reduceEq, Nat.reduceMul, Nat.reduceLeDiff, e0, e1, e5]
  refine ⟨fun hlt => ⟨hlt, by omega, callD (f57 _ _ _) ?_⟩, fun hge => ?_⟩
  · simp only [vmA, Nat.reduceEqDiff, reduceIte, Nat.reduceAdd, Nat.reduceBEq, reduceCtorEq, Nat.reduceLT, Int.reduceLE, Int.reduceLT, Int.reduceEq, Nat.reduceMul, Nat.reduceLeDiff, e0, e1, e5]
    rw [wr (x := (m : Int) - 1) (by omega)]
    refine ⟨fun hk => ?_, fun hk => ⟨fun hpos => ?_, fun hz => ?_⟩⟩
    · (refine hQ _ ?_; simp only [vmA, Nat.reduceEqDiff, reduceIte, Nat.reduceAdd, Nat.reduceBEq, reduceCtorEq, Nat.reduceLT, Int.reduceLE, Int.reduceLT, Int.reduceEq, Nat.reduceMul, Nat.reduceLeDiff, Tryz.f40, retG, resL, St.closeVs, St.closeV])
      exact leafF fun h => hk (h i (by omega)).1
    · rw [wr (by omega)]
      refine ⟨by omega, by omega, ?_⟩
      rw [show ((i : Int) - 1).toNat = i - 1 by omega]
      refine ⟨hlt, by omega, fun hge => ?_, fun hlt2 => ?_⟩
      · (refine hQ _ ?_; simp only [vmA, Nat.reduceEqDiff, reduceIte, Nat.reduceAdd, Nat.reduceBEq, reduceCtorEq, Nat.reduceLT, Int.reduceLE, Int.reduceLT, Int.reduceEq, Nat.reduceMul, Nat.reduceLeDiff, Tryz.f40, retG, resL, St.closeVs, St.closeV])
        exact leafF fun h => (h i (by omega)).2 ⟨by omega, hge⟩
      · rw [wr (by omega)]
        refine ⟨i + 1, ⟨by omega, rfl, fun k hkk => ?_⟩, by omega⟩
        rcases Nat.lt_or_eq_of_le (Nat.le_of_lt_succ hkk) with h | rfl
        · exact hall k h
        · exact ⟨hk, fun h => hlt2 h.2⟩
    · rw [wr (by omega)]
      refine ⟨i + 1, ⟨by omega, rfl, fun k hkk => ?_⟩, by omega⟩
      rcases Nat.lt_or_eq_of_le (Nat.le_of_lt_succ hkk) with h | rfl
      · exact hall k h
      · exact ⟨hk, by omega⟩
  · (refine hQ _ ?_; simp only [vmA, Nat.reduceEqDiff, reduceIte, Nat.reduceAdd, Nat.reduceBEq, reduceCtorEq, Nat.reduceLT, Int.reduceLE, Int.reduceLT, Int.reduceEq, Nat.reduceMul, Nat.reduceLeDiff, Tryz.f40, retG, resL, St.closeVs, St.closeV])
    exact leafB ⟨fun _ k hk => hall k (by omega), fun _ => trivial⟩
theorem f41 (m : Nat) (hm : m ≤ 9223372036854775807) : Fx 41 [.int .i64 m] (.int .i64 (m / 2 + 1)) := by
  refine fn_of false Tryz.func41 (by kernel_rfl) rfl (by kernel_rfl) (by kernel_rfl) (Nat.le_of_ble_eq_true rfl) rfl fun Q hQ => ?_
  simp only [vmA, Nat.reduceEqDiff, reduceIte, Nat.reduceAdd, Nat.reduceBEq, reduceCtorEq, Nat.reduceLT, Int.reduceLE, Int.reduceLT, Int.reduceEq, Nat.reduceMul, Nat.reduceLeDiff, Int.reduceEq]
  (refine hQ _ ?_; simp only [vmA, Nat.reduceEqDiff, reduceIte, Nat.reduceAdd, Nat.reduceBEq, reduceCtorEq, Nat.reduceLT, Int.reduceLE, Int.reduceLT, Int.reduceEq, Nat.reduceMul, Nat.reduceLeDiff, Tryz.f41, retG, resL, St.closeVs, St.closeV])
  rw [Int.tdiv_eq_ediv_of_nonneg (by omega), wr (x := (m : Int) / 2) (by omega), wr (by omega)]
theorem riP_mem {lo hi : Int} {xs : List Int} (h : riP lo hi xs) {i : Nat} (hi' : i < xs.length) : lo ≤ xs[i]! ∧ xs[i]! ≤ hi := (h i hi').1
theorem f19 (es : List En) (c : Bool) (hl : es.length ≤ 9223372036854775807) (hs : ∀ e ∈ es, okE e) (ps : List Int) (c2 : Bool) (hl2 : ps.length ≤ 9223372036854775807) (th : List Int) (c3 : Bool) (hl3 : th.length ≤ 9223372036854775807) : Fx 19 [.fro none c (es.map eA), .fro none c2 (ps.map iA), .fro none c3 (th.map iA)] (.int .i64 (tkV es ps th)) := by
  refine fn_of false Tryz.func19 (by kernel_rfl) rfl (by kernel_rfl) (by kernel_rfl) (Nat.le_of_ble_eq_true rfl) rfl fun Q hQ => ?_
  simp only [vmA, Nat.reduceEqDiff, reduceIte, Nat.reduceAdd, Nat.reduceBEq, reduceCtorEq, Nat.reduceLT, Int.reduceLE, Int.reduceLT, Int.reduceEq, Nat.reduceMul, Nat.reduceLeDiff]
  refine callD (f39 es c hl hs ps c2 hl2) ?_
  simp only [vmA, Nat.reduceEqDiff, reduceIte, Nat.reduceAdd, Nat.reduceBEq, reduceCtorEq, Nat.reduceLT, Int.reduceLE, Int.reduceLT, Int.reduceEq, Nat.reduceMul, Nat.reduceLeDiff]
  refine ⟨fun h1 => ?_, fun h1 => callD (f40 th c3 ps.length hl3 hl2) ?_⟩
  · (refine hQ _ ?_; simp only [vmA, Nat.reduceEqDiff, reduceIte, Nat.reduceAdd, Nat.reduceBEq, reduceCtorEq, Nat.reduceLT, Int.reduceLE, Int.reduceLT, Int.reduceEq, Nat.reduceMul, Nat.reduceLeDiff, Tryz.f19, retG, resL, St.closeVs, St.closeV])
    rw [tkV, if_neg (fun h => h1 h.1)]
  · simp only [vmA, Nat.reduceEqDiff, reduceIte, Nat.reduceAdd, Nat.reduceBEq, reduceCtorEq, Nat.reduceLT, Int.reduceLE, Int.reduceLT, Int.reduceEq, Nat.reduceMul, Nat.reduceLeDiff]
    refine ⟨fun h2 => ?_, fun h2 => callD (f41 ps.length hl2) ?_⟩
    · (refine hQ _ ?_; simp only [vmA, Nat.reduceEqDiff, reduceIte, Nat.reduceAdd, Nat.reduceBEq, reduceCtorEq, Nat.reduceLT, Int.reduceLE, Int.reduceLT, Int.reduceEq, Nat.reduceMul, Nat.reduceLeDiff, Tryz.f19, retG, resL, St.closeVs, St.closeV])
      rw [tkV, if_neg (fun h => h2 h.2.1)]
    · simp only [vmA, Nat.reduceEqDiff, reduceIte, Nat.reduceAdd, Nat.reduceBEq, reduceCtorEq, Nat.reduceLT, Int.reduceLE, Int.reduceLT, Int.reduceEq, Nat.reduceMul, Nat.reduceLeDiff]
      refine ⟨fun h3 => ?_, fun h3 => ?_⟩
      · (refine hQ _ ?_; simp only [vmA, Nat.reduceEqDiff, reduceIte, Nat.reduceAdd, Nat.reduceBEq, reduceCtorEq, Nat.reduceLT, Int.reduceLE, Int.reduceLT, Int.reduceEq, Nat.reduceMul, Nat.reduceLeDiff, Tryz.f19, retG, resL, St.closeVs, St.closeV])
        rw [tkV, if_neg (fun h => by have := h.2.2; omega)]
      · have hT : toP es ps th := ⟨h1, h2, by omega⟩
        have hb := fun i hi' => riP_mem (xs := th) h2 (i := i) hi'
        have h0 : 0 < th.length := by omega
        have hz := hb 0 h0
        refine ⟨by omega, h0, ?_⟩
        rw [show Int.toNat 0 = 0 from rfl]
        refine WT_loop (fun (p : Nat × Int) σ => (1 ≤ p.1 ∧ p.1 ≤ th.length) ∧ (0 ≤ p.2 ∧ p.2 < ps.length) ∧ σ.sl 1 = .fro none c2 (ps.map iA) ∧ σ.sl 2 = .fro none c3 (th.map iA) ∧ σ.sl 7 = .int .i64 p.2 ∧ σ.sl 8 = .int .i64 p.1 ∧ bestL ps (th.drop p.1) p.2 = bestL ps th th[0]!) (fun p => th.length - p.1) (1, th[0]!) ⟨by dsimp only; omega, by dsimp only; omega, by simp [put_sl, put_en, put_none, init_sl, fresh_sl, fresh_en, ent_sl, ent_en, init_en], by simp [put_sl, put_en, put_none, init_sl, fresh_sl, fresh_en, ent_sl, ent_en, init_en], by simp [put_sl, put_en, put_none, init_sl, fresh_sl, fresh_en, ent_sl, ent_en, init_en], by simp [put_sl, put_en, put_none, init_sl, fresh_sl, fresh_en, ent_sl, ent_en, init_en], ?_⟩ ?_
        · dsimp only
          have := bestL_drop ps h0 th[0]!
          rw [if_neg (by omega)] at this
          simpa using this.symm
        rintro ⟨i, b⟩ σ ⟨hi, hbb, e1, e2, e7, e8, hx⟩
        dsimp only at hi hbb e7 e8 hx
        simp only [vmA, Nat.reduceEqDiff, reduceIte, Nat.reduceAdd, Nat.reduceBEq, reduceCtorEq, Nat.reduceLT, Int.reduceLE, Int.reduceLT, Int.reduceEq, Nat.reduceMul, Nat.reduceLeDiff, e1, e2, e7, e8]
        refine ⟨fun hlt => ?_, fun hge => ?_⟩
        · have hbi := hb i (by omega)
          rw [bestL_drop ps (by omega)] at hx
          refine ⟨hlt, by omega, by omega, by omega, by omega, by omega, fun hgt => ⟨hlt, by omega, ?_⟩, fun hle => ?_⟩
          · rw [if_pos hgt] at hx
            rw [wr (by omega)]
            exact ⟨(i + 1, th[i]!), ⟨by dsimp only; omega, by dsimp only; omega, rfl, rfl, hx⟩, by dsimp only; omega⟩
          · rw [if_neg hle] at hx
            rw [wr (by omega)]
            exact ⟨(i + 1, b), ⟨by dsimp only; omega, by dsimp only; omega, rfl, rfl, hx⟩, by dsimp only; omega⟩
        · have : th.drop i = [] := List.drop_of_length_le (by omega)
          rw [this, bestL] at hx
          (refine hQ _ ?_; simp only [vmA, Nat.reduceEqDiff, reduceIte, Nat.reduceAdd, Nat.reduceBEq, reduceCtorEq, Nat.reduceLT, Int.reduceLE, Int.reduceLT, Int.reduceEq, Nat.reduceMul, Nat.reduceLeDiff, Tryz.f19, retG, resL, St.closeVs, St.closeV, e7])
          rw [tkV, if_pos hT, hx]
theorem f17 (es : List En) (c : Bool) (hl : es.length ≤ 9223372036854775807) (hs : ∀ e ∈ es, okE e) (ps : List Int) (c2 : Bool) (hl2 : ps.length ≤ 9223372036854775807) (th : List Int) (c3 : Bool) (hl3 : th.length ≤ 1048576) : Fx 17 [.fro none c (es.map eA), .fro none c2 (ps.map iA), .fro none c3 (th.map iA)] (.int .i64 (tkV es ps th)) := by
  refine fn_of false Tryz.func17 (by kernel_rfl) rfl (by kernel_rfl) (by kernel_rfl) (Nat.le_of_ble_eq_true rfl) rfl fun Q hQ => ?_
  simp only [vmA, Nat.reduceEqDiff, reduceIte, Nat.reduceAdd, Nat.reduceBEq, reduceCtorEq, Nat.reduceLT, Int.reduceLE, Int.reduceLT, Int.reduceEq, Nat.reduceMul, Nat.reduceLeDiff]
  refine callD (f23 es c hl hs ps c2 hl2) ?_
  simp only [vmA, Nat.reduceEqDiff, reduceIte, Nat.reduceAdd, Nat.reduceBEq, reduceCtorEq, Nat.reduceLT, Int.reduceLE, Int.reduceLT, Int.reduceEq, Nat.reduceMul, Nat.reduceLeDiff]
  refine ⟨fun h1 => ?_, fun h1 => ?_⟩
  · (refine hQ _ ?_; simp only [vmA, Nat.reduceEqDiff, reduceIte, Nat.reduceAdd, Nat.reduceBEq, reduceCtorEq, Nat.reduceLT, Int.reduceLE, Int.reduceLT, Int.reduceEq, Nat.reduceMul, Nat.reduceLeDiff, Tryz.f17, retG, resL, St.closeVs, St.closeV])
    rw [tkV, if_neg (fun h => h1 h.1)]
  · rw [wr (by omega)]
    refine callD (f36 th c3 0 (ps.length - 1) (by omega)) ?_
    simp only [vmA, Nat.reduceEqDiff, reduceIte, Nat.reduceAdd, Nat.reduceBEq, reduceCtorEq, Nat.reduceLT, Int.reduceLE, Int.reduceLT, Int.reduceEq, Nat.reduceMul, Nat.reduceLeDiff]
    refine ⟨fun h2 => ?_, fun h2 => ?_⟩
    · (refine hQ _ ?_; simp only [vmA, Nat.reduceEqDiff, reduceIte, Nat.reduceAdd, Nat.reduceBEq, reduceCtorEq, Nat.reduceLT, Int.reduceLE, Int.reduceLT, Int.reduceEq, Nat.reduceMul, Nat.reduceLeDiff, Tryz.f17, retG, resL, St.closeVs, St.closeV])
      rw [tkV, if_neg (fun h => h2 h.2.1)]
    · rw [wr (by omega)]
      refine ⟨fun h3 => ?_, fun h3 => ?_⟩
      · (refine hQ _ ?_; simp only [vmA, Nat.reduceEqDiff, reduceIte, Nat.reduceAdd, Nat.reduceBEq, reduceCtorEq, Nat.reduceLT, Int.reduceLE, Int.reduceLT, Int.reduceEq, Nat.reduceMul, Nat.reduceLeDiff, Tryz.f17, retG, resL, St.closeVs, St.closeV])
        rw [tkV, if_neg (fun h => by have := h.2.2; omega)]
      · have hT : toP es ps th := ⟨h1, h2, by omega⟩
        have hb := fun i hi' => riP_mem (xs := th) h2 (i := i) hi'
        have h0 : 0 < th.length := by omega
        have hz := hb 0 h0
        refine ⟨by omega, h0, ?_⟩
        rw [show Int.toNat 0 = 0 from rfl]
        refine WT_loop (fun (p : Nat × Int) σ => (p.1 ≤ th.length) ∧ (0 ≤ p.2 ∧ p.2 < ps.length) ∧ σ.sl 1 = .fro none c2 (ps.map iA) ∧ σ.sl 33 = .fro none c3 (th.map iA) ∧ σ.sl 34 = .int .i64 th.length ∧ σ.sl 7 = .int .i64 p.2 ∧ σ.sl 35 = .int .i64 p.1 ∧ bestL ps (th.drop p.1) p.2 = bestL ps th th[0]!) (fun p => th.length - p.1) (0, th[0]!) ⟨by dsimp only; omega, by dsimp only; omega, by simp [put_sl, put_en, put_none, init_sl, fresh_sl, fresh_en, ent_sl, ent_en, init_en], by simp [put_sl, put_en, put_none, init_sl, fresh_sl, fresh_en, ent_sl, ent_en, init_en], by simp [put_sl, put_en, put_none, init_sl, fresh_sl, fresh_en, ent_sl, ent_en, init_en], by simp [put_sl, put_en, put_none, init_sl, fresh_sl, fresh_en, ent_sl, ent_en, init_en], by simp [put_sl, put_en, put_none, init_sl, fresh_sl, fresh_en, ent_sl, ent_en, init_en], by simp⟩ ?_
        rintro ⟨i, b⟩ σ ⟨hi, hbb, e1, e2, e3, e7, e8, hx⟩
        dsimp only at hi hbb e7 e8 hx
        simp only [vmA, Nat.reduceEqDiff, reduceIte, Nat.reduceAdd, Nat.reduceBEq, reduceCtorEq, Nat.reduceLT, Int.reduceLE, Int.reduceLT, Int.reduceEq, Nat.reduceMul, Nat.reduceLeDiff, e1, e2, e3, e7, e8]
        refine ⟨fun hlt => ?_, fun hge => ?_⟩
        · have hbi := hb i (by omega)
          rw [bestL_drop ps (by omega)] at hx
          refine ⟨hlt, by omega, by omega, by omega, by omega, by omega, fun hgt => ?_, fun hle => ?_⟩
          · rw [if_pos hgt] at hx
            rw [wr (by omega)]
            exact ⟨(i + 1, th[i]!), ⟨by dsimp only; omega, by dsimp only; omega, rfl, rfl, hx⟩, by dsimp only; omega⟩
          · rw [if_neg hle] at hx
            rw [wr (by omega)]
            exact ⟨(i + 1, b), ⟨by dsimp only; omega, by dsimp only; omega, rfl, rfl, hx⟩, by dsimp only; omega⟩
        · have : th.drop i = [] := List.drop_of_length_le (by omega)
          rw [this, bestL] at hx
          (refine hQ _ ?_; simp only [vmA, Nat.reduceEqDiff, reduceIte, Nat.reduceAdd, Nat.reduceBEq, reduceCtorEq, Nat.reduceLT, Int.reduceLE, Int.reduceLT, Int.reduceEq, Nat.reduceMul, Nat.reduceLeDiff, Tryz.f17, retG, resL, St.closeVs, St.closeV, e7])
          rw [tkV, if_pos hT, hx]
