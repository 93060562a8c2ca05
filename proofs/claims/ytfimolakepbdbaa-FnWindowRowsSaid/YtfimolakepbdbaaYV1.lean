/- WALK of functions of the seat, or plain laws for it: each theorem f<k> says what function k returns, for every world and all arguments that stand for the values named. Conditions: none but those ahead of each theorem. -/
import Derived.Test.YtfimolakepbdbaaYU1
import Derived.Test.YtfimolakepbdbaaYE7
import Derived.Test.YtfimolakepbdbaaYT4
open Go Go.Vm Go.Proofs
set_option maxRecDepth 100000
set_option maxHeartbeats 8000000
set_option linter.unusedSimpArgs false
set_option linter.unusedVariables false
theorem f45 (v : Val) (hs : okV v) : Fx 45 [vA v] (.bool (decide (valP v))) := by
  refine fn_of ⟨false, [], []⟩ Try.func45 (by kernel_rfl) rfl (by kernel_rfl) (by kernel_rfl) (Nat.le_of_ble_eq_true rfl) rfl fun Q hQ => ?_
  simp only [vmA, Nat.reduceEqDiff, reduceIte, Nat.reduceAdd, Nat.reduceBEq, reduceCtorEq, Nat.reduceLT, Int.reduceLE, Int.reduceLT, Int.reduceEq, Nat.reduceMul, Nat.reduceLeDiff, vA]
  refine callD (f47 v hs) ?_
  simp only [vmA, Nat.reduceEqDiff, reduceIte, Nat.reduceAdd, Nat.reduceBEq, reduceCtorEq, Nat.reduceLT, Int.reduceLE, Int.reduceLT, Int.reduceEq, Nat.reduceMul, Nat.reduceLeDiff, vA]
  (refine hQ _ ?_; simp only [vmA, Nat.reduceEqDiff, reduceIte, Nat.reduceAdd, Nat.reduceBEq, reduceCtorEq, Nat.reduceLT, Int.reduceLE, Int.reduceLT, Int.reduceEq, Nat.reduceMul, Nat.reduceLeDiff, Try.f45, retG, resL, St.closeVs, St.closeV])
theorem f19 : Fx 19 [] (.bool true) := by
  refine fn_of ⟨false, [], []⟩ Try.func19 (by kernel_rfl) rfl (by kernel_rfl) (by kernel_rfl) (Nat.le_of_ble_eq_true rfl) rfl fun Q hQ => ?_
  simp only [vmA, Nat.reduceEqDiff, reduceIte, Nat.reduceAdd, Nat.reduceBEq, reduceCtorEq, Nat.reduceLT, Int.reduceLE, Int.reduceLT, Int.reduceEq, Nat.reduceMul, Nat.reduceLeDiff]
  have h1 : valP ⟨1, 3, ⟨⟨[]⟩⟩⟩ := by decide
  have h2 : ¬ valP ⟨9, 0, ⟨⟨[]⟩⟩⟩ := by decide
  refine callD (f45 ⟨1, 3, ⟨⟨[]⟩⟩⟩ (by show (0 : Nat) ≤ _; omega)) ?_
  simp only [vmA, Nat.reduceEqDiff, reduceIte, Nat.reduceAdd, Nat.reduceBEq, reduceCtorEq, Nat.reduceLT, Int.reduceLE, Int.reduceLT, Int.reduceEq, Nat.reduceMul, Nat.reduceLeDiff, h1]
  refine callD (f45 ⟨9, 0, ⟨⟨[]⟩⟩⟩ (by show (0 : Nat) ≤ _; omega)) ?_
  simp only [vmA, Nat.reduceEqDiff, reduceIte, Nat.reduceAdd, Nat.reduceBEq, reduceCtorEq, Nat.reduceLT, Int.reduceLE, Int.reduceLT, Int.reduceEq, Nat.reduceMul, Nat.reduceLeDiff, h2]
  (refine hQ _ ?_; simp only [vmA, Nat.reduceEqDiff, reduceIte, Nat.reduceAdd, Nat.reduceBEq, reduceCtorEq, Nat.reduceLT, Int.reduceLE, Int.reduceLT, Int.reduceEq, Nat.reduceMul, Nat.reduceLeDiff, Try.f19, retG, resL, St.closeVs, St.closeV])
theorem okD.ok {rs : List (List Val)} (h : ∀ r ∈ rs, okD r) : ∀ r ∈ rs, okR r := fun r hr => ⟨by have := (h r hr).1; omega, fun v hv => by have := (h r hr).2 v hv; unfold okV; omega⟩
theorem f7 (xs : List UInt8) (hl : xs.length ≤ 9223372036854775807) : Fx 7 [.fro none false (xs.map bA)] (.bool true) := by
  refine fn_of ⟨false, [], []⟩ Try.func7 (by kernel_rfl) rfl (by kernel_rfl) (by kernel_rfl) (Nat.le_of_ble_eq_true rfl) rfl fun Q hQ => ?_
  simp only [vmA, Nat.reduceEqDiff, reduceIte, Nat.reduceAdd, Nat.reduceBEq, reduceCtorEq, Nat.reduceLT, Int.reduceLE, Int.reduceLT, Int.reduceEq, Nat.reduceMul, Nat.reduceLeDiff, List.length_map]
  refine ⟨fun h => ?_, fun h => callR (f27 xs hl) ?_⟩
  · (refine hQ _ ?_; simp only [vmA, Nat.reduceEqDiff, reduceIte, Nat.reduceAdd, Nat.reduceBEq, reduceCtorEq, Nat.reduceLT, Int.reduceLE, Int.reduceLT, Int.reduceEq, Nat.reduceMul, Nat.reduceLeDiff, Try.f7, retG, resL, St.closeVs, St.closeV])
  rintro _ _ ⟨⟨rs, rfl, hr1, hr2⟩, rfl⟩
  have k1 : rs.length ≤ 1048576 := by omega
  have k2 : ∀ w ∈ rs, w.length ≤ 1048576 := fun w hw => by have := (hr2 w hw).1; omega
  have k3 := okD.ok hr2
  simp only [vmA, Nat.reduceEqDiff, reduceIte, Nat.reduceAdd, Nat.reduceBEq, reduceCtorEq, Nat.reduceLT, Int.reduceLE, Int.reduceLT, Int.reduceEq, Nat.reduceMul, Nat.reduceLeDiff, rO, sA, behind_nf, hasFroL_sA, hasFroL_rR, map_froize_rO, map_froize_sA, List.length_map]
  refine callR (f28 rs false k1 k2 k3) ?_
  rintro _ _ ⟨⟨ys, hy, rfl⟩, rfl⟩
  have hall := wRun_all hy.sorted hy.win hy.len
  obtain ⟨gs, hgs⟩ : ∃ gs, (ys.map Prod.snd).map (wSpot (ys.map Prod.snd)) = gs := ⟨_, rfl⟩
  have hgl : gs.length ≤ 1048576 := by rw [← hgs, List.length_map]; have := hy.len; omega
  rw [hall, hgs]
  simp only [vmA, Nat.reduceEqDiff, reduceIte, Nat.reduceAdd, Nat.reduceBEq, reduceCtorEq, Nat.reduceLT, Int.reduceLE, Int.reduceLT, Int.reduceEq, Nat.reduceMul, Nat.reduceLeDiff, rO, sA, behind_nf, hasFroL_sA, hasFroL_rR, map_froize_rO, map_froize_sA, List.length_map]
  refine callR (f29 rs false k1 k2 k3) ?_
  rintro _ _ ⟨⟨ys2, hy2, rfl⟩, rfl⟩
  obtain rfl := hy2.uniq hy
  rw [hall, hgs]
  simp only [vmA, Nat.reduceEqDiff, reduceIte, Nat.reduceAdd, Nat.reduceBEq, reduceCtorEq, Nat.reduceLT, Int.reduceLE, Int.reduceLT, Int.reduceEq, Nat.reduceMul, Nat.reduceLeDiff, rO, sA, behind_nf, hasFroL_sA, hasFroL_rR, map_froize_rO, map_froize_sA, List.length_map]
  refine callR (f17 rs false k1 k2 k3) ?_
  rintro _ _ ⟨⟨ys3, hy3, rfl⟩, rfl⟩
  obtain rfl := hy3.uniq hy
  rw [hgs]
  simp only [vmA, Nat.reduceEqDiff, reduceIte, Nat.reduceAdd, Nat.reduceBEq, reduceCtorEq, Nat.reduceLT, Int.reduceLE, Int.reduceLT, Int.reduceEq, Nat.reduceMul, Nat.reduceLeDiff, rO, sA, behind_nf, hasFroL_sA, hasFroL_rR, map_froize_rO, map_froize_sA, List.length_map]
  refine WT_loop (fun (i : Nat) σ => (i ≤ gs.length) ∧ σ.sl 7 = .int .i64 i ∧ σ.sl 4 = .hd 896 1 0 gs.length false ∧ (σ.en 896).live = true ∧ (σ.en 896).gen = 1 ∧ (σ.en 896).frz = false ∧ (σ.en 896).sz = 2 ∧ (σ.en 896).elems = gs.map sA ∧ σ.sl 5 = .hd 1024 1 0 gs.length false ∧ (σ.en 1024).live = true ∧ (σ.en 1024).gen = 1 ∧ (σ.en 1024).frz = false ∧ (σ.en 1024).sz = 2 ∧ (σ.en 1024).elems = gs.map sA ∧ σ.sl 6 = .hd 1152 1 0 gs.length false ∧ (σ.en 1152).live = true ∧ (σ.en 1152).gen = 1 ∧ (σ.en 1152).frz = false ∧ (σ.en 1152).sz = 2 ∧ (σ.en 1152).elems = gs.map sA) (fun i => gs.length - i) (0) ⟨Nat.zero_le _, by simp [put_sl, put_en, put_none, init_sl, fresh_sl, fresh_en, ent_sl, ent_en, init_en, sA], by simp [put_sl, put_en, put_none, init_sl, fresh_sl, fresh_en, ent_sl, ent_en, init_en, sA], by simp [put_sl, put_en, put_none, init_sl, fresh_sl, fresh_en, ent_sl, ent_en, init_en, sA], by simp [put_sl, put_en, put_none, init_sl, fresh_sl, fresh_en, ent_sl, ent_en, init_en, sA], by simp [put_sl, put_en, put_none, init_sl, fresh_sl, fresh_en, ent_sl, ent_en, init_en, sA], by simp [put_sl, put_en, put_none, init_sl, fresh_sl, fresh_en, ent_sl, ent_en, init_en, sA], by simp [put_sl, put_en, put_none, init_sl, fresh_sl, fresh_en, ent_sl, ent_en, init_en, sA], by simp [put_sl, put_en, put_none, init_sl, fresh_sl, fresh_en, ent_sl, ent_en, init_en, sA], by simp [put_sl, put_en, put_none, init_sl, fresh_sl, fresh_en, ent_sl, ent_en, init_en, sA], by simp [put_sl, put_en, put_none, init_sl, fresh_sl, fresh_en, ent_sl, ent_en, init_en, sA], by simp [put_sl, put_en, put_none, init_sl, fresh_sl, fresh_en, ent_sl, ent_en, init_en, sA], by simp [put_sl, put_en, put_none, init_sl, fresh_sl, fresh_en, ent_sl, ent_en, init_en, sA], by simp [put_sl, put_en, put_none, init_sl, fresh_sl, fresh_en, ent_sl, ent_en, init_en, sA], by simp [put_sl, put_en, put_none, init_sl, fresh_sl, fresh_en, ent_sl, ent_en, init_en, sA], by simp [put_sl, put_en, put_none, init_sl, fresh_sl, fresh_en, ent_sl, ent_en, init_en, sA], by simp [put_sl, put_en, put_none, init_sl, fresh_sl, fresh_en, ent_sl, ent_en, init_en, sA], by simp [put_sl, put_en, put_none, init_sl, fresh_sl, fresh_en, ent_sl, ent_en, init_en, sA], by simp [put_sl, put_en, put_none, init_sl, fresh_sl, fresh_en, ent_sl, ent_en, init_en, sA], by simp [put_sl, put_en, put_none, init_sl, fresh_sl, fresh_en, ent_sl, ent_en, init_en, sA]⟩ ?_
  rintro i σ ⟨hi, e7, e4, m896a, m896b, m896c, m896d, m896e, e5, m1024a, m1024b, m1024c, m1024d, m1024e, e6, m1152a, m1152b, m1152c, m1152d, m1152e⟩
  by_cases hlt : i < gs.length
  · have p0 : ((i : Int) < gs.length) = True := eq_true (by omega)
    have p1 : (i < gs.length) = True := eq_true (by omega)
    simp only [vmA, Nat.reduceEqDiff, reduceIte, Nat.reduceAdd, Nat.reduceBEq, reduceCtorEq, Nat.reduceLT, Int.reduceLE, Int.reduceLT, Int.reduceEq, Nat.reduceMul, Nat.reduceLeDiff, e7, e4, m896a, m896b, m896c, m896d, m896e, e5, m1024a, m1024b, m1024c, m1024d, m1024e, e6, m1152a, m1152b, m1152c, m1152d, m1152e, rO, sA, behind_nf, hasFroL_sA, hasFroL_rR, map_froize_rO, map_froize_sA, List.length_map, p0, p1]
    rw [wr (by omega)]
    exact ⟨i + 1, ⟨by omega, rfl⟩, by omega⟩
  · have p0 : ((i : Int) < gs.length) = False := eq_false (by omega)
    simp only [vmA, Nat.reduceEqDiff, reduceIte, Nat.reduceAdd, Nat.reduceBEq, reduceCtorEq, Nat.reduceLT, Int.reduceLE, Int.reduceLT, Int.reduceEq, Nat.reduceMul, Nat.reduceLeDiff, e7, e4, m896a, m896b, m896c, m896d, m896e, e5, m1024a, m1024b, m1024c, m1024d, m1024e, e6, m1152a, m1152b, m1152c, m1152d, m1152e, rO, sA, behind_nf, hasFroL_sA, hasFroL_rR, map_froize_rO, map_froize_sA, List.length_map, p0]
    refine callD f19 ?_
    simp only [vmA, Nat.reduceEqDiff, reduceIte, Nat.reduceAdd, Nat.reduceBEq, reduceCtorEq, Nat.reduceLT, Int.reduceLE, Int.reduceLT, Int.reduceEq, Nat.reduceMul, Nat.reduceLeDiff]
    (refine hQ _ ?_; simp only [vmA, Nat.reduceEqDiff, reduceIte, Nat.reduceAdd, Nat.reduceBEq, reduceCtorEq, Nat.reduceLT, Int.reduceLE, Int.reduceLT, Int.reduceEq, Nat.reduceMul, Nat.reduceLeDiff, Try.f7, retG, resL, St.closeVs, St.closeV])
