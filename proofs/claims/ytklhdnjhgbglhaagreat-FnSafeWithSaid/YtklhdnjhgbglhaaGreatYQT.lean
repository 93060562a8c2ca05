/- WALK, or plain laws for it: theorem f<k> says what function k returns. Conditions: none but those ahead of each theorem. -/
import Derived.Test.YtklhdnjhgbglhaaGreatYQS
import Derived.Test.YtklhdnjhgbglhaaGreatYT1
set_option linter.unusedVariables false
set_option linter.unusedSimpArgs false
open Nat renaming reduceEqDiff → sN1, reduceAdd → sN2, reduceBEq → sN3, reduceLT → sN4, reduceMul → sN5, reduceLeDiff → sN6, reduceSub → sN7
open Int renaming reduceLE → sI1, reduceLT → sI2, reduceEq → sI3
open Go Go.Vm Go.Proofs
set_option maxRecDepth 100000
set_option maxHeartbeats 16000000
def mvB (p : Bool × Mv) : AV := .agg [.int .i64 p.2.kind, .int .i64 p.2.who, .int .i64 p.2.key, .fro none p.1 (p.2.row.map vA)]
theorem wk_vAs (xs : List Val) : (xs.map vA).map wk = xs.map vA := by
  rw [List.map_map]
  exact List.map_congr_left fun v _ => rfl
theorem wk_mvB (zs : List (Bool × Mv)) : (zs.map mvB).map wk = (zs.map Prod.snd).map mA := by
  rw [List.map_map, List.map_map]
  exact List.map_congr_left fun p _ => by
    show wk (mvB p) = mA p.2
    simp only [mvB, mA, wk, wkL, wkL_eq, wk_vAs]
theorem f38B (h : Hs) (hp : houseP h) (zs : List (Bool × Mv)) (c : Bool) (hn : zs.length ≤ 1048576) (hm : ∀ z ∈ zs, okR z.2.row ∧ z.2.row.length ≤ 1048576) : FxR 38 [hA h, .fro none c (zs.map mvB)] fun r l => ∃ h', r = hA h' ∧ houseP h' ∧ l = .und := by
  have h0 := f38 h hp (zs.map Prod.snd) false (by simpa using hn) (fun m hm' => by
    obtain ⟨z, hz, rfl⟩ := List.mem_map.1 hm'
    exact hm z hz)
  have e : List.map wk [hA h, .fro none c (zs.map mvB)] = [hA h, .fro none false ((zs.map Prod.snd).map mA)] := by
    simp only [List.map_cons, List.map_nil, hA, wk, wkL, wkL_eq, map_wk_gA, wk_xAs, wk_mvB]
  exact ⟨h0.1, DoesR.wkA (args := [hA h, .fro none c (zs.map mvB)]) (by rw [e]; exact h0.2) (by kernel_rfl) rfl⟩
theorem f119F (xs : List UInt8) (c : Bool) (p : Int) (hl : xs.length ≤ 2000) (h0 : 0 ≤ p) (h1 : p ≤ 1099511627776) :
    FxR 119 [rdP xs c p] fun r l => ∃ k, r = .fro none false [vA ⟨1, k, ⟨⟨[]⟩⟩⟩] ∧ l = rdP xs c (p + 1) := by
  have h := f119 xs c p hl h0 h1
  refine FxR.mono (R := _) ⟨h.1, DoesR.froA h.2⟩ ?_
  rintro r l ⟨r0, ⟨k, rfl, hl⟩, rfl⟩
  exact ⟨k, by simp only [froR, froize, froizeL, vA], hl⟩
theorem map_froize_mvB (zs : List (Bool × Mv)) : (zs.map mvB).map froize = zs.map mvB := by
  rw [List.map_map]
  exact List.map_congr_left fun t _ => rfl
theorem okRs {z : Bool × Mv} (h : z.2.row = [] ∨ ∃ k, z.2.row = [⟨1, k, ⟨⟨[]⟩⟩⟩]) : okR z.2.row ∧ z.2.row.length ≤ 1048576 := by
  rcases h with h | ⟨k, h⟩ <;> rw [h]
  · exact ⟨⟨by simp, by simp⟩, by simp⟩
  · exact ⟨⟨by simp, fun v hv => by rw [List.mem_singleton.1 hv]; exact Nat.zero_le _⟩, by simp⟩
def rowS (z : Bool × Mv) : Prop := z.2.row = [] ∨ ∃ k, z.2.row = [⟨1, k, ⟨⟨[]⟩⟩⟩]
def begL (n : Nat) : List (Bool × Mv) := (List.range n).map fun j : Nat => (true, ⟨1, (j : Int), 0, []⟩)
theorem begL_next (n : Nat) : begL (n + 1) = begL n ++ [(true, ⟨1, (n : Int), 0, []⟩)] := by
  unfold begL
  rw [List.range_succ, List.map_append]; rfl
theorem begL_len (n : Nat) : (begL n).length = n := by simp [begL]
theorem begL_row (n : Nat) : ∀ z ∈ begL n, rowS z := fun z hz => by
  obtain ⟨j, _, rfl⟩ := List.mem_map.1 hz
  exact .inl rfl
def enK (σ : St) (e g sz : Nat) (L : List AV) : Prop := (σ.en e).live = true ∧ (σ.en e).gen = g ∧ (σ.en e).frz = false ∧ (σ.en e).sz = sz ∧ (σ.en e).elems = L
theorem f85 (xs : List UInt8) (c : Bool) (p : Int) (hl : xs.length ≤ 2000) (h0 : 0 ≤ p) (h1 : p ≤ 1099511626000) : FxR 85 [rdP xs c p] fun r l => ∃ h', r = hA h' ∧ houseP h' ∧ ∃ q : Int, (p ≤ q ∧ q ≤ p + 200) ∧ l = rdP xs c q := by
  refine fn_ofWX ⟨true, [], [(9, [], [1000, 1, 5])]⟩ (k := 0) Tryz.func85 (by kernel_rfl) rfl (by kernel_rfl) (by kernel_rfl) (Nat.le_of_ble_eq_true rfl) rfl ⟨_, _, .inr ⟨_, _, rfl⟩⟩ rfl fun Q hQ => ?_
  simp only [tr_seq, tr_block, tr_loop, tr_cond, tr_skip, tr_exit, tr_ret, tr_reg]
  rw [tr_tree 9 [1, 5] (.both 0 (.both 2 (.both 3 (.both 4 (.both 6 (.both 7 (.both 8 (.both 9 .leaf .leaf) .leaf) (.both 8 (.both 7 (.both 9 .leaf .leaf) .leaf) .leaf)) (.both 8 (.both 6 (.both 7 (.both 9 .leaf .leaf) .leaf) .leaf) .leaf)) (.both 6 (.both 4 (.both 7 (.both 8 (.both 9 .leaf .leaf) .leaf) (.both 8 (.both 7 (.both 9 .leaf .leaf) .leaf) .leaf)) (.both 8 (.both 4 (.both 7 (.both 9 .leaf .leaf) .leaf) .leaf) .leaf)) (.both 8 (.both 4 (.both 6 (.both 7 (.both 9 .leaf .leaf) .leaf) .leaf) (.both 6 (.both 4 (.both 7 (.both 9 .leaf .leaf) .leaf) .leaf) .leaf)) .leaf))) (.both 6 (.both 3 (.both 4 (.both 7 (.both 8 (.both 9 .leaf .leaf) .leaf) (.both 8 (.both 7 (.both 9 .leaf .leaf) .leaf) .leaf)) (.both 8 (.both 4 (.both 7 (.both 9 .leaf .leaf) .leaf) .leaf) .leaf)) (.both 8 (.both 3 (.both 4 (.both 7 (.both 9 .leaf .leaf) .leaf) .leaf) .leaf) .leaf)) (.both 8 (.both 3 (.both 4 (.both 6 (.both 7 (.both 9 .leaf .leaf) .leaf) .leaf) (.both 6 (.both 4 (.both 7 (.both 9 .leaf .leaf) .leaf) .leaf) .leaf)) (.both 6 (.both 3 (.both 4 (.both 7 (.both 9 .leaf .leaf) .leaf) .leaf) .leaf) .leaf)) .leaf))) (.both 8 (.both 2 (.both 3 (.both 4 (.both 6 (.both 7 (.both 9 .leaf .leaf) .leaf) .leaf) (.both 6 (.both 4 (.both 7 (.both 9 .leaf .leaf) .leaf) .leaf) .leaf)) (.both 6 (.both 3 (.both 4 (.both 7 (.both 9 .leaf .leaf) .leaf) .leaf) .leaf) .leaf)) .leaf) .leaf)) (.both 2 (.both 0 (.both 3 (.both 4 (.both 6 (.both 7 (.both 8 (.both 9 .leaf .leaf) .leaf) (.both 8 (.both 7 (.both 9 .leaf .leaf) .leaf) .leaf)) (.both 8 (.both 6 (.both 7 (.both 9 .leaf .leaf) .leaf) .leaf) .leaf)) (.both 6 (.both 4 (.both 7 (.both 8 (.both 9 .leaf .leaf) .leaf) (.both 8 (.both 7 (.both 9 .leaf .leaf) .leaf) .leaf)) (.both 8 (.both 4 (.both 7 (.both 9 .leaf .leaf) .leaf) .leaf) .leaf)) (.both 8 (.both 4 (.both 6 (.both 7 (.both 9 .leaf .leaf) .leaf) .leaf) (.both 6 (.both 4 (.both 7 (.both 9 .leaf .leaf) .leaf) .leaf) .leaf)) .leaf))) (.both 6 (.both 3 (.both 4 (.both 7 (.both 8 (.both 9 .leaf .leaf) .leaf) (.both 8 (.both 7 (.both 9 .leaf .leaf) .leaf) .leaf)) (.both 8 (.both 4 (.both 7 (.both 9 .leaf .leaf) .leaf) .leaf) .leaf)) (.both 8 (.both 3 (.both 4 (.both 7 (.both 9 .leaf .leaf) .leaf) .leaf) .leaf) .leaf)) (.both 8 (.both 3 (.both 4 (.both 6 (.both 7 (.both 9 .leaf .leaf) .leaf) .leaf) (.both 6 (.both 4 (.both 7 (.both 9 .leaf .leaf) .leaf) .leaf) .leaf)) (.both 6 (.both 3 (.both 4 (.both 7 (.both 9 .leaf .leaf) .leaf) .leaf) .leaf) .leaf)) .leaf))) (.both 6 (.both 0 (.both 3 (.both 4 (.both 7 (.both 8 (.both 9 .leaf .leaf) .leaf) (.both 8 (.both 7 (.both 9 .leaf .leaf) .leaf) .leaf)) (.both 8 (.both 4 (.both 7 (.both 9 .leaf .leaf) .leaf) .leaf) .leaf)) (.both 8 (.both 3 (.both 4 (.both 7 (.both 9 .leaf .leaf) .leaf) .leaf) .leaf) .leaf)) (.both 8 (.both 0 (.both 3 (.both 4 (.both 7 (.both 9 .leaf .leaf) .leaf) .leaf) .leaf) .leaf) .leaf)) (.both 8 (.both 0 (.both 3 (.both 4 (.both 6 (.both 7 (.both 9 .leaf .leaf) .leaf) .leaf) (.both 6 (.both 4 (.both 7 (.both 9 .leaf .leaf) .leaf) .leaf) .leaf)) (.both 6 (.both 3 (.both 4 (.both 7 (.both 9 .leaf .leaf) .leaf) .leaf) .leaf) .leaf)) (.both 6 (.both 0 (.both 3 (.both 4 (.both 7 (.both 9 .leaf .leaf) .leaf) .leaf) .leaf) .leaf) .leaf)) .leaf))) (.both 8 (.both 0 (.both 2 (.both 3 (.both 4 (.both 6 (.both 7 (.both 9 .leaf .leaf) .leaf) .leaf) (.both 6 (.both 4 (.both 7 (.both 9 .leaf .leaf) .leaf) .leaf) .leaf)) (.both 6 (.both 3 (.both 4 (.both 7 (.both 9 .leaf .leaf) .leaf) .leaf) .leaf) .leaf)) .leaf) (.both 2 (.both 0 (.both 3 (.both 4 (.both 6 (.both 7 (.both 9 .leaf .leaf) .leaf) .leaf) (.both 6 (.both 4 (.both 7 (.both 9 .leaf .leaf) .leaf) .leaf) .leaf)) (.both 6 (.both 3 (.both 4 (.both 7 (.both 9 .leaf .leaf) .leaf) .leaf) .leaf) .leaf)) (.both 6 (.both 0 (.both 3 (.both 4 (.both 7 (.both 9 .leaf .leaf) .leaf) .leaf) .leaf) .leaf) .leaf)) .leaf)) .leaf))) (by kernel_rfl)]
  simp only [codeA_nil, codeA_look, codeA_hard, codeA_fin, ordC_leaf, ordC_one, ordC_both, pickL, List.getElem?_toArray, List.getElem?_cons_zero, List.getElem?_cons_succ]
  simp only [vmA, sN1, reduceIte, sN2, sN3, reduceCtorEq, sN4, sI1, sI2, sI3, sN5, sN6, rdP, rdA]
  refine WT_loopR (fun (zz : Nat × Nat) σ => (zz.1 ≤ 4) ∧ σ.sl 4 = .int .i64 zz.1 ∧ σ.sl 0 = .ptr 0 1 0 0 ∧ (σ.en 0).live = true ∧ (σ.en 0).gen = 1 ∧ (σ.en 0).frz = false ∧ (σ.en 0).sz = 2 ∧ (σ.en 0).elems = [rdA xs c p] ∧ σ.sl 2 = .ptr 128 1 0 0 ∧ (σ.en 128).live = true ∧ (σ.en 128).gen = 1 ∧ (σ.en 128).frz = false ∧ (σ.en 128).sz = 3 ∧ (σ.en 128).elems = [.agg [.fro none true [], .int .i64 0, .fro none true []]] ∧ σ.sl 3 = .hd 192 zz.2 0 (zz.1) false ∧ (σ.en 192).live = true ∧ (σ.en 192).gen = zz.2 ∧ (σ.en 192).frz = false ∧ (σ.en 192).sz = 4 ∧ (σ.en 192).elems = (begL zz.1).map mvB) (fun zz => 4 - zz.1) 3 ?_ ?_
  · simp only [vmA, sN1, reduceIte, sN2, sN3, reduceCtorEq, sN4, sI1, sI2, sI3, sN5, sN6, reown, rdA, rdP]
    exact ⟨(0, 1), Nat.zero_le _, rfl, rfl, rfl, rfl⟩
  rintro ⟨i, γ⟩ σ ⟨hi, e4, e0, m0a, m0b, m0c, m0d, m0e, e2, m128a, m128b, m128c, m128d, m128e, e3, m192a, m192b, m192c, m192d, m192e⟩
  try dsimp only at e4 e0 m0a m0b m0c m0d m0e e2 m128a m128b m128c m128d m128e e3 m192a m192b m192c m192d m192e hi
  simp only [vmA, sN1, reduceIte, sN2, sN3, reduceCtorEq, sN4, sI1, sI2, sI3, sN5, sN6, e4, e0, m0a, m0b, m0c, m0d, m0e, e2, m128a, m128b, m128c, m128d, m128e, e3, m192a, m192b, m192c, m192d, m192e, rdA, rdP, List.length_map, Option.bind_none, reown, begL_len]
  refine ⟨fun hlt => ?_, fun hge => ?_⟩
  · rw [wr (by omega)]
    refine ⟨⟨by omega, by omega⟩, by simp [begL_len], (i + 1, γ + 1 + 1), ⟨by dsimp only; omega, rfl, ?_⟩, by dsimp only; omega⟩
    dsimp only
    rw [begL_next, List.map_append, List.take_of_length_le (by simp [begL_len])]
    refine ⟨?_, rfl, rfl⟩
    simp [begL_len]
  · obtain rfl : i = 4 := by omega
    have hb4 := begL_len 4
    have hr4 := begL_row 4
    refine callR (f61 xs c p 10 hl h0 (by omega)) ?_
    rintro _ _ ⟨k0, rfl, hk0, hkn, rfl⟩
    have hw0 : IntKind.i64.wrap (4 + k0) = 4 + k0 := wr (by omega)
    simp only [vmA, sN1, reduceIte, sN2, sN3, reduceCtorEq, sN4, sI1, sI2, sI3, sN5, sN6, e4, e0, m0a, m0b, m0c, m0d, m0e, e2, m128a, m128b, m128c, m128d, m128e, e3, m192a, m192b, m192c, m192d, m192e, rdA, rdP, List.length_map, Option.bind_none, hb4, hw0]
    refine WT_loop (fun (zz : Int × Nat × List (Bool × Mv) × Int) σ => ((0 ≤ zz.1 ∧ zz.1 ≤ 14) ∧ (zz.2.2.1.length : Int) + zz.1 ≤ 18 ∧ (∀ z ∈ zz.2.2.1, rowS z) ∧ (p ≤ zz.2.2.2 ∧ zz.2.2.2 ≤ p + 1 + 8 * (14 - zz.1))) ∧ σ.sl 5 = .int .i64 zz.1 ∧ σ.sl 0 = .ptr 0 1 0 0 ∧ (σ.en 0).live = true ∧ (σ.en 0).gen = 1 ∧ (σ.en 0).frz = false ∧ (σ.en 0).sz = 2 ∧ (σ.en 0).elems = [rdA xs c zz.2.2.2] ∧ σ.sl 2 = .ptr 128 1 0 0 ∧ (σ.en 128).live = true ∧ (σ.en 128).gen = 1 ∧ (σ.en 128).frz = false ∧ (σ.en 128).sz = 3 ∧ (σ.en 128).elems = [.agg [.fro none true [], .int .i64 0, .fro none true []]] ∧ σ.sl 3 = .hd 192 zz.2.1 0 (zz.2.2.1.length) false ∧ (σ.en 192).live = true ∧ (σ.en 192).gen = zz.2.1 ∧ (σ.en 192).frz = false ∧ (σ.en 192).sz = 4 ∧ (σ.en 192).elems = zz.2.2.1.map mvB) (fun zz => zz.1.toNat) ((4 + k0, γ, begL 4, p + 1)) ⟨⟨⟨by dsimp only; omega, by dsimp only; omega⟩, by dsimp only; omega, hr4, by dsimp only; omega⟩, by simp [vmI, e4, e0, m0a, m0b, m0c, m0d, m0e, e2, m128a, m128b, m128c, m128d, m128e, e3, m192a, m192b, m192c, m192d, m192e, rdA, hb4, hw0], by simp [vmI, e4, e0, m0a, m0b, m0c, m0d, m0e, e2, m128a, m128b, m128c, m128d, m128e, e3, m192a, m192b, m192c, m192d, m192e, rdA, hb4, hw0], by simp [vmI, e4, e0, m0a, m0b, m0c, m0d, m0e, e2, m128a, m128b, m128c, m128d, m128e, e3, m192a, m192b, m192c, m192d, m192e, rdA, hb4, hw0], by simp [vmI, e4, e0, m0a, m0b, m0c, m0d, m0e, e2, m128a, m128b, m128c, m128d, m128e, e3, m192a, m192b, m192c, m192d, m192e, rdA, hb4, hw0], by simp [vmI, e4, e0, m0a, m0b, m0c, m0d, m0e, e2, m128a, m128b, m128c, m128d, m128e, e3, m192a, m192b, m192c, m192d, m192e, rdA, hb4, hw0], by simp [vmI, e4, e0, m0a, m0b, m0c, m0d, m0e, e2, m128a, m128b, m128c, m128d, m128e, e3, m192a, m192b, m192c, m192d, m192e, rdA, hb4, hw0], by simp [vmI, e4, e0, m0a, m0b, m0c, m0d, m0e, e2, m128a, m128b, m128c, m128d, m128e, e3, m192a, m192b, m192c, m192d, m192e, rdA, hb4, hw0], by simp [vmI, e4, e0, m0a, m0b, m0c, m0d, m0e, e2, m128a, m128b, m128c, m128d, m128e, e3, m192a, m192b, m192c, m192d, m192e, rdA, hb4, hw0], by simp [vmI, e4, e0, m0a, m0b, m0c, m0d, m0e, e2, m128a, m128b, m128c, m128d, m128e, e3, m192a, m192b, m192c, m192d, m192e, rdA, hb4, hw0], by simp [vmI, e4, e0, m0a, m0b, m0c, m0d, m0e, e2, m128a, m128b, m128c, m128d, m128e, e3, m192a, m192b, m192c, m192d, m192e, rdA, hb4, hw0], by simp [vmI, e4, e0, m0a, m0b, m0c, m0d, m0e, e2, m128a, m128b, m128c, m128d, m128e, e3, m192a, m192b, m192c, m192d, m192e, rdA, hb4, hw0], by simp [vmI, e4, e0, m0a, m0b, m0c, m0d, m0e, e2, m128a, m128b, m128c, m128d, m128e, e3, m192a, m192b, m192c, m192d, m192e, rdA, hb4, hw0], by simp [vmI, e4, e0, m0a, m0b, m0c, m0d, m0e, e2, m128a, m128b, m128c, m128d, m128e, e3, m192a, m192b, m192c, m192d, m192e, rdA, hb4, hw0], by simp [vmI, e4, e0, m0a, m0b, m0c, m0d, m0e, e2, m128a, m128b, m128c, m128d, m128e, e3, m192a, m192b, m192c, m192d, m192e, rdA, hb4, hw0], by simp [vmI, e4, e0, m0a, m0b, m0c, m0d, m0e, e2, m128a, m128b, m128c, m128d, m128e, e3, m192a, m192b, m192c, m192d, m192e, rdA, hb4, hw0], by simp [vmI, e4, e0, m0a, m0b, m0c, m0d, m0e, e2, m128a, m128b, m128c, m128d, m128e, e3, m192a, m192b, m192c, m192d, m192e, rdA, hb4, hw0], by simp [vmI, e4, e0, m0a, m0b, m0c, m0d, m0e, e2, m128a, m128b, m128c, m128d, m128e, e3, m192a, m192b, m192c, m192d, m192e, rdA, hb4, hw0], by simp [vmI, e4, e0, m0a, m0b, m0c, m0d, m0e, e2, m128a, m128b, m128c, m128d, m128e, e3, m192a, m192b, m192c, m192d, m192e, rdA, hb4, hw0], by simp [vmI, e4, e0, m0a, m0b, m0c, m0d, m0e, e2, m128a, m128b, m128c, m128d, m128e, e3, m192a, m192b, m192c, m192d, m192e, rdA, hb4, hw0]⟩ ?_
    clear e4 e0 m0a m0b m0c m0d m0e e2 m128a m128b m128c m128d m128e e3 m192a m192b m192c m192d m192e
    rintro ⟨k, γ, zs, q⟩ σ ⟨hk, e5, e0, m0a, m0b, m0c, m0d, m0e, e2, m128a, m128b, m128c, m128d, m128e, e3, m192a, m192b, m192c, m192d, m192e⟩
    try dsimp only at e5 e0 m0a m0b m0c m0d m0e e2 m128a m128b m128c m128d m128e e3 m192a m192b m192c m192d m192e hk
    obtain ⟨hk, hlen, hrow, hq⟩ := hk
    obtain ⟨δ, hδ⟩ : ∃ δ, (σ.en 384).gen + 1 = δ := ⟨_, rfl⟩
    obtain ⟨ks, hks, hkl⟩ : ∃ ks : List Int, [AV.int .i64 2, .int .i64 2, .int .i64 3, .int .i64 3, .int .i64 5] = ks.map iA ∧ ks.length = 5 := ⟨[2, 2, 3, 3, 5], rfl, rfl⟩
    simp only [vmA, sN1, reduceIte, sN2, sN3, reduceCtorEq, sN4, sI1, sI2, sI3, sN5, sN6, e5, e0, m0a, m0b, m0c, m0d, m0e, e2, m128a, m128b, m128c, m128d, m128e, e3, m192a, m192b, m192c, m192d, m192e, rdA, rdP, List.length_map, Option.bind_none, hδ, hks, hkl]
    refine ⟨fun hpos => ?_, fun hneg => ?_⟩
    · refine WT_cut (fun σ => ∃ kd w : Int, σ.sl 5 = .int .i64 k ∧ (σ.sl 0 = .ptr 0 1 0 0 ∧ enK σ 0 1 2 [rdA xs c (q + 1 + 1)]) ∧ (σ.sl 2 = .ptr 128 1 0 0 ∧ enK σ 128 1 3 [.agg [.fro none true [], .int .i64 0, .fro none true []]]) ∧ (σ.sl 3 = .hd 192 γ 0 zs.length false ∧ enK σ 192 γ 4 (zs.map mvB)) ∧ σ.sl 6 = .ptr 384 δ 0 0 ∧ enK σ 384 δ 4 [.agg [.int .i64 kd, .int .i64 w, .int .i64 0, .fro none true []]]) ?_ ?_
      · simp only [vmA, sN1, reduceIte, sN2, sN3, reduceCtorEq, sN4, sI1, sI2, sI3, sN5, sN6, WT_both, e5, e0, m0a, m0b, m0c, m0d, m0e, e2, m128a, m128b, m128c, m128d, m128e, e3, m192a, m192b, m192c, m192d, m192e, rdP, rdA, Option.bind_none, hks, List.length_map, hkl, hδ]
        repeat' first
          | refine And.intro ?_ ?_
          | (refine callR (f61 xs c _ _ hl (by omega) (by omega)) ?_
             rintro _ _ ⟨k1, rfl, hk1, hkn1, rfl⟩
             simp only [vmA, sN1, reduceIte, sN2, sN3, reduceCtorEq, sN4, sI1, sI2, sI3, sN5, sN6, WT_both, e5, e0, m0a, m0b, m0c, m0d, m0e, e2, m128a, m128b, m128c, m128d, m128e, e3, m192a, m192b, m192c, m192d, m192e, rdP, rdA, Option.bind_none, hks, List.length_map, hkl, hδ])
        all_goals first
          | omega
          | (simp only [vmA, sN1, reduceIte, sN2, sN3, reduceCtorEq, sN4, sI1, sI2, sI3, sN5, sN6, enK, e5, e0, m0a, m0b, m0c, m0d, m0e, e2, m128a, m128b, m128c, m128d, m128e, e3, m192a, m192b, m192c, m192d, m192e, rdA, rdP, bA, hδ]
             exact ⟨_, _, rfl⟩)
      · rintro σ ⟨kd, w, e5, ⟨e0, a1, a2, a3, a4, a5⟩, ⟨e2, b1, b2, b3, b4, b5⟩, ⟨e3, c1, c2, c3, c4, c5⟩, e6, d1, d2, d3, d4, d5⟩
        show WT _ _ _ _ _ _
        simp only [vmA, sN1, reduceIte, sN2, sN3, reduceCtorEq, sN4, sI1, sI2, sI3, sN5, sN6, e5, e0, a1, a2, a3, a4, a5, e2, b1, b2, b3, b4, b5, e3, c1, c2, c3, c4, c5, e6, d1, d2, d3, d4, d5, rdA, rdP, List.length_map, Option.bind_none]
        refine ⟨fun h5 => callR (f61 xs c (q + 1 + 1) 2 hl (by omega) (by omega)) ?_, fun h5 => ⟨fun _ => callR (f61 xs c (q + 1 + 1) 3 hl (by omega) (by omega)) ?_, fun h => absurd h h5⟩⟩
        · rintro _ _ ⟨k2, rfl, hk2, hkn2, rfl⟩
          simp only [vmA, sN1, reduceIte, sN2, sN3, reduceCtorEq, sN4, sI1, sI2, sI3, sN5, sN6, e5, e0, a1, a2, a3, a4, a5, e2, b1, b2, b3, b4, b5, e3, c1, c2, c3, c4, c5, e6, d1, d2, d3, d4, d5, rdA, rdP, List.length_map, Option.bind_none, h5]
          refine ⟨fun z2 => callR (f61 xs c (q + 1 + 1 + 1) 3 hl (by omega) (by omega)) ?_, fun z2 => ?_⟩
          · rintro _ _ ⟨k3, rfl, hk3, hkn3, rfl⟩
            simp only [vmA, sN1, reduceIte, sN2, sN3, reduceCtorEq, sN4, sI1, sI2, sI3, sN5, sN6, e5, e0, a1, a2, a3, a4, a5, e2, b1, b2, b3, b4, b5, e3, c1, c2, c3, c4, c5, e6, d1, d2, d3, d4, d5, rdA, rdP, List.length_map, Option.bind_none, h5]
            rw [wr (by omega)]
            refine ⟨⟨by omega, by omega⟩, (k - 1, γ + 1, zs ++ [(true, ⟨2, w, k3, []⟩)], q + 1 + 1 + 1 + 1), ⟨⟨⟨by dsimp only; omega, by dsimp only; omega⟩, by dsimp only; simp; omega, fun z hz => ?_, by dsimp only; omega⟩, rfl, rfl, ?_⟩, by dsimp only; omega⟩
            · rcases List.mem_append.1 hz with hz | hz
              · exact hrow z hz
              · rw [List.mem_singleton.1 hz]; exact .inl rfl
            · dsimp only
              rw [List.map_append]
              refine ⟨?_, rfl, rfl⟩
              simp
          · rw [wr (by omega)]
            refine ⟨⟨by omega, by omega⟩, (k - 1, γ + 1, zs ++ [(true, ⟨5, w, 0, []⟩)], q + 1 + 1 + 1), ⟨⟨⟨by dsimp only; omega, by dsimp only; omega⟩, by dsimp only; simp; omega, fun z hz => ?_, by dsimp only; omega⟩, rfl, rfl, ?_⟩, by dsimp only; omega⟩
            · rcases List.mem_append.1 hz with hz | hz
              · exact hrow z hz
              · rw [List.mem_singleton.1 hz]; exact .inl rfl
            · dsimp only
              rw [List.map_append]
              refine ⟨?_, rfl, rfl⟩
              simp
        · rintro _ _ ⟨k3, rfl, hk3, hkn3, rfl⟩
          simp only [vmA, sN1, reduceIte, sN2, sN3, reduceCtorEq, sN4, sI1, sI2, sI3, sN5, sN6, e5, e0, a1, a2, a3, a4, a5, e2, b1, b2, b3, b4, b5, e3, c1, c2, c3, c4, c5, e6, d1, d2, d3, d4, d5, rdA, rdP, List.length_map, Option.bind_none]
          refine ⟨fun z3 => callR (f119F xs c (q + 1 + 1 + 1) hl (by omega) (by omega)) ?_, fun z3 => ?_⟩
          · rintro _ _ ⟨k4, rfl, rfl⟩
            simp only [vmA, sN1, reduceIte, sN2, sN3, reduceCtorEq, sN4, sI1, sI2, sI3, sN5, sN6, e5, e0, a1, a2, a3, a4, a5, e2, b1, b2, b3, b4, b5, e3, c1, c2, c3, c4, c5, e6, d1, d2, d3, d4, d5, rdA, rdP, List.length_map, Option.bind_none, z3, behind_yes, hasFro, hasFro.hasFroL]
            rw [wr (by omega)]
            refine ⟨⟨by omega, by omega⟩, (k - 1, γ + 1, zs ++ [(false, ⟨3, w, k3, [⟨1, k4, ⟨⟨[]⟩⟩⟩]⟩)], q + 1 + 1 + 1 + 1), ⟨⟨⟨by dsimp only; omega, by dsimp only; omega⟩, by dsimp only; simp; omega, fun z hz => ?_, by dsimp only; omega⟩, rfl, rfl, ?_⟩, by dsimp only; omega⟩
            · rcases List.mem_append.1 hz with hz | hz
              · exact hrow z hz
              · rw [List.mem_singleton.1 hz]; exact .inr ⟨k4, rfl⟩
            · dsimp only
              rw [List.map_append]
              refine ⟨?_, rfl, rfl⟩
              simp
          · rw [wr (by omega)]
            refine ⟨⟨by omega, by omega⟩, (k - 1, γ + 1, zs ++ [(true, ⟨kd, w, k3, []⟩)], q + 1 + 1 + 1), ⟨⟨⟨by dsimp only; omega, by dsimp only; omega⟩, by dsimp only; simp; omega, fun z hz => ?_, by dsimp only; omega⟩, rfl, rfl, ?_⟩, by dsimp only; omega⟩
            · rcases List.mem_append.1 hz with hz | hz
              · exact hrow z hz
              · rw [List.mem_singleton.1 hz]; exact .inl rfl
            · dsimp only
              rw [List.map_append]
              refine ⟨?_, rfl, rfl⟩
              simp
    · refine callR (f43F 0) ?_
      rintro _ _ ⟨rfl, rfl⟩
      simp only [vmA, sN1, reduceIte, sN2, sN3, reduceCtorEq, sN4, sI1, sI2, sI3, sN5, sN6, e5, e0, m0a, m0b, m0c, m0d, m0e, e2, m128a, m128b, m128c, m128d, m128e, e3, m192a, m192b, m192c, m192d, m192e, rdA, rdP, hF, List.length_map, Option.bind_none, map_froize_gA, map_froize_xA, map_froize_mvB]
      refine callR (f38B newH newH_ok zs false (by omega) fun z hz => okRs (hrow z hz)) ?_
      rintro _ _ ⟨h', rfl, hp', rfl⟩
      cases hb : hasFro (hA h')
      · simp only [behind_nf hb]
        simp only [vmA, sN1, reduceIte, sN2, sN3, reduceCtorEq, sN4, sI1, sI2, sI3, sN5, sN6, e5, e0, m0a, m0b, m0c, m0d, m0e, e2, m128a, m128b, m128c, m128d, m128e, e3, m192a, m192b, m192c, m192d, m192e, rdA, rdP, hA, List.length_map, Option.bind_none]
        (refine hQ _ ?_; simp only [vmA, sN1, reduceIte, sN2, sN3, reduceCtorEq, sN4, sI1, sI2, sI3, sN5, sN6, Tryz.f85, retG, resL, St.closeVs, St.closeV, leftV, ghostW, e5, e0, m0a, m0b, m0c, m0d, m0e, e2, m128a, m128b, m128c, m128d, m128e, e3, m192a, m192b, m192c, m192d, m192e, rdA, rdP, hA, Option.bind_none])
        exact ⟨h', rfl, hp', q, ⟨by omega, by omega⟩, rfl⟩
      · simp only [behind_yes hb]
        simp only [vmA, sN1, reduceIte, sN2, sN3, reduceCtorEq, sN4, sI1, sI2, sI3, sN5, sN6, e5, e0, m0a, m0b, m0c, m0d, m0e, e2, m128a, m128b, m128c, m128d, m128e, e3, m192a, m192b, m192c, m192d, m192e, rdA, rdP, hA, List.length_map, Option.bind_none, freezeL, lentOf]
        (refine hQ _ ?_; simp only [vmA, sN1, reduceIte, sN2, sN3, reduceCtorEq, sN4, sI1, sI2, sI3, sN5, sN6, Tryz.f85, retG, resL, St.closeVs, St.closeV, leftV, ghostW, e5, e0, m0a, m0b, m0c, m0d, m0e, e2, m128a, m128b, m128c, m128d, m128e, e3, m192a, m192b, m192c, m192d, m192e, rdA, rdP, hA, Option.bind_none])
        exact ⟨h', rfl, hp', q, ⟨by omega, by omega⟩, rfl⟩
