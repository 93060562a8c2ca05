/- WALK, or plain laws for it: theorem f<k> says what function k returns. Conditions: none but those ahead of each theorem. -/
import Derived.Test.YtklhdnjhgbglhaaGreatYBun
import Derived.Test.YtklhdnjhgbglhaaGreatYLib6
set_option linter.unusedVariables false
set_option linter.unusedSimpArgs false
open Nat renaming reduceEqDiff → sN1, reduceAdd → sN2, reduceBEq → sN3, reduceLT → sN4, reduceMul → sN5, reduceLeDiff → sN6, reduceSub → sN7
open Int renaming reduceLE → sI1, reduceLT → sI2, reduceEq → sI3
section
open Go Go.Vm Go.Proofs
set_option linter.defProp false
def vm0d := (And.intro (And.intro (And.intro (And.intro @Go.Vm.WT_seq (And.intro @Go.Vm.WT_region (And.intro @Go.Vm.WT_skip @Go.Vm.WT_exit))) (And.intro (And.intro @Go.Vm.WT_ret (And.intro @Go.Vm.t_nil @Go.Vm.t_convQ)) (And.intro @Go.Vm.lookT.eq_1 (And.intro @Go.Vm.t_nilCheck @Go.Vm.nilF.eq_1)))) (And.intro (And.intro (And.intro @Go.Vm.nilF.eq_2 (And.intro @Go.Vm.nilF.eq_3 @Go.Vm.nilF.eq_4)) (And.intro @Go.Vm.t_move (And.intro @Go.Vm.t_assign @Go.Vm.t_pick))) (And.intro (And.intro @Go.Vm.t_guard (And.intro @Go.Vm.guardT_some @List.getElem?_toArray.{0})) (And.intro (And.intro @Go.Vm.pickF_true @Go.Vm.pickF_false) (And.intro @Go.Vm.pickF_bools @Go.Vm.t_bin))))) (And.intro (And.intro (And.intro (And.intro @Go.Vm.t_un (And.intro @Go.Vm.unF.eq_1 @Go.Vm.unF.eq_2)) (And.intro @Go.Vm.unF.eq_3 (And.intro @Go.Vm.unF.eq_4 @Go.Vm.t_len))) (And.intro (And.intro @Go.Vm.t_load (And.intro @Go.Vm.t_store @Go.Vm.t_alloc)) (And.intro (And.intro @Go.Vm.t_box @Go.Vm.t_append) (And.intro @Go.Vm.t_conv @Go.Vm.convA.eq_1)))) (And.intro (And.intro (And.intro @Go.Vm.convF.eq_1 (And.intro @Go.Vm.convB.eq_1 @Go.Vm.t_makeSlice)) (And.intro @Go.Vm.makeF.eq_1 (And.intro @Go.Vm.t_build @Go.Vm.buildStF.eq_1))) (And.intro (And.intro @Go.Vm.t_buildSlice (And.intro @Go.Vm.buildSlF.eq_1 @Go.Vm.t_makeFunc)) (And.intro (And.intro @Go.Vm.t_fieldAddr @Go.Vm.t_field) (And.intro @Go.Vm.t_indexAddr @Go.Vm.t_index))))))
def vmD := And.intro vm0d (And.intro (And.intro vmT vmB) (And.intro (And.intro (And.intro vm1 vm1) (And.intro vm2 (And.intro vm3 vm4))) (And.intro (And.intro vm5 vm6) (And.intro vm7 (And.intro vm8 vm9)))))
end
section
open Go Go.Vm Go.Proofs
set_option maxRecDepth 100000
set_option maxHeartbeats 8000000
set_option maxHeartbeats 8000000
set_option maxHeartbeats 8000000
theorem f56 (n lo hi : Int) : Fx 56 [.int .i64 n, .int .i64 lo, .int .i64 hi] (.bool (decide (lo ≤ n ∧ n ≤ hi))) := by
  refine fn_of false Tryz.func56 (by kernel_rfl) rfl (by kernel_rfl) (by kernel_rfl) (Nat.le_of_ble_eq_true rfl) rfl fun Q hQ => ?_
  simp only [vmA, sN1, reduceIte, sN2, sN3, reduceCtorEq, sN4, sI1, sI2, sI3, sN5, sN6]
  refine ⟨fun h => ?_, fun h => ?_⟩ <;> (refine hQ _ ?_; simp only [vmA, sN1, reduceIte, sN2, sN3, reduceCtorEq, sN4, sI1, sI2, sI3, sN5, sN6, Tryz.f56, retG, resL, St.closeVs, St.closeV]) <;> simp [h]
theorem f102 (n lo hi : Int) : Fx 102 [.int .i64 n, .int .i64 lo, .int .i64 hi] (.bool (decide (lo ≤ n ∧ n ≤ hi))) := by
  refine fn_of false Tryz.func102 (by kernel_rfl) rfl (by kernel_rfl) (by kernel_rfl) (Nat.le_of_ble_eq_true rfl) rfl fun Q hQ => ?_
  simp only [vmA, sN1, reduceIte, sN2, sN3, reduceCtorEq, sN4, sI1, sI2, sI3, sN5, sN6]
  refine ⟨fun h => ?_, fun h => ?_⟩ <;> (refine hQ _ ?_; simp only [vmA, sN1, reduceIte, sN2, sN3, reduceCtorEq, sN4, sI1, sI2, sI3, sN5, sN6, Tryz.f102, retG, resL, St.closeVs, St.closeV]) <;> simp [h]
theorem bytesA (s : ByteArray) : (s.data.toList.map fun b => AV.int .u8 b.toNat) = (bs s).map bA := rfl
theorem f185 (s : ByteArray) (hs : s.size ≤ 9223372036854775807) : Fx 185 [.str s] (.bool (decide (lettersP s))) := by
  have hl := bs_length s
  refine fn_of false Tryz.func185 (by kernel_rfl) rfl (by kernel_rfl) (by kernel_rfl) (Nat.le_of_ble_eq_true rfl) rfl fun Q hQ => ?_
  simp only [vmA, sN1, reduceIte, sN2, sN3, reduceCtorEq, sN4, sI1, sI2, sI3, sN5, sN6, bytesA]
  refine WT_loop (fun (i : Nat) σ => i ≤ (bs s).length ∧ σ.sl 6 = .fro none false ((bs s).map bA) ∧ σ.sl 7 = .int .i64 (bs s).length ∧ σ.sl 8 = .int .i64 i ∧ ∀ b ∈ (bs s).take i, 97 ≤ b.toNat ∧ b.toNat ≤ 122) (fun i => (bs s).length - i) 0 ⟨by omega, by simp [vmI], by simp [vmI], by simp [vmI], by simp⟩ ?_
  rintro i σ ⟨hi, e6, e7, e8, hall⟩
  simp only [vmA, sN1, reduceIte, sN2, sN3, reduceCtorEq, sN4, sI1, sI2, sI3, sN5, sN6, e6, e7, e8, bA]
  refine ⟨fun hlt => ?_, fun hge => ?_⟩
  · have hb : (bs s)[i]!.toNat < 256 := UInt8.toNat_lt _
    have hm : (bs s)[i]! ∈ bs s := by rw [getElem!_pos (bs s) i (by omega)]; exact List.getElem_mem _
    rw [wr (by omega)]
    refine ⟨hlt, by omega, callD (f56 _ _ _) ?_⟩
    simp only [vmA, sN1, reduceIte, sN2, sN3, reduceCtorEq, sN4, sI1, sI2, sI3, sN5, sN6, e6, e7, e8]
    refine ⟨fun hno => ?_, fun hyes => ?_⟩
    · (refine hQ _ ?_; simp only [vmA, sN1, reduceIte, sN2, sN3, reduceCtorEq, sN4, sI1, sI2, sI3, sN5, sN6, Tryz.f185, retG, resL, St.closeVs, St.closeV])
      have : ¬ lettersP s := fun h => by have := h _ hm; omega
      simp [this]
    · rw [wr (by omega)]
      refine ⟨i + 1, ⟨by omega, rfl, fun b hbm => ?_⟩, by omega⟩
      rw [List.take_succ_eq_append_getElem (by omega)] at hbm
      rcases List.mem_append.1 hbm with h | h
      · exact hall b h
      · have : b = (bs s)[i]! := by rw [getElem!_pos (bs s) i (by omega)]; simpa using h
        subst this; omega
  · (refine hQ _ ?_; simp only [vmA, sN1, reduceIte, sN2, sN3, reduceCtorEq, sN4, sI1, sI2, sI3, sN5, sN6, Tryz.f185, retG, resL, St.closeVs, St.closeV])
    have : lettersP s := fun b hb => hall b (by rw [List.take_of_length_le (by omega)]; exact hb)
    simp [this]
theorem f225 (s : ByteArray) (hs : s.size ≤ 9223372036854775807) : Fx 225 [.str s] (.bool (decide (lettersP s ∧ s.size ≤ 6))) := by
  have hl := bs_length s
  refine fn_of false Tryz.func225 (by kernel_rfl) rfl (by kernel_rfl) (by kernel_rfl) (Nat.le_of_ble_eq_true rfl) rfl fun Q hQ => ?_
  simp only [vmA, sN1, reduceIte, sN2, sN3, reduceCtorEq, sN4, sI1, sI2, sI3, sN5, sN6]
  refine WT_loop (fun (i : Nat) σ => i ≤ (bs s).length ∧ σ.sl 0 = .str s ∧ σ.sl 3 = .int .i64 i ∧ ∀ b ∈ (bs s).take i, 97 ≤ b.toNat ∧ b.toNat ≤ 122) (fun i => (bs s).length - i) 0 ⟨by omega, by simp [vmI], by simp [vmI], by simp⟩ ?_
  rintro i σ ⟨hi, e0, e3, hall⟩
  simp only [vmA, sN1, reduceIte, sN2, sN3, reduceCtorEq, sN4, sI1, sI2, sI3, sN5, sN6, e0, e3]
  refine ⟨fun hlt => ?_, fun hge => ?_⟩
  · have hb : (bs s)[i]!.toNat < 256 := UInt8.toNat_lt _
    have hm : (bs s)[i]! ∈ bs s := by rw [getElem!_pos (bs s) i (by omega)]; exact List.getElem_mem _
    have hg : s.data[i]?.getD 0 = (bs s)[i]! := by
      rw [getElem!_pos (bs s) i (by omega)]
      have hlt' : i < s.data.size := by have : s.data.size = s.size := rfl; omega
      rw [Array.getElem?_eq_getElem hlt']; simp [bs]
    rw [hg]
    have no : ¬ (97 ≤ (bs s)[i]!.toNat ∧ (bs s)[i]!.toNat ≤ 122) → ¬ (lettersP s ∧ s.size ≤ 6) := fun h1 h2 => h1 (h2.1 _ hm)
    refine ⟨hlt, fun h1 => ?_, fun h1 => ⟨hlt, fun h2 => ?_, fun h2 => ?_⟩⟩
    · (refine hQ _ ?_; simp only [vmA, sN1, reduceIte, sN2, sN3, reduceCtorEq, sN4, sI1, sI2, sI3, sN5, sN6, Tryz.f225, retG, resL, St.closeVs, St.closeV])
      rw [decide_eq_false (no (by omega))]
    · (refine hQ _ ?_; simp only [vmA, sN1, reduceIte, sN2, sN3, reduceCtorEq, sN4, sI1, sI2, sI3, sN5, sN6, Tryz.f225, retG, resL, St.closeVs, St.closeV])
      rw [decide_eq_false (no (by omega))]
    · rw [wr (by omega)]
      refine ⟨i + 1, ⟨by omega, rfl, fun b hbm => ?_⟩, by omega⟩
      rw [List.take_succ_eq_append_getElem (by omega)] at hbm
      rcases List.mem_append.1 hbm with h | h
      · exact hall b h
      · have : b = (bs s)[i]! := by rw [getElem!_pos (bs s) i (by omega)]; simpa using h
        subst this; omega
  · (refine hQ _ ?_; simp only [vmA, sN1, reduceIte, sN2, sN3, reduceCtorEq, sN4, sI1, sI2, sI3, sN5, sN6, Tryz.f225, retG, resL, St.closeVs, St.closeV])
    have : lettersP s := fun b hb => hall b (by rw [List.take_of_length_le (by omega)]; exact hb)
    simp [this]
    omega
def valP (v : Val) : Prop := (v.k = 0 ∧ v.n = 0 ∧ v.s = ⟨⟨[]⟩⟩) ∨ (v.k = 1 ∧ v.s = ⟨⟨[]⟩⟩ ∧ -9999 ≤ v.n ∧ v.n ≤ 9999) ∨ (v.k = 2 ∧ v.n = 0 ∧ v.s.size ≤ 6 ∧ lettersP v.s) ∨ (v.k = 3 ∧ v.s = ⟨⟨[]⟩⟩ ∧ 0 ≤ v.n ∧ v.n ≤ 1)
instance (v : Val) : Decidable (valP v) := by unfold valP; exact inferInstance
theorem f122 (v : Val) (hs : okV v) : Fx 122 [vA v] (.bool (decide (valP v))) := by
  refine fn_of false Tryz.func122 (by kernel_rfl) rfl (by kernel_rfl) (by kernel_rfl) (Nat.le_of_ble_eq_true rfl) rfl fun Q hQ => ?_
  simp only [vmA, sN1, reduceIte, sN2, sN3, reduceCtorEq, sN4, sI1, sI2, sI3, sN5, sN6, vA, buildF]
  refine ⟨fun h0 => ?_, fun h0 => ⟨fun h1 => ⟨fun e => callD (f56 _ _ _) ?_, fun e => ?_⟩, fun h1 => ⟨fun h2 => ⟨fun e => ⟨fun e2 => callD (f185 _ hs) ?_, fun e2 => ?_⟩, fun e => ?_⟩, fun h2 => ⟨fun h3 => ⟨fun e => callD (f56 _ _ _) ?_, fun e => ?_⟩, fun h3 => ?_⟩⟩⟩⟩
  all_goals (try simp only [vmA, sN1, reduceIte, sN2, sN3, reduceCtorEq, sN4, sI1, sI2, sI3, sN5, sN6])
  · (refine hQ _ ?_; simp only [vmA, sN1, reduceIte, sN2, sN3, reduceCtorEq, sN4, sI1, sI2, sI3, sN5, sN6, Tryz.f122, retG, resL, St.closeVs, St.closeV])
    simp [valP, h0]
  · (refine hQ _ ?_; simp only [vmA, sN1, reduceIte, sN2, sN3, reduceCtorEq, sN4, sI1, sI2, sI3, sN5, sN6, Tryz.f122, retG, resL, St.closeVs, St.closeV])
    exact leafB (by simp [valP, h1, e])
  · (refine hQ _ ?_; simp only [vmA, sN1, reduceIte, sN2, sN3, reduceCtorEq, sN4, sI1, sI2, sI3, sN5, sN6, Tryz.f122, retG, resL, St.closeVs, St.closeV])
    exact leafF (by simp [valP, h1]; exact fun h => absurd h e)
  · (refine hQ _ ?_; simp only [vmA, sN1, reduceIte, sN2, sN3, reduceCtorEq, sN4, sI1, sI2, sI3, sN5, sN6, Tryz.f122, retG, resL, St.closeVs, St.closeV])
    exact leafB (by simp [valP, h2, e]; omega)
  · (refine hQ _ ?_; simp only [vmA, sN1, reduceIte, sN2, sN3, reduceCtorEq, sN4, sI1, sI2, sI3, sN5, sN6, Tryz.f122, retG, resL, St.closeVs, St.closeV])
    exact leafF (by simp [valP, h2]; omega)
  · (refine hQ _ ?_; simp only [vmA, sN1, reduceIte, sN2, sN3, reduceCtorEq, sN4, sI1, sI2, sI3, sN5, sN6, Tryz.f122, retG, resL, St.closeVs, St.closeV])
    exact leafF (by simp [valP, h2]; exact fun h => absurd h e)
  · (refine hQ _ ?_; simp only [vmA, sN1, reduceIte, sN2, sN3, reduceCtorEq, sN4, sI1, sI2, sI3, sN5, sN6, Tryz.f122, retG, resL, St.closeVs, St.closeV])
    exact leafB (by simp [valP, h3, e])
  · (refine hQ _ ?_; simp only [vmA, sN1, reduceIte, sN2, sN3, reduceCtorEq, sN4, sI1, sI2, sI3, sN5, sN6, Tryz.f122, retG, resL, St.closeVs, St.closeV])
    exact leafF (by simp [valP, h3]; exact fun h => absurd h e)
  · (refine hQ _ ?_; simp only [vmA, sN1, reduceIte, sN2, sN3, reduceCtorEq, sN4, sI1, sI2, sI3, sN5, sN6, Tryz.f122, retG, resL, St.closeVs, St.closeV])
    exact leafF (by simp [valP, h0, h1, h2, h3])
theorem f188 (v : Val) (hs : okV v) : Fx 188 [vA v] (.bool (decide (valP v))) := by
  refine fn_of false Tryz.func188 (by kernel_rfl) rfl (by kernel_rfl) (by kernel_rfl) (Nat.le_of_ble_eq_true rfl) rfl fun Q hQ => ?_
  simp only [vmA, sN1, reduceIte, sN2, sN3, reduceCtorEq, sN4, sI1, sI2, sI3, sN5, sN6, vA]
  refine ⟨fun h0 => ⟨fun e => ?_, fun e => ?_⟩, fun h0 => ⟨fun h1 => callD (f102 _ _ _) ?_, fun h1 => ⟨fun h2 => ⟨fun e => callD (f225 _ hs) ?_, fun e => ?_⟩, fun h2 => ⟨fun h3 => callD (f102 _ _ _) ?_, fun h3 => ?_⟩⟩⟩⟩
  all_goals (try simp only [vmA, sN1, reduceIte, sN2, sN3, reduceCtorEq, sN4, sI1, sI2, sI3, sN5, sN6])
  · (refine hQ _ ?_; simp only [vmA, sN1, reduceIte, sN2, sN3, reduceCtorEq, sN4, sI1, sI2, sI3, sN5, sN6, Tryz.f188, retG, resL, St.closeVs, St.closeV])
    exact leafB (by simp [valP, h0, e])
  · (refine hQ _ ?_; simp only [vmA, sN1, reduceIte, sN2, sN3, reduceCtorEq, sN4, sI1, sI2, sI3, sN5, sN6, Tryz.f188, retG, resL, St.closeVs, St.closeV])
    exact leafF (by simp [valP, h0, e])
  · refine ⟨fun e => ?_, fun e => ?_⟩ <;> (refine hQ _ ?_; simp only [vmA, sN1, reduceIte, sN2, sN3, reduceCtorEq, sN4, sI1, sI2, sI3, sN5, sN6, Tryz.f188, retG, resL, St.closeVs, St.closeV])
    · exact leafB (by simp [valP, h1, e])
    · exact leafF (by simp [valP, h1]; intro _ h; omega)
  · (refine hQ _ ?_; simp only [vmA, sN1, reduceIte, sN2, sN3, reduceCtorEq, sN4, sI1, sI2, sI3, sN5, sN6, Tryz.f188, retG, resL, St.closeVs, St.closeV])
    exact leafB (by simp [valP, h2, e]; exact ⟨fun h => ⟨h.2, h.1⟩, fun h => ⟨h.2, h.1⟩⟩)
  · (refine hQ _ ?_; simp only [vmA, sN1, reduceIte, sN2, sN3, reduceCtorEq, sN4, sI1, sI2, sI3, sN5, sN6, Tryz.f188, retG, resL, St.closeVs, St.closeV])
    exact leafF (by simp [valP, h2, e])
  · refine ⟨fun e => ?_, fun e => ?_⟩ <;> (refine hQ _ ?_; simp only [vmA, sN1, reduceIte, sN2, sN3, reduceCtorEq, sN4, sI1, sI2, sI3, sN5, sN6, Tryz.f188, retG, resL, St.closeVs, St.closeV])
    · exact leafB (by simp [valP, h3, e])
    · exact leafF (by simp [valP, h3]; exact fun _ h => by omega)
  · (refine hQ _ ?_; simp only [vmA, sN1, reduceIte, sN2, sN3, reduceCtorEq, sN4, sI1, sI2, sI3, sN5, sN6, Tryz.f188, retG, resL, St.closeVs, St.closeV])
    exact leafF (by simp [valP, h0, h1, h2, h3])
theorem f166 (v : Val) (hs : okV v) : Fx 166 [vA v] (.bool (decide (¬ valP v))) := by
  refine fn_of false Tryz.func166 (by kernel_rfl) rfl (by kernel_rfl) (by kernel_rfl) (Nat.le_of_ble_eq_true rfl) rfl fun Q hQ => ?_
  simp only [vmA, sN1, reduceIte, sN2, sN3, reduceCtorEq, sN4, sI1, sI2, sI3, sN5, sN6, vA]
  refine callD (f122 v hs) ?_
  simp only [vmA, sN1, reduceIte, sN2, sN3, reduceCtorEq, sN4, sI1, sI2, sI3, sN5, sN6]
  (refine hQ _ ?_; simp only [vmA, sN1, reduceIte, sN2, sN3, reduceCtorEq, sN4, sI1, sI2, sI3, sN5, sN6, Tryz.f166, retG, resL, St.closeVs, St.closeV])
theorem f210 (xs : List Val) (c : Bool) (hl : xs.length ≤ 9223372036854775807) (hs : ∀ v ∈ xs, okV v) : Fx 210 [.fro none c (xs.map vA), .clo 166 []] (.int .i64 (idxL (fun v => ¬ valP v) xs 0)) := by
  refine fn_of false Tryz.func210 (by kernel_rfl) rfl (by kernel_rfl) (by kernel_rfl) (Nat.le_of_ble_eq_true rfl) rfl fun Q hQ => ?_
  simp only [vmA, sN1, reduceIte, sN2, sN3, reduceCtorEq, sN4, sI1, sI2, sI3, sN5, sN6]
  refine WT_loop (fun (i : Nat) σ => i ≤ xs.length ∧ σ.sl 0 = .fro none c (xs.map vA) ∧ σ.sl 1 = .clo 166 [] ∧ σ.sl 7 = .int .i64 xs.length ∧ σ.sl 8 = .int .i64 i ∧ idxL (fun v => ¬ valP v) (xs.drop i) i = idxL (fun v => ¬ valP v) xs 0) (fun i => xs.length - i) 0 ⟨by omega, by simp [vmI], by simp [vmI], by simp [vmI], by simp [vmI], by simp⟩ ?_
  rintro i σ ⟨hi, e0, e1, e7, e8, hx⟩
  simp only [vmA, sN1, reduceIte, sN2, sN3, reduceCtorEq, sN4, sI1, sI2, sI3, sN5, sN6, e0, e1, e7, e8, vA]
  refine ⟨fun hlt => ?_, fun hge => ?_⟩
  · refine ⟨hlt, by omega, callD (f166 xs[i]! (okmem hs (by omega))) ?_⟩
    rw [idxL_drop _ (by omega)] at hx
    simp only [vmA, sN1, reduceIte, sN2, sN3, reduceCtorEq, sN4, sI1, sI2, sI3, sN5, sN6, e0, e1, e7, e8]
    refine ⟨fun hn => ?_, fun hn => ?_⟩
    · rw [if_pos hn] at hx
      (refine hQ _ ?_; simp only [vmA, sN1, reduceIte, sN2, sN3, reduceCtorEq, sN4, sI1, sI2, sI3, sN5, sN6, Tryz.f210, retG, resL, St.closeVs, St.closeV])
      rw [hx]
    · rw [if_neg (by simpa using hn)] at hx
      rw [wr (by omega)]
      exact ⟨i + 1, ⟨by omega, rfl, hx⟩, by omega⟩
  · have : xs.drop i = [] := List.drop_of_length_le (by omega)
    rw [this, idxL] at hx
    (refine hQ _ ?_; simp only [vmA, sN1, reduceIte, sN2, sN3, reduceCtorEq, sN4, sI1, sI2, sI3, sN5, sN6, Tryz.f210, retG, resL, St.closeVs, St.closeV])
    rw [← hx]
def rowP (xs : List Val) : Prop := xs.length ≤ 4 ∧ ∀ v ∈ xs, valP v
instance (xs : List Val) : Decidable (rowP xs) := by unfold rowP; exact inferInstance
theorem f165 (xs : List Val) (c : Bool) (hl : xs.length ≤ 9223372036854775807) (hs : ∀ v ∈ xs, okV v) : Fx 165 [.fro none c (xs.map vA), .clo 166 []] (.bool (decide (∃ v ∈ xs, ¬ valP v))) := by
  refine fn_of false Tryz.func165 (by kernel_rfl) rfl (by kernel_rfl) (by kernel_rfl) (Nat.le_of_ble_eq_true rfl) rfl fun Q hQ => ?_
  simp only [vmA, sN1, reduceIte, sN2, sN3, reduceCtorEq, sN4, sI1, sI2, sI3, sN5, sN6]
  refine callD (f210 xs c hl hs) ?_
  simp only [vmA, sN1, reduceIte, sN2, sN3, reduceCtorEq, sN4, sI1, sI2, sI3, sN5, sN6]
  (refine hQ _ ?_; simp only [vmA, sN1, reduceIte, sN2, sN3, reduceCtorEq, sN4, sI1, sI2, sI3, sN5, sN6, Tryz.f165, retG, resL, St.closeVs, St.closeV])
  exact leafB (idxL_ge (fun v => ¬ valP v) xs 0 (by omega))
theorem f107 (xs : List Val) (c : Bool) (hl : xs.length ≤ 9223372036854775807) (hs : ∀ v ∈ xs, okV v) : Fx 107 [.fro none c (xs.map vA)] (.bool (decide (rowP xs))) := by
  refine fn_of false Tryz.func107 (by kernel_rfl) rfl (by kernel_rfl) (by kernel_rfl) (Nat.le_of_ble_eq_true rfl) rfl fun Q hQ => ?_
  simp only [vmA, sN1, reduceIte, sN2, sN3, reduceCtorEq, sN4, sI1, sI2, sI3, sN5, sN6]
  refine ⟨fun h => callD (f165 xs c hl hs) ?_, fun h => ?_⟩
  · simp only [vmA, sN1, reduceIte, sN2, sN3, reduceCtorEq, sN4, sI1, sI2, sI3, sN5, sN6]
    (refine hQ _ ?_; simp only [vmA, sN1, reduceIte, sN2, sN3, reduceCtorEq, sN4, sI1, sI2, sI3, sN5, sN6, Tryz.f107, retG, resL, St.closeVs, St.closeV])
    refine leafB ?_
    unfold rowP
    simp
    omega
  · (refine hQ _ ?_; simp only [vmA, sN1, reduceIte, sN2, sN3, reduceCtorEq, sN4, sI1, sI2, sI3, sN5, sN6, Tryz.f107, retG, resL, St.closeVs, St.closeV])
    exact leafF (by unfold rowP; omega)
theorem f126 (xs : List Val) (c : Bool) (hl : xs.length ≤ 9223372036854775807) (hs : ∀ v ∈ xs, okV v) : Fx 126 [.fro none c (xs.map vA)] (.bool (decide (rowP xs))) := by
  refine fn_of false Tryz.func126 (by kernel_rfl) rfl (by kernel_rfl) (by kernel_rfl) (Nat.le_of_ble_eq_true rfl) rfl fun Q hQ => ?_
  simp only [vmA, sN1, reduceIte, sN2, sN3, reduceCtorEq, sN4, sI1, sI2, sI3, sN5, sN6]
  refine WT_loop (fun (i : Nat) σ => i ≤ xs.length ∧ σ.sl 0 = .fro none c (xs.map vA) ∧ σ.sl 3 = .int .i64 i ∧ ∀ v ∈ xs.take i, valP v) (fun i => xs.length - i) 0 ⟨by omega, by simp [vmI], by simp [vmI], by simp⟩ ?_
  rintro i σ ⟨hi, e0, e3, hall⟩
  simp only [vmA, sN1, reduceIte, sN2, sN3, reduceCtorEq, sN4, sI1, sI2, sI3, sN5, sN6, e0, e3, vA]
  refine ⟨fun hlt => ?_, fun hge => ?_⟩
  · refine ⟨hlt, by omega, callD (f188 xs[i]! (okmem hs (by omega))) ?_⟩
    simp only [vmA, sN1, reduceIte, sN2, sN3, reduceCtorEq, sN4, sI1, sI2, sI3, sN5, sN6, e0, e3]
    refine ⟨fun hn => ?_, fun hn => ?_⟩
    · (refine hQ _ ?_; simp only [vmA, sN1, reduceIte, sN2, sN3, reduceCtorEq, sN4, sI1, sI2, sI3, sN5, sN6, Tryz.f126, retG, resL, St.closeVs, St.closeV])
      exact leafF fun h => hn (okmem h.2 (by omega))
    · rw [wr (by omega)]
      refine ⟨i + 1, ⟨by omega, rfl, fun v hv => ?_⟩, by omega⟩
      rw [List.take_succ_eq_append_getElem (by omega)] at hv
      rcases List.mem_append.1 hv with h | h
      · exact hall v h
      · have : v = xs[i]! := by rw [getElem!_pos xs i (by omega)]; simpa using h
        subst this; exact hn
  · (refine hQ _ ?_; simp only [vmA, sN1, reduceIte, sN2, sN3, reduceCtorEq, sN4, sI1, sI2, sI3, sN5, sN6, Tryz.f126, retG, resL, St.closeVs, St.closeV])
    refine leafB ?_
    have : ∀ v ∈ xs, valP v := fun v hv => hall v (by rw [List.take_of_length_le (by omega)]; exact hv)
    exact ⟨fun h => ⟨by omega, this⟩, fun h => by have := h.1; omega⟩
end
