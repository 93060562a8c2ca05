/- WALK, or plain laws for it: theorem f<k> says what function k returns. Conditions: none but those ahead of each theorem. -/
import Derived.Test.YtklhdnjhgbglhaaGreatYF6
import Derived.Test.YtklhdnjhgbglhaaGreatYH6
import Derived.Test.YtklhdnjhgbglhaaGreatYP6
set_option linter.unusedVariables false
set_option linter.unusedSimpArgs false
open Nat renaming reduceEqDiff → sN1, reduceAdd → sN2, reduceBEq → sN3, reduceLT → sN4, reduceMul → sN5, reduceLeDiff → sN6, reduceSub → sN7
open Int renaming reduceLE → sI1, reduceLT → sI2, reduceEq → sI3
section
open Go Go.Vm Go.Proofs
set_option maxRecDepth 100000
set_option maxHeartbeats 8000000
def sLt (a b : ByteArray) : Prop := Op.bytesLess a.toList b.toList = true
instance (a b : ByteArray) : Decidable (sLt a b) := by unfold sLt; exact inferInstance
structure CmpOk {β : Type} (c : β → β → Int) : Prop where
  anti : ∀ x y, c y x = - c x y
  tr : ∀ x y z, c x y ≤ 0 → c y z ≤ 0 → c x z ≤ 0
def or0 {β : Type} (c d : β → β → Int) (x y : β) : Int := if c x y = 0 then d x y else c x y
def iCmp (a b : Int) : Int := if a < b then -1 else if b < a then 1 else 0
def sCmp (a b : ByteArray) : Int := if sLt a b then -1 else if sLt b a then 1 else 0
theorem CmpOk.on {β γ : Type} {c : β → β → Int} (h : CmpOk c) (f : γ → β) : CmpOk (fun x y => c (f x) (f y)) := ⟨fun x y => h.anti _ _, fun x y z => h.tr _ _ _⟩
def vCmp (v w : Val) : Int := or0 (fun a b => iCmp a.k b.k) (or0 (fun a b => iCmp a.n b.n) (fun a b => sCmp a.s b.s)) v w
def rowCmp (r s : List Val) : Int := or0 (fun a b : List Val => vCmp a[0]! b[0]!) (fun a b => vCmp a[1]! b[1]!) r s
def or0L : List Int → Int
  | [] => 0
  | x :: l => if x = 0 then or0L l else x
def zlt (x y : Nat × List Val) : Prop := rowCmp x.2 y.2 < 0 ∨ rowCmp x.2 y.2 = 0 ∧ x.1 < y.1
end
section
open Go Go.Vm Go.Proofs
set_option maxRecDepth 100000
set_option maxHeartbeats 8000000
set_option maxHeartbeats 8000000
theorem f211 (n : Int) : Fx 211 [.int .i64 n] (.bool false) := by
  refine fn_of false Tryz.func211 (by kernel_rfl) rfl (by kernel_rfl) (by kernel_rfl) (Nat.le_of_ble_eq_true rfl) rfl fun Q hQ => ?_
  simp only [vmA, sN1, reduceIte, sN2, sN3, reduceCtorEq, sN4, sI1, sI2, sI3, sN5, sN6]
  (refine hQ _ ?_; simp only [vmA, sN1, reduceIte, sN2, sN3, reduceCtorEq, sN4, sI1, sI2, sI3, sN5, sN6, Tryz.f211, retG, resL, St.closeVs, St.closeV])
theorem f184 (a b : Int) : Fx 184 [.int .i64 a, .int .i64 b] (.int .i64 (iCmp a b)) := by
  refine fn_of false Tryz.func184 (by kernel_rfl) rfl (by kernel_rfl) (by kernel_rfl) (Nat.le_of_ble_eq_true rfl) rfl fun Q hQ => ?_
  simp only [vmA, sN1, reduceIte, sN2, sN3, reduceCtorEq, sN4, sI1, sI2, sI3, sN5, sN6]
  refine callD (f211 a) ?_
  simp only [vmA, sN1, reduceIte, sN2, sN3, reduceCtorEq, sN4, sI1, sI2, sI3, sN5, sN6]
  refine callD (f211 b) ?_
  simp only [vmA, sN1, reduceIte, sN2, sN3, reduceCtorEq, sN4, sI1, sI2, sI3, sN5, sN6]
  refine ⟨fun h => ?_, fun h => ⟨fun h2 => ?_, fun h2 => ?_⟩⟩ <;> (refine hQ _ ?_; simp only [vmA, sN1, reduceIte, sN2, sN3, reduceCtorEq, sN4, sI1, sI2, sI3, sN5, sN6, Tryz.f184, retG, resL, St.closeVs, St.closeV]) <;> refine leafJ ?_ <;> unfold iCmp
  · rw [if_pos h]
  · rw [if_neg h, if_pos h2]
  · rw [if_neg h, if_neg h2]
theorem f183 (xs : List Int) (c : Bool) (hl : xs.length ≤ 1048576) : Fx 183 [.fro none c (xs.map iA)] (.int .i64 (or0L xs)) := by
  refine fn_of false Tryz.func183 (by kernel_rfl) rfl (by kernel_rfl) (by kernel_rfl) (Nat.le_of_ble_eq_true rfl) rfl fun Q hQ => ?_
  simp only [vmA, sN1, reduceIte, sN2, sN3, reduceCtorEq, sN4, sI1, sI2, sI3, sN5, sN6, List.length_map]
  refine WT_loop (fun (i : Nat) σ => (i ≤ xs.length ∧ or0L (xs.drop i) = or0L xs) ∧ σ.sl 6 = .fro none c (xs.map iA) ∧ σ.sl 3 = .int .i64 0 ∧ σ.sl 7 = .int .i64 xs.length ∧ σ.sl 8 = .int .i64 i) (fun i => xs.length - i) 0 ⟨⟨by omega, rfl⟩, by simp [vmI], by simp [vmI], by simp [vmI], by simp [vmI]⟩ ?_
  rintro i σ ⟨⟨hi, hz⟩, e6, e3, e7, e8⟩
  simp only [vmA, sN1, reduceIte, sN2, sN3, reduceCtorEq, sN4, sI1, sI2, sI3, sN5, sN6, e6, e3, e7, e8, List.length_map]
  refine ⟨fun hlt => ?_, fun hge => ?_⟩
  · have hd : xs.drop i = xs[i]! :: xs.drop (i + 1) := by rw [List.drop_eq_getElem_cons (by omega), getElem!_pos xs i (by omega)]
    rw [hd, or0L] at hz
    refine ⟨hlt, by omega, fun h0 => ?_, fun h0 => ?_⟩
    · (refine hQ _ ?_; simp only [vmA, sN1, reduceIte, sN2, sN3, reduceCtorEq, sN4, sI1, sI2, sI3, sN5, sN6, Tryz.f183, retG, resL, St.closeVs, St.closeV])
      rw [if_neg h0] at hz
      exact leafJ hz
    · rw [if_pos (by simpa using h0)] at hz
      rw [wr (by omega)]
      exact ⟨i + 1, ⟨⟨by omega, hz⟩, rfl⟩, by omega⟩
  · have : xs.drop i = [] := List.drop_of_length_le (by omega)
    rw [this, or0L] at hz
    (refine hQ _ ?_; simp only [vmA, sN1, reduceIte, sN2, sN3, reduceCtorEq, sN4, sI1, sI2, sI3, sN5, sN6, Tryz.f183, retG, resL, St.closeVs, St.closeV, e3])
    rw [hz]
theorem or0L2 (a b : Int) : or0L [a, b] = if a = 0 then b else a := by
  simp only [or0L]
  split <;> (try split) <;> omega
end
section
open Go Go.Vm Go.Proofs
set_option maxRecDepth 100000
set_option maxHeartbeats 8000000
theorem f161 (xs : List Wr) : FxR 161 [.own 3 (xs.map wO)] fun r l => r = .own 3 (xs.map wO) ∧ l = .tup [] := by
  refine fn_ofW false (k := 0) Tryz.func161 (by kernel_rfl) rfl (by kernel_rfl) (by kernel_rfl) (Nat.le_of_ble_eq_true rfl) rfl ⟨_, _, .inl rfl⟩ rfl fun Q hQ => ?_
  simp only [vmA, sN1, reduceIte, sN2, sN3, reduceCtorEq, sN4, sI1, sI2, sI3, sN5, sN6, List.length_map]
  (refine hQ _ ?_; simp only [vmA, sN1, reduceIte, sN2, sN3, reduceCtorEq, sN4, sI1, sI2, sI3, sN5, sN6, Tryz.f161, retG, resL, St.closeVs, St.closeV, leftV, ghostW, List.length_map, take_map_len, Nat.sub_zero, Int.toNat_zero])
theorem f99 (ws : List Wr) (c : Bool) (hl : ws.length ≤ 1048576) (hr : ∀ w ∈ ws, w.row.length ≤ 1048576) : Fx 99 [.fro none c (ws.map wA)] (.own 3 (ws.map wO)) := by
  refine fn_of true Tryz.func99 (by kernel_rfl) rfl (by kernel_rfl) (by kernel_rfl) (Nat.le_of_ble_eq_true rfl) rfl fun Q hQ => ?_
  simp only [vmA, sN1, reduceIte, sN2, sN3, reduceCtorEq, sN4, sI1, sI2, sI3, sN5, sN6, List.length_map]
  refine WT_loopN (fun (y : Nat × Nat) σ => y.1 ≤ ws.length ∧ σ.sl 6 = .fro none c (ws.map wA) ∧ σ.sl 7 = .int .i64 ws.length ∧ σ.sl 8 = .int .i64 y.1 ∧ σ.sl 3 = .hd 192 y.2 0 y.1 false ∧ (σ.en 192).live = true ∧ (σ.en 192).gen = y.2 ∧ (σ.en 192).frz = false ∧ (σ.en 192).sz = 3 ∧ (σ.en 192).elems = (ws.take y.1).map wO) (fun y => ws.length - y.1) (0, 1) 3 3 (by simp [vmI]) (by simp [vmI, takeRes, takeV, takeLeaf, eid]) ?_
  rintro ⟨i, g⟩ σ ⟨hi, e6, e7, e8, o1, o2, o3, o4, o5, o6⟩
  dsimp only at hi e8 o1 o3 o6
  have hlt' : (ws.take i).length = i := by simp; omega
  simp only [vmA, sN1, reduceIte, sN2, sN3, reduceCtorEq, sN4, sI1, sI2, sI3, sN5, sN6, e6, e7, e8, o1, o2, o3, o4, o5, o6, List.length_map, wA, Option.bind_none]
  refine ⟨fun hlt => ⟨hlt, by omega, callD (f117 _ _ (hr _ (by rw [getElem!_pos ws i (by omega)]; exact List.getElem_mem _))) ?_⟩, fun hge => ?_⟩
  · simp only [vmA, sN1, reduceIte, sN2, sN3, reduceCtorEq, sN4, sI1, sI2, sI3, sN5, sN6, e6, e7, e8, o1, o2, o3, o4, o5, o6, List.length_map, wA, hlt', Option.bind_none]
    rw [wr (by omega)]
    refine ⟨by omega, (i + 1, g + 1), ⟨by dsimp only; omega, rfl, ?_⟩, by dsimp only; omega⟩
    rw [take_next ws i (by omega)]
    simp only [vmA, sN1, reduceIte, sN2, sN3, reduceCtorEq, sN4, sI1, sI2, sI3, sN5, sN6, e6, e7, e8, o1, o2, o3, o4, o5, o6, wO, List.map_append, hlt', Option.bind_none]
  · obtain rfl : i = ws.length := by omega
    rw [List.take_length]
    refine ⟨by omega, callR (f161 ws) ?_⟩
    rintro _ _ ⟨rfl, rfl⟩
    simp only [vmA, sN1, reduceIte, sN2, sN3, reduceCtorEq, sN4, sI1, sI2, sI3, sN5, sN6, List.length_map]
    (refine hQ _ ?_; simp only [vmA, sN1, reduceIte, sN2, sN3, reduceCtorEq, sN4, sI1, sI2, sI3, sN5, sN6, Tryz.f99, retG, resL, St.closeVs, St.closeV, List.length_map, take_map_len])
instance : Inhabited Ver := ⟨⟨0, 0, 0, []⟩⟩
theorem f167 (xs : List Ver) : FxR 167 [.own 4 (xs.map gO)] fun r l => r = .own 4 (xs.map gO) ∧ l = .tup [] := by
  refine fn_ofW false (k := 0) Tryz.func167 (by kernel_rfl) rfl (by kernel_rfl) (by kernel_rfl) (Nat.le_of_ble_eq_true rfl) rfl ⟨_, _, .inl rfl⟩ rfl fun Q hQ => ?_
  simp only [vmA, sN1, reduceIte, sN2, sN3, reduceCtorEq, sN4, sI1, sI2, sI3, sN5, sN6, List.length_map]
  (refine hQ _ ?_; simp only [vmA, sN1, reduceIte, sN2, sN3, reduceCtorEq, sN4, sI1, sI2, sI3, sN5, sN6, Tryz.f167, retG, resL, St.closeVs, St.closeV, leftV, ghostW, List.length_map, take_map_len, Nat.sub_zero, Int.toNat_zero])
theorem f110 (ws : List Ver) (c : Bool) (hl : ws.length ≤ 1048576) (hr : ∀ w ∈ ws, w.row.length ≤ 1048576) : Fx 110 [.fro none c (ws.map gA)] (.own 4 (ws.map gO)) := by
  refine fn_of true Tryz.func110 (by kernel_rfl) rfl (by kernel_rfl) (by kernel_rfl) (Nat.le_of_ble_eq_true rfl) rfl fun Q hQ => ?_
  simp only [vmA, sN1, reduceIte, sN2, sN3, reduceCtorEq, sN4, sI1, sI2, sI3, sN5, sN6, List.length_map]
  refine WT_loopN (fun (y : Nat × Nat) σ => y.1 ≤ ws.length ∧ σ.sl 6 = .fro none c (ws.map gA) ∧ σ.sl 7 = .int .i64 ws.length ∧ σ.sl 8 = .int .i64 y.1 ∧ σ.sl 3 = .hd 192 y.2 0 y.1 false ∧ (σ.en 192).live = true ∧ (σ.en 192).gen = y.2 ∧ (σ.en 192).frz = false ∧ (σ.en 192).sz = 4 ∧ (σ.en 192).elems = (ws.take y.1).map gO) (fun y => ws.length - y.1) (0, 1) 3 4 (by simp [vmI]) (by simp [vmI, takeRes, takeV, takeLeaf, eid]) ?_
  rintro ⟨i, g⟩ σ ⟨hi, e6, e7, e8, o1, o2, o3, o4, o5, o6⟩
  dsimp only at hi e8 o1 o3 o6
  have hlt' : (ws.take i).length = i := by simp; omega
  simp only [vmA, sN1, reduceIte, sN2, sN3, reduceCtorEq, sN4, sI1, sI2, sI3, sN5, sN6, e6, e7, e8, o1, o2, o3, o4, o5, o6, List.length_map, gA, Option.bind_none]
  refine ⟨fun hlt => ⟨hlt, by omega, callD (f117 _ _ (hr _ (by rw [getElem!_pos ws i (by omega)]; exact List.getElem_mem _))) ?_⟩, fun hge => ?_⟩
  · simp only [vmA, sN1, reduceIte, sN2, sN3, reduceCtorEq, sN4, sI1, sI2, sI3, sN5, sN6, e6, e7, e8, o1, o2, o3, o4, o5, o6, List.length_map, gA, hlt', Option.bind_none]
    rw [wr (by omega)]
    refine ⟨by omega, (i + 1, g + 1), ⟨by dsimp only; omega, rfl, ?_⟩, by dsimp only; omega⟩
    rw [take_next ws i (by omega)]
    simp only [vmA, sN1, reduceIte, sN2, sN3, reduceCtorEq, sN4, sI1, sI2, sI3, sN5, sN6, e6, e7, e8, o1, o2, o3, o4, o5, o6, gO, List.map_append, hlt', Option.bind_none]
  · obtain rfl : i = ws.length := by omega
    rw [List.take_length]
    refine ⟨by omega, callR (f167 ws) ?_⟩
    rintro _ _ ⟨rfl, rfl⟩
    simp only [vmA, sN1, reduceIte, sN2, sN3, reduceCtorEq, sN4, sI1, sI2, sI3, sN5, sN6, List.length_map]
    (refine hQ _ ?_; simp only [vmA, sN1, reduceIte, sN2, sN3, reduceCtorEq, sN4, sI1, sI2, sI3, sN5, sN6, Tryz.f110, retG, resL, St.closeVs, St.closeV, List.length_map, take_map_len])
theorem f182 (v w : Ver) : Fx 182 [gA v, gA w] (.int .i64 (or0L [iCmp v.key w.key, iCmp v.born w.born])) := by
  refine fn_ofX ⟨false, [], [(1, [], [0, 1, 2, 3, 5, 6, 7, 8, 4, 9, 10, 11, 12])]⟩ Tryz.func182 (by kernel_rfl) rfl (by kernel_rfl) (by kernel_rfl) (Nat.le_of_ble_eq_true rfl) rfl fun Q hQ => ?_
  simp only [tr_seq, tr_block, tr_loop, tr_cond, tr_skip, tr_exit, tr_ret, tr_reg]
  rw [tr_any 1 [(0, [], 0), (0, [], 1), (0, [], 2), (0, [], 3), (0, [], 5), (0, [], 6), (0, [], 7), (0, [], 8), (1, [0, 1, 2, 3, 5, 6, 7, 8], 4), (1, [5, 6, 7, 8], 9), (1, [], 10), (1, [], 11), (0, [], 12), (2, [12], 0)] (by kernel_rfl)]
  simp only [codeA_nil, codeA_look, codeA_hard, codeA_fin, ordC_leaf, ordC_one, ordC_both, pickL, List.getElem?_toArray, List.getElem?_cons_zero, List.getElem?_cons_succ]
  simp only [vmA, sN1, reduceIte, sN2, sN3, reduceCtorEq, sN4, sI1, sI2, sI3, sN5, sN6, gA]
  refine callD (f184 v.key w.key) ?_
  simp only [vmA, sN1, reduceIte, sN2, sN3, reduceCtorEq, sN4, sI1, sI2, sI3, sN5, sN6, gA]
  refine callD (f184 v.born w.born) ?_
  simp only [vmA, sN1, reduceIte, sN2, sN3, reduceCtorEq, sN4, sI1, sI2, sI3, sN5, sN6, gA]
  refine callD (f183 [iCmp v.key w.key, iCmp v.born w.born] true (by simp)) ?_
  simp only [vmA, sN1, reduceIte, sN2, sN3, reduceCtorEq, sN4, sI1, sI2, sI3, sN5, sN6, gA]
  (refine hQ _ ?_; simp only [vmA, sN1, reduceIte, sN2, sN3, reduceCtorEq, sN4, sI1, sI2, sI3, sN5, sN6, Tryz.f182, retG, resL, St.closeVs, St.closeV])
end
