/- WALK, or plain laws for it: theorem f<k> says what function k returns. Conditions: none but those ahead of each theorem. -/
import Derived.Test.YtklhdnjhgbglhaaGreatYP6
set_option linter.unusedVariables false
set_option linter.unusedSimpArgs false
open Nat renaming reduceEqDiff → sN1, reduceAdd → sN2, reduceBEq → sN3, reduceLT → sN4, reduceMul → sN5, reduceLeDiff → sN6, reduceSub → sN7
open Int renaming reduceLE → sI1, reduceLT → sI2, reduceEq → sI3
section
open Go Go.Vm Go.Proofs
set_option maxRecDepth 100000
set_option maxHeartbeats 8000000
def xC (t : Tx) : AV := .cptr none [.int .i64 t.st, .int .i64 t.bg, .int .i64 t.fn, .fro none false (t.rd.map iA), .fro none false (t.ws.map wA)]
def wC (w : Wr) : AV := .cptr none [.int .i64 w.key, .fro none false (w.row.map vA), .bool w.gone]
def hC (h : Hs) : AV := .cptr none [.fro none false (h.vs.map gA), .int .i64 h.ck, .fro none false (h.tx.map xA)]
theorem mem_get {α : Type} [Inhabited α] {xs : List α} {i : Nat} (h : i < xs.length) : xs[i]! ∈ xs := by rw [getElem!_pos xs i h]; exact List.getElem_mem _
theorem f213 (w : Wr) (key : Int) : Fx 213 [wA w, .cptr none [.int .i64 key]] (.bool (decide (w.key = key))) := by
  refine fn_of ⟨false, [], []⟩ Tryz.func213 (by kernel_rfl) rfl (by kernel_rfl) (by kernel_rfl) (Nat.le_of_ble_eq_true rfl) rfl fun Q hQ => ?_
  simp only [vmA, sN1, reduceIte, sN2, sN3, reduceCtorEq, sN4, sI1, sI2, sI3, sN5, sN6, wA]
  (refine hQ _ ?_; simp only [vmA, sN1, reduceIte, sN2, sN3, reduceCtorEq, sN4, sI1, sI2, sI3, sN5, sN6, Tryz.f213, retG, resL, St.closeVs, St.closeV])
theorem f212k (key : Int) (xs : List Wr) (c : Bool) (hl : xs.length ≤ 9223372036854775807) : Fx 212 [.fro none c (xs.map wA), .clo 213 [.cptr none [.int .i64 key]]] (.int .i64 (idxL (fun w => w.key = key) xs 0)) := by
  refine fn_of ⟨false, [], []⟩ Tryz.func212 (by kernel_rfl) rfl (by kernel_rfl) (by kernel_rfl) (Nat.le_of_ble_eq_true rfl) rfl fun Q hQ => ?_
  simp only [vmA, sN1, reduceIte, sN2, sN3, reduceCtorEq, sN4, sI1, sI2, sI3, sN5, sN6, List.length_map]
  refine WT_loop (fun (i : Nat) σ => i ≤ xs.length ∧ σ.sl 0 = .fro none c (xs.map wA) ∧ σ.sl 1 = .clo 213 [.cptr none [.int .i64 key]] ∧ σ.sl 7 = .int .i64 xs.length ∧ σ.sl 8 = .int .i64 i ∧ idxL (fun w => w.key = key) (xs.drop i) i = idxL (fun w => w.key = key) xs 0) (fun i => xs.length - i) 0 ⟨by omega, by simp [vmI], by simp [vmI, wA], by simp [vmI], by simp [vmI], by simp⟩ ?_
  rintro i σ ⟨hi, e0, e1, e7, e8, hx⟩
  simp only [vmA, sN1, reduceIte, sN2, sN3, reduceCtorEq, sN4, sI1, sI2, sI3, sN5, sN6, e0, e1, e7, e8, wA, wA, List.length_map]
  refine ⟨fun hlt => ?_, fun hge => ?_⟩
  · refine ⟨hlt, by omega, callD (f213 xs[i]! key) ?_⟩
    rw [idxL_drop _ (by omega)] at hx
    simp only [vmA, sN1, reduceIte, sN2, sN3, reduceCtorEq, sN4, sI1, sI2, sI3, sN5, sN6, e0, e1, e7, e8, wA]
    refine ⟨fun hn => ?_, fun hn => ?_⟩
    · rw [if_pos hn] at hx
      (refine hQ _ ?_; simp only [vmA, sN1, reduceIte, sN2, sN3, reduceCtorEq, sN4, sI1, sI2, sI3, sN5, sN6, Tryz.f212, retG, resL, St.closeVs, St.closeV])
      rw [hx]
    · rw [if_neg (by simpa using hn)] at hx
      rw [wr (by omega)]
      exact ⟨i + 1, ⟨by omega, rfl, hx⟩, by omega⟩
  · have : xs.drop i = [] := List.drop_of_length_le (by omega)
    rw [this, idxL] at hx
    (refine hQ _ ?_; simp only [vmA, sN1, reduceIte, sN2, sN3, reduceCtorEq, sN4, sI1, sI2, sI3, sN5, sN6, Tryz.f212, retG, resL, St.closeVs, St.closeV])
    rw [← hx]
theorem idxL_range {α : Type} (p : α → Prop) [DecidablePred p] : ∀ (xs : List α) (i : Int), 0 ≤ i → (idxL p xs i = -1 ∨ i ≤ idxL p xs i ∧ idxL p xs i < i + xs.length)
  | [], i, _ => .inl rfl
  | x :: xs, i, hi => by
    rw [idxL]
    split
    · exact .inr ⟨Int.le_refl _, by simp; omega⟩
    · rcases idxL_range p xs (i + 1) (by omega) with h | h
      · exact .inl h
      · exact .inr ⟨by omega, by simp; omega⟩
theorem f170 (t : Tx) (key : Int) (ht : okX t) : FxR 170 [xA t, .int .i64 key] fun r l => (∃ (a : Int) (c : Bool) (row : List Val) (g : Bool), r = .tup [.agg [.int .i64 a, .fro none c (row.map vA), .bool g], .bool (decide (hasW t.ws key))]) ∧ l = .und := by
  refine fn_ofR ⟨false, [], []⟩ Tryz.func170 (by kernel_rfl) rfl (by kernel_rfl) (by kernel_rfl) (Nat.le_of_ble_eq_true rfl) rfl fun Q hQ => ?_
  simp only [vmA, sN1, reduceIte, sN2, sN3, reduceCtorEq, sN4, sI1, sI2, sI3, sN5, sN6, xA, captureL, capture, get_tmp, Option.bind_none]
  refine callD (f212k key t.ws false ht.2.1) ?_
  have hr := idxL_range (fun w : Wr => w.key = key) t.ws 0 (by omega)
  have hg := idxL_ge (fun w : Wr => w.key = key) t.ws 0 (by omega)
  generalize idxL (fun w : Wr => w.key = key) t.ws 0 = n at hr hg ⊢
  simp only [vmA, sN1, reduceIte, sN2, sN3, reduceCtorEq, sN4, sI1, sI2, sI3, sN5, sN6, xA, captureL, capture, get_tmp, Option.bind_none, List.length_map]
  refine ⟨fun h => ?_, fun h => ⟨⟨by clear hg; omega, by clear hg; omega⟩, by clear hg; omega, ?_⟩⟩
  · (refine hQ _ ?_; simp only [vmA, sN1, reduceIte, sN2, sN3, reduceCtorEq, sN4, sI1, sI2, sI3, sN5, sN6, Tryz.f170, retG, resL, St.closeVs, St.closeV])
    refine ⟨0, true, [], false, ?_⟩
    rw [decide_eq_false (fun e : hasW t.ws key => by have := hg.2 e; omega)]
    rfl
  · simp only [vmA, sN1, reduceIte, sN2, sN3, reduceCtorEq, sN4, sI1, sI2, sI3, sN5, sN6, wA]
    (refine hQ _ ?_; simp only [vmA, sN1, reduceIte, sN2, sN3, reduceCtorEq, sN4, sI1, sI2, sI3, sN5, sN6, Tryz.f170, retG, resL, St.closeVs, St.closeV, wA])
    have h0 : 0 ≤ n := by clear hg; omega
    rw [decide_eq_true (show hasW t.ws key from hg.1 h0)]
    exact ⟨t.ws[n.toNat]!.key, false, t.ws[n.toNat]!.row, t.ws[n.toNat]!.gone, rfl⟩
theorem f113 (t : Tx) (key : Int) (ht : okX t) : Fx 113 [xA t, .int .i64 key] (.bool (decide (hasW t.ws key))) := by
  refine fn_of ⟨false, [], []⟩ Tryz.func113 (by kernel_rfl) rfl (by kernel_rfl) (by kernel_rfl) (Nat.le_of_ble_eq_true rfl) rfl fun Q hQ => ?_
  simp only [vmA, sN1, reduceIte, sN2, sN3, reduceCtorEq, sN4, sI1, sI2, sI3, sN5, sN6, xA]
  refine callR (f170 t key ht) ?_
  rintro _ _ ⟨⟨a, c, row, g, rfl⟩, rfl⟩
  simp only [vmA, sN1, reduceIte, sN2, sN3, reduceCtorEq, sN4, sI1, sI2, sI3, sN5, sN6, xA]
  (refine hQ _ ?_; simp only [vmA, sN1, reduceIte, sN2, sN3, reduceCtorEq, sN4, sI1, sI2, sI3, sN5, sN6, Tryz.f113, retG, resL, St.closeVs, St.closeV])
end
section
open Go Go.Vm Go.Proofs
set_option maxRecDepth 100000
set_option maxHeartbeats 8000000
def lateW (h : Hs) (t : Tx) (k : Int) : Prop := t.bg < lastV h.vs k 0 ∨ ∃ u ∈ h.tx, u.st = 2 ∧ t.bg < u.fn ∧ hasW u.ws k
instance (h : Hs) (t : Tx) (k : Int) : Decidable (lateW h t k) := by unfold lateW; exact inferInstance
def lateP (h : Hs) (t : Tx) : Prop := ∃ w ∈ t.ws, lateW h t w.key
instance (h : Hs) (t : Tx) : Decidable (lateP h t) := by unfold lateP; exact inferInstance
theorem f220 (u t : Tx) (w : Wr) (hu : okX u) : Fx 220 [xA u, xC t, wC w] (.bool (decide (u.st = 2 ∧ t.bg < u.fn ∧ hasW u.ws w.key))) := by
  refine fn_of ⟨false, [], []⟩ Tryz.func220 (by kernel_rfl) rfl (by kernel_rfl) (by kernel_rfl) (Nat.le_of_ble_eq_true rfl) rfl fun Q hQ => ?_
  simp only [vmA, sN1, reduceIte, sN2, sN3, reduceCtorEq, sN4, sI1, sI2, sI3, sN5, sN6, xA, xC, wC]
  refine ⟨fun h1 => ⟨fun h2 => ?_, fun h2 => ?_⟩, fun h1 => ?_⟩
  · refine callD (f113 u w.key hu) ?_
    simp only [vmA, sN1, reduceIte, sN2, sN3, reduceCtorEq, sN4, sI1, sI2, sI3, sN5, sN6, xA, xC, wC]
    (refine hQ _ ?_; simp only [vmA, sN1, reduceIte, sN2, sN3, reduceCtorEq, sN4, sI1, sI2, sI3, sN5, sN6, Tryz.f220, retG, resL, St.closeVs, St.closeV])
    exact leafB ⟨fun h => ⟨h1, h2, h⟩, fun h => h.2.2⟩
  · (refine hQ _ ?_; simp only [vmA, sN1, reduceIte, sN2, sN3, reduceCtorEq, sN4, sI1, sI2, sI3, sN5, sN6, Tryz.f220, retG, resL, St.closeVs, St.closeV])
    exact leafF fun h => h2 h.2.1
  · (refine hQ _ ?_; simp only [vmA, sN1, reduceIte, sN2, sN3, reduceCtorEq, sN4, sI1, sI2, sI3, sN5, sN6, Tryz.f220, retG, resL, St.closeVs, St.closeV])
    exact leafF fun h => h1 h.1
theorem f239 (t : Tx) (w : Wr) (xs : List Tx) (c : Bool) (hl : xs.length ≤ 9223372036854775807) (hs : ∀ u ∈ xs, okX u) : Fx 239 [.fro none c (xs.map xA), .clo 220 [xC t, wC w]] (.int .i64 (idxL (fun u => u.st = 2 ∧ t.bg < u.fn ∧ hasW u.ws w.key) xs 0)) := by
  refine fn_of ⟨false, [], []⟩ Tryz.func239 (by kernel_rfl) rfl (by kernel_rfl) (by kernel_rfl) (Nat.le_of_ble_eq_true rfl) rfl fun Q hQ => ?_
  simp only [vmA, sN1, reduceIte, sN2, sN3, reduceCtorEq, sN4, sI1, sI2, sI3, sN5, sN6, List.length_map]
  refine WT_loop (fun (i : Nat) σ => i ≤ xs.length ∧ σ.sl 0 = .fro none c (xs.map xA) ∧ σ.sl 1 = .clo 220 [xC t, wC w] ∧ σ.sl 7 = .int .i64 xs.length ∧ σ.sl 8 = .int .i64 i ∧ idxL (fun u => u.st = 2 ∧ t.bg < u.fn ∧ hasW u.ws w.key) (xs.drop i) i = idxL (fun u => u.st = 2 ∧ t.bg < u.fn ∧ hasW u.ws w.key) xs 0) (fun i => xs.length - i) 0 ⟨by omega, by simp [vmI], by simp [vmI, xC, wC], by simp [vmI], by simp [vmI], by simp⟩ ?_
  rintro i σ ⟨hi, e0, e1, e7, e8, hx⟩
  simp only [vmA, sN1, reduceIte, sN2, sN3, reduceCtorEq, sN4, sI1, sI2, sI3, sN5, sN6, e0, e1, e7, e8, xC, wC, xA, List.length_map]
  refine ⟨fun hlt => ?_, fun hge => ?_⟩
  · refine ⟨hlt, by omega, callD (f220 xs[i]! t w (hs _ (mem_get (by omega)))) ?_⟩
    rw [idxL_drop _ (by omega)] at hx
    simp only [vmA, sN1, reduceIte, sN2, sN3, reduceCtorEq, sN4, sI1, sI2, sI3, sN5, sN6, e0, e1, e7, e8, xC, wC]
    refine ⟨fun hn => ?_, fun hn => ?_⟩
    · rw [if_pos hn] at hx
      (refine hQ _ ?_; simp only [vmA, sN1, reduceIte, sN2, sN3, reduceCtorEq, sN4, sI1, sI2, sI3, sN5, sN6, Tryz.f239, retG, resL, St.closeVs, St.closeV])
      rw [hx]
    · rw [if_neg (by simpa using hn)] at hx
      rw [wr (by omega)]
      exact ⟨i + 1, ⟨by omega, rfl, hx⟩, by omega⟩
  · have : xs.drop i = [] := List.drop_of_length_le (by omega)
    rw [this, idxL] at hx
    (refine hQ _ ?_; simp only [vmA, sN1, reduceIte, sN2, sN3, reduceCtorEq, sN4, sI1, sI2, sI3, sN5, sN6, Tryz.f239, retG, resL, St.closeVs, St.closeV])
    rw [← hx]
theorem f219 (t : Tx) (w : Wr) (xs : List Tx) (c : Bool) (hl : xs.length ≤ 9223372036854775807) (hs : ∀ u ∈ xs, okX u) : Fx 219 [.fro none c (xs.map xA), .clo 220 [xC t, wC w]] (.bool (decide (∃ zz ∈ xs, (fun u => u.st = 2 ∧ t.bg < u.fn ∧ hasW u.ws w.key) zz))) := by
  refine fn_of ⟨false, [], []⟩ Tryz.func219 (by kernel_rfl) rfl (by kernel_rfl) (by kernel_rfl) (Nat.le_of_ble_eq_true rfl) rfl fun Q hQ => ?_
  simp only [vmA, sN1, reduceIte, sN2, sN3, reduceCtorEq, sN4, sI1, sI2, sI3, sN5, sN6, xC, wC]
  refine callD (f239 t w xs c hl hs) ?_
  simp only [vmA, sN1, reduceIte, sN2, sN3, reduceCtorEq, sN4, sI1, sI2, sI3, sN5, sN6, xC, wC]
  (refine hQ _ ?_; simp only [vmA, sN1, reduceIte, sN2, sN3, reduceCtorEq, sN4, sI1, sI2, sI3, sN5, sN6, Tryz.f219, retG, resL, St.closeVs, St.closeV])
  exact leafB (idxL_ge (fun u => u.st = 2 ∧ t.bg < u.fn ∧ hasW u.ws w.key) xs 0 (by omega))
theorem f218 (w : Wr) (h : Hs) (t : Tx) (ho : okH h) : Fx 218 [wA w, hC h, xC t] (.bool (decide (lateW h t w.key))) := by
  have h1 := ho.n
  have h2 := ho.m
  refine fn_of ⟨false, [], []⟩ Tryz.func218 (by kernel_rfl) rfl (by kernel_rfl) (by kernel_rfl) (Nat.le_of_ble_eq_true rfl) rfl fun Q hQ => ?_
  simp only [vmA, sN1, reduceIte, sN2, sN3, reduceCtorEq, sN4, sI1, sI2, sI3, sN5, sN6, wA, hC, xC, captureL, capture, get_tmp, Option.bind_none]
  refine callD (f108 h.vs false w.key (by omega)) ?_
  simp only [vmA, sN1, reduceIte, sN2, sN3, reduceCtorEq, sN4, sI1, sI2, sI3, sN5, sN6, wA, hC, xC, captureL, capture, get_tmp, Option.bind_none]
  refine ⟨fun h1 => ?_, fun h1 => ?_⟩
  · (refine hQ _ ?_; simp only [vmA, sN1, reduceIte, sN2, sN3, reduceCtorEq, sN4, sI1, sI2, sI3, sN5, sN6, Tryz.f218, retG, resL, St.closeVs, St.closeV])
    exact leafT (.inl h1)
  · refine callD (f219 t w h.tx false (by omega) ho.tx) ?_
    simp only [vmA, sN1, reduceIte, sN2, sN3, reduceCtorEq, sN4, sI1, sI2, sI3, sN5, sN6, wA, hC, xC, captureL, capture, get_tmp, Option.bind_none]
    (refine hQ _ ?_; simp only [vmA, sN1, reduceIte, sN2, sN3, reduceCtorEq, sN4, sI1, sI2, sI3, sN5, sN6, Tryz.f218, retG, resL, St.closeVs, St.closeV])
    exact leafB ⟨fun e => .inr e, fun e => e.resolve_left h1⟩
theorem f212l (h : Hs) (t : Tx) (ho : okH h) (xs : List Wr) (c : Bool) (hl : xs.length ≤ 9223372036854775807) : Fx 212 [.fro none c (xs.map wA), .clo 218 [hC h, xC t]] (.int .i64 (idxL (fun w => lateW h t w.key) xs 0)) := by
  refine fn_of ⟨false, [], []⟩ Tryz.func212 (by kernel_rfl) rfl (by kernel_rfl) (by kernel_rfl) (Nat.le_of_ble_eq_true rfl) rfl fun Q hQ => ?_
  simp only [vmA, sN1, reduceIte, sN2, sN3, reduceCtorEq, sN4, sI1, sI2, sI3, sN5, sN6, List.length_map]
  refine WT_loop (fun (i : Nat) σ => i ≤ xs.length ∧ σ.sl 0 = .fro none c (xs.map wA) ∧ σ.sl 1 = .clo 218 [hC h, xC t] ∧ σ.sl 7 = .int .i64 xs.length ∧ σ.sl 8 = .int .i64 i ∧ idxL (fun w => lateW h t w.key) (xs.drop i) i = idxL (fun w => lateW h t w.key) xs 0) (fun i => xs.length - i) 0 ⟨by omega, by simp [vmI], by simp [vmI, hC, xC], by simp [vmI], by simp [vmI], by simp⟩ ?_
  rintro i σ ⟨hi, e0, e1, e7, e8, hx⟩
  simp only [vmA, sN1, reduceIte, sN2, sN3, reduceCtorEq, sN4, sI1, sI2, sI3, sN5, sN6, e0, e1, e7, e8, hC, xC, wA, List.length_map]
  refine ⟨fun hlt => ?_, fun hge => ?_⟩
  · refine ⟨hlt, by omega, callD (f218 xs[i]! h t ho) ?_⟩
    rw [idxL_drop _ (by omega)] at hx
    simp only [vmA, sN1, reduceIte, sN2, sN3, reduceCtorEq, sN4, sI1, sI2, sI3, sN5, sN6, e0, e1, e7, e8, hC, xC]
    refine ⟨fun hn => ?_, fun hn => ?_⟩
    · rw [if_pos hn] at hx
      (refine hQ _ ?_; simp only [vmA, sN1, reduceIte, sN2, sN3, reduceCtorEq, sN4, sI1, sI2, sI3, sN5, sN6, Tryz.f212, retG, resL, St.closeVs, St.closeV])
      rw [hx]
    · rw [if_neg (by simpa using hn)] at hx
      rw [wr (by omega)]
      exact ⟨i + 1, ⟨by omega, rfl, hx⟩, by omega⟩
  · have : xs.drop i = [] := List.drop_of_length_le (by omega)
    rw [this, idxL] at hx
    (refine hQ _ ?_; simp only [vmA, sN1, reduceIte, sN2, sN3, reduceCtorEq, sN4, sI1, sI2, sI3, sN5, sN6, Tryz.f212, retG, resL, St.closeVs, St.closeV])
    rw [← hx]
theorem f217l (h : Hs) (t : Tx) (ho : okH h) (xs : List Wr) (c : Bool) (hl : xs.length ≤ 9223372036854775807) : Fx 217 [.fro none c (xs.map wA), .clo 218 [hC h, xC t]] (.bool (decide (∃ zz ∈ xs, (fun w => lateW h t w.key) zz))) := by
  refine fn_of ⟨false, [], []⟩ Tryz.func217 (by kernel_rfl) rfl (by kernel_rfl) (by kernel_rfl) (Nat.le_of_ble_eq_true rfl) rfl fun Q hQ => ?_
  simp only [vmA, sN1, reduceIte, sN2, sN3, reduceCtorEq, sN4, sI1, sI2, sI3, sN5, sN6, hC, xC]
  refine callD (f212l h t ho xs c hl) ?_
  simp only [vmA, sN1, reduceIte, sN2, sN3, reduceCtorEq, sN4, sI1, sI2, sI3, sN5, sN6, hC, xC]
  (refine hQ _ ?_; simp only [vmA, sN1, reduceIte, sN2, sN3, reduceCtorEq, sN4, sI1, sI2, sI3, sN5, sN6, Tryz.f217, retG, resL, St.closeVs, St.closeV])
  exact leafB (idxL_ge (fun w => lateW h t w.key) xs 0 (by omega))
theorem f177 (h : Hs) (t : Tx) (ho : okH h) (ht : okX t) : Fx 177 [hA h, xA t] (.bool (decide (lateP h t))) := by
  refine fn_of ⟨false, [], []⟩ Tryz.func177 (by kernel_rfl) rfl (by kernel_rfl) (by kernel_rfl) (Nat.le_of_ble_eq_true rfl) rfl fun Q hQ => ?_
  simp only [vmA, sN1, reduceIte, sN2, sN3, reduceCtorEq, sN4, sI1, sI2, sI3, sN5, sN6, hA, xA, captureL, capture, get_tmp, Option.bind_none]
  refine callD (f217l h t ho t.ws false ht.2.1) ?_
  simp only [vmA, sN1, reduceIte, sN2, sN3, reduceCtorEq, sN4, sI1, sI2, sI3, sN5, sN6, hA, xA]
  (refine hQ _ ?_; simp only [vmA, sN1, reduceIte, sN2, sN3, reduceCtorEq, sN4, sI1, sI2, sI3, sN5, sN6, Tryz.f177, retG, resL, St.closeVs, St.closeV])
  rfl
end
