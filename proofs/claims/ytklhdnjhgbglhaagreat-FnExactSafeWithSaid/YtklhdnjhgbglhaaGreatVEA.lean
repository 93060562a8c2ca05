/- WALK of functions of the seat, or plain laws for it: each theorem f<k> says what function k returns, for every world and all arguments that stand for the values named. Conditions: none but those ahead of each theorem. -/
import Derived.Test.YtklhdnjhgbglhaaGreatVD6
section
/- Dangers: plain laws. -/
open Go Go.Vm Go.Proofs
set_option linter.unusedVariables false
def hasW (ws : List Wr) (k : Int) : Prop := ∃ w ∈ ws, w.key = k
instance (ws : List Wr) (k : Int) : Decidable (hasW ws k) := by unfold hasW; exact inferInstance
/-- Who read what another wrote: at a key below n. -/
def blN (a b : Tx) (n : Nat) : Prop := ∃ k, k < n ∧ ((k : Int) ∈ a.rd ∧ hasW b.ws k ∧ a.bg < b.fn)
instance (a b : Tx) (n : Nat) : Decidable (blN a b n) := by unfold blN; exact inferInstance
def blP (a b : Tx) : Prop := blN a b 5
instance (a b : Tx) : Decidable (blP a b) := by unfold blP; exact inferInstance
def besP (a b : Tx) : Prop := a.bg < b.fn ∧ b.bg < a.fn
instance (a b : Tx) : Decidable (besP a b) := by unfold besP; exact inferInstance
def edgeP (ts : List Tx) (a b : Nat) : Prop := a ≠ b ∧ ts[a]!.st = 2 ∧ ts[b]!.st = 2 ∧ blP ts[a]! ts[b]!
instance (ts : List Tx) (a b : Nat) : Decidable (edgeP ts a b) := by unfold edgeP; exact inferInstance
def danP (ts : List Tx) (a b c : Nat) : Prop := edgeP ts a b ∧ edgeP ts b c ∧ besP ts[a]! ts[b]! ∧ besP ts[b]! ts[c]! ∧ ts[c]!.fn < ts[b]!.fn ∧ ts[c]!.fn ≤ ts[a]!.fn
instance (ts : List Tx) (a b c : Nat) : Decidable (danP ts a b c) := by unfold danP; exact inferInstance
def danN (ts : List Tx) (n : Nat) : Prop := danP ts (n / 16) (n / 4 % 4) (n % 4)
instance (ts : List Tx) (n : Nat) : Decidable (danN ts n) := by unfold danN; exact inferInstance
def threeN (n : Nat) : List Int := [((n / 16 : Nat) : Int), ((n / 4 % 4 : Nat) : Int), ((n % 4 : Nat) : Int)]
/-- The first danger. -/
def danL (ts : List Tx) : List Int := match (List.range 64).find? (fun n => decide (danN ts n)) with
  | some n => threeN n
  | none => []
theorem danL_none {ts : List Tx} (h : ∀ n, n < 64 → ¬ danN ts n) : danL ts = [] := by
  have : (List.range 64).find? (fun n => decide (danN ts n)) = none := List.find?_eq_none.2 fun n hn => by
    have := h n (by simpa using hn)
    simpa using this
  unfold danL
  rw [this]
theorem danL_some {ts : List Tx} {n : Nat} (hn : n < 64) (hd : danN ts n) (h : ∀ m, m < n → ¬ danN ts m) : danL ts = threeN n := by
  have : (List.range 64).find? (fun n => decide (danN ts n)) = some n := by
    have h2 := find_some (fun n => decide (danN ts n)) (List.range 64) n (by simpa using hn) (fun j hj => by
      rw [getElem!_pos (List.range 64) j (by simp; omega), List.getElem_range]
      simpa using h j hj) (by
      rw [getElem!_pos (List.range 64) n (by simp; omega), List.getElem_range]
      simpa using hd)
    rw [h2, getElem!_pos (List.range 64) n (by simp; omega), List.getElem_range]
  unfold danL
  rw [this]
theorem danL_cases (ts : List Tx) : danL ts = [] ∨ ∃ n, n < 64 ∧ danL ts = threeN n := by
  unfold danL
  split
  · rename_i n h
    exact .inr ⟨n, by simpa using List.mem_of_find?_eq_some h, rfl⟩
  · exact .inl rfl
theorem danN_abc {ts : List Tx} {a b c : Nat} (hb : b < 4) (hc : c < 4) : danN ts (16 * a + 4 * b + c) ↔ danP ts a b c := by
  unfold danN
  rw [show (16 * a + 4 * b + c) / 16 = a by omega, show (16 * a + 4 * b + c) / 4 % 4 = b by omega, show (16 * a + 4 * b + c) % 4 = c by omega]
theorem three_abc {a b c : Nat} (hb : b < 4) (hc : c < 4) : threeN (16 * a + 4 * b + c) = [(a : Int), (b : Int), (c : Int)] := by
  unfold threeN
  rw [show (16 * a + 4 * b + c) / 16 = a by omega, show (16 * a + 4 * b + c) / 4 % 4 = b by omega, show (16 * a + 4 * b + c) % 4 = c by omega]
end
section
open Go Go.Vm Go.Proofs
set_option maxRecDepth 100000
set_option maxHeartbeats 8000000
set_option linter.unusedSimpArgs false
set_option linter.unusedVariables false
def xC (t : Tx) : AV := .cptr none [.int .i64 t.st, .int .i64 t.bg, .int .i64 t.fn, .fro none false (t.rd.map iA), .fro none false (t.ws.map wA)]
def wC (w : Wr) : AV := .cptr none [.int .i64 w.key, .fro none false (w.row.map vA), .bool w.gone]
def hC (h : Hs) : AV := .cptr none [.fro none false (h.vs.map gA), .int .i64 h.ck, .fro none false (h.tx.map xA)]
theorem mem_get {α : Type} [Inhabited α] {xs : List α} {i : Nat} (h : i < xs.length) : xs[i]! ∈ xs := by rw [getElem!_pos xs i h]; exact List.getElem_mem _
theorem f213 (w : Wr) (key : Int) : Fx 213 [wA w, .cptr none [.int .i64 key]] (.bool (decide (w.key = key))) := by
  refine fn_of ⟨false, [], []⟩ Tryz.func213 (by kernel_rfl) rfl (by kernel_rfl) (by kernel_rfl) (Nat.le_of_ble_eq_true rfl) rfl fun Q hQ => ?_
  simp only [vmA, Nat.reduceEqDiff, reduceIte, Nat.reduceAdd, Nat.reduceBEq, reduceCtorEq, Nat.reduceLT, Int.reduceLE, Int.reduceLT, Int.reduceEq, Nat.reduceMul, Nat.reduceLeDiff, wA]
  (refine hQ _ ?_; simp only [vmA, Nat.reduceEqDiff, reduceIte, Nat.reduceAdd, Nat.reduceBEq, reduceCtorEq, Nat.reduceLT, Int.reduceLE, Int.reduceLT, Int.reduceEq, Nat.reduceMul, Nat.reduceLeDiff, Tryz.f213, retG, resL, St.closeVs, St.closeV])
theorem f212k (key : Int) (xs : List Wr) (c : Bool) (hl : xs.length ≤ 9223372036854775807) : Fx 212 [.fro none c (xs.map wA), .clo 213 [.cptr none [.int .i64 key]]] (.int .i64 (idxL (fun w => w.key = key) xs 0)) := by
  refine fn_of ⟨false, [], []⟩ Tryz.func212 (by kernel_rfl) rfl (by kernel_rfl) (by kernel_rfl) (Nat.le_of_ble_eq_true rfl) rfl fun Q hQ => ?_
  simp only [vmA, Nat.reduceEqDiff, reduceIte, Nat.reduceAdd, Nat.reduceBEq, reduceCtorEq, Nat.reduceLT, Int.reduceLE, Int.reduceLT, Int.reduceEq, Nat.reduceMul, Nat.reduceLeDiff, List.length_map]
  refine WT_loop (fun (i : Nat) σ => i ≤ xs.length ∧ σ.sl 0 = .fro none c (xs.map wA) ∧ σ.sl 1 = .clo 213 [.cptr none [.int .i64 key]] ∧ σ.sl 7 = .int .i64 xs.length ∧ σ.sl 8 = .int .i64 i ∧ idxL (fun w => w.key = key) (xs.drop i) i = idxL (fun w => w.key = key) xs 0) (fun i => xs.length - i) 0 ⟨by omega, by simp [vmI], by simp [vmI, wA], by simp [vmI], by simp [vmI], by simp⟩ ?_
  rintro i σ ⟨hi, e0, e1, e7, e8, hx⟩
  simp only [vmA, Nat.reduceEqDiff, reduceIte, Nat.reduceAdd, Nat.reduceBEq, reduceCtorEq, Nat.reduceLT, Int.reduceLE, Int.reduceLT, Int.reduceEq, Nat.reduceMul, Nat.reduceLeDiff, e0, e1, e7, e8, wA, wA, List.length_map]
  refine ⟨fun hlt => ?_, fun hge => ?_⟩
  · refine ⟨hlt, by omega, callD (f213 xs[i]! key) ?_⟩
    rw [idxL_drop _ (by omega)] at hx
    simp only [vmA, Nat.reduceEqDiff, reduceIte, Nat.reduceAdd, Nat.reduceBEq, reduceCtorEq, Nat.reduceLT, Int.reduceLE, Int.reduceLT, Int.reduceEq, Nat.reduceMul, Nat.reduceLeDiff, e0, e1, e7, e8, wA]
    refine ⟨fun hn => ?_, fun hn => ?_⟩
    · rw [if_pos hn] at hx
      (refine hQ _ ?_; simp only [vmA, Nat.reduceEqDiff, reduceIte, Nat.reduceAdd, Nat.reduceBEq, reduceCtorEq, Nat.reduceLT, Int.reduceLE, Int.reduceLT, Int.reduceEq, Nat.reduceMul, Nat.reduceLeDiff, Tryz.f212, retG, resL, St.closeVs, St.closeV])
      rw [hx]
    · rw [if_neg (by simpa using hn)] at hx
      rw [wr (by omega)]
      exact ⟨i + 1, ⟨by omega, rfl, hx⟩, by omega⟩
  · have : xs.drop i = [] := List.drop_of_length_le (by omega)
    rw [this, idxL] at hx
    (refine hQ _ ?_; simp only [vmA, Nat.reduceEqDiff, reduceIte, Nat.reduceAdd, Nat.reduceBEq, reduceCtorEq, Nat.reduceLT, Int.reduceLE, Int.reduceLT, Int.reduceEq, Nat.reduceMul, Nat.reduceLeDiff, Tryz.f212, retG, resL, St.closeVs, St.closeV])
    rw [← hx]
theorem idxL_range {α : Type} (p : α → Prop) [DecidablePred p] : ∀ (xs : List α) (i : Int), 0 ≤ i → (idxL p xs i = -1 ∨ i ≤ idxL p xs i ∧ idxL p xs i < i + xs.length)
  | [], i, _ => .inl rfl
  | x :: xs, i, hi => by
    rw [idxL]
    split
    · exact .inr ⟨Int.le_refl _, by simp; omega⟩
    · rcases idxL_range p xs (i + 1) (by omega) with h | h
      · exact .inl h
      · exact .inr ⟨by omega, by simp; omega⟩
theorem f170 (t : Tx) (key : Int) (ht : okX t) : FxR 170 [xA t, .int .i64 key] fun r l => (∃ (a : Int) (c : Bool) (row : List Val) (g : Bool), r = .tup [.agg [.int .i64 a, .fro none c (row.map vA), .bool g], .bool (decide (hasW t.ws key))]) ∧ l = .und := by
  refine fn_ofR ⟨false, [], []⟩ Tryz.func170 (by kernel_rfl) rfl (by kernel_rfl) (by kernel_rfl) (Nat.le_of_ble_eq_true rfl) rfl fun Q hQ => ?_
  simp only [vmA, Nat.reduceEqDiff, reduceIte, Nat.reduceAdd, Nat.reduceBEq, reduceCtorEq, Nat.reduceLT, Int.reduceLE, Int.reduceLT, Int.reduceEq, Nat.reduceMul, Nat.reduceLeDiff, xA, captureL, capture, get_tmp, Option.bind_none]
  refine callD (f212k key t.ws false ht.2.1) ?_
  have hr := idxL_range (fun w : Wr => w.key = key) t.ws 0 (by omega)
  have hg := idxL_ge (fun w : Wr => w.key = key) t.ws 0 (by omega)
  generalize idxL (fun w : Wr => w.key = key) t.ws 0 = n at hr hg ⊢
  simp only [vmA, Nat.reduceEqDiff, reduceIte, Nat.reduceAdd, Nat.reduceBEq, reduceCtorEq, Nat.reduceLT, Int.reduceLE, Int.reduceLT, Int.reduceEq, Nat.reduceMul, Nat.reduceLeDiff, xA, captureL, capture, get_tmp, Option.bind_none, List.length_map]
  refine ⟨fun h => ?_, fun h => ⟨⟨by clear hg; omega, by clear hg; omega⟩, by clear hg; omega, ?_⟩⟩
  · (refine hQ _ ?_; simp only [vmA, Nat.reduceEqDiff, reduceIte, Nat.reduceAdd, Nat.reduceBEq, reduceCtorEq, Nat.reduceLT, Int.reduceLE, Int.reduceLT, Int.reduceEq, Nat.reduceMul, Nat.reduceLeDiff, Tryz.f170, retG, resL, St.closeVs, St.closeV])
    refine ⟨0, true, [], false, ?_⟩
    rw [decide_eq_false (fun e : hasW t.ws key => by have := hg.2 e; omega)]
    rfl
  · simp only [vmA, Nat.reduceEqDiff, reduceIte, Nat.reduceAdd, Nat.reduceBEq, reduceCtorEq, Nat.reduceLT, Int.reduceLE, Int.reduceLT, Int.reduceEq, Nat.reduceMul, Nat.reduceLeDiff, wA]
    (refine hQ _ ?_; simp only [vmA, Nat.reduceEqDiff, reduceIte, Nat.reduceAdd, Nat.reduceBEq, reduceCtorEq, Nat.reduceLT, Int.reduceLE, Int.reduceLT, Int.reduceEq, Nat.reduceMul, Nat.reduceLeDiff, Tryz.f170, retG, resL, St.closeVs, St.closeV, wA])
    have h0 : 0 ≤ n := by clear hg; omega
    rw [decide_eq_true (show hasW t.ws key from hg.1 h0)]
    exact ⟨t.ws[n.toNat]!.key, false, t.ws[n.toNat]!.row, t.ws[n.toNat]!.gone, rfl⟩
theorem f113 (t : Tx) (key : Int) (ht : okX t) : Fx 113 [xA t, .int .i64 key] (.bool (decide (hasW t.ws key))) := by
  refine fn_of ⟨false, [], []⟩ Tryz.func113 (by kernel_rfl) rfl (by kernel_rfl) (by kernel_rfl) (Nat.le_of_ble_eq_true rfl) rfl fun Q hQ => ?_
  simp only [vmA, Nat.reduceEqDiff, reduceIte, Nat.reduceAdd, Nat.reduceBEq, reduceCtorEq, Nat.reduceLT, Int.reduceLE, Int.reduceLT, Int.reduceEq, Nat.reduceMul, Nat.reduceLeDiff, xA]
  refine callR (f170 t key ht) ?_
  rintro _ _ ⟨⟨a, c, row, g, rfl⟩, rfl⟩
  simp only [vmA, Nat.reduceEqDiff, reduceIte, Nat.reduceAdd, Nat.reduceBEq, reduceCtorEq, Nat.reduceLT, Int.reduceLE, Int.reduceLT, Int.reduceEq, Nat.reduceMul, Nat.reduceLeDiff, xA]
  (refine hQ _ ?_; simp only [vmA, Nat.reduceEqDiff, reduceIte, Nat.reduceAdd, Nat.reduceBEq, reduceCtorEq, Nat.reduceLT, Int.reduceLE, Int.reduceLT, Int.reduceEq, Nat.reduceMul, Nat.reduceLeDiff, Tryz.f113, retG, resL, St.closeVs, St.closeV])
end
