/- WALK of functions of the seat, or plain laws for it: each theorem f<k> says what function k returns, for every world and all arguments that stand for the values named. Conditions: none but those ahead of each theorem. -/
import Derived.Test.YtboeimkfcfdabaaWA3
open Go Go.Vm Go.Proofs
set_option maxRecDepth 100000
set_option maxHeartbeats 8000000
set_option linter.unusedSimpArgs false
set_option linter.unusedVariables false
def sLt (a b : ByteArray) : Prop := Op.bytesLess a.toList b.toList = true
instance (a b : ByteArray) : Decidable (sLt a b) := by unfold sLt; exact inferInstance
theorem bl_irr : ∀ x : List UInt8, Op.bytesLess x x = false
  | [] => rfl
  | a :: x => by simp [Op.bytesLess, bl_irr x, UInt8.lt_irrefl]
theorem bl_cons {a b : UInt8} {x y : List UInt8} : Op.bytesLess (a :: x) (b :: y) = true ↔ a < b ∨ a = b ∧ Op.bytesLess x y = true := by simp [Op.bytesLess]
theorem bl_tr : ∀ x y z : List UInt8, Op.bytesLess x y = true → Op.bytesLess y z = true → Op.bytesLess x z = true
  | [], [], _, h, _ => by simp [Op.bytesLess] at h
  | [], _ :: _, [], _, h => by simp [Op.bytesLess] at h
  | [], _ :: _, _ :: _, _, _ => rfl
  | _ :: _, [], _, h, _ => by simp [Op.bytesLess] at h
  | _ :: _, _ :: _, [], _, h => by simp [Op.bytesLess] at h
  | a :: x, b :: y, c :: z, h1, h2 => by
    rw [bl_cons] at h1 h2 ⊢
    rcases h1 with h1 | ⟨rfl, h1⟩
    · rcases h2 with h2 | ⟨rfl, h2⟩
      · exact .inl (UInt8.lt_trans h1 h2)
      · exact .inl h1
    · rcases h2 with h2 | ⟨rfl, h2⟩
      · exact .inl h2
      · exact .inr ⟨rfl, bl_tr x y z h1 h2⟩
theorem bl_tot : ∀ x y : List UInt8, Op.bytesLess x y = true ∨ x = y ∨ Op.bytesLess y x = true
  | [], [] => .inr (.inl rfl)
  | [], _ :: _ => .inl rfl
  | _ :: _, [] => .inr (.inr rfl)
  | a :: x, b :: y => by
    rw [bl_cons, bl_cons]
    rcases (show a < b ∨ a = b ∨ b < a from by rw [UInt8.lt_iff_toNat_lt, UInt8.lt_iff_toNat_lt, ← UInt8.toNat_inj]; omega) with h | h | h
    · exact .inl (.inl h)
    · subst h
      rcases bl_tot x y with h | h | h
      · exact .inl (.inr ⟨rfl, h⟩)
      · exact .inr (.inl (by rw [h]))
      · exact .inr (.inr (.inr ⟨rfl, h⟩))
    · exact .inr (.inr (.inl h))
theorem sLt_irr (a : ByteArray) : ¬ sLt a a := by unfold sLt; rw [bl_irr]; simp
theorem sLt_tr {a b c : ByteArray} (h : sLt a b) (h2 : sLt b c) : sLt a c := bl_tr _ _ _ h h2
theorem sLt_tot (a b : ByteArray) : sLt a b ∨ a = b ∨ sLt b a := by
  rcases bl_tot a.toList b.toList with h | h | h
  · exact .inl h
  · exact .inr (.inl (by have := bytes_beq a b; rw [h] at this; simpa using this.symm))
  · exact .inr (.inr h)
theorem binStr_lss (a b : ByteArray) : binStr .lss a b = some (.bool (decide (sLt a b))) := by
  simp only [binStr]; congr 2
  by_cases h : sLt a b
  · rw [decide_eq_true h]; exact h
  · rw [decide_eq_false h]; simpa [sLt] using h
theorem binStr_gtr (a b : ByteArray) : binStr .gtr a b = some (.bool (decide (sLt b a))) := by
  simp only [binStr, bytes_beq]
  congr 2
  rcases sLt_tot a b with h | h | h
  · have : ¬ sLt b a := fun h2 => sLt_irr _ (sLt_tr h h2)
    have e : Op.bytesLess a.toList b.toList = true := h
    rw [e]; simp [this]
  · subst h
    simp [sLt_irr]
  · have h3 : ¬ sLt a b := fun h2 => sLt_irr _ (sLt_tr h h2)
    have e : Op.bytesLess a.toList b.toList = false := by simpa [sLt] using h3
    have ne : ¬ a = b := fun e => by subst e; exact sLt_irr _ h
    rw [e]; simp [h, ne]
/-- A comparison. -/
structure CmpOk {β : Type} (c : β → β → Int) : Prop where
  anti : ∀ x y, c y x = - c x y
  tr : ∀ x y z, c x y ≤ 0 → c y z ≤ 0 → c x z ≤ 0
theorem CmpOk.lt_le {β : Type} {c : β → β → Int} (h : CmpOk c) {x y z : β} (h1 : c x y < 0) (h2 : c y z ≤ 0) : c x z < 0 := by
  have h3 := h.tr x y z (by omega) h2
  by_cases he : c x z = 0
  · have h4 := h.anti x z
    have h5 := h.tr y z x h2 (by omega)
    have h6 := h.anti x y
    omega
  · omega
theorem CmpOk.le_lt {β : Type} {c : β → β → Int} (h : CmpOk c) {x y z : β} (h1 : c x y ≤ 0) (h2 : c y z < 0) : c x z < 0 := by
  have h3 := h.tr x y z h1 (by omega)
  by_cases he : c x z = 0
  · have h4 := h.anti x z
    have h5 := h.tr z x y (by omega) h1
    have h6 := h.anti y z
    omega
  · omega
def or0 {β : Type} (c d : β → β → Int) (x y : β) : Int := if c x y = 0 then d x y else c x y
theorem or0_ok {β : Type} {c d : β → β → Int} (hc : CmpOk c) (hd : CmpOk d) : CmpOk (or0 c d) := by
  refine ⟨fun x y => ?_, fun x y z h1 h2 => ?_⟩
  · unfold or0
    have := hc.anti x y
    have := hd.anti x y
    split <;> split <;> omega
  · unfold or0 at h1 h2 ⊢
    have a1 : c x y ≤ 0 := by split at h1 <;> omega
    have a2 : c y z ≤ 0 := by split at h2 <;> omega
    have a3 := hc.tr x y z a1 a2
    by_cases he : c x z = 0
    · rw [if_pos he]
      have e1 : c x y = 0 := by
        by_cases h : c x y < 0
        · have := hc.lt_le h a2; omega
        · omega
      have e2 : c y z = 0 := by
        by_cases h : c y z < 0
        · have := hc.le_lt a1 h; omega
        · omega
      rw [if_pos e1] at h1
      rw [if_pos e2] at h2
      exact hd.tr x y z h1 h2
    · rw [if_neg he]; exact a3
def iCmp (a b : Int) : Int := if a < b then -1 else if b < a then 1 else 0
def sCmp (a b : ByteArray) : Int := if sLt a b then -1 else if sLt b a then 1 else 0
theorem iCmp_ok : CmpOk iCmp := ⟨fun x y => by unfold iCmp; split <;> split <;> (try split) <;> omega, fun x y z h1 h2 => by
  unfold iCmp at *
  have a1 : x ≤ y := by split at h1 <;> (try split at h1) <;> omega
  have a2 : y ≤ z := by split at h2 <;> (try split at h2) <;> omega
  split <;> (try split) <;> omega⟩
theorem sCmp_ok : CmpOk sCmp := ⟨fun x y => by
    unfold sCmp
    by_cases h1 : sLt x y <;> by_cases h2 : sLt y x <;> simp [h1, h2]
    exact sLt_irr _ (sLt_tr h1 h2), fun x y z h1 h2 => by
  unfold sCmp at *
  have le : ∀ a b : ByteArray, (if sLt a b then (-1 : Int) else if sLt b a then 1 else 0) ≤ 0 → sLt a b ∨ a = b := fun a b h => by
    rcases sLt_tot a b with h3 | h3 | h3
    · exact .inl h3
    · exact .inr h3
    · by_cases h4 : sLt a b
      · exact .inl h4
      · rw [if_neg h4, if_pos h3] at h; omega
  have : sLt x z ∨ x = z := by
    rcases le _ _ h1 with a1 | rfl
    · rcases le _ _ h2 with a2 | rfl
      · exact .inl (sLt_tr a1 a2)
      · exact .inl a1
    · exact le _ _ h2
  rcases this with h | rfl
  · rw [if_pos h]; omega
  · rw [if_neg (sLt_irr _), if_neg (sLt_irr _)]; omega⟩
theorem CmpOk.on {β γ : Type} {c : β → β → Int} (h : CmpOk c) (f : γ → β) : CmpOk (fun x y => c (f x) (f y)) := ⟨fun x y => h.anti _ _, fun x y z => h.tr _ _ _⟩
def vCmp (v w : Val) : Int := or0 (fun a b => iCmp a.k b.k) (or0 (fun a b => iCmp a.n b.n) (fun a b => sCmp a.s b.s)) v w
theorem vCmp_ok : CmpOk vCmp := or0_ok (iCmp_ok.on Val.k) (or0_ok (iCmp_ok.on Val.n) (sCmp_ok.on Val.s))
def rowCmp (r s : List Val) : Int := or0 (fun a b : List Val => vCmp a[0]! b[0]!) (fun a b => vCmp a[1]! b[1]!) r s
theorem rowCmp_ok : CmpOk rowCmp := or0_ok (vCmp_ok.on fun r : List Val => r[0]!) (vCmp_ok.on fun r : List Val => r[1]!)
/-- The first that is not nought. -/
def or0L : List Int → Int
  | [] => 0
  | x :: l => if x = 0 then or0L l else x
theorem iCmp_bd (a b : Int) : -1 ≤ iCmp a b ∧ iCmp a b ≤ 1 := by unfold iCmp; split <;> (try split) <;> omega
theorem sCmp_bd (a b : ByteArray) : -1 ≤ sCmp a b ∧ sCmp a b ≤ 1 := by unfold sCmp; split <;> (try split) <;> omega
theorem vCmp_bd (v w : Val) : -1 ≤ vCmp v w ∧ vCmp v w ≤ 1 := by
  have h1 := iCmp_bd v.k w.k
  have h2 := iCmp_bd v.n w.n
  have h3 := sCmp_bd v.s w.s
  simp only [vCmp, or0]
  split <;> (try split) <;> omega
theorem iCmp_two {a b : Int} (h : ¬ a = b) : IntKind.i64.wrap (IntKind.i64.wrap (2 * (if b < a then 1 else 0)) - 1) = iCmp a b ∧ ¬ iCmp a b = 0 := by
  unfold iCmp
  by_cases h1 : b < a
  · simp only [if_pos h1, if_neg (show ¬ a < b by omega)]; decide
  · simp only [if_neg h1, if_pos (show a < b by omega)]; decide
theorem vCmp_k {v w : Val} (h : ¬ v.k = w.k) : vCmp v w = iCmp v.k w.k := by
  simp only [vCmp, or0]
  exact if_neg (iCmp_two h).2
theorem iCmp_self {a b : Int} (h : a = b) : iCmp a b = 0 := by subst h; simp [iCmp]
theorem vCmp_n {v w : Val} (h0 : v.k = w.k) (h : ¬ v.n = w.n) : vCmp v w = iCmp v.n w.n := by
  simp only [vCmp, or0]
  rw [if_pos (iCmp_self h0)]
  exact if_neg (iCmp_two h).2
theorem vCmp_s {v w : Val} (h0 : v.k = w.k) (h : v.n = w.n) : vCmp v w = sCmp v.s w.s := by
  simp only [vCmp, or0]
  rw [if_pos (iCmp_self h0), if_pos (iCmp_self h)]
/-- Rows in order; of those alike, the earlier first. -/
def zlt (x y : Nat × List Val) : Prop := rowCmp x.2 y.2 < 0 ∨ rowCmp x.2 y.2 = 0 ∧ x.1 < y.1
theorem zlt_tr (x y z : Nat × List Val) (h : zlt x y) (h2 : zlt y z) : zlt x z := by
  rcases h with h | ⟨h, h'⟩
  · rcases h2 with h2 | ⟨h2, _⟩
    · exact .inl (rowCmp_ok.lt_le h (by omega))
    · exact .inl (rowCmp_ok.lt_le h (by omega))
  · rcases h2 with h2 | ⟨h2, h2'⟩
    · exact .inl (rowCmp_ok.le_lt (by omega) h2)
    · have h3 := rowCmp_ok.tr x.2 y.2 z.2 (by omega) (by omega)
      have h4 := rowCmp_ok.tr z.2 y.2 x.2 (by rw [rowCmp_ok.anti]; omega) (by rw [rowCmp_ok.anti]; omega)
      rw [rowCmp_ok.anti x.2 z.2] at h4
      exact .inr ⟨by omega, by omega⟩
theorem zlt_irr (x : Nat × List Val) : ¬ zlt x x := by
  have := rowCmp_ok.anti x.2 x.2
  unfold zlt
  omega
