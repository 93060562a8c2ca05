/- WALK, or plain laws for it: theorem f<k> says what function k returns. Conditions: none but those ahead of each theorem. -/
import Derived.Test.YtklhdnjhgbglhaaGreatYH5
import Derived.Test.YtklhdnjhgbglhaaGreatYH6
import Derived.Test.YtklhdnjhgbglhaaGreatYLib6
set_option linter.unusedVariables false
set_option linter.unusedSimpArgs false
section
open Go Go.Vm Go.Proofs
set_option maxRecDepth 100000
set_option maxHeartbeats 8000000
set_option maxHeartbeats 8000000
end
section
open Go Go.Vm Go.Proofs
set_option maxRecDepth 100000
set_option maxHeartbeats 8000000
set_option maxHeartbeats 8000000
structure inH (h : Hs) : Prop where
  n : h.vs.length ≤ 9223372036854775807
  row : ∀ v ∈ h.vs, okR v.row
  m : h.tx.length ≤ 9223372036854775807
  tx : ∀ t ∈ h.tx, okX t
structure smH (h : Hs) : Prop where
  n : h.vs.length ≤ 1048576
  row : ∀ v ∈ h.vs, smV v
  m : h.tx.length ≤ 1048576
  tx : ∀ t ∈ h.tx, smX t
def hO (h : Hs) : AV := .agg [.own 4 (h.vs.map gO), .int .i64 h.ck, .own 5 (h.tx.map xO)]
end
section
/- Dangers: plain laws. -/
open Go Go.Vm Go.Proofs
def hasW (ws : List Wr) (k : Int) : Prop := ∃ w ∈ ws, w.key = k
instance (ws : List Wr) (k : Int) : Decidable (hasW ws k) := by unfold hasW; exact inferInstance
def blN (a b : Tx) (n : Nat) : Prop := ∃ k, k < n ∧ ((k : Int) ∈ a.rd ∧ hasW b.ws k ∧ a.bg < b.fn)
instance (a b : Tx) (n : Nat) : Decidable (blN a b n) := by unfold blN; exact inferInstance
def blP (a b : Tx) : Prop := blN a b 5
instance (a b : Tx) : Decidable (blP a b) := by unfold blP; exact inferInstance
def besP (a b : Tx) : Prop := a.bg < b.fn ∧ b.bg < a.fn
instance (a b : Tx) : Decidable (besP a b) := by unfold besP; exact inferInstance
def edgeP (ts : List Tx) (a b : Nat) : Prop := a ≠ b ∧ ts[a]!.st = 2 ∧ ts[b]!.st = 2 ∧ blP ts[a]! ts[b]!
instance (ts : List Tx) (a b : Nat) : Decidable (edgeP ts a b) := by unfold edgeP; exact inferInstance
def danP (ts : List Tx) (a b c : Nat) : Prop := edgeP ts a b ∧ edgeP ts b c ∧ besP ts[a]! ts[b]! ∧ besP ts[b]! ts[c]! ∧ ts[c]!.fn < ts[b]!.fn ∧ ts[c]!.fn ≤ ts[a]!.fn
instance (ts : List Tx) (a b c : Nat) : Decidable (danP ts a b c) := by unfold danP; exact inferInstance
def danN (ts : List Tx) (n : Nat) : Prop := danP ts (n / 16) (n / 4 % 4) (n % 4)
instance (ts : List Tx) (n : Nat) : Decidable (danN ts n) := by unfold danN; exact inferInstance
def threeN (n : Nat) : List Int := [((n / 16 : Nat) : Int), ((n / 4 % 4 : Nat) : Int), ((n % 4 : Nat) : Int)]
def danL (ts : List Tx) : List Int := match (List.range 64).find? (fun n => decide (danN ts n)) with
  | some n => threeN n
  | none => []
theorem danL_none {ts : List Tx} (h : ∀ n, n < 64 → ¬ danN ts n) : danL ts = [] := by
  have : (List.range 64).find? (fun n => decide (danN ts n)) = none := List.find?_eq_none.2 fun n hn => by
    have := h n (by simpa using hn)
    simpa using this
  unfold danL
  rw [this]
theorem danL_some {ts : List Tx} {n : Nat} (hn : n < 64) (hd : danN ts n) (h : ∀ m, m < n → ¬ danN ts m) : danL ts = threeN n := by
  have : (List.range 64).find? (fun n => decide (danN ts n)) = some n := by
    have h2 := find_some (fun n => decide (danN ts n)) (List.range 64) n (by simpa using hn) (fun j hj => by
      rw [getElem!_pos (List.range 64) j (by simp; omega), List.getElem_range]
      simpa using h j hj) (by
      rw [getElem!_pos (List.range 64) n (by simp; omega), List.getElem_range]
      simpa using hd)
    rw [h2, getElem!_pos (List.range 64) n (by simp; omega), List.getElem_range]
  unfold danL
  rw [this]
theorem danL_cases (ts : List Tx) : danL ts = [] ∨ ∃ n, n < 64 ∧ danL ts = threeN n := by
  unfold danL
  split
  · rename_i n h
    exact .inr ⟨n, by simpa using List.mem_of_find?_eq_some h, rfl⟩
  · exact .inl rfl
theorem danN_abc {ts : List Tx} {a b c : Nat} (hb : b < 4) (hc : c < 4) : danN ts (16 * a + 4 * b + c) ↔ danP ts a b c := by
  unfold danN
  rw [show (16 * a + 4 * b + c) / 16 = a by omega, show (16 * a + 4 * b + c) / 4 % 4 = b by omega, show (16 * a + 4 * b + c) % 4 = c by omega]
theorem three_abc {a b c : Nat} (hb : b < 4) (hc : c < 4) : threeN (16 * a + 4 * b + c) = [(a : Int), (b : Int), (c : Int)] := by
  unfold threeN
  rw [show (16 * a + 4 * b + c) / 16 = a by omega, show (16 * a + 4 * b + c) / 4 % 4 = b by omega, show (16 * a + 4 * b + c) % 4 = c by omega]
end
section
/- Who is in the way: plain laws. -/
open Go Go.Vm Go.Proofs
def outN (L : List Int) (who : Int) (n : Nat) : List Int := ((List.range n).map fun n : Nat => (n : Int)).filter fun k => decide (k ∈ L ∧ k ≠ who)
def outS (L : List Int) (who : Int) : List Int := outN L who 4
theorem outN_yes {L : List Int} {who : Int} {n : Nat} (h1 : (n : Int) ∈ L) (h2 : (n : Int) ≠ who) : outN L who (n + 1) = outN L who n ++ [(n : Int)] := by
  unfold outN
  rw [List.range_succ, List.map_append, List.filter_append]
  simp [h1, h2]
theorem outN_no {L : List Int} {who : Int} {n : Nat} (h : ¬ ((n : Int) ∈ L ∧ (n : Int) ≠ who)) : outN L who (n + 1) = outN L who n := by
  unfold outN
  rw [List.range_succ, List.map_append, List.filter_append]
  have : List.filter (fun k => decide (k ∈ L ∧ k ≠ who)) (List.map (fun n : Nat => (n : Int)) [n]) = [] := by
    simp only [List.map_cons, List.map_nil, List.filter_cons, List.filter_nil]
    rw [if_neg (by simpa using h)]
  rw [this, List.append_nil]
theorem outN_length (L : List Int) (who : Int) (n : Nat) : (outN L who n).length ≤ n := by
  unfold outN
  refine Nat.le_trans (List.length_filter_le _ _) ?_
  simp
theorem outS_ord (L : List Int) (who : Int) : (outS L who).Pairwise (· < ·) := by
  unfold outS outN
  refine List.Pairwise.sublist List.filter_sublist ?_
  decide
theorem outS_mem {L : List Int} {who x : Int} : x ∈ outS L who ↔ (0 ≤ x ∧ x ≤ 3) ∧ x ∈ L ∧ x ≠ who := by
  unfold outS outN
  rw [List.mem_filter, decide_eq_true_eq]
  have : x ∈ List.map (fun n : Nat => (n : Int)) (List.range 4) ↔ 0 ≤ x ∧ x ≤ 3 := by
    simp only [List.mem_map, List.mem_range]
    constructor
    · rintro ⟨a, h, rfl⟩; omega
    · intro h; exact ⟨x.toNat, by omega, by omega⟩
  rw [this]
theorem ord_uniq : ∀ {a b : List Int}, a.Pairwise (· < ·) → b.Pairwise (· < ·) → (∀ x, x ∈ a ↔ x ∈ b) → a = b
  | [], [], _, _, _ => rfl
  | [], y :: ys, _, _, h => by have := (h y).2 (by simp); simp at this
  | x :: xs, [], _, _, h => by have := (h x).1 (by simp); simp at this
  | x :: xs, y :: ys, ha, hb, h => by
    rw [List.pairwise_cons] at ha hb
    have h1 := (h x).1 (by simp)
    have h2 := (h y).2 (by simp)
    have hxy : x = y := by
      rcases List.mem_cons.1 h1 with e | e
      · exact e
      · rcases List.mem_cons.1 h2 with e2 | e2
        · exact e2.symm
        · have := ha.1 _ e2
          have := hb.1 _ e
          omega
    subst hxy
    rw [ord_uniq ha.2 hb.2 fun z => ?_]
    constructor
    · intro hz
      rcases List.mem_cons.1 ((h z).1 (by simp [hz])) with e | e
      · have := ha.1 _ hz; omega
      · exact e
    · intro hz
      rcases List.mem_cons.1 ((h z).2 (by simp [hz])) with e | e
      · have := hb.1 _ hz; omega
      · exact e
theorem three_in {n : Nat} (hn : n < 64) : ∀ x ∈ threeN n, 0 ≤ x ∧ x ≤ 3 := by
  intro x hx
  unfold threeN at hx
  simp only [List.mem_cons, List.not_mem_nil, or_false] at hx
  omega
theorem dan_in (ts : List Tx) : ∀ x ∈ danL ts, 0 ≤ x ∧ x ≤ 3 := by
  intro x hx
  rcases danL_cases ts with h | ⟨n, hn, h⟩
  · rw [h] at hx; simp at hx
  · rw [h] at hx; exact three_in hn x hx
theorem dan_len (ts : List Tx) : (danL ts).length ≤ 3 := by
  rcases danL_cases ts with h | ⟨n, hn, h⟩ <;> rw [h]
  · exact Nat.zero_le _
  · exact Nat.le_refl _
theorem safe_out {L ys : List Int} {who : Int} (hL : ∀ x ∈ L, 0 ≤ x ∧ x ≤ 3) (ho : ys.Pairwise (· < ·)) (hm : ∀ x, x ∈ ys ↔ x ∈ L ∧ x ≠ who) : ys = outS L who :=
  ord_uniq ho (outS_ord L who) fun x => by
    rw [hm, outS_mem]
    exact ⟨fun h => ⟨hL x h.1, h⟩, fun h => h.2⟩
end
