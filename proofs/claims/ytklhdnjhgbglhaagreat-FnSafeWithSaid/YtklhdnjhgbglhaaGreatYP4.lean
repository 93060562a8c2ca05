/- WALK, or plain laws for it: theorem f<k> says what function k returns. Conditions: none but those ahead of each theorem. -/
import Derived.Test.YtklhdnjhgbglhaaGreatYP1
import Derived.Test.YtklhdnjhgbglhaaGreatYH7
import Derived.Test.YtklhdnjhgbglhaaGreatYLib6
import Derived.Test.YtklhdnjhgbglhaaGreatYH5
set_option linter.unusedVariables false
set_option linter.unusedSimpArgs false
section
/- What a step does to a house's transactions: plain laws. -/
open Go Go.Vm Go.Proofs
theorem note_mem {key : Int} : ∀ {xs : List Int} {d : Bool} {x : Int}, x ∈ noteL key xs d → x ∈ xs ∨ (x = key ∧ d = false)
  | [], d, x, h => by
    cases d
    · exact .inr ⟨by simpa [noteL] using h, rfl⟩
    · simp [noteL] at h
  | y :: xs, d, x, h => by
    rw [noteL, List.mem_append, List.mem_append] at h
    rcases h with h | h | h
    · split at h
      · rename_i h1; exact .inr ⟨by simpa using h, h1.2⟩
      · simp at h
    · split at h
      · exact .inl (by simp at h; simp [h])
      · simp at h
    · rcases note_mem h with h | ⟨h, hd⟩
      · exact .inl (by simp [h])
      · exact .inr ⟨h, by simp at hd; exact hd.1⟩
theorem note_ord {key : Int} : ∀ {xs : List Int} {d : Bool}, xs.Pairwise (· < ·) → (noteL key xs d).Pairwise (· < ·)
  | [], d, _ => by cases d <;> simp [noteL]
  | y :: xs, d, h => by
    obtain ⟨h1, h2⟩ := List.pairwise_cons.1 h
    have ih := note_ord (key := key) (d := d || decide (key ≤ y)) h2
    have hm : ∀ x ∈ noteL key xs (d || decide (key ≤ y)), y < x := fun x hx => by
      rcases note_mem hx with hx | ⟨rfl, hd⟩
      · exact h1 x hx
      · simp only [Bool.or_eq_false_iff, decide_eq_false_iff_not] at hd
        have := hd.2; omega
    have hB : ((if y ≠ key then [y] else []) ++ noteL key xs (d || decide (key ≤ y))).Pairwise (· < ·) := by
      split
      · exact List.pairwise_cons.2 ⟨hm, ih⟩
      · exact ih
    rw [noteL]
    split
    · rename_i hk
      refine List.pairwise_cons.2 ⟨fun x hx => ?_, hB⟩
      have hx : x ∈ (if y ≠ key then [y] else []) ++ noteL key xs (d || decide (key ≤ y)) := hx
      rcases List.mem_append.1 hx with hx | hx
      · split at hx
        · rename_i hne
          obtain rfl : x = y := by simpa using hx
          have := hk.1; omega
        · simp at hx
      · have := hm x hx; have := hk.1; omega
    · exact hB
theorem ri_of {xs : List Int} (h : riP 0 4 xs) : (∀ x ∈ xs, 0 ≤ x ∧ x ≤ 4) ∧ xs.Pairwise (· < ·) := by
  refine ⟨fun x hx => ?_, List.pairwise_iff_getElem.2 fun i j hi hj hij => ?_⟩
  · obtain ⟨i, hi, rfl⟩ := List.mem_iff_getElem.1 hx
    have := (h i hi).1
    rwa [getElem!_pos xs i hi] at this
  · have key : ∀ d, i + d + 1 < xs.length → xs[i]! < xs[i + d + 1]! := by
      intro d
      induction d with
      | zero =>
        intro hd
        have h5 := (h (i + 1) hd).2
        rw [show i + 1 - 1 = i by omega] at h5
        show xs[i]! < xs[i + 1]!
        omega
      | succ d ih =>
        intro hd
        have h5 := (h (i + d + 1 + 1) hd).2
        rw [show i + d + 1 + 1 - 1 = i + d + 1 by omega] at h5
        have := ih (by omega)
        show xs[i]! < xs[i + d + 1 + 1]!
        omega
    have := key (j - i - 1) (by omega)
    rwa [show i + (j - i - 1) + 1 = j by omega, getElem!_pos xs i hi, getElem!_pos xs j hj] at this
theorem ri_at {xs : List Int} (h : (∀ x ∈ xs, 0 ≤ x ∧ x ≤ 4) ∧ xs.Pairwise (· < ·)) : riP 0 4 xs := by
  intro i hi
  refine ⟨h.1 _ (by rw [getElem!_pos xs i hi]; exact List.getElem_mem _), fun ⟨h0, h2⟩ => ?_⟩
  have h3 := List.pairwise_iff_getElem.1 h.2 (i - 1) i (by omega) hi (by omega)
  rw [← getElem!_pos xs i hi, ← getElem!_pos xs (i - 1) (by omega)] at h3
  omega
theorem note_ri {xs : List Int} {key : Int} (h : riP 0 4 xs) (hk : 0 ≤ key ∧ key ≤ 4) : riP 0 4 (noteL key xs false) := by
  obtain ⟨h1, h2⟩ := ri_of h
  refine ri_at ⟨fun x hx => ?_, note_ord h2⟩
  rcases note_mem hx with hx | ⟨rfl, _⟩
  · exact h1 x hx
  · exact hk
def oneW (w : Wr) : Prop := (0 ≤ w.key ∧ w.key ≤ 4) ∧ rowP w.row ∧ ¬ (w.gone = true ∧ 0 < w.row.length)
theorem put_mem {w : Wr} : ∀ {xs : List Wr} {d : Bool} {x : Wr}, x ∈ putL w xs d → x ∈ xs ∨ (x = w ∧ d = false)
  | [], d, x, h => by
    cases d
    · exact .inr ⟨by simpa [putL] using h, rfl⟩
    · simp [putL] at h
  | y :: xs, d, x, h => by
    rw [putL, List.mem_append, List.mem_append] at h
    rcases h with h | h | h
    · split at h
      · rename_i h1; exact .inr ⟨by simpa using h, h1.2⟩
      · simp at h
    · split at h
      · exact .inl (by simp at h; simp [h])
      · simp at h
    · rcases put_mem h with h | ⟨h, hd⟩
      · exact .inl (by simp [h])
      · exact .inr ⟨h, by simp at hd; exact hd.1⟩
theorem put_ord {w : Wr} : ∀ {xs : List Wr} {d : Bool}, xs.Pairwise (fun a b => a.key < b.key) → (putL w xs d).Pairwise (fun a b => a.key < b.key)
  | [], d, _ => by cases d <;> simp [putL]
  | y :: xs, d, h => by
    obtain ⟨h1, h2⟩ := List.pairwise_cons.1 h
    have ih := put_ord (w := w) (d := d || decide (w.key ≤ y.key)) h2
    have hm : ∀ x ∈ putL w xs (d || decide (w.key ≤ y.key)), y.key < x.key := fun x hx => by
      rcases put_mem hx with hx | ⟨rfl, hd⟩
      · exact h1 x hx
      · simp only [Bool.or_eq_false_iff, decide_eq_false_iff_not] at hd
        have := hd.2; omega
    have hB : ((if y.key ≠ w.key then [y] else []) ++ putL w xs (d || decide (w.key ≤ y.key))).Pairwise (fun a b => a.key < b.key) := by
      split
      · exact List.pairwise_cons.2 ⟨hm, ih⟩
      · exact ih
    rw [putL]
    split
    · rename_i hk
      refine List.pairwise_cons.2 ⟨fun x hx => ?_, hB⟩
      have hx : x ∈ (if y.key ≠ w.key then [y] else []) ++ putL w xs (d || decide (w.key ≤ y.key)) := hx
      rcases List.mem_append.1 hx with hx | hx
      · split at hx
        · rename_i hne
          obtain rfl : x = y := by simpa using hx
          have := hk.1; omega
        · simp at hx
      · have := hm x hx; have := hk.1; omega
    · exact hB
theorem wrs_of {ws : List Wr} (h : wrsP ws) : (∀ w ∈ ws, oneW w) ∧ ws.Pairwise (fun a b => a.key < b.key) := by
  refine ⟨fun x hx => ?_, List.pairwise_iff_getElem.2 fun i j hi hj hij => ?_⟩
  · obtain ⟨i, hi, rfl⟩ := List.mem_iff_getElem.1 hx
    have := h i hi
    rw [← getElem!_pos ws i hi]
    exact ⟨this.1, this.2.1, this.2.2.1⟩
  · have key : ∀ d, i + d + 1 < ws.length → ws[i]!.key < ws[i + d + 1]!.key := by
      intro d
      induction d with
      | zero =>
        intro hd
        have h5 := (h (i + 1) hd).2.2.2
        rw [show i + 1 - 1 = i by omega] at h5
        show ws[i]!.key < ws[i + 1]!.key
        omega
      | succ d ih =>
        intro hd
        have h5 := (h (i + d + 1 + 1) hd).2.2.2
        rw [show i + d + 1 + 1 - 1 = i + d + 1 by omega] at h5
        have := ih (by omega)
        show ws[i]!.key < ws[i + d + 1 + 1]!.key
        omega
    have := key (j - i - 1) (by omega)
    rwa [show i + (j - i - 1) + 1 = j by omega, getElem!_pos ws i hi, getElem!_pos ws j hj] at this
theorem wrs_at {ws : List Wr} (h : (∀ w ∈ ws, oneW w) ∧ ws.Pairwise (fun a b => a.key < b.key)) : wrsP ws := by
  intro i hi
  have h1 := h.1 ws[i]! (by rw [getElem!_pos ws i hi]; exact List.getElem_mem _)
  refine ⟨h1.1, h1.2.1, h1.2.2, fun ⟨h0, h2⟩ => ?_⟩
  have h3 := List.pairwise_iff_getElem.1 h.2 (i - 1) i (by omega) hi (by omega)
  rw [← getElem!_pos ws i hi, ← getElem!_pos ws (i - 1) (by omega)] at h3
  omega
theorem put_wrs {ws : List Wr} {w : Wr} (h : wrsP ws) (hw : oneW w) : wrsP (putL w ws false) := by
  obtain ⟨h1, h2⟩ := wrs_of h
  refine wrs_at ⟨fun x hx => ?_, put_ord h2⟩
  rcases put_mem hx with hx | ⟨rfl, _⟩
  · exact h1 x hx
  · exact hw
theorem txs_set {ts : List Tx} {ck ck' : Int} {who : Nat} {t : Tx} (hl : ts.length = 4) (hw : who < 4) (hall : ∀ i, i < 4 → txP ts[i]! ck) (hap : apP ts 4) (hck : ck ≤ ck') (ht : txP t ck') (hd : t.st = 2 → ck < t.fn) :
    (ts.set who t).length = 4 ∧ (∀ i, i < 4 → txP (ts.set who t)[i]! ck') ∧ apP (ts.set who t) 4 := by
  have hat : ∀ i, i < 4 → (ts.set who t)[i]! = if i = who then t else ts[i]! := fun i hi => by
    rw [getElem!_pos _ i (by simp; omega), List.getElem_set]
    by_cases h : who = i
    · rw [if_pos h, if_pos h.symm]
    · rw [if_neg h, if_neg (Ne.symm h), getElem!_pos ts i (by omega)]
  have mono : ∀ u : Tx, txP u ck → txP u ck' := fun u hu => by
    unfold txP txB at *
    rcases hu with h | ⟨h1, ⟨h2, h3⟩, ⟨h4, h5⟩, h6⟩ | ⟨h1, h2, ⟨h4, h5⟩, h6⟩
    · exact .inl h
    · exact .inr (.inl ⟨h1, ⟨h2, by omega⟩, ⟨h4, by omega⟩, h6⟩)
    · exact .inr (.inr ⟨h1, h2, ⟨h4, by omega⟩, h6⟩)
  have fin : ∀ u : Tx, txP u ck → u.st = 2 → u.fn ≤ ck := fun u hu h2 => by
    unfold txP at hu
    rcases hu with h | ⟨h1, ⟨_, h3⟩, _⟩ | ⟨h1, _⟩
    · omega
    · exact h3
    · omega
  refine ⟨by simpa using hl, fun i hi => ?_, fun i hi j hj => ?_⟩
  · rw [hat i hi]
    split
    · exact ht
    · exact mono _ (hall i hi)
  · rw [hat i hi, hat j (by omega)]
    intro ⟨a, b, c⟩
    by_cases h1 : i = who
    · rw [if_pos h1] at a c
      rw [if_neg (by omega)] at b c
      have := hd a
      have := fin _ (hall j (by omega)) b
      omega
    · rw [if_neg h1] at a c
      by_cases h2 : j = who
      · rw [if_pos h2] at b c
        have := hd b
        have := fin _ (hall i hi) a
        omega
      · rw [if_neg h2] at b c
        exact hap i hi j hj ⟨a, b, c⟩
theorem house_end {h : Hs} {who : Nat} (hp : houseP h) (hw : who < 4) (hs : h.tx[who]!.st = 1) (hc : h.ck + 1 ≤ 40) (hl : (wrtAll h.tx[who]!.ws (h.ck + 1) h.vs).length ≤ 60) :
    houseP ⟨wrtAll h.tx[who]!.ws (h.ck + 1) h.vs, h.ck + 1, h.tx.set who { h.tx[who]! with st := 2, fn := h.ck + 1 }⟩ := by
  obtain ⟨h1, h2, h3, h4, h5, h6⟩ := hp
  have hq := (verP_iff.1 h1).2
  have hold := turn_all hq h3
  have ht := h5 who hw
  have hb : h.tx[who]!.fn = 0 ∧ txB h.tx[who]! h.ck := by
    unfold txP at ht
    rcases ht with h | h | h
    · omega
    · omega
    · exact h.2
  obtain ⟨q1, q2⟩ := wrs_of hb.2.2.2
  obtain ⟨r1, r2⟩ := wrtAll_ok (t := h.ck + 1) (by omega) hc hq (fun v hv => by have := hold v hv; omega) (fun w _ v hv _ => by have := hold v hv; omega) (fun w hw => ⟨(q1 w hw).1, (q1 w hw).2.1⟩) q2
  obtain ⟨s1, s2, s3⟩ := txs_set (ck' := h.ck + 1) (t := { h.tx[who]! with st := 2, fn := h.ck + 1 }) h4 hw h5 h6 (by omega)
    (by
      obtain ⟨_, ⟨b1, b2⟩, b3⟩ := hb
      refine .inr (.inl ⟨rfl, ⟨?_, Int.le_refl _⟩, ⟨b1, ?_⟩, b3⟩)
      · show h.tx[who]!.bg + 1 ≤ h.ck + 1; omega
      · show h.tx[who]!.bg ≤ h.ck + 1; omega)
    (fun _ => by show h.ck < h.ck + 1; omega)
  exact ⟨verP_iff.2 ⟨hl, r1⟩, ⟨by show 0 ≤ h.ck + 1; omega, hc⟩, turnV_at (by omega) r2 5, s1, s2, s3⟩
theorem house_set {h : Hs} {who : Nat} {t : Tx} (hp : houseP h) (hw : who < 4) (ht : txP t h.ck) (hd : t.st ≠ 2) : houseP ⟨h.vs, h.ck, h.tx.set who t⟩ := by
  obtain ⟨h1, h2, h3, h4, h5, h6⟩ := hp
  obtain ⟨s1, s2, s3⟩ := txs_set (ck' := h.ck) (t := t) h4 hw h5 h6 (Int.le_refl _) ht (fun e => absurd e hd)
  exact ⟨h1, h2, h3, s1, s2, s3⟩
end
section
open Go Go.Vm Go.Proofs
set_option maxRecDepth 100000
set_option maxHeartbeats 8000000
set_option maxHeartbeats 8000000
def zT : AV := .agg [.int .i64 0, .int .i64 0, .int .i64 0, .fro none true [], .fro none true []]
theorem f94 (n : Int) : Fx 94 [.int .i64 n] (.agg [.own 4 [], .int .i64 0, .own 5 [zT, zT, zT, zT]]) := by
  refine fn_of ⟨true, [], []⟩ Tryz.func94 (by kernel_rfl) rfl (by kernel_rfl) (by kernel_rfl) (Nat.le_of_ble_eq_true rfl) rfl fun Q hQ => ?_
  simp only [vmA, Nat.reduceEqDiff, reduceIte, Nat.reduceAdd, Nat.reduceBEq, reduceCtorEq, Nat.reduceLT, Int.reduceLE, Int.reduceLT, Int.reduceEq, Nat.reduceMul, Nat.reduceLeDiff, Option.bind_none]
  (refine hQ _ ?_; simp only [vmA, Nat.reduceEqDiff, reduceIte, Nat.reduceAdd, Nat.reduceBEq, reduceCtorEq, Nat.reduceLT, Int.reduceLE, Int.reduceLT, Int.reduceEq, Nat.reduceMul, Nat.reduceLeDiff, Tryz.f94, retG, resL, St.closeVs, St.closeV, Option.bind_none])
  rfl
def hF (h : Hs) : AV := .agg [.own 4 (h.vs.map gA), .int .i64 h.ck, .own 5 (h.tx.map xA)]
def zTx : Tx := ⟨0, 0, 0, [], []⟩
def newH : Hs := ⟨[], 0, [zTx, zTx, zTx, zTx]⟩
theorem f43F (n : Int) : FxR 94 [.int .i64 n] fun r l => r = hF newH ∧ l = .und := (f94 n).wkR fun r l ⟨h1, h2⟩ => by subst h1 h2; exact ⟨rfl, rfl⟩
theorem f70F (h : Hs) (h1 : h.vs.length ≤ 1048576) (h2 : ∀ v ∈ h.vs, v.row.length ≤ 1048576) (h3 : h.tx.length ≤ 1048576) (h4 : ∀ t ∈ h.tx, smX t) (h5 : 0 < h.tx.length) : FxR 92 [hA h] fun r l => r = hF h ∧ l = .und := by
  have h := f92 h h1 h2 h3 h4 h5
  refine FxR.mono (R := _) ⟨h.1, DoesR.froI h.2⟩ ?_
  rintro r l ⟨r0, ⟨rfl, rfl⟩, rfl⟩
  refine ⟨?_, rfl⟩
  simp only [hO2, hF, froI, froV, froIn, List.map_cons, List.map_nil, map_froize_gO, map_froize_xO]
theorem newH_ok : houseP newH := by
  refine ⟨⟨by decide, by intro i hi; exact absurd hi (Nat.not_lt_zero _)⟩, ⟨by decide, by decide⟩, by decide, rfl, fun i hi => ?_, fun i hi j hj => ?_⟩
  · have : newH.tx[i]! = zTx := by
      match i, hi with
      | 0, _ => rfl
      | 1, _ => rfl
      | 2, _ => rfl
      | 3, _ => rfl
    rw [this]
    exact .inl ⟨rfl, rfl, rfl, rfl, rfl⟩
  · have : newH.tx[i]! = zTx := by
      match i, hi with
      | 0, _ => rfl
      | 1, _ => rfl
      | 2, _ => rfl
      | 3, _ => rfl
    rw [this]
    intro ⟨a, _⟩
    exact absurd a (by decide)
end
section
open Go Go.Vm Go.Proofs
set_option maxRecDepth 100000
set_option maxHeartbeats 8000000
set_option maxHeartbeats 16000000
structure Mv where
  kind : Int
  who : Int
  key : Int
  row : List Val
def mA (m : Mv) : AV := .agg [.int .i64 m.kind, .int .i64 m.who, .int .i64 m.key, .fro none false (m.row.map vA)]
theorem okH_smX {h : Hs} (hp : houseP h) : ∀ t ∈ h.tx, smX t := by
  intro t ht
  obtain ⟨i, hi, rfl⟩ := List.mem_iff_getElem.1 ht
  have h4 := hp.2.2.2.1
  have hx := hp.2.2.2.2.1 i (by omega)
  rw [getElem!_pos h.tx i hi] at hx
  have sm : ∀ k, txB h.tx[i] k → smX h.tx[i] := fun k ⟨_, h1, h2⟩ => by
    obtain ⟨q1, q2⟩ := ri_of h1
    obtain ⟨w1, w2⟩ := wrs_of h2
    refine ⟨?_, ?_, fun w hw => by have := (w1 w hw).2.1.1; omega⟩
    · rcases Nat.lt_or_ge h.tx[i].rd.length 6 with g | g
      · omega
      · exfalso
        have key : ∀ n : Nat, n < h.tx[i].rd.length → (n : Int) ≤ h.tx[i].rd[n]! := by
          intro n
          induction n with
          | zero => intro hn; have := (q1 _ (List.getElem_mem hn)).1; rw [getElem!_pos h.tx[i].rd 0 hn]; exact this
          | succ n ih =>
            intro hn
            have := List.pairwise_iff_getElem.1 q2 n (n + 1) (by omega) hn (by omega)
            have h5 := ih (by omega)
            rw [getElem!_pos h.tx[i].rd n (by omega)] at h5
            rw [getElem!_pos h.tx[i].rd (n + 1) hn]; omega
        have h5 := key 5 (by omega)
        rw [getElem!_pos h.tx[i].rd 5 (by omega)] at h5
        have := q1 _ (List.getElem_mem (show 5 < h.tx[i].rd.length by omega))
        omega
    · rcases Nat.lt_or_ge h.tx[i].ws.length 6 with g | g
      · omega
      · exfalso
        have h5 := wrsP_key h2 5 (by omega)
        rw [getElem!_pos h.tx[i].ws 5 (by omega)] at h5
        have := (w1 _ (List.getElem_mem (show 5 < h.tx[i].ws.length by omega))).1
        omega
  rcases hx with ⟨_, _, _, a, b⟩ | ⟨_, _, g⟩ | ⟨_, _, g⟩
  · exact ⟨by omega, by omega, fun w hw => by rw [List.eq_nil_of_length_eq_zero b] at hw; simp at hw⟩
  · exact sm _ g
  · exact sm _ g
end
section
/- A house that is ok has rows and texts of bounded length: plain laws. -/
open Go Go.Vm Go.Proofs
theorem okV_P {v : Val} (h : valP v) : okV v := by
  unfold okV
  rcases h with ⟨_, _, e⟩ | ⟨_, e, _⟩ | ⟨_, _, e, _⟩ | ⟨_, e, _⟩
  · rw [e]; exact Nat.zero_le _
  · rw [e]; exact Nat.zero_le _
  · omega
  · rw [e]; exact Nat.zero_le _
theorem okR_P {r : List Val} (h : rowP r) : okR r := ⟨by have := h.1; omega, fun v hv => okV_P (h.2 v hv)⟩
theorem okX_P {t : Tx} {k : Int} (h : txP t k) (hs : smX t) : okX t := by
  refine ⟨by have := hs.1; omega, by have := hs.2.1; omega, fun w hw => ?_⟩
  have key : txB t k → okW w := fun ⟨_, _, h2⟩ => by
    have := ((wrs_of h2).1 w hw).2.1
    exact okR_P this
  rcases h with ⟨_, _, _, _, b⟩ | ⟨_, _, g⟩ | ⟨_, _, g⟩
  · rw [List.eq_nil_of_length_eq_zero b] at hw; simp at hw
  · exact key g
  · exact key g
theorem okH_P {h : Hs} (hp : houseP h) : okH h := by
  have hs := okH_smX hp
  obtain ⟨h1, h2, h3, h4, h5, h6⟩ := hp
  have hq := verP_iff.1 h1
  refine ⟨by omega, fun v hv => okR_P (hq.2.1 v hv).2.2.2, fun v hv => by have := (hq.2.1 v hv).2.2.2.1; omega, by omega, fun t ht => ?_⟩
  obtain ⟨i, hi, rfl⟩ := List.mem_iff_getElem.1 ht
  have hx := h5 i (by omega)
  rw [getElem!_pos h.tx i hi] at hx
  exact okX_P hx (hs _ (List.getElem_mem hi))
end
