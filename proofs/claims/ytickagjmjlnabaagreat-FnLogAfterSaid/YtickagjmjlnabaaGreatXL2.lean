/- The plain law of a log: what was written up to a time stays. -/
import Derived.Test.YtickagjmjlnabaaGreatXL1
import Derived.Test.YtickagjmjlnabaaGreatXG8
open Go Go.Vm Go.Proofs
set_option linter.unusedVariables false
instance (a b : Ver) : Decidable (lexV a b) := by unfold lexV; exact inferInstance
/-- Versions after writes at a time. -/
def wrV (vs : List Ver) (ws : List Wr) (t : Int) : List Ver := (outV vs ws t).mergeSort fun a b => decide (lexV a b)
theorem wrV_perm (vs : List Ver) (ws : List Wr) (t : Int) : (wrV vs ws t).Perm (outV vs ws t) := List.mergeSort_perm _ _
theorem wrV_lex (vs : List Ver) (ws : List Wr) (t : Int) : (wrV vs ws t).Pairwise lexV := by
  have h := List.pairwise_mergeSort (le := fun a b => decide (lexV a b)) (fun a b c h1 h2 => by
    simp only [decide_eq_true_eq] at *
    unfold lexV at *
    omega) (fun a b => by
    simp only [Bool.or_eq_true, decide_eq_true_eq]
    unfold lexV
    omega) (outV vs ws t)
  exact h.imp fun h => of_decide_eq_true h
theorem outV_length (vs : List Ver) (ws : List Wr) (t : Int) : (outV vs ws t).length ≤ vs.length + ws.length := by
  unfold outV newsV
  rw [List.length_append, List.length_map, List.length_map]
  have := List.length_filter_le (fun w : Wr => !w.gone) ws
  omega
theorem wrV_length (vs : List Ver) (ws : List Wr) (t : Int) : (wrV vs ws t).length ≤ vs.length + ws.length := by
  rw [(wrV_perm vs ws t).length_eq]
  exact outV_length vs ws t
theorem wrV_good {T t : Int} {vs : List Ver} {ws : List Wr} (hg : Good T vs) (hw : GoodW ws) (ht : T < t) (h1 : 1 ≤ t) (h40 : t ≤ 40) (hl : vs.length + ws.length ≤ 60) : Good t (wrV vs ws t) :=
  sortV_good (wrV_perm vs ws t) (outV_cmp hg hw ht) (outV_one hg hw ht h1) h40 (Nat.le_trans (outV_length vs ws t) hl) (wrV_lex vs ws t)
/-- The order leaves no choice. -/
theorem wrV_uniq {T t : Int} {vs rs : List Ver} {ws : List Wr} (hg : Good T vs) (hw : GoodW ws) (ht : T < t) (h1 : 1 ≤ t) (h40 : t ≤ 40) (hl : vs.length + ws.length ≤ 60) (hp : rs.Perm (outV vs ws t)) (hs : rs.Pairwise lexV) : rs = wrV vs ws t := by
  have g1 := sortV_good hp (outV_cmp hg hw ht) (outV_one hg hw ht h1) h40 (Nat.le_trans (outV_length vs ws t) hl) hs
  have g2 := wrV_good hg hw ht h1 h40 hl
  refine List.Perm.eq_of_pairwise (le := vlt) (fun a b _ _ h2 h3 => ?_) g1.ord g2.ord (hp.trans (wrV_perm vs ws t).symm)
  unfold vlt at *
  omega
/-- A log, from a time on. -/
def okL (T : Int) : List En → Prop
  | [] => True
  | e :: es => T < e.time ∧ 1 ≤ e.time ∧ e.time ≤ 40 ∧ GoodW e.ws ∧ e.ws.length ≤ 5 ∧ okL e.time es
def lastT (T : Int) : List En → Int
  | [] => T
  | e :: es => lastT e.time es
def runV (vs : List Ver) : List En → List Ver
  | [] => vs
  | e :: es => runV (wrV vs e.ws e.time) es
theorem runV_append (vs : List Ver) (us bs : List En) : runV vs (us ++ bs) = runV (runV vs us) bs := by
  induction us generalizing vs with
  | nil => rfl
  | cons e us ih => exact ih _
theorem lastT_append (T : Int) (us bs : List En) : lastT T (us ++ bs) = lastT (lastT T us) bs := by
  induction us generalizing T with
  | nil => rfl
  | cons e us ih => exact ih _
theorem okL_append {T : Int} {us bs : List En} (h : okL T (us ++ bs)) : okL T us ∧ okL (lastT T us) bs := by
  induction us generalizing T with
  | nil => exact ⟨trivial, h⟩
  | cons e us ih =>
    obtain ⟨h1, h2, h3, h4, h5, h6⟩ := h
    exact ⟨⟨h1, h2, h3, h4, h5, (ih h6).1⟩, (ih h6).2⟩
theorem okL_last {T : Int} {es : List En} (h : okL T es) : T ≤ lastT T es ∧ ∀ e ∈ es, e.time ≤ lastT T es := by
  induction es generalizing T with
  | nil => exact ⟨Int.le_refl _, fun e he => by simp at he⟩
  | cons e es ih =>
    obtain ⟨h1, h2, h3, h4, h5, h6⟩ := h
    obtain ⟨i1, i2⟩ := ih h6
    refine ⟨by have : lastT T (e :: es) = lastT e.time es := rfl
               omega, fun x hx => ?_⟩
    rcases List.mem_cons.1 hx with rfl | hx
    · exact i1
    · exact i2 x hx
theorem run_good {T : Int} {vs : List Ver} {es : List En} (hg : Good T vs) (ho : okL T es) (hl : vs.length + 5 * es.length ≤ 60) : Good (lastT T es) (runV vs es) ∧ (runV vs es).length ≤ vs.length + 5 * es.length ∧ ∀ s n, s ≤ T → rowsT (runV vs es) s n = rowsT vs s n := by
  induction es generalizing T vs with
  | nil => exact ⟨hg, by simp [runV], fun s n _ => rfl⟩
  | cons e es ih =>
    obtain ⟨h1, h2, h3, h4, h5, h6⟩ := ho
    rw [List.length_cons] at hl
    have hgw := wrV_good hg h4 h1 h2 h3 (by omega)
    have hlw := wrV_length vs e.ws e.time
    obtain ⟨i1, i2, i3⟩ := ih hgw h6 (by omega)
    refine ⟨i1, ?_, fun s n hs => ?_⟩
    · rw [List.length_cons]
      show (runV (wrV vs e.ws e.time) es).length ≤ _
      omega
    · show rowsT (runV (wrV vs e.ws e.time) es) s n = _
      rw [i3 s n (by omega)]
      exact rows_same hg hgw (wrV_perm _ _ _) h1 (by omega) n
theorem good_nil : Good 0 [] := ⟨by decide, fun v hv => by simp at hv, .nil, by simp⟩
/-- MAIN: what was written up to an entry stays us it was. -/
theorem run_take {es : List En} (ho : okL 0 es) (hl : es.length ≤ 12) {m k : Nat} (hm : m ≤ es.length) (hk : k < m) : rowsT (runV [] es) es[k]!.time 5 = rowsT (runV [] (es.take m)) es[k]!.time 5 := by
  have hs : es.take m ++ es.drop m = es := List.take_append_drop m es
  have ho' : okL 0 (es.take m ++ es.drop m) := by rw [hs]; exact ho
  obtain ⟨h1, h2⟩ := okL_append ho'
  have hlt : (es.take m).length = m := by simp; omega
  have hld : (es.drop m).length = es.length - m := by simp
  have g := run_good good_nil h1 (by simp; omega)
  have hk2 : es[k]! ∈ es.take m := by
    rw [getElem!_pos es k (by omega), List.mem_take_iff_getElem]
    exact ⟨k, by omega, rfl⟩
  have g2 := run_good g.1 h2 (by have := g.2.1; simp only [List.length_nil] at this; omega)
  have g3 := g2.2.2 es[k]!.time 5 ((okL_last h1).2 _ hk2)
  rw [← runV_append, hs] at g3
  exact g3
theorem okE_row {e : En} (h : okE e) {w : Wr} (hw : w ∈ e.ws) : okR w.row := h.2 w hw
theorem wrsP_good {ws : List Wr} (h : wrsP ws) (ho : ∀ w ∈ ws, okW w) : GoodW ws := by
  have step : ∀ i, i + 1 < ws.length → ws[i]!.key < ws[i + 1]!.key := fun i hi => by
    have := (h (i + 1) hi).2.2.2
    rw [show i + 1 - 1 = i by omega] at this
    omega
  have all : ∀ j i, i < j → j < ws.length → ws[i]!.key < ws[j]!.key := by
    intro j
    induction j with
    | zero => intro i h; omega
    | succ j ih =>
      intro i h1 h2
      have := step j h2
      by_cases hij : i = j
      · rw [hij]; exact this
      · have := ih i (by omega) (by omega); omega
  refine ⟨List.pairwise_iff_getElem.2 fun i j hi hj hij => ?_, fun w hw => ?_⟩
  · have := all j i hij hj
    rwa [getElem!_pos ws i hi, getElem!_pos ws j hj] at this
  · obtain ⟨i, hi, rfl⟩ := List.mem_iff_getElem.1 hw
    have := h i hi
    unfold wOkAt at this
    rw [getElem!_pos ws i hi] at this
    exact ⟨this.1, this.2.1, ho _ hw⟩
theorem logP_okL {es : List En} (h : logP es) (ho : ∀ e ∈ es, okE e) : okL 0 es := by
  have key : ∀ m i, es.length - i = m → okL (if i = 0 then 0 else es[i - 1]!.time) (es.drop i) := by
    intro m
    induction m with
    | zero =>
      intro i hi
      rw [List.drop_of_length_le (by omega)]
      trivial
    | succ m ih =>
      intro i hi
      have hlt : i < es.length := by omega
      have hd : es.drop i = es[i]! :: es.drop (i + 1) := by rw [List.drop_eq_getElem_cons hlt, getElem!_pos es i hlt]
      have h1 := ih (i + 1) (by omega)
      rw [if_neg (by omega), show i + 1 - 1 = i by omega] at h1
      have h2 := h.2 i hlt
      have h3 := h2.2.1
      have hm : es[i]! ∈ es := by rw [getElem!_pos es i hlt]; exact List.getElem_mem _
      rw [hd]
      refine ⟨?_, h2.1.1, h2.1.2, wrsP_good h3 (ho _ hm).2, wrsP_len h3, h1⟩
      have h4 := h2.2.2
      have h5 := h2.1.1
      split <;> omega
  have := key es.length 0 (by omega)
  simpa using this
/-- Majorities meet. -/
theorem riP_lt {lo hi : Int} {th : List Int} (h : riP lo hi th) : th.Pairwise fun a b => a < b := by
  have step : ∀ i, i + 1 < th.length → th[i]! < th[i + 1]! := fun i hi => by
    have := (h (i + 1) hi).2
    rw [show i + 1 - 1 = i by omega] at this
    omega
  have all : ∀ j i, i < j → j < th.length → th[i]! < th[j]! := by
    intro j
    induction j with
    | zero => intro i h; omega
    | succ j ih =>
      intro i h1 h2
      have := step j h2
      by_cases hij : i = j
      · rw [hij]; exact this
      · have := ih i (by omega) (by omega); omega
  refine List.pairwise_iff_getElem.2 fun i j hi hj hij => ?_
  have := all j i hij hj
  rwa [getElem!_pos th i hi, getElem!_pos th j hj] at this
theorem count_idx {ps : List Int} {th : List Int} (p : Int → Bool) (hn : th.Nodup) (h0 : ∀ t ∈ th, 0 ≤ t) (hp : ∀ t ∈ th, p ps[t.toNat]! = true) : ∀ n, n ≤ ps.length → th.countP (fun t => decide (t < (n : Int))) ≤ (ps.take n).countP p
  | 0, _ => by
    have : th.countP (fun t => decide (t < ((0 : Nat) : Int))) = 0 := List.countP_eq_zero.2 fun t ht => by
      have := h0 t ht
      simp only [decide_eq_true_eq]; omega
    omega
  | n + 1, hl => by
    have ih := count_idx p hn h0 hp n (by omega)
    have e1 : th.countP (fun t => decide (t < ((n + 1 : Nat) : Int))) ≤ th.countP (fun t => decide (t < (n : Int))) + th.count (n : Int) := by
      clear ih hp hn h0
      induction th with
      | nil => simp
      | cons a th ih2 =>
        rw [List.countP_cons, List.countP_cons, List.count_cons]
        have hc1 : (if decide (a < ((n + 1 : Nat) : Int)) = true then 1 else 0) ≤ (if decide (a < (n : Int)) = true then 1 else 0) + (if (a == (n : Int)) = true then 1 else 0) := by
          by_cases h2 : a < (n : Int)
          · rw [if_pos (decide_eq_true h2)]; split <;> omega
          · by_cases h3 : a = (n : Int)
            · rw [if_pos (show (a == (n : Int)) = true by simp [h3])]; split <;> omega
            · have h1 : ¬ a < ((n + 1 : Nat) : Int) := by omega
              rw [if_neg (by simpa using h1)]; omega
        omega
    have e2 := List.nodup_iff_count.1 hn (n : Int)
    rw [List.take_succ_eq_append_getElem (by omega), List.countP_append]
    by_cases hm : (n : Int) ∈ th
    · have := hp _ hm
      rw [Int.toNat_natCast, getElem!_pos ps n (by omega)] at this
      rw [List.countP_singleton, if_pos this]
      omega
    · have : th.count (n : Int) = 0 := List.count_eq_zero.2 hm
      omega
theorem bestL_max (ps : List Int) : ∀ (th : List Int) (b : Int), ps[b.toNat]! ≤ ps[(bestL ps th b).toNat]! ∧ ∀ t ∈ th, ps[t.toNat]! ≤ ps[(bestL ps th b).toNat]!
  | [], b => ⟨Int.le_refl _, fun t ht => by simp at ht⟩
  | n :: r, b => by
    obtain ⟨h1, h2⟩ := bestL_max ps r (if ps[b.toNat]! < ps[n.toNat]! then n else b)
    rw [bestL]
    split at h1 <;> rename_i hc
    · rw [if_pos hc] at h2 ⊢
      refine ⟨by omega, fun t ht => ?_⟩
      rcases List.mem_cons.1 ht with rfl | ht
      · exact h1
      · exact h2 t ht
    · rw [if_neg hc] at h2 ⊢
      refine ⟨h1, fun t ht => ?_⟩
      rcases List.mem_cons.1 ht with rfl | ht
      · omega
      · exact h2 t ht
theorem settled_le {es : List En} {ps th : List Int} (h : toP es ps th) : (bestUp ps (es.length + 1) : Int) ≤ ps[(tkV es ps th).toNat]! := by
  have hT := h
  rw [tkV, if_pos h]
  obtain ⟨h1, h2, h3⟩ := h
  have hs := (settled_two h1).1
  have hb := bestL_max ps th th[0]!
  generalize bestUp ps (es.length + 1) = m at hs ⊢
  apply Decidable.byContradiction
  intro hn
  have hr := riP_all h2
  have hc := count_idx (ps := ps) (th := th) (fun x => decide (x < (m : Int))) ((riP_lt h2).imp fun h => by omega) (fun t ht => (hr t ht).1) (fun t ht => by
    have := hb.2 t ht
    simp only [decide_eq_true_eq]
    omega) ps.length (Nat.le_refl _)
  rw [List.take_length] at hc
  have hcl : th.countP (fun t => decide (t < (ps.length : Int))) = th.length := List.countP_eq_length.2 fun t ht => by
    have := (hr t ht).2
    simp only [decide_eq_true_eq]; omega
  have hsum : cntG ps m + ps.countP (fun x => decide (x < (m : Int))) = ps.length := by
    unfold cntG
    clear hs hb hn hr hc hcl h1 h2 h3 hT
    induction ps with
    | nil => rfl
    | cons a ps ih =>
      rw [List.countP_cons, List.countP_cons, List.length_cons]
      by_cases h : (m : Int) ≤ a
      · have h2 : ¬ a < (m : Int) := by omega
        simp only [h, h2, decide_true, decide_false, if_true]; simp; omega
      · have h2 : a < (m : Int) := by omega
        simp only [h, h2, decide_true, decide_false, if_true]; simp; omega
  omega
