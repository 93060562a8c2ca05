/- WALK, or plain laws for it: theorem f<k> says what function k returns. Conditions: none but those ahead of each theorem. -/
import Derived.Test.YtklhdnjhgbglhaaGreatYN5
import Derived.Test.YtklhdnjhgbglhaaGreatYP4
set_option linter.unusedVariables false
set_option linter.unusedSimpArgs false
section
/- The plain law of versions and of the writes at a time. -/
open Go Go.Vm Go.Proofs
def killV (ks : List Int) (t : Int) (v : Ver) : Ver := if v.died = 0 ∧ v.key ∈ ks then { v with died := t } else v
def newsV (ws : List Wr) (t : Int) : List Ver := (ws.filter fun w => !w.gone).map fun w => ⟨w.key, t, 0, w.row⟩
def outV (vs : List Ver) (ws : List Wr) (t : Int) : List Ver := vs.map (killV (ws.map Wr.key) t) ++ newsV ws t
structure GoodW (ws : List Wr) : Prop where
  ord : ws.Pairwise fun a b => a.key < b.key
  one : ∀ w ∈ ws, (0 ≤ w.key ∧ w.key ≤ 4) ∧ rowP w.row ∧ okR w.row
theorem outV_one {T t : Int} {vs : List Ver} {ws : List Wr} (hg : Good T vs) (hw : GoodW ws) (ht : T < t) (h1 : 1 ≤ t) : ∀ v ∈ outV vs ws t, GoodV t v := by
  intro v hv
  rcases List.mem_append.1 hv with h | h
  · obtain ⟨u, hu, rfl⟩ := List.mem_map.1 h
    have g := hg.one u hu
    obtain ⟨g1, g2, g3, g4, g5⟩ := g
    unfold killV
    split
    · exact ⟨g1, ⟨g2.1, by dsimp only; omega⟩, .inr ⟨by dsimp only; omega, by dsimp only; omega⟩, g4, g5⟩
    · exact ⟨g1, ⟨g2.1, by omega⟩, by omega, g4, g5⟩
  · obtain ⟨w, hw', rfl⟩ := List.mem_map.1 h
    have := hw.one w (List.mem_filter.1 hw').1
    exact ⟨this.1, ⟨h1, Int.le_refl _⟩, .inl rfl, this.2.1, this.2.2⟩
theorem outV_cmp {T t : Int} {vs : List Ver} {ws : List Wr} (hg : Good T vs) (hw : GoodW ws) (ht : T < t) : (outV vs ws t).Pairwise fun a b => vlt a b ∨ vlt b a := by
  refine List.pairwise_append.2 ⟨?_, ?_, ?_⟩
  · refine List.pairwise_map.2 (hg.ord.imp fun {a b} h => .inl ?_)
    unfold vlt killV at *
    split <;> split <;> (try dsimp only) <;> omega
  · refine List.pairwise_map.2 ((hw.ord.sublist (List.filter_sublist)).imp fun {a b} h => .inl (.inl h))
  · intro a ha b hb
    obtain ⟨u, hu, rfl⟩ := List.mem_map.1 ha
    obtain ⟨w, hw', rfl⟩ := List.mem_map.1 hb
    have g := hg.one u hu
    obtain ⟨g1, g2, g3, g4, g5⟩ := g
    have hm : w.key ∈ ws.map Wr.key := List.mem_map.2 ⟨w, (List.mem_filter.1 hw').1, rfl⟩
    unfold vlt killV
    by_cases hk : u.key = w.key
    · by_cases hd : u.died = 0
      · rw [if_pos ⟨hd, by rw [hk]; exact hm⟩]; dsimp only; omega
      · rw [if_neg (fun h => hd h.1)]; dsimp only; omega
    · split <;> (try dsimp only) <;> omega
def lexV (a b : Ver) : Prop := a.key < b.key ∨ (a.key = b.key ∧ a.born ≤ b.born)
theorem sortV_good {t : Int} {rs out : List Ver} (hp : rs.Perm out) (hc : out.Pairwise fun a b => vlt a b ∨ vlt b a) (ho : ∀ v ∈ out, GoodV t v) (ht : t ≤ 40) (hl : out.length ≤ 60) (hs : rs.Pairwise lexV) : Good t rs := by
  refine ⟨ht, fun v hv => ho v (hp.mem_iff.1 hv), ?_, by rw [hp.length_eq]; exact hl⟩
  have h1 : rs.Pairwise fun a b => vlt a b ∨ vlt b a := (hp.pairwise_iff fun {x y} h => h.symm).2 hc
  refine (h1.and hs).imp fun {a b} h => ?_
  obtain ⟨h2, h3⟩ := h
  unfold vlt lexV at *
  omega
theorem sortV_ord {rs out : List Ver} (hp : rs.Perm out) (hc : out.Pairwise fun a b => vlt a b ∨ vlt b a) (hs : rs.Pairwise lexV) : rs.Pairwise vlt := by
  have h1 : rs.Pairwise fun a b => vlt a b ∨ vlt b a := (hp.pairwise_iff fun {x y} h => h.symm).2 hc
  refine (h1.and hs).imp fun {a b} h => ?_
  obtain ⟨h2, h3⟩ := h
  unfold vlt lexV at *
  omega
theorem ordV_uniq {rs qs : List Ver} (hp : rs.Perm qs) (h1 : rs.Pairwise vlt) (h2 : qs.Pairwise vlt) : rs = qs := by
  refine List.Perm.eq_of_pairwise (le := vlt) (fun a b _ _ h2 h3 => ?_) h1 h2 hp
  unfold vlt at *
  omega
instance (a b : Ver) : Decidable (lexV a b) := by unfold lexV; exact inferInstance
def wrV (vs : List Ver) (ws : List Wr) (t : Int) : List Ver := (outV vs ws t).mergeSort fun a b => decide (lexV a b)
theorem wrV_perm (vs : List Ver) (ws : List Wr) (t : Int) : (wrV vs ws t).Perm (outV vs ws t) := List.mergeSort_perm _ _
theorem wrV_lex (vs : List Ver) (ws : List Wr) (t : Int) : (wrV vs ws t).Pairwise lexV := by
  have h := List.pairwise_mergeSort (le := fun a b => decide (lexV a b)) (fun a b c h1 h2 => by
    simp only [decide_eq_true_eq] at *
    unfold lexV at *
    omega) (fun a b => by
    simp only [Bool.or_eq_true, decide_eq_true_eq]
    unfold lexV
    omega) (outV vs ws t)
  exact h.imp fun h => of_decide_eq_true h
theorem outV_length (vs : List Ver) (ws : List Wr) (t : Int) : (outV vs ws t).length ≤ vs.length + ws.length := by
  unfold outV newsV
  rw [List.length_append, List.length_map, List.length_map]
  have := List.length_filter_le (fun w : Wr => !w.gone) ws
  omega
theorem wrV_ord {T t : Int} {vs : List Ver} {ws : List Wr} (hg : Good T vs) (hw : GoodW ws) (ht : T < t) : (wrV vs ws t).Pairwise vlt :=
  sortV_ord (wrV_perm vs ws t) (outV_cmp hg hw ht) (wrV_lex vs ws t)
theorem wrV_uniq {T t : Int} {vs rs : List Ver} {ws : List Wr} (hg : Good T vs) (hw : GoodW ws) (ht : T < t) (hp : rs.Perm (outV vs ws t)) (hs : rs.Pairwise lexV) : rs = wrV vs ws t :=
  ordV_uniq (hp.trans (wrV_perm vs ws t).symm) (sortV_ord hp (outV_cmp hg hw ht) hs) (wrV_ord hg hw ht)
theorem wrsP_good {ws : List Wr} (h : wrsP ws) (ho : ∀ w ∈ ws, okW w) : GoodW ws := by
  have step : ∀ i, i + 1 < ws.length → ws[i]!.key < ws[i + 1]!.key := fun i hi => by
    have := (h (i + 1) hi).2.2.2
    rw [show i + 1 - 1 = i by omega] at this
    omega
  have all : ∀ j i, i < j → j < ws.length → ws[i]!.key < ws[j]!.key := by
    intro j
    induction j with
    | zero => intro i h; omega
    | succ j ih =>
      intro i h1 h2
      have := step j h2
      by_cases hij : i = j
      · rw [hij]; exact this
      · have := ih i (by omega) (by omega); omega
  refine ⟨List.pairwise_iff_getElem.2 fun i j hi hj hij => ?_, fun w hw => ?_⟩
  · have := all j i hij hj
    rwa [getElem!_pos ws i hi, getElem!_pos ws j hj] at this
  · obtain ⟨i, hi, rfl⟩ := List.mem_iff_getElem.1 hw
    have := h i hi
    unfold wOkAt at this
    rw [getElem!_pos ws i hi] at this
    exact ⟨this.1, this.2.1, ho _ hw⟩
def kill1 (k t : Int) (v : Ver) : Ver := if v.key = k ∧ v.died = 0 then { v with died := t } else v
def inV (L : List Ver) (k t : Int) (i : Nat) : List Ver := (L.take i).map (kill1 k t) ++ L.drop i
theorem inV_length (L : List Ver) (k t : Int) (i : Nat) : (inV L k t i).length = L.length := by
  unfold inV
  rw [List.length_append, List.length_map, ← List.length_append, List.take_append_drop]
theorem inV_zero (L : List Ver) (k t : Int) : inV L k t 0 = L := by simp [inV]
theorem inV_all (L : List Ver) (k t : Int) : inV L k t L.length = L.map (kill1 k t) := by simp [inV]
theorem inV_at (L : List Ver) (k t : Int) {i : Nat} (hi : i < L.length) : (inV L k t i)[i]! = L[i]! := by
  have hl : ((L.take i).map (kill1 k t)).length = i := by simp; omega
  rw [getElem!_pos _ i (by rw [inV_length]; exact hi), getElem!_pos L i hi]
  unfold inV
  rw [List.getElem_append_right (by omega)]
  simp only [hl, Nat.sub_self, List.getElem_drop, Nat.add_zero]
theorem inV_set (L : List Ver) (k t : Int) {i : Nat} (hi : i < L.length) : inV L k t (i + 1) = (inV L k t i).set i (kill1 k t L[i]!) := by
  have hl : ((L.take i).map (kill1 k t)).length = i := by simp; omega
  unfold inV
  rw [List.set_append_right _ _ (by omega), hl, Nat.sub_self, List.drop_eq_getElem_cons hi, List.set_cons_zero, take_next L i hi, List.map_append, List.append_assoc]
  rfl
theorem inV_skip (L : List Ver) (k t : Int) {i : Nat} (hi : i < L.length) (h : ¬ (L[i]!.key = k ∧ L[i]!.died = 0)) : inV L k t (i + 1) = inV L k t i := by
  rw [inV_set L k t hi]
  unfold kill1
  rw [if_neg h]
  have h2 := inV_at L k t hi
  have hl : i < (inV L k t i).length := by rw [inV_length]; exact hi
  rw [getElem!_pos _ i hl] at h2
  rw [← h2, List.set_getElem_self]
theorem inV_kill (L : List Ver) (k t : Int) {i : Nat} (hi : i < L.length) (h : L[i]!.key = k ∧ L[i]!.died = 0) : inV L k t (i + 1) = (inV L k t i).set i { (inV L k t i)[i]! with died := t } := by
  rw [inV_set L k t hi, inV_at L k t hi]
  unfold kill1
  rw [if_pos h]
theorem kill_kill (ks : List Int) (k t : Int) (v : Ver) : kill1 k t (killV ks t v) = killV (ks ++ [k]) t v := by
  unfold kill1 killV
  by_cases h0 : v.died = 0
  · by_cases hm : v.key ∈ ks
    · have h1 : v.died = 0 ∧ v.key ∈ ks := ⟨h0, hm⟩
      have h2 : v.died = 0 ∧ v.key ∈ ks ++ [k] := ⟨h0, by simp [hm]⟩
      simp only [if_pos h1, if_pos h2]
      split <;> rfl
    · have h1 : ¬ (v.died = 0 ∧ v.key ∈ ks) := fun h => hm h.2
      simp only [if_neg h1]
      by_cases hk : v.key = k
      · rw [if_pos ⟨hk, h0⟩, if_pos ⟨h0, by simp [hk]⟩]
      · rw [if_neg (fun h => hk h.1), if_neg (fun h => by simp [hm, hk] at h)]
  · simp only [h0, false_and, and_false, if_false]
theorem outV_step {vs : List Ver} {ws : List Wr} {t : Int} (ho : ws.Pairwise fun a b => a.key < b.key) {j : Nat} (hj : j < ws.length) :
    (outV vs (ws.take j) t).map (kill1 ws[j]!.key t) ++ (if ws[j]!.gone = true then [] else [⟨ws[j]!.key, t, 0, ws[j]!.row⟩]) = outV vs (ws.take (j + 1)) t := by
  rw [take_next ws j hj]
  have hk : ∀ x ∈ ws.take j, x.key ≠ ws[j]!.key := fun x hx => by
    obtain ⟨p, hp, rfl⟩ := List.mem_take_iff_getElem.1 hx
    have := List.pairwise_iff_getElem.1 ho p j (by omega) hj (by omega)
    rw [getElem!_pos ws j hj]
    omega
  generalize ws[j]! = w at hk ⊢
  unfold outV newsV
  rw [List.map_append, List.map_append, List.filter_append, List.map_append, List.map_map, List.append_assoc]
  congr 1
  · exact List.map_congr_left fun v hv => kill_kill _ _ _ _
  · congr 1
    · rw [List.map_map]
      refine List.map_congr_left fun x hx => ?_
      have := hk x (List.mem_filter.1 hx).1
      show kill1 w.key t ⟨x.key, t, 0, x.row⟩ = _
      unfold kill1
      rw [if_neg (fun h => this h.1)]
    · cases hg : w.gone <;> simp [hg]
theorem outV_zero (vs : List Ver) (t : Int) : outV vs [] t = vs := by
  unfold outV newsV killV
  simp
def zTV (v : Ver) : Nat × Ver := (0, v)
theorem zT_map (vs : List Ver) : (vs.map zTV).map gT = vs.map gO := by
  rw [List.map_map]; rfl
def cmpV (x y : Nat × Ver) : Int := or0L [iCmp x.2.key y.2.key, iCmp x.2.born y.2.born]
def ltV (x y : Nat × Ver) : Prop := x.2.key < y.2.key ∨ x.2.key = y.2.key ∧ x.2.born < y.2.born
theorem ltV_tr (x y z : Nat × Ver) (h : ltV x y) (h2 : ltV y z) : ltV x z := by
  unfold ltV at *; omega
theorem cmpV_lt (x y : Nat × Ver) : cmpV x y < 0 ↔ ltV x y := by
  unfold cmpV ltV
  rw [or0L2]
  unfold iCmp
  repeat' split
  all_goals omega
theorem decV {vs : List Ver} (hc : vs.Pairwise fun a b => vlt a b ∨ vlt b a) : DecA cmpV ltV 0 (vs.map zTV).length (vs.map zTV) := by
  intro p q _ hpq hq
  rw [List.length_map] at hq
  have := List.pairwise_iff_getElem.1 hc p q (by omega) hq hpq
  rw [getElem!_pos _ p (by simp; omega), getElem!_pos _ q (by simp; omega), List.getElem_map, List.getElem_map]
  rw [cmpV_lt]
  refine ⟨id, fun h => ?_⟩
  unfold ltV zTV at *
  unfold vlt at this
  dsimp only at *
  omega
theorem sortedV {vs : List Ver} {ys : List (Nat × Ver)} (hp : ys.Perm (vs.map zTV)) (ha : Asc ltV 0 (vs.map zTV).length ys) : (ys.map Prod.snd).Perm vs ∧ (ys.map Prod.snd).Pairwise lexV ∧ ys.map gT = (ys.map Prod.snd).map gO := by
  refine ⟨?_, ?_, by rw [List.map_map]; rfl⟩
  · have := hp.map Prod.snd
    rw [List.map_map] at this
    have h2 : (Prod.snd ∘ zTV : Ver → Ver) = id := rfl
    rwa [h2, List.map_id] at this
  · refine List.pairwise_iff_getElem.2 fun i j hi hj hij => ?_
    rw [List.length_map] at hi hj
    have h1 := hp.length_eq
    have := ha i j (Nat.zero_le _) hij (by omega)
    rw [getElem!_pos ys i hi, getElem!_pos ys j hj] at this
    rw [List.getElem_map, List.getElem_map]
    unfold ltV at this
    unfold lexV
    omega
end
section
/- The list after an end: plain laws. -/
open Go Go.Vm Go.Proofs
theorem verP_good {vs : List Ver} {T : Int} (h : verP vs) (hT : turnV vs 5 ≤ T) (h40 : T ≤ 40) : Good T vs := by
  obtain ⟨h1, h2⟩ := verP_iff.1 h
  have ht := turn_all h2 hT
  refine ⟨h40, fun v hv => ?_, h2.2.imp fun {a b} e => e, h1⟩
  have o := h2.1 v hv
  have t := ht v hv
  refine ⟨o.1, ⟨o.2.1.1, t.1⟩, ?_, o.2.2.2, okR_P o.2.2.2⟩
  rcases o.2.2.1 with e | e
  · exact .inl e
  · exact .inr ⟨by omega, t.2⟩
theorem good_verP {vs : List Ver} {T : Int} (h : Good T vs) (h1 : 0 ≤ T) : verP vs ∧ turnV vs 5 ≤ T := by
  have h2 := h.top
  refine ⟨verP_iff.2 ⟨h.len, fun v hv => ?_, h.ord.imp fun {a b} e => e⟩, turnV_at h1 (fun v hv => ?_) 5⟩
  · have g := h.one v hv
    refine ⟨g.key, ⟨g.born.1, by have := g.born; omega⟩, ?_, g.row⟩
    rcases g.died with e | e
    · exact .inl e
    · exact .inr ⟨by omega, by omega⟩
  · have g := h.one v hv
    refine ⟨g.born.2, ?_⟩
    rcases g.died with e | e <;> omega
theorem wrtL_length (w : Wr) (t : Int) : ∀ (vs : List Ver) (d : Bool), (wrtL w t vs d).length = vs.length + (if d = true then 0 else 1)
  | [], d => by cases d <;> simp [wrtL]
  | v :: vs, d => by
    rw [wrtL, List.length_append, List.length_cons, wrtL_length w t vs, List.length_cons]
    cases d
    · by_cases hk : w.key < v.key <;> simp [hk] <;> omega
    · simp
theorem wrtAll_length (t : Int) : ∀ (ws : List Wr) (vs : List Ver), (wrtAll ws t vs).length = vs.length + (ws.filter fun w => !w.gone).length
  | [], vs => rfl
  | w :: ws, vs => by
    have e : wrtAll (w :: ws) t vs = wrtAll ws t (wrtL w t vs w.gone) := rfl
    rw [e, wrtAll_length t ws, wrtL_length]
    cases hg : w.gone
    · simp only [List.filter_cons, hg, Bool.not_false, if_true, if_false, Bool.false_eq_true, List.length_cons]; omega
    · simp only [List.filter_cons, hg, Bool.not_true, if_true, if_false, Bool.false_eq_true, Nat.add_zero]
theorem wrV_len (vs : List Ver) (ws : List Wr) (t : Int) : (wrV vs ws t).length = (wrtAll ws t vs).length := by
  rw [(wrV_perm vs ws t).length_eq, wrtAll_length]
  unfold outV newsV
  rw [List.length_append, List.length_map, List.length_map]
theorem house_list {vs : List Ver} {h : Hs} (hp : houseP h) (hv : verP vs) (ht : turnV vs 5 ≤ h.ck) : houseP ⟨vs, h.ck, h.tx⟩ := ⟨hv, hp.2.1, ht, hp.2.2.2⟩
theorem house_endV {h : Hs} {who : Nat} (hp : houseP h) (hw : who < 4) (hs : h.tx[who]!.st = 1) (hc : h.ck + 1 ≤ 40) (hl : (wrV h.vs h.tx[who]!.ws (h.ck + 1)).length ≤ 60) :
    houseP ⟨wrV h.vs h.tx[who]!.ws (h.ck + 1), h.ck + 1, h.tx.set who { h.tx[who]! with st := 2, fn := h.ck + 1 }⟩ := by
  have h1 := house_end hp hw hs hc (by rw [← wrV_len]; exact hl)
  have hx := hp.2.2.2.2.1 who hw
  have hm : h.tx[who]! ∈ h.tx := (by rw [getElem!_pos h.tx who (by rw [hp.2.2.2.1]; exact hw)]; exact List.getElem_mem _)
  have hsm := okH_smX hp _ hm
  have hok := okX_P hx hsm
  have hb : wrsP h.tx[who]!.ws := by
    rcases hx with ⟨a, _⟩ | ⟨a, _⟩ | ⟨_, _, a⟩
    · omega
    · omega
    · exact a.2.2
  have hck := hp.2.1
  have g := verP_good hp.1 hp.2.2.1 hck.2
  have hgw := wrsP_good hb hok.2.2
  have g2 : Good (h.ck + 1) (wrV h.vs h.tx[who]!.ws (h.ck + 1)) := sortV_good (wrV_perm _ _ _) (outV_cmp g hgw (by omega)) (outV_one g hgw (by omega) (by omega)) hc (by rw [← (wrV_perm _ _ _).length_eq]; exact hl) (wrV_lex _ _ _)
  obtain ⟨v1, v2⟩ := good_verP g2 (by omega)
  exact house_list h1 v1 v2
end
