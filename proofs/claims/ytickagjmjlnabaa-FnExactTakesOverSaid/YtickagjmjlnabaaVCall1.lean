/- What is lent to a call, and what comes back. -/
import Derived.Test.YtickagjmjlnabaaVOps12
namespace Go.Vm

section
variable {C : Cfg} {n : Nat} {w0 : World} {F0 S0 F : Nat → Prop} {G : Value → AV → Prop} {μ : Nat → Option Nat} {fp : Nat → List Nat} {L : List Nat} {σ σ' : St} {a : Act} {w w' : World} {o : Oper}

theorem Rel.frz_fp (h : Rel n w0 F0 S0 G F μ fp L σ a w) {e : Nat} (hl : (σ.en e).live = true) (hf : (σ.en e).frz = true) : fp e = [] := by
  rcases (h.ent e hl).2 with ⟨_, _, e1⟩ | ⟨b, cur, et, fr, us, f1, _, _, _, _, e5⟩
  · exact e1
  · rcases e5 with ⟨_, e5, _⟩ | ⟨e5, _⟩
    · exact e5
    · rw [hf] at e5; cases e5

/-- What a list of entries lends. -/
def lentF (F : Nat → Prop) (σ : St) (fp : Nat → List Nat) (es : List Nat) : Nat → Prop := fun b => F b ∨ ∃ e ∈ es, (σ.en e).live = true ∧ b ∈ fp e

theorem lent_of (h : Rel n w0 F0 S0 G F μ fp L σ a w) {e : Nat} (hl : (σ.en e).live = true) {vs : List Value} {xs : List AV} (hr : RepL (fun b => F b ∨ b ∈ fp e) w vs xs []) : RepL (lentF F σ fp (if (σ.en e).frz then [] else [e])) w vs xs [] := by
  refine hr.mono (fun b hb => ?_) (fun _ _ => rfl)
  rcases hb with hb | hb
  · exact .inl hb
  · cases hf : (σ.en e).frz
    · exact .inr ⟨e, by simp, hl, hb⟩
    · rw [h.frz_fp hl hf] at hb; cases hb

theorem lendLeaf_ok (h : Rel n w0 F0 S0 G F μ fp L σ a w) {v : Value} {x y : AV} (hx : SLeaf F w σ.en μ fp v x) (hy : lendLeaf σ x = some y) : RepL (lentF F σ fp (lentOf σ x)) w [v] [y] [] := by
  have plain : ∀ {z : AV} {es : List Nat}, RepL F w [v] [z] [] → RepL (lentF F σ fp es) w [v] [z] [] := fun hz => hz.mono (fun _ h => .inl h) (fun _ _ => rfl)
  unfold lendLeaf at hy
  split at hy
  · rename_i e g off len clip
    simp only [Option.bind_eq_bind, Option.bind_eq_some_iff] at hy
    obtain ⟨E, hE, _, hb, hy⟩ := hy
    cases hy
    obtain ⟨hl, hg, rfl⟩ := cur_some hE
    have hb := ensure_some hb
    obtain ⟨A, c, us, f, rfl, hlc, hcl, _, hul, hA, hu, hsub, hfz, hblk⟩ := h.hdRange hx hl hg hb
    refine lent_of h hl ?_
    have hlen : (((σ.en e).elems.drop off).take len).length = len := by simp; omega
    have hes := (h.ent e hl).1
    by_cases h0 : len = 0
    · subst h0
      simp only [List.take_zero, List.map_nil]
      exact .fro0 (fun hc => hcl hc) .nil
    · obtain ⟨b, cur, et, fr, hμ, rfl, hb1, hb2⟩ := hblk (by clear hblk; omega)
      have hent := (h.ent e hl).2
      have hF : F b ∨ b ∈ fp e := by
        rcases hent with ⟨e1, _⟩ | ⟨b', cur', et', fr', us', f1', e1, e2, e3, e4, e5⟩
        · rw [hμ] at e1; cases e1
        rw [hμ] at e1; cases e1
        rcases e5 with ⟨_, _, _, e6⟩ | ⟨_, _, e6⟩
        · exact .inl e6
        · exact .inr (by rw [e6]; simp)
      have hpos : 0 < us.length ∨ us.length = 0 := by omega
      have hr := hu.froized
      rw [← flat_froize] at hr
      refine .fro (sz := (σ.en e).sz) (us := us) (by rw [List.length_map, hlen]) hlc hcl hF (fun q hq => ?_) (fun z hz => ?_) (hr.mono (fun b hb => hb.imp id (fun hb => hsub.subset hb)) (fun _ _ => rfl)) .nil
      · obtain ⟨b2, o2, e1, e2⟩ := hA (by omega)
        cases e1
        exact e2 q hq
      · obtain ⟨z', hz', rfl⟩ := List.mem_map.1 hz
        rw [leaves_froize]; simpa using hes z' (List.mem_of_mem_drop (List.mem_of_mem_take hz'))
  · cases hy; exact plain hx
  · rename_i e wv oo clip l
    simp only [Option.bind_eq_bind, Option.bind_eq_some_iff] at hy
    obtain ⟨_, hv, hy⟩ := hy
    cases hy
    obtain ⟨hl, hw⟩ := ensure_some hv
    exact lent_of h hl (hx.2 hl hw).1
  · rename_i e g i j
    simp only [Option.bind_eq_bind, Option.bind_eq_some_iff] at hy
    obtain ⟨E, hE, z, hz, hy⟩ := hy
    cases hy
    obtain ⟨hl, hg, rfl⟩ := cur_some hE
    obtain ⟨b, cur, et, fr, us, f1, hμ, hb, hcell, hrep, hf, hfz⟩ := h.cells hl hz
    obtain ⟨b', hμ', hv⟩ := hx.2 hl hg
    rw [hμ] at hμ'; cases hμ'
    obtain ⟨fa, fb, rfl, _, h2⟩ := hrep.take j
    have hent := (h.ent e hl).2
    have hF : F b ∨ b ∈ fp e := by
      rcases hent with ⟨e1, _⟩ | ⟨b', cur', et', fr', us', f1', e1, e2, e3, e4, e5⟩
      · rw [hμ] at e1; cases e1
      rw [hμ] at e1; cases e1
      rcases e5 with ⟨_, _, _, e6⟩ | ⟨_, _, e6⟩
      · exact .inl e6
      · exact .inr (by rw [e6]; simp)
    refine lent_of h hl ?_
    rw [hv]
    refine .cptr hF (us := us.drop j) (fun q hq => ?_) ((h2.froized).mono (fun b hb => hb.imp id fun hb => hf b (by simp [hb])) (fun _ _ => rfl)) .nil
    rw [List.length_drop] at hq
    rw [cell_of_row w b _ cur et fr hb, Nat.add_assoc, hcell _ (by omega), List.getElem?_drop]
  · cases hy; exact plain hx
  · rename_i e wv c
    simp only [Option.bind_eq_bind, Option.bind_eq_some_iff] at hy
    obtain ⟨_, hv, hy⟩ := hy
    cases hy
    obtain ⟨hl, hw⟩ := ensure_some hv
    exact lent_of h hl (hx.2 hl hw)
  all_goals first | (cases hy; exact plain hx) | cases hy

theorem lentF_mono {es es' : List Nat} (hs : ∀ e ∈ es, e ∈ es') {b : Nat} (hb : lentF F σ fp es b) : lentF F σ fp es' b := hb.imp id fun ⟨e, h1, h2⟩ => ⟨e, hs e h1, h2⟩

theorem lendL_ok (h : Rel n w0 F0 S0 G F μ fp L σ a w) : ∀ {xs ys : List AV} {vs : List Value}, All2 (SLeaf F w σ.en μ fp) vs xs → lendL σ xs = some ys → RepL (lentF F σ fp (xs.flatMap (lentOf σ))) w vs ys []
  | [], ys, [], _, hy => by cases hy; exact .nil
  | x :: xs, ys, v :: vs, ⟨h1, h2⟩, hy => by
    simp only [lendL, Option.bind_eq_bind, Option.bind_eq_some_iff] at hy
    obtain ⟨y, hy1, ys', hy2, he⟩ := hy
    cases he
    have r1 := (lendLeaf_ok h h1 hy1).mono (F' := lentF F σ fp ((x :: xs).flatMap (lentOf σ))) (w' := w) (fun b hb => lentF_mono (by simp +contextual) hb) (fun _ _ => rfl)
    have r2 := (lendL_ok h h2 hy2).mono (F' := lentF F σ fp ((x :: xs).flatMap (lentOf σ))) (w' := w) (fun b hb => lentF_mono (by simp +contextual) hb) (fun _ _ => rfl)
    exact r1.cons r2
  | [], _, _ :: _, h, _ => h.elim
  | _ :: _, _, [], h, _ => h.elim

/-- A value of one or more cells, as it comes and goes. -/
def ValRep (F : Nat → Prop) (w : World) (v : Value) (x : AV) (f : List Nat) : Prop :=
  match x with
  | .agg fs => ∃ cs : Array Value, v = .agg cs ∧ RepL F w cs.toList fs f
  | x => RepL F w [v] [x] f

inductive ValsRep (F : Nat → Prop) (w : World) : List Value → List AV → List Nat → Prop
  | nil : ValsRep F w [] [] []
  | cons {v : Value} {x : AV} {vs : List Value} {xs : List AV} {f1 f2 : List Nat} (h1 : ValRep F w v x f1) (h2 : ValsRep F w vs xs f2) : ValsRep F w (v :: vs) (x :: xs) (f1 ++ f2)

def ResRep (F : Nat → Prop) (w : World) (v : Value) (x : AV) (f : List Nat) : Prop :=
  match x with
  | .tup xs => ∃ us : Array Value, v = .tuple us ∧ ValsRep F w us.toList xs f
  | x => ValRep F w v x f

theorem ValRep.mono {F' : Nat → Prop} {v : Value} {x : AV} {f : List Nat} (h : ValRep F w v x f) (hF : ∀ b, F b → F' b) (hk : ∀ b, F b ∨ b ∈ f → w'.heap[b]? = w.heap[b]?) : ValRep F' w' v x f := by
  cases x with
  | agg fs => obtain ⟨cs, e, h⟩ := h; exact ⟨cs, e, h.mono hF hk⟩
  | _ => exact RepL.mono (show RepL F w _ _ _ from h) hF hk

theorem ValsRep.mono {F' : Nat → Prop} {vs : List Value} {xs : List AV} {f : List Nat} (h : ValsRep F w vs xs f) (hF : ∀ b, F b → F' b) (hk : ∀ b, F b ∨ b ∈ f → w'.heap[b]? = w.heap[b]?) : ValsRep F' w' vs xs f := by
  induction h with
  | nil => exact .nil
  | cons h1 h2 ih => exact .cons (h1.mono hF fun b hb => hk b (hb.imp id fun h => by simp [h])) (ih fun b hb => hk b (hb.imp id fun h => by simp [h]))

theorem ResRep.mono {F' : Nat → Prop} {v : Value} {x : AV} {f : List Nat} (h : ResRep F w v x f) (hF : ∀ b, F b → F' b) (hk : ∀ b, F b ∨ b ∈ f → w'.heap[b]? = w.heap[b]?) : ResRep F' w' v x f := by
  cases x with
  | tup xs => obtain ⟨cs, e, h⟩ := h; exact ⟨cs, e, h.mono hF hk⟩
  | _ => simp only [ResRep] at h ⊢; exact ValRep.mono h hF hk

theorem passArg_ok (h : Rel n w0 F0 S0 G F μ fp L σ a w) {v : Value} {x y : AV} {wr : Bool} (hx : SRep F w σ.en μ fp v x) (hy : passArg σ wr x = some y) : ValRep (lentF F σ fp ((leaves x).flatMap (lentOf σ))) w v y [] := by
  unfold passArg at hy
  split at hy
  · cases hy
  have leaf : ∀ {y : AV}, lendLeaf σ x = some y → SLeaf F w σ.en μ fp v x → leaves x = [x] → ValRep (lentF F σ fp ((leaves x).flatMap (lentOf σ))) w v y [] := by
    intro y hy hs he
    have hr := lendLeaf_ok h hs hy
    rw [he]
    simp only [List.flatMap_cons, List.flatMap_nil, List.append_nil]
    cases y with
    | agg fs => cases hr
    | _ => exact hr
  cases x with
  | agg fs =>
    simp only [Option.bind_eq_bind, Option.bind_eq_some_iff] at hy
    obtain ⟨ls, hls, hy⟩ := hy
    cases hy
    obtain ⟨cs, rfl, hall⟩ := hx
    exact ⟨cs, rfl, lendL_ok h hall hls⟩
  | tup => simp [lendLeaf] at hy
  | pt => simp [lendLeaf] at hy
  | _ => exact leaf hy (hx.leaf (by simp) (by simp) (by simp)) rfl

theorem passL_ok (h : Rel n w0 F0 S0 G F μ fp L σ a w) {f : Nat} (hw : ∀ p, C.wrt f p = false) : ∀ {xs ys : List AV} {vs : List Value} {p : Nat}, All2 (SRep F w σ.en μ fp) vs xs → passL C σ f p xs = some ys → ValsRep (lentF F σ fp (lentL C σ f p xs)) w vs ys []
  | [], ys, [], _, _, hy => by cases hy; exact .nil
  | x :: xs, ys, v :: vs, p, ⟨h1, h2⟩, hy => by
    simp only [passL, Option.bind_eq_bind, Option.bind_eq_some_iff] at hy
    obtain ⟨y, hy1, ys', hy2, he⟩ := hy
    cases he
    have e : lentL C σ f p (x :: xs) = (leaves x).flatMap (lentOf σ) ++ lentL C σ f (p + 1) xs := by simp [lentL, hw]
    rw [e]
    have r1 := (passArg_ok h h1 hy1).mono (F' := lentF F σ fp ((leaves x).flatMap (lentOf σ) ++ lentL C σ f (p + 1) xs)) (w' := w) (fun b hb => lentF_mono (fun e he => List.mem_append.2 (.inl he)) hb) (fun _ _ => rfl)
    have r2 := (passL_ok h hw h2 hy2).mono (F' := lentF F σ fp ((leaves x).flatMap (lentOf σ) ++ lentL C σ f (p + 1) xs)) (w' := w) (fun b hb => lentF_mono (fun e he => List.mem_append.2 (.inr he)) hb) (fun _ _ => rfl)
    exact .cons r1 r2
  | [], _, _ :: _, _, h, _ => h.elim
  | _ :: _, _, [], _, h, _ => h.elim

/-! ### Behind the call -/
theorem Rel.freezeL : ∀ {es : List Nat} {σ : St} {F : Nat → Prop} {fp : Nat → List Nat}, Rel n w0 F0 S0 G F μ fp L σ a w → (∀ e ∈ es, (σ.en e).live = true) →
    ∃ F' fp', Rel n w0 F0 S0 G F' μ fp' L (Vm.freezeL σ es) a w ∧ (∀ b, F b → F' b) ∧ ∀ e ∈ es, ∀ b ∈ fp e, F' b
  | [], σ, F, fp, h, _ => ⟨F, fp, h, fun _ h => h, by simp⟩
  | e :: es, σ, F, fp, h, hl => by
    have hle := hl e (by simp)
    simp only [Vm.freezeL]
    split
    · rename_i hf
      obtain ⟨F', fp', r1, r2, r3⟩ := Rel.freezeL (es := es) h (fun e' he' => hl e' (by simp [he']))
      refine ⟨F', fp', r1, r2, fun e' he' b hb => ?_⟩
      rcases List.mem_cons.1 he' with rfl | he'
      · rw [h.frz_fp hle hf] at hb; cases hb
      · exact r3 e' he' b hb
    · rename_i hf
      have hf : (σ.en e).frz = false := by simpa using hf
      have hz := (h.freeze e hle hf).1
      obtain ⟨F', fp', r1, r2, r3⟩ := Rel.freezeL (es := es) hz (fun e' he' => by
        by_cases he : e' = e
        · subst he; simpa [St.freeze, St.ent, upd] using hle
        · simpa [St.freeze, St.ent, upd, he] using hl e' (by simp [he']))
      refine ⟨F', fp', r1, fun b hb => r2 b (.inl hb), fun e' he' b hb => ?_⟩
      by_cases he : e' = e
      · subst he; exact r2 b (.inr hb)
      · rcases List.mem_cons.1 he' with rfl | he'
        · exact absurd rfl he
        · exact r3 e' he' b (by rw [upd_ne _ _ _ _ he]; exact hb)

theorem hasFroL_flat : ∀ {l : List AV}, hasFro.hasFroL l = false → hasFro.hasFroL (l.flatMap leaves) = false
  | [], _ => rfl
  | x :: xs, h => by
    simp only [hasFro.hasFroL, Bool.or_eq_false_iff] at h
    have happ : ∀ l l' : List AV, hasFro.hasFroL l = false → hasFro.hasFroL l' = false → hasFro.hasFroL (l ++ l') = false := by
      intro l l' h1 h2
      induction l with
      | nil => exact h2
      | cons y ys ih =>
        simp only [hasFro.hasFroL, Bool.or_eq_false_iff] at h1
        simp only [List.cons_append, hasFro.hasFroL, Bool.or_eq_false_iff]
        exact ⟨h1.1, ih h1.2⟩
    rw [List.flatMap_cons]
    refine happ _ _ ?_ (hasFroL_flat h.2)
    cases x with
    | agg fs => simpa [leaves, hasFro] using h.1
    | _ => simp only [leaves, hasFro.hasFroL, Bool.or_false]; exact h.1

/-- What bears nothing that is frozen needs no frozen block. -/
theorem RepL.noFro {F' : Nat → Prop} {vs : List Value} {xs : List AV} {f : List Nat} (h : RepL F w vs xs f) (hx : hasFro.hasFroL xs = false) : RepL F' w vs xs f := by
  induction h with
  | nil => exact .nil
  | und hv t ih => simp only [hasFro.hasFroL, Bool.or_eq_false_iff] at hx; exact .und hv (ih hx.2)
  | int t ih => simp only [hasFro.hasFroL, Bool.or_eq_false_iff] at hx; exact .int (ih hx.2)
  | bool t ih => simp only [hasFro.hasFroL, Bool.or_eq_false_iff] at hx; exact .bool (ih hx.2)
  | str t ih => simp only [hasFro.hasFroL, Bool.or_eq_false_iff] at hx; exact .str (ih hx.2)
  | fro0 hc t ih => simp only [hasFro.hasFroL, Bool.or_eq_false_iff] at hx; exact .fro0 hc (ih hx.2)
  | @fro b o n c sz clip l us vs xs f hn hnc hc hF hcell hsz hu t ihu ih =>
    simp only [hasFro.hasFroL, Bool.or_eq_false_iff] at hx
    cases l with
    | nil =>
      simp at hn
      subst hn
      exact .fro0 hc (ih hx.2)
    | cons y ys => simp [hasFro] at hx
  | own0 t ih => simp only [hasFro.hasFroL, Bool.or_eq_false_iff] at hx; exact .own0 (ih hx.2)
  | own hn hnc hb hcap hcell hsz hu t ihu ih =>
    simp only [hasFro.hasFroL, Bool.or_eq_false_iff] at hx
    exact .own hn hnc hb hcap hcell hsz (ihu (hasFroL_flat (by simpa [hasFro] using hx.1))) (ih hx.2)
  | cptr => simp [hasFro.hasFroL, hasFro] at hx
  | clo => simp [hasFro.hasFroL, hasFro] at hx

theorem ValRep.noFro {F' : Nat → Prop} {v : Value} {x : AV} {f : List Nat} (h : ValRep F w v x f) (hx : hasFro x = false) : ValRep F' w v x f := by
  cases x with
  | agg fs => obtain ⟨cs, e, h⟩ := h; exact ⟨cs, e, h.noFro (by simpa [hasFro] using hx)⟩
  | _ => exact RepL.noFro (show RepL F w _ _ _ from h) (by simp only [hasFro.hasFroL, Bool.or_false]; exact hx)

theorem ValsRep.noFro {F' : Nat → Prop} {vs : List Value} {xs : List AV} {f : List Nat} (h : ValsRep F w vs xs f) (hx : hasFro.hasFroL xs = false) : ValsRep F' w vs xs f := by
  induction h with
  | nil => exact .nil
  | cons h1 h2 ih => simp only [hasFro.hasFroL, Bool.or_eq_false_iff] at hx; exact .cons (h1.noFro hx.1) (ih hx.2)

theorem ResRep.noFro {F' : Nat → Prop} {v : Value} {x : AV} {f : List Nat} (h : ResRep F w v x f) (hx : hasFro x = false) : ResRep F' w v x f := by
  cases x with
  | tup xs => obtain ⟨cs, e, h⟩ := h; exact ⟨cs, e, h.noFro (by simpa [hasFro] using hx)⟩
  | _ => simp only [ResRep] at h ⊢; exact h.noFro hx

/-! ### A result becomes temporaries' values -/
theorem takeLeaf_ok {f : List Nat} (h : Rel n w0 F0 S0 G F μ fp (f ++ L) σ a w) {v : Value} {x y : AV} {d j : Nat} (hx : RepL F w [v] [x] f) (ht : takeLeaf d j σ x = (y, σ')) :
    ∃ μ' fp', Rel n w0 F0 S0 G F μ' fp' L σ' a w ∧ SLeaf F w σ'.en μ' fp' v y ∧ Step F w σ.en μ fp F w σ'.en μ' fp' ∧ σ'.sl = σ.sl := by
  have other : (∀ sz l, x ≠ .own sz l) → (y, σ') = (x, σ) → ∃ μ' fp', Rel n w0 F0 S0 G F μ' fp' L σ' a w ∧ SLeaf F w σ'.en μ' fp' v y ∧ Step F w σ.en μ fp F w σ'.en μ' fp' ∧ σ'.sl = σ.sl := by
    intro hne he
    cases he
    obtain rfl := hx.leaf_nil hne
    exact ⟨μ, fp, by simpa using h, hx.sleaf hne, Step.refl _ _ _ _ _, rfl⟩
  cases x with
  | own sz l =>
    simp only [takeLeaf, Prod.mk.injEq] at ht
    obtain ⟨rfl, rfl⟩ := ht
    have hg : (σ.en (eid d j)).gen + 1 ≤ ((σ.fresh (eid d j) sz l).en (eid d j)).gen := by simp [St.fresh, St.ent, upd]
    rcases hx.own_inv with ⟨rfl, rfl, A, rfl⟩ | ⟨g, c, et, cur, us, f1, rfl, hlc, hb, hcap, hcell, hsz, hu, rfl⟩
    · obtain ⟨r1, r2⟩ := Rel.newNil (L := L) (by simpa using h) (eid d j) sz
      exact ⟨_, _, r1, ⟨hg, fun _ _ => ⟨A, 0, rfl, Nat.le_refl _, fun _ => rfl, fun _ => by simp [St.fresh, St.ent, upd], fun h0 => absurd h0 (by simp)⟩⟩, r2, rfl⟩
    · have hnd := List.nodup_append.1 h.looseNodup
      obtain ⟨r1, r2⟩ := h.fresh (w' := w) (L' := L) (m := some g) (f := g :: f1) (eid d j) sz l (fun b hb => .inl (by simp only [List.mem_append]; exact .inl hb)) (List.sublist_append_right _ _) (fun b hb hb2 => hnd.2.2 b hb b hb2 rfl) hnd.1 (KeptS.refl _ _)
        (fun b hm => by cases hm; exact (Array.getElem?_eq_some_iff.1 hb).1) ⟨hsz, .inr ⟨g, cur, et, (0, 0), us, f1, rfl, hb, hcell, hu, .inr ⟨rfl, rfl, rfl⟩⟩⟩
      refine ⟨_, _, r1, ⟨hg, fun _ _ => ⟨_, c, rfl, hlc, by simp, fun _ => ?_, fun _ => ⟨g, cur, et, (0, 0), by simp [upd], ?_, hb, ?_⟩⟩⟩, r2, rfl⟩
      · simpa [St.fresh, St.ent, upd] using hlc
      · simp
      · simpa [St.fresh, St.ent, upd] using hcap
  | _ => exact other (by simp) ht.symm

end
end Go.Vm
