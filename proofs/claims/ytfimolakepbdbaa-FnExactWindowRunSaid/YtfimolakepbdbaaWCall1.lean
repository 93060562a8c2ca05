/- What is lent to a call, and what comes back. -/
import Derived.Test.YtfimolakepbdbaaWOps12
namespace Go.Vm

section
variable {C : Cfg} {n : Nat} {w0 : World} {F0 S0 F : Nat → Prop} {G : Value → AV → Prop} {μ : Nat → Option Nat} {fp : Nat → List Nat} {L : List Nat} {σ σ' : St} {a : Act} {w w' : World} {o : Oper}

theorem Rel.frz_fp (h : Rel n w0 F0 S0 G F μ fp L σ a w) {e : Nat} (hl : (σ.en e).live = true) (hf : (σ.en e).frz = true) : fp e = [] := by
  rcases (h.ent e hl).2 with ⟨_, _, e1⟩ | ⟨b, cur, et, fr, us, f1, _, _, _, _, e5⟩
  · exact e1
  · rcases e5 with ⟨_, e5, _⟩ | ⟨e5, _⟩
    · exact e5
    · rw [hf] at e5; cases e5

/-- What a list of entries lends. -/
def lentF (F : Nat → Prop) (σ : St) (fp : Nat → List Nat) (es : List Nat) : Nat → Prop := fun b => F b ∨ ∃ e ∈ es, (σ.en e).live = true ∧ b ∈ fp e

theorem lent_of (h : Rel n w0 F0 S0 G F μ fp L σ a w) {e : Nat} (hl : (σ.en e).live = true) {vs : List Value} {xs : List AV} (hr : RepL (fun b => F b ∨ b ∈ fp e) w vs xs []) : RepL (lentF F σ fp (if (σ.en e).frz then [] else [e])) w vs xs [] := by
  refine hr.mono (fun b hb => ?_) (fun _ _ => rfl)
  rcases hb with hb | hb
  · exact .inl hb
  · cases hf : (σ.en e).frz
    · exact .inr ⟨e, by simp, hl, hb⟩
    · rw [h.frz_fp hl hf] at hb; cases hb

theorem lendLeaf_ok (h : Rel n w0 F0 S0 G F μ fp L σ a w) {v : Value} {x y : AV} (hx : SLeaf F w σ.en μ fp v x) (hy : lendLeaf σ x = some y) : RepL (lentF F σ fp (lentOf σ x)) w [v] [y] [] := by
  have plain : ∀ {z : AV} {es : List Nat}, RepL F w [v] [z] [] → RepL (lentF F σ fp es) w [v] [z] [] := fun hz => hz.mono (fun _ h => .inl h) (fun _ _ => rfl)
  unfold lendLeaf at hy
  split at hy
  · rename_i e g off len clip
    simp only [Option.bind_eq_bind, Option.bind_eq_some_iff] at hy
    obtain ⟨E, hE, _, hb, hy⟩ := hy
    cases hy
    obtain ⟨hl, hg, rfl⟩ := cur_some hE
    have hb := ensure_some hb
    obtain ⟨A, c, us, f, rfl, hlc, hcl, _, hul, hA, hu, hsub, hfz, hblk⟩ := h.hdRange hx hl hg hb
    refine lent_of h hl ?_
    have hlen : (((σ.en e).elems.drop off).take len).length = len := by simp; omega
    have hes := (h.ent e hl).1
    by_cases h0 : len = 0
    · subst h0
      simp only [List.take_zero, List.map_nil]
      exact .fro0 (fun hc => hcl hc) .nil
    · obtain ⟨b, cur, et, fr, hμ, rfl, hb1, hb2⟩ := hblk (by clear hblk; omega)
      have hent := (h.ent e hl).2
      have hF : F b ∨ b ∈ fp e := by
        rcases hent with ⟨e1, _⟩ | ⟨b', cur', et', fr', us', f1', e1, e2, e3, e4, e5⟩
        · rw [hμ] at e1; cases e1
        rw [hμ] at e1; cases e1
        rcases e5 with ⟨_, _, _, e6⟩ | ⟨_, _, e6⟩
        · exact .inl e6
        · exact .inr (by rw [e6]; simp)
      have hpos : 0 < us.length ∨ us.length = 0 := by omega
      have hr := hu.froized
      rw [← flat_froize] at hr
      refine .fro (sz := (σ.en e).sz) (us := us) (by rw [List.length_map, hlen]) hlc hcl hF (fun q hq => ?_) (fun z hz => ?_) (hr.mono (fun b hb => hb.imp id (fun hb => hsub.subset hb)) (fun _ _ => rfl)) .nil
      · obtain ⟨b2, o2, e1, e2⟩ := hA (by omega)
        cases e1
        exact e2 q hq
      · obtain ⟨z', hz', rfl⟩ := List.mem_map.1 hz
        rw [leaves_froize]; simpa using hes z' (List.mem_of_mem_drop (List.mem_of_mem_take hz'))
  · cases hy; exact plain hx
  · rename_i e wv oo clip l
    simp only [Option.bind_eq_bind, Option.bind_eq_some_iff] at hy
    obtain ⟨_, hv, hy⟩ := hy
    cases hy
    obtain ⟨hl, hw⟩ := ensure_some hv
    exact lent_of h hl (hx.2 hl hw).1
  · rename_i e g i j
    simp only [Option.bind_eq_bind, Option.bind_eq_some_iff] at hy
    obtain ⟨E, hE, z, hz, hy⟩ := hy
    cases hy
    obtain ⟨hl, hg, rfl⟩ := cur_some hE
    obtain ⟨b, cur, et, fr, us, f1, hμ, hb, hcell, hrep, hf, hfz⟩ := h.cells hl hz
    obtain ⟨b', hμ', hv⟩ := hx.2 hl hg
    rw [hμ] at hμ'; cases hμ'
    obtain ⟨fa, fb, rfl, _, h2⟩ := hrep.take j
    have hent := (h.ent e hl).2
    have hF : F b ∨ b ∈ fp e := by
      rcases hent with ⟨e1, _⟩ | ⟨b', cur', et', fr', us', f1', e1, e2, e3, e4, e5⟩
      · rw [hμ] at e1; cases e1
      rw [hμ] at e1; cases e1
      rcases e5 with ⟨_, _, _, e6⟩ | ⟨_, _, e6⟩
      · exact .inl e6
      · exact .inr (by rw [e6]; simp)
    refine lent_of h hl ?_
    rw [hv]
    refine .cptr hF (us := us.drop j) (fun q hq => ?_) ((h2.froized).mono (fun b hb => hb.imp id fun hb => hf b (by simp [hb])) (fun _ _ => rfl)) .nil
    rw [List.length_drop] at hq
    rw [cell_of_row w b _ cur et fr hb, Nat.add_assoc, hcell _ (by omega), List.getElem?_drop]
  · cases hy; exact plain hx
  · rename_i e wv c
    simp only [Option.bind_eq_bind, Option.bind_eq_some_iff] at hy
    obtain ⟨_, hv, hy⟩ := hy
    cases hy
    obtain ⟨hl, hw⟩ := ensure_some hv
    exact lent_of h hl (hx.2 hl hw)
  all_goals first | (cases hy; exact plain hx) | cases hy

theorem lentF_mono {es es' : List Nat} (hs : ∀ e ∈ es, e ∈ es') {b : Nat} (hb : lentF F σ fp es b) : lentF F σ fp es' b := hb.imp id fun ⟨e, h1, h2⟩ => ⟨e, hs e h1, h2⟩

theorem lendL_ok (h : Rel n w0 F0 S0 G F μ fp L σ a w) : ∀ {xs ys : List AV} {vs : List Value}, All2 (SLeaf F w σ.en μ fp) vs xs → lendL σ xs = some ys → RepL (lentF F σ fp (xs.flatMap (lentOf σ))) w vs ys []
  | [], ys, [], _, hy => by cases hy; exact .nil
  | x :: xs, ys, v :: vs, ⟨h1, h2⟩, hy => by
    simp only [lendL, Option.bind_eq_bind, Option.bind_eq_some_iff] at hy
    obtain ⟨y, hy1, ys', hy2, he⟩ := hy
    cases he
    have r1 := (lendLeaf_ok h h1 hy1).mono (F' := lentF F σ fp ((x :: xs).flatMap (lentOf σ))) (w' := w) (fun b hb => lentF_mono (by simp +contextual) hb) (fun _ _ => rfl)
    have r2 := (lendL_ok h h2 hy2).mono (F' := lentF F σ fp ((x :: xs).flatMap (lentOf σ))) (w' := w) (fun b hb => lentF_mono (by simp +contextual) hb) (fun _ _ => rfl)
    exact r1.cons r2
  | [], _, _ :: _, h, _ => h.elim
  | _ :: _, _, [], h, _ => h.elim

/-- A value of one or more cells, as it comes and goes. -/
def ValRep (F : Nat → Prop) (w : World) (v : Value) (x : AV) (f : List Nat) : Prop :=
  match x with
  | .agg fs => ∃ cs : Array Value, v = .agg cs ∧ RepL F w cs.toList fs f
  | x => RepL F w [v] [x] f

inductive ValsRep (F : Nat → Prop) (w : World) : List Value → List AV → List Nat → Prop
  | nil : ValsRep F w [] [] []
  | cons {v : Value} {x : AV} {vs : List Value} {xs : List AV} {f1 f2 : List Nat} (h1 : ValRep F w v x f1) (h2 : ValsRep F w vs xs f2) : ValsRep F w (v :: vs) (x :: xs) (f1 ++ f2)

/-- A pointer into an array that it owns. -/
def PtRep (F : Nat → Prop) (w : World) (v : Value) (sz : Nat) (l : List AV) (i j : Nat) (f : List Nat) : Prop :=
  ∃ b cur et us f1, v = .pointer (some ⟨b, i * sz + j, none⟩) ∧ w.heap[b]? = some (.cells cur et (0, 0)) ∧ (∀ q, q < us.length → cur[q]? = us[q]?) ∧ (∀ a ∈ l, (leaves a).length = sz) ∧ RepL F w us (l.flatMap leaves) f1 ∧ f = b :: f1

theorem PtRep.mono {F' : Nat → Prop} {v : Value} {sz i j : Nat} {l : List AV} {f : List Nat} (h : PtRep F w v sz l i j f) (hF : ∀ b, F b → F' b) (hk : ∀ b, F b ∨ b ∈ f → w'.heap[b]? = w.heap[b]?) : PtRep F' w' v sz l i j f := by
  obtain ⟨b, cur, et, us, f1, h1, h2, h3, h4, h5, rfl⟩ := h
  exact ⟨b, cur, et, us, f1, h1, (hk b (.inr (by simp))).trans h2, h3, h4, h5.mono hF fun b hb => hk b (hb.imp id fun hb => by simp [hb]), rfl⟩

def ResRep (F : Nat → Prop) (w : World) (v : Value) (x : AV) (f : List Nat) : Prop :=
  match x with
  | .tup xs => ∃ us : Array Value, v = .tuple us ∧ ValsRep F w us.toList xs f
  | .pt sz l i j => PtRep F w v sz l i j f
  | x => ValRep F w v x f

theorem ValRep.mono {F' : Nat → Prop} {v : Value} {x : AV} {f : List Nat} (h : ValRep F w v x f) (hF : ∀ b, F b → F' b) (hk : ∀ b, F b ∨ b ∈ f → w'.heap[b]? = w.heap[b]?) : ValRep F' w' v x f := by
  cases x with
  | agg fs => obtain ⟨cs, e, h⟩ := h; exact ⟨cs, e, h.mono hF hk⟩
  | _ => exact RepL.mono (show RepL F w _ _ _ from h) hF hk

theorem ValsRep.mono {F' : Nat → Prop} {vs : List Value} {xs : List AV} {f : List Nat} (h : ValsRep F w vs xs f) (hF : ∀ b, F b → F' b) (hk : ∀ b, F b ∨ b ∈ f → w'.heap[b]? = w.heap[b]?) : ValsRep F' w' vs xs f := by
  induction h with
  | nil => exact .nil
  | cons h1 h2 ih => exact .cons (h1.mono hF fun b hb => hk b (hb.imp id fun h => by simp [h])) (ih fun b hb => hk b (hb.imp id fun h => by simp [h]))

theorem ResRep.mono {F' : Nat → Prop} {v : Value} {x : AV} {f : List Nat} (h : ResRep F w v x f) (hF : ∀ b, F b → F' b) (hk : ∀ b, F b ∨ b ∈ f → w'.heap[b]? = w.heap[b]?) : ResRep F' w' v x f := by
  cases x with
  | tup xs => obtain ⟨cs, e, h⟩ := h; exact ⟨cs, e, h.mono hF hk⟩
  | pt sz l i j => exact PtRep.mono h hF hk
  | _ => simp only [ResRep] at h ⊢; exact ValRep.mono h hF hk

theorem passArg_ok (h : Rel n w0 F0 S0 G F μ fp L σ a w) {v : Value} {x y : AV} (hx : SRep F w σ.en μ fp v x) (hy : passArg σ x = some y) : ValRep (lentF F σ fp ((leaves x).flatMap (lentOf σ))) w v y [] := by
  unfold passArg at hy
  have leaf : ∀ {y : AV}, lendLeaf σ x = some y → SLeaf F w σ.en μ fp v x → leaves x = [x] → ValRep (lentF F σ fp ((leaves x).flatMap (lentOf σ))) w v y [] := by
    intro y hy hs he
    have hr := lendLeaf_ok h hs hy
    rw [he]
    simp only [List.flatMap_cons, List.flatMap_nil, List.append_nil]
    cases y with
    | agg fs => cases hr
    | _ => exact hr
  cases x with
  | agg fs =>
    simp only [Option.bind_eq_bind, Option.bind_eq_some_iff] at hy
    obtain ⟨ls, hls, hy⟩ := hy
    cases hy
    obtain ⟨cs, rfl, hall⟩ := hx
    exact ⟨cs, rfl, lendL_ok h hall hls⟩
  | tup => simp [lendLeaf] at hy
  | pt => simp [lendLeaf] at hy
  | _ => exact leaf hy (hx.leaf (by simp) (by simp) (by simp)) rfl

/-- An argument: what is lent to be written is owned by it. -/
def ArgRep (F : Nat → Prop) (w : World) (v : Value) (x : AV) (f : List Nat) : Prop :=
  match x with
  | .pt sz l i j => ∃ b cur et us f1, v = .pointer (some ⟨b, i * sz + j, none⟩) ∧ w.heap[b]? = some (.cells cur et (0, 0)) ∧ (∀ q, q < us.length → cur[q]? = us[q]?) ∧ (∀ a ∈ l, (leaves a).length = sz) ∧ RepL F w us (l.flatMap leaves) f1 ∧ f = b :: f1
  | x => ValRep F w v x f

inductive ArgsRep (F : Nat → Prop) (w : World) : List Value → List AV → List Nat → Prop
  | nil : ArgsRep F w [] [] []
  | cons {v : Value} {x : AV} {vs : List Value} {xs : List AV} {f1 f2 : List Nat} (h1 : ArgRep F w v x f1) (h2 : ArgsRep F w vs xs f2) : ArgsRep F w (v :: vs) (x :: xs) (f1 ++ f2)

theorem ArgRep.of_val {v : Value} {x : AV} {f : List Nat} (h : ValRep F w v x f) : ArgRep F w v x f := by
  cases x with
  | pt => cases (show RepL F w _ _ _ from h)
  | _ => exact h

theorem ArgRep.mono {F' : Nat → Prop} {v : Value} {x : AV} {f : List Nat} (h : ArgRep F w v x f) (hF : ∀ b, F b → F' b) (hk : ∀ b, F b ∨ b ∈ f → w'.heap[b]? = w.heap[b]?) : ArgRep F' w' v x f := by
  cases x with
  | pt sz l i j =>
    obtain ⟨b, cur, et, us, f1, h1, h2, h3, h4, h5, rfl⟩ := h
    exact ⟨b, cur, et, us, f1, h1, (hk b (.inr (by simp))).trans h2, h3, h4, h5.mono hF fun b hb => hk b (hb.imp id fun hb => by simp [hb]), rfl⟩
  | _ => simp only [ArgRep] at h ⊢; exact ValRep.mono h hF hk

theorem ArgsRep.mono {F' : Nat → Prop} {vs : List Value} {xs : List AV} {f : List Nat} (h : ArgsRep F w vs xs f) (hF : ∀ b, F b → F' b) (hk : ∀ b, F b ∨ b ∈ f → w'.heap[b]? = w.heap[b]?) : ArgsRep F' w' vs xs f := by
  induction h with
  | nil => exact .nil
  | cons h1 h2 ih => exact .cons (h1.mono hF fun b hb => hk b (hb.imp id fun h => by simp [h])) (ih fun b hb => hk b (hb.imp id fun h => by simp [h]))

theorem ArgsRep.of_vals {vs : List Value} {xs : List AV} {f : List Nat} (h : ValsRep F w vs xs f) : ArgsRep F w vs xs f := by
  induction h with
  | nil => exact .nil
  | cons h1 h2 ih => exact .cons (.of_val h1) ih

/-- The same kind of thing is left as was lent. -/
def sameShape : AV → AV → Prop
  | .own sz _, .own sz' _ => sz' = sz
  | .pt sz l i j, .pt sz' l' i' j' => sz' = sz ∧ i' = i ∧ j' = j ∧ l'.length = l.length
  | _, _ => False

/-- What is lent to be written, and how it comes back. -/
structure Lent (F : Nat → Prop) (w : World) (σ : St) (μ : Nat → Option Nat) (fp : Nat → List Nat) (x : AV) (v : Value) (y : AV) (e : Nat) (gs rest : List Nat) : Prop where
  live : (σ.en e).live = true
  frz : (σ.en e).frz = false
  perm : (fp e).Perm (gs ++ rest)
  rep : ArgRep F w v y gs
  back : ∀ (F' : Nat → Prop) (w' : World) (y' : AV) (gs' : List Nat), (∀ b, F b → F' b) → (∀ b, F b ∨ b ∈ rest → w'.heap[b]? = w.heap[b]?) → ArgRep F' w' v y' gs' → sameShape y y' → (gs' ++ rest).Nodup →
    ∃ E' f', leftE (σ.en e) x y' = some E' ∧ E'.live = true ∧ E'.gen = (σ.en e).gen ∧ E'.wr = (σ.en e).wr + 1 ∧ E'.frz = false ∧ E'.sz = (σ.en e).sz ∧ E'.elems.length ≤ (σ.en e).elems.length ∧ EntRep F' w' E' (μ e) f' ∧ (∀ b ∈ f', b ∈ gs' ++ rest) ∧ f'.Nodup

theorem lendW_ok (h : Rel n w0 F0 S0 G F μ fp L σ a w) {v : Value} {x y : AV} (hx : SLeaf F w σ.en μ fp v x) (hy : lendW σ x = some y) : ∃ e gs rest, entW x = some e ∧ Lent F w σ μ fp x v y e gs rest := by
  unfold lendW at hy
  split at hy
  · rename_i e g off len clip
    simp only [Option.bind_eq_bind, Option.bind_eq_some_iff, Option.some.injEq] at hy
    obtain ⟨E, hE, _, hb, rfl⟩ := hy
    obtain ⟨hl, hg, rfl⟩ := cur_some hE
    obtain ⟨hfz, rfl, hlen⟩ := ensure_some hb
    obtain ⟨_, hx⟩ := hx
    obtain ⟨A, c, rfl, hlc, hcl, hnc, hblk⟩ := hx hl hg
    have hent := h.ent e hl
    by_cases hc : c = 0
    · subst hc
      have he : (σ.en e).elems = [] := List.eq_nil_of_length_eq_zero (by omega)
      have h0 : len = 0 := by omega
      subst h0
      refine ⟨e, [], fp e, rfl, hl, hfz, by simp, by rw [he]; exact RepL.own0 .nil, fun F' w' y' gs' hF hk hr hs hnd => ?_⟩
      cases y' with
      | own sz' l' =>
        simp only [sameShape] at hs
        have hl' : l' = [] := by
          rcases RepL.own_inv (show RepL F' w' [_] [.own sz' l'] gs' from hr) with ⟨e1, _⟩ | ⟨_, _, _, _, _, _, e1, _⟩
          · exact e1
          · simp only [Value.slice.injEq] at e1
            exact List.eq_nil_of_length_eq_zero (by omega)
        subst hl'
        rcases hent.2 with ⟨e1, _, _⟩ | ⟨b, cur, et, fr, us, f1, e1, e2, e3, e4, e5⟩
        · exact ⟨_, [], rfl, hl, rfl, rfl, hfz, rfl, by simp, ⟨by simp, .inl ⟨e1, rfl, rfl⟩⟩, by simp, List.nodup_nil⟩
        · rcases e5 with ⟨e5, _⟩ | ⟨_, e6, e7⟩
          · rw [hfz] at e5; cases e5
          · have hb : b ∈ fp e := by rw [e7]; simp
            exact ⟨_, [b], rfl, hl, rfl, rfl, hfz, rfl, by simp, ⟨by simp, .inr ⟨b, cur, et, fr, [], [], e1, (hk b (.inr hb)).trans e2, by simp, .nil, .inr ⟨hfz, e6, rfl⟩⟩⟩, by simpa using .inr hb, by simp⟩
      | _ => exact hs.elim
    · obtain ⟨b, cur, et, fr, hμ, rfl, hb1, hb2⟩ := hblk (by omega)
      rcases hent.2 with ⟨e1, _⟩ | ⟨b', cur', et', fr', us, f1, e1, e2, e3, e4, e5⟩
      · rw [hμ] at e1; cases e1
      rw [hμ] at e1; cases e1
      rw [hb1] at e2; cases e2
      rcases e5 with ⟨e5, _⟩ | ⟨_, rfl, e7⟩
      · rw [hfz] at e5; cases e5
      refine ⟨e, b :: f1, [], rfl, hl, hfz, by rw [e7]; simp, ?_, fun F' w' y' gs' hF hk hr hs hnd => ?_⟩
      · have := RepL.own (F := F) (w := w) (g := b) (n := len) (c := c) (sz := (σ.en e).sz) (et := et) (cur := cur) (l := (σ.en e).elems) (us := us) (vs := []) (xs := []) (f1 := f1) (f := []) hlen.symm hlc hb1 (by simpa using hb2) e3 hent.1 e4 .nil
        simpa [ArgRep, ValRep] using this
      · cases y' with
        | own sz' l' =>
          simp only [sameShape] at hs
          subst hs
          rcases RepL.own_inv (show RepL F' w' [_] [.own _ l'] gs' from hr) with ⟨_, _, A, e1⟩ | ⟨g', c', et', cur', us', f1', e1, k1, k2, k3, k4, k5, k6, rfl⟩
          · simp only [Value.slice.injEq] at e1; omega
          · simp only [Value.slice.injEq, Option.some.injEq, Addr.mk.injEq] at e1
            obtain ⟨⟨rfl, _⟩, hll, _⟩ := e1
            exact ⟨_, b :: f1', rfl, hl, rfl, rfl, hfz, rfl, by show l'.length ≤ _; omega, ⟨k5, .inr ⟨b, cur', et', (0, 0), us', f1', hμ, k2, k4, k6, .inr ⟨hfz, rfl, rfl⟩⟩⟩, by simp, by simpa using hnd⟩
        | _ => exact hs.elim
  · rename_i e g i j
    simp only [Option.bind_eq_bind, Option.bind_eq_some_iff, Option.some.injEq] at hy
    obtain ⟨E, hE, _, hb, rfl⟩ := hy
    obtain ⟨hl, hg, rfl⟩ := cur_some hE
    have hfz := ensure_some hb
    obtain ⟨_, hx⟩ := hx
    obtain ⟨b, hμ, rfl⟩ := hx hl hg
    have hent := h.ent e hl
    rcases hent.2 with ⟨e1, _⟩ | ⟨b', cur, et, fr, us, f1, e1, e2, e3, e4, e5⟩
    · rw [hμ] at e1; cases e1
    rw [hμ] at e1; cases e1
    rcases e5 with ⟨e5, _⟩ | ⟨_, rfl, e7⟩
    · rw [hfz] at e5; cases e5
    refine ⟨e, b :: f1, [], rfl, hl, hfz, by rw [e7]; simp, ⟨b, cur, et, us, f1, rfl, e2, e3, hent.1, e4, rfl⟩, fun F' w' y' gs' hF hk hr hs hnd => ?_⟩
    cases y' with
    | pt sz' l' i' j' =>
      simp only [sameShape] at hs
      obtain ⟨rfl, rfl, rfl, hll⟩ := hs
      obtain ⟨b', cur', et', us', f1', k1, k2, k3, k4, k5, rfl⟩ := hr
      simp only [Value.pointer.injEq, Option.some.injEq, Addr.mk.injEq] at k1
      obtain ⟨rfl, _⟩ := k1
      exact ⟨_, b :: f1', rfl, hl, rfl, rfl, hfz, rfl, Nat.le_of_eq hll, ⟨k4, .inr ⟨b, cur', et', (0, 0), us', f1', hμ, k2, k3, k5, .inr ⟨hfz, rfl, rfl⟩⟩⟩, by simp, by simpa using hnd⟩
    | _ => exact hs.elim
  · rename_i e wv i j clip l0
    simp only [Option.bind_eq_bind, Option.bind_eq_some_iff] at hy
    obtain ⟨_, hv, _, hb, z, hz, hy⟩ := hy
    obtain ⟨hl, hw⟩ := ensure_some hv
    have hfz := ensure_some hb
    split at hy
    case h_2 => cases hy
    rename_i sz l hzj
    cases hy
    obtain ⟨z', b, cur, et, fr, sz', hz', hzj', hμ, hb1, hcur⟩ := (hx.2 hl hw).2 hfz i j rfl
    rw [hz] at hz'; cases hz'
    have hent := h.ent e hl
    rcases hent.2 with ⟨e1, _⟩ | ⟨b', cur', et', fr', us, f1, e1, e2, e3, e4, e5⟩
    · rw [hμ] at e1; cases e1
    rw [hμ] at e1; cases e1
    rw [hb1] at e2; cases e2
    rcases e5 with ⟨e5, _⟩ | ⟨_, rfl, e7⟩
    · rw [hfz] at e5; cases e5
    obtain ⟨hi, rfl⟩ := List.getElem?_eq_some_iff.1 hz
    have hel : (σ.en e).elems = (σ.en e).elems.take i ++ (σ.en e).elems[i] :: (σ.en e).elems.drop (i + 1) := by simp
    obtain ⟨hj, hzj2⟩ := List.getElem?_eq_some_iff.1 hzj
    have hlz : leaves (σ.en e).elems[i] = (leaves (σ.en e).elems[i]).take j ++ .own sz l :: (leaves (σ.en e).elems[i]).drop (j + 1) := by rw [← hzj2]; simp
    have hsz := hent.1 _ (List.getElem_mem hi)
    have hpre : (((σ.en e).elems.take i).flatMap leaves ++ (leaves (σ.en e).elems[i]).take j).length = i * (σ.en e).sz + j := by
      rw [List.length_append, flat_length (fun a ha => hent.1 a (List.mem_of_mem_take ha)), List.length_take, List.length_take, Nat.min_eq_left (by omega), Nat.min_eq_left (by omega)]
    have hflat : (σ.en e).elems.flatMap leaves = (((σ.en e).elems.take i).flatMap leaves ++ (leaves (σ.en e).elems[i]).take j) ++ (.own sz l :: ((leaves (σ.en e).elems[i]).drop (j + 1) ++ ((σ.en e).elems.drop (i + 1)).flatMap leaves)) := by
      conv => lhs; rw [hel]
      rw [List.flatMap_append, List.flatMap_cons]
      conv => lhs; rw [hlz]
      simp
    rw [hflat] at e4
    obtain ⟨v1, v2, g1, g2, rfl, rfl, r1, r2⟩ := RepL.split e4
    have hv1 : v1.length = i * (σ.en e).sz + j := by rw [r1.length, hpre]
    cases v2 with
    | nil => cases r2
    | cons u v2 =>
    obtain ⟨ga, gb, rfl, ra, rb⟩ := r2.cons_inv
    have huv : u = v := by
      have := e3 v1.length (by simp)
      rw [hv1, hcur] at this
      simp [← hv1] at this
      exact this.symm
    subst huv
    refine ⟨e, ga, b :: (g1 ++ gb), rfl, hl, hfz, ?_, ra, fun F' w' y' gs' hF hk hr hs hnd => ?_⟩
    · rw [e7]
      refine (List.Perm.cons b ?_).trans (List.perm_middle.symm)
      exact (List.perm_append_comm_assoc g1 ga gb)
    · cases y' with
      | own sz' l' =>
        have hr : RepL F' w' [u] [.own sz' l'] gs' := hr
        have r1' := r1.mono (w' := w') hF fun b' hb' => hk b' (hb'.imp id fun hb' => by simp [hb'])
        have rb' := rb.mono (w' := w') hF fun b' hb' => hk b' (hb'.imp id fun hb' => by simp [hb'])
        have hb' : w'.heap[b]? = w.heap[b]? := hk b (.inr (by simp))
        have hre : leaves (reEl (σ.en e).elems[i] ((leaves (σ.en e).elems[i]).set j (.own sz' l'))) = (leaves (σ.en e).elems[i]).set j (.own sz' l') := by
          apply leaves_reEl
          intro hna
          have hone := leaves_length_of (fun fs hx => hna fs hx)
          rw [hone] at hj ⊢
          have : j = 0 := by simpa using hj
          subst this
          exact ⟨.own sz' l', rfl, rfl⟩
        have hset : (leaves (σ.en e).elems[i]).set j (.own sz' l') = (leaves (σ.en e).elems[i]).take j ++ .own sz' l' :: (leaves (σ.en e).elems[i]).drop (j + 1) := by
          rw [List.set_eq_take_append_cons_drop]; simp [hj]
        have hmod : ((σ.en e).elems.modify i fun x => reEl x ((leaves x).set j (.own sz' l'))) = (σ.en e).elems.take i ++ reEl (σ.en e).elems[i] ((leaves (σ.en e).elems[i]).set j (.own sz' l')) :: (σ.en e).elems.drop (i + 1) := by
          rw [List.modify_eq_take_cons_drop hi]
        refine ⟨_, b :: (g1 ++ (gs' ++ gb)), rfl, hl, rfl, rfl, hfz, rfl, by simp, ⟨fun a ha => ?_, .inr ⟨b, cur, et, (0, 0), v1 ++ u :: v2, g1 ++ (gs' ++ gb), hμ, hb'.trans hb1, e3, ?_, .inr ⟨hfz, rfl, rfl⟩⟩⟩, fun b' hb' => ?_, ?_⟩
        · rw [hmod] at ha
          rcases List.mem_append.1 ha with ha | ha
          · exact hent.1 a (List.mem_of_mem_take ha)
          · rcases List.mem_cons.1 ha with rfl | ha
            · rw [hre]; simpa using hsz
            · exact hent.1 a (List.mem_of_mem_drop ha)
        · rw [hmod, List.flatMap_append, List.flatMap_cons, hre, hset]
          have := r1'.append (hr.append rb')
          simpa using this
        · simp only [List.mem_cons, List.mem_append] at hb' ⊢
          rcases hb' with rfl | hb' | hb' | hb'
          · exact .inr (.inl rfl)
          · exact .inr (.inr (.inl hb'))
          · exact .inl hb'
          · exact .inr (.inr (.inr hb'))
        · have hp : (gs' ++ b :: (g1 ++ gb)).Perm (b :: (g1 ++ (gs' ++ gb))) := List.perm_middle.trans (List.Perm.cons b (List.perm_append_comm_assoc gs' g1 gb))
          exact hp.nodup_iff.1 hnd
      | _ => exact hs.elim
  · cases hy

/-- Arguments that are lent to be looked at. -/
theorem passL_plain (h : Rel n w0 F0 S0 G F μ fp L σ a w) {f : Nat} : ∀ {xs ys : List AV} {vs : List Value} {p : Nat}, (∀ k, C.wrt f = some k → k < p ∨ p + xs.length ≤ k) → All2 (SRep F w σ.en μ fp) vs xs → passL C σ f p xs = some ys → ArgsRep (lentF F σ fp (lentL C σ f p xs)) w vs ys []
  | [], ys, [], _, _, _, hy => by cases hy; exact .nil
  | x :: xs, ys, v :: vs, p, hw, ⟨h1, h2⟩, hy => by
    have hne : C.wrt f ≠ some p := fun hk => by have := hw p hk; simp at this; omega
    simp only [passL, pass1, Option.bind_eq_bind, Option.bind_eq_some_iff, if_neg hne] at hy
    obtain ⟨y, hy1, ys', hy2, he⟩ := hy
    cases he
    have e : lentL C σ f p (x :: xs) = (leaves x).flatMap (lentOf σ) ++ lentL C σ f (p + 1) xs := by simp [lentL, hne]
    rw [e]
    have r1 := (passArg_ok h h1 hy1).mono (F' := lentF F σ fp ((leaves x).flatMap (lentOf σ) ++ lentL C σ f (p + 1) xs)) (w' := w) (fun b hb => lentF_mono (fun e he => List.mem_append.2 (.inl he)) hb) (fun _ _ => rfl)
    have r2 := (passL_plain h (fun k hk => by have := hw k hk; simp only [List.length_cons] at this; omega) h2 hy2).mono (F' := lentF F σ fp ((leaves x).flatMap (lentOf σ) ++ lentL C σ f (p + 1) xs)) (w' := w) (fun b hb => lentF_mono (fun e he => List.mem_append.2 (.inr he)) hb) (fun _ _ => rfl)
    exact .cons (f1 := []) (.of_val r1) r2
  | [], _, _ :: _, _, _, h, _ => h.elim
  | _ :: _, _, [], _, _, h, _ => h.elim

/-- Arguments one of which is lent to be written. -/
theorem passL_wrt (h : Rel n w0 F0 S0 G F μ fp L σ a w) {f k : Nat} (hk : C.wrt f = some k) : ∀ {xs ys : List AV} {vs : List Value} {p : Nat}, p ≤ k → k < p + xs.length → All2 (SRep F w σ.en μ fp) vs xs → passL C σ f p xs = some ys →
    ∃ x v y e gs rest, xs[k - p]? = some x ∧ vs[k - p]? = some v ∧ ys[k - p]? = some y ∧ entW x = some e ∧ Lent F w σ μ fp x v y e gs rest ∧ ArgsRep (lentF F σ fp (lentL C σ f p xs)) w vs ys gs
  | [], ys, [], p, h1, h2, _, _ => by simp at h2; omega
  | x :: xs, ys, v :: vs, p, hpk, hlt, ⟨h1, h2⟩, hy => by
    by_cases he : k = p
    · subst he
      simp only [passL, pass1, Option.bind_eq_bind, Option.bind_eq_some_iff, hk, if_true] at hy
      obtain ⟨y, hy1, ys', hy2, he⟩ := hy
      cases he
      have hs : SLeaf F w σ.en μ fp v x := by
        cases x <;> first | (simp [lendW] at hy1; done) | exact h1
      obtain ⟨e, gs, rest, q1, q2⟩ := lendW_ok h hs hy1
      have r2 := (passL_plain h (fun k' hk' => by rw [hk] at hk'; cases hk'; omega) h2 hy2).mono (F' := lentF F σ fp (lentL C σ f k (x :: xs))) (w' := w) (fun b hb => lentF_mono (fun e he => by simp [lentL, hk]; exact he) hb) (fun _ _ => rfl)
      refine ⟨x, v, y, e, gs, rest, by simp, by simp, by simp, q1, q2, ?_⟩
      have := ArgsRep.cons (q2.rep.mono (F' := lentF F σ fp (lentL C σ f k (x :: xs))) (w' := w) (fun b hb => .inl hb) (fun _ _ => rfl)) r2
      simpa using this
    · have hne : C.wrt f ≠ some p := fun hk' => by rw [hk] at hk'; cases hk'; exact he rfl
      simp only [passL, pass1, Option.bind_eq_bind, Option.bind_eq_some_iff, if_neg hne] at hy
      obtain ⟨y, hy1, ys', hy2, hee⟩ := hy
      cases hee
      obtain ⟨x', v', y', e, gs, rest, q1, q2, q3, q4, q5, q6⟩ := passL_wrt h hk (p := p + 1) (by omega) (by simp only [List.length_cons] at hlt; omega) h2 hy2
      have ee : lentL C σ f p (x :: xs) = (leaves x).flatMap (lentOf σ) ++ lentL C σ f (p + 1) xs := by simp [lentL, hne]
      rw [ee]
      have r1 := (passArg_ok h h1 hy1).mono (F' := lentF F σ fp ((leaves x).flatMap (lentOf σ) ++ lentL C σ f (p + 1) xs)) (w' := w) (fun b hb => lentF_mono (fun e he => List.mem_append.2 (.inl he)) hb) (fun _ _ => rfl)
      have r2 := q6.mono (F' := lentF F σ fp ((leaves x).flatMap (lentOf σ) ++ lentL C σ f (p + 1) xs)) (w' := w) (fun b hb => lentF_mono (fun e he => List.mem_append.2 (.inr he)) hb) (fun _ _ => rfl)
      have hi : k - p = (k - (p + 1)) + 1 := by omega
      rw [hi]
      refine ⟨x', v', y', e, gs, rest, by simpa using q1, by simpa using q2, by simpa using q3, q4, q5, ?_⟩
      exact .cons (f1 := []) (.of_val r1) r2
  | [], _, _ :: _, _, _, _, h, _ => h.elim
  | _ :: _, _, [], _, _, _, h, _ => h.elim

/-! ### Behind the call -/
theorem Rel.freezeL : ∀ {es : List Nat} {σ : St} {F : Nat → Prop} {fp : Nat → List Nat}, Rel n w0 F0 S0 G F μ fp L σ a w → (∀ e ∈ es, (σ.en e).live = true) →
    ∃ F' fp', Rel n w0 F0 S0 G F' μ fp' L (Vm.freezeL σ es) a w ∧ (∀ b, F b → F' b) ∧ (∀ e ∈ es, ∀ b ∈ fp e, F' b) ∧ ∀ e, e ∉ es → fp' e = fp e ∧ (Vm.freezeL σ es).en e = σ.en e
  | [], σ, F, fp, h, _ => ⟨F, fp, h, fun _ h => h, by simp, fun _ _ => ⟨rfl, rfl⟩⟩
  | e :: es, σ, F, fp, h, hl => by
    have hle := hl e (by simp)
    simp only [Vm.freezeL]
    split
    · rename_i hf
      obtain ⟨F', fp', r1, r2, r3, r4⟩ := Rel.freezeL (es := es) h (fun e' he' => hl e' (by simp [he']))
      refine ⟨F', fp', r1, r2, fun e' he' b hb => ?_, fun e' he' => r4 e' (fun hx => he' (List.mem_cons_of_mem _ hx))⟩
      rcases List.mem_cons.1 he' with rfl | he'
      · rw [h.frz_fp hle hf] at hb; cases hb
      · exact r3 e' he' b hb
    · rename_i hf
      have hf : (σ.en e).frz = false := by simpa using hf
      have hz := (h.freeze e hle hf).1
      obtain ⟨F', fp', r1, r2, r3, r4⟩ := Rel.freezeL (es := es) hz (fun e' he' => by
        by_cases he : e' = e
        · subst he; simpa [St.freeze, St.ent, upd] using hle
        · simpa [St.freeze, St.ent, upd, he] using hl e' (by simp [he']))
      refine ⟨F', fp', r1, fun b hb => r2 b (.inl hb), fun e' he' b hb => ?_, fun e' he' => ?_⟩
      · by_cases he : e' = e
        · subst he; exact r2 b (.inr hb)
        · rcases List.mem_cons.1 he' with rfl | he'
          · exact absurd rfl he
          · exact r3 e' he' b (by rw [upd_ne _ _ _ _ he]; exact hb)
      · have hne : e' ≠ e := fun hx => he' (by rw [hx]; simp)
        obtain ⟨k1, k2⟩ := r4 e' (fun hx => he' (List.mem_cons_of_mem _ hx))
        rw [k1, k2, upd_ne _ _ _ _ hne]
        exact ⟨rfl, by simp [St.freeze, St.ent, upd, hne]⟩

theorem hasFroL_flat : ∀ {l : List AV}, hasFro.hasFroL l = false → hasFro.hasFroL (l.flatMap leaves) = false
  | [], _ => rfl
  | x :: xs, h => by
    simp only [hasFro.hasFroL, Bool.or_eq_false_iff] at h
    have happ : ∀ l l' : List AV, hasFro.hasFroL l = false → hasFro.hasFroL l' = false → hasFro.hasFroL (l ++ l') = false := by
      intro l l' h1 h2
      induction l with
      | nil => exact h2
      | cons y ys ih =>
        simp only [hasFro.hasFroL, Bool.or_eq_false_iff] at h1
        simp only [List.cons_append, hasFro.hasFroL, Bool.or_eq_false_iff]
        exact ⟨h1.1, ih h1.2⟩
    rw [List.flatMap_cons]
    refine happ _ _ ?_ (hasFroL_flat h.2)
    cases x with
    | agg fs => simpa [leaves, hasFro] using h.1
    | _ => simp only [leaves, hasFro.hasFroL, Bool.or_false]; exact h.1

/-- What bears nothing that is frozen needs no frozen block. -/
theorem RepL.noFro {F' : Nat → Prop} {vs : List Value} {xs : List AV} {f : List Nat} (h : RepL F w vs xs f) (hx : hasFro.hasFroL xs = false) : RepL F' w vs xs f := by
  induction h with
  | nil => exact .nil
  | und hv t ih => simp only [hasFro.hasFroL, Bool.or_eq_false_iff] at hx; exact .und hv (ih hx.2)
  | int t ih => simp only [hasFro.hasFroL, Bool.or_eq_false_iff] at hx; exact .int (ih hx.2)
  | bool t ih => simp only [hasFro.hasFroL, Bool.or_eq_false_iff] at hx; exact .bool (ih hx.2)
  | str t ih => simp only [hasFro.hasFroL, Bool.or_eq_false_iff] at hx; exact .str (ih hx.2)
  | fro0 hc t ih => simp only [hasFro.hasFroL, Bool.or_eq_false_iff] at hx; exact .fro0 hc (ih hx.2)
  | @fro b o n c sz clip l us vs xs f hn hnc hc hF hcell hsz hu t ihu ih =>
    simp only [hasFro.hasFroL, Bool.or_eq_false_iff] at hx
    cases l with
    | nil =>
      simp at hn
      subst hn
      exact .fro0 hc (ih hx.2)
    | cons y ys => simp [hasFro] at hx
  | own0 t ih => simp only [hasFro.hasFroL, Bool.or_eq_false_iff] at hx; exact .own0 (ih hx.2)
  | own hn hnc hb hcap hcell hsz hu t ihu ih =>
    simp only [hasFro.hasFroL, Bool.or_eq_false_iff] at hx
    exact .own hn hnc hb hcap hcell hsz (ihu (hasFroL_flat (by simpa [hasFro] using hx.1))) (ih hx.2)
  | cptr => simp [hasFro.hasFroL, hasFro] at hx
  | clo => simp [hasFro.hasFroL, hasFro] at hx

theorem ValRep.noFro {F' : Nat → Prop} {v : Value} {x : AV} {f : List Nat} (h : ValRep F w v x f) (hx : hasFro x = false) : ValRep F' w v x f := by
  cases x with
  | agg fs => obtain ⟨cs, e, h⟩ := h; exact ⟨cs, e, h.noFro (by simpa [hasFro] using hx)⟩
  | _ => exact RepL.noFro (show RepL F w _ _ _ from h) (by simp only [hasFro.hasFroL, Bool.or_false]; exact hx)

theorem ValsRep.noFro {F' : Nat → Prop} {vs : List Value} {xs : List AV} {f : List Nat} (h : ValsRep F w vs xs f) (hx : hasFro.hasFroL xs = false) : ValsRep F' w vs xs f := by
  induction h with
  | nil => exact .nil
  | cons h1 h2 ih => simp only [hasFro.hasFroL, Bool.or_eq_false_iff] at hx; exact .cons (h1.noFro hx.1) (ih hx.2)

theorem ResRep.noFro {F' : Nat → Prop} {v : Value} {x : AV} {f : List Nat} (h : ResRep F w v x f) (hx : hasFro x = false) : ResRep F' w v x f := by
  cases x with
  | tup xs => obtain ⟨cs, e, h⟩ := h; exact ⟨cs, e, h.noFro (by simpa [hasFro] using hx)⟩
  | pt sz l i j =>
    obtain ⟨b, cur, et, us, f1, h1, h2, h3, h4, h5, rfl⟩ := h
    exact ⟨b, cur, et, us, f1, h1, h2, h3, h4, h5.noFro (hasFroL_flat (by simpa [hasFro] using hx)), rfl⟩
  | _ => simp only [ResRep] at h ⊢; exact h.noFro hx

theorem ArgRep.noFro {F' : Nat → Prop} {v : Value} {x : AV} {f : List Nat} (h : ArgRep F w v x f) (hx : hasFro x = false) : ArgRep F' w v x f := by
  cases x with
  | pt sz l i j =>
    obtain ⟨b, cur, et, us, f1, h1, h2, h3, h4, h5, rfl⟩ := h
    exact ⟨b, cur, et, us, f1, h1, h2, h3, h4, h5.noFro (hasFroL_flat (by simpa [hasFro] using hx)), rfl⟩
  | _ => simp only [ArgRep] at h ⊢; exact h.noFro hx

/-! ### A result becomes temporaries' values -/
theorem takeLeaf_ok {f : List Nat} (h : Rel n w0 F0 S0 G F μ fp (f ++ L) σ a w) {v : Value} {x y : AV} {d j : Nat} (hx : RepL F w [v] [x] f) (ht : takeLeaf d j σ x = (y, σ')) :
    ∃ μ' fp', Rel n w0 F0 S0 G F μ' fp' L σ' a w ∧ SLeaf F w σ'.en μ' fp' v y ∧ Step F w σ.en μ fp F w σ'.en μ' fp' ∧ σ'.sl = σ.sl := by
  have other : (∀ sz l, x ≠ .own sz l) → (y, σ') = (x, σ) → ∃ μ' fp', Rel n w0 F0 S0 G F μ' fp' L σ' a w ∧ SLeaf F w σ'.en μ' fp' v y ∧ Step F w σ.en μ fp F w σ'.en μ' fp' ∧ σ'.sl = σ.sl := by
    intro hne he
    cases he
    obtain rfl := hx.leaf_nil hne
    exact ⟨μ, fp, by simpa using h, hx.sleaf hne, Step.refl _ _ _ _ _, rfl⟩
  cases x with
  | own sz l =>
    simp only [takeLeaf, Prod.mk.injEq] at ht
    obtain ⟨rfl, rfl⟩ := ht
    have hg : (σ.en (eid d j)).gen + 1 ≤ ((σ.fresh (eid d j) sz l).en (eid d j)).gen := by simp [St.fresh, St.ent, upd]
    rcases hx.own_inv with ⟨rfl, rfl, A, rfl⟩ | ⟨g, c, et, cur, us, f1, rfl, hlc, hb, hcap, hcell, hsz, hu, rfl⟩
    · obtain ⟨r1, r2⟩ := Rel.newNil (L := L) (by simpa using h) (eid d j) sz
      exact ⟨_, _, r1, ⟨hg, fun _ _ => ⟨A, 0, rfl, Nat.le_refl _, fun _ => rfl, fun _ => by simp [St.fresh, St.ent, upd], fun h0 => absurd h0 (by simp)⟩⟩, r2, rfl⟩
    · have hnd := List.nodup_append.1 h.looseNodup
      obtain ⟨r1, r2⟩ := h.fresh (w' := w) (L' := L) (m := some g) (f := g :: f1) (eid d j) sz l (fun b hb => .inl (by simp only [List.mem_append]; exact .inl hb)) (List.sublist_append_right _ _) (fun b hb hb2 => hnd.2.2 b hb b hb2 rfl) hnd.1 (KeptS.refl _ _)
        (fun b hm => by cases hm; exact (Array.getElem?_eq_some_iff.1 hb).1) ⟨hsz, .inr ⟨g, cur, et, (0, 0), us, f1, rfl, hb, hcell, hu, .inr ⟨rfl, rfl, rfl⟩⟩⟩
      refine ⟨_, _, r1, ⟨hg, fun _ _ => ⟨_, c, rfl, hlc, by simp, fun _ => ?_, fun _ => ⟨g, cur, et, (0, 0), by simp [upd], ?_, hb, ?_⟩⟩⟩, r2, rfl⟩
      · simpa [St.fresh, St.ent, upd] using hlc
      · simp
      · simpa [St.fresh, St.ent, upd] using hcap
  | _ => exact other (by simp) ht.symm

end
end Go.Vm
