/- A part of the evaluator of the walks. Conditions: none but those ahead of each theorem. -/
import Derived.Test.YtklhdnjhgbglhaaGreatYLib3
section
/- What is lent to a call, and what comes back. -/
namespace Go.Vm
section
variable {C : Cfg} {n : Nat} {w0 : World} {F0 S0 F : Nat → Prop} {G : Value → AV → Prop} {μ : Nat → Option Nat} {fp : Nat → List Nat} {L : List Nat} {σ σ' : St} {a : Act} {w w' : World} {o : Oper}
theorem passL_plain (h : Rel n w0 F0 S0 G F μ fp L σ a w) {f : Nat} : ∀ {xs ys : List AV} {vs : List Value} {p : Nat}, (∀ k, C.wrt f = some k → k < p ∨ p + xs.length ≤ k) → All2 (SRep F w σ.en μ fp) vs xs → passL C σ f p xs = some ys → ArgsRep (lentF F σ fp (lentL C σ f p xs)) w vs ys []
  | [], ys, [], _, _, _, hy => by cases hy; exact .nil
  | x :: xs, ys, v :: vs, p, hw, ⟨h1, h2⟩, hy => by
    have hne : C.wrt f ≠ some p := fun hk => by have := hw p hk; simp at this; omega
    simp only [passL, pass1, Option.bind_eq_bind, Option.bind_eq_some_iff, if_neg hne] at hy
    obtain ⟨y, hy1, ys', hy2, he⟩ := hy
    cases he
    have e : lentL C σ f p (x :: xs) = (leaves x).flatMap (lentOf σ) ++ lentL C σ f (p + 1) xs := by simp [lentL, hne]
    rw [e]
    have r1 := (passArg_ok h h1 hy1).mono (F' := lentF F σ fp ((leaves x).flatMap (lentOf σ) ++ lentL C σ f (p + 1) xs)) (w' := w) (fun b hb => lentF_mono (fun e he => List.mem_append.2 (.inl he)) hb) (fun _ _ => rfl)
    have r2 := (passL_plain h (fun k hk => by have := hw k hk; simp only [List.length_cons] at this; omega) h2 hy2).mono (F' := lentF F σ fp ((leaves x).flatMap (lentOf σ) ++ lentL C σ f (p + 1) xs)) (w' := w) (fun b hb => lentF_mono (fun e he => List.mem_append.2 (.inr he)) hb) (fun _ _ => rfl)
    exact .cons (f1 := []) (.of_val r1) r2
  | [], _, _ :: _, _, _, h, _ => h.elim
  | _ :: _, _, [], _, _, h, _ => h.elim
theorem passL_wrt (h : Rel n w0 F0 S0 G F μ fp L σ a w) {f k : Nat} (hk : C.wrt f = some k) : ∀ {xs ys : List AV} {vs : List Value} {p : Nat}, p ≤ k → k < p + xs.length → All2 (SRep F w σ.en μ fp) vs xs → passL C σ f p xs = some ys →
    ∃ x v y e gs rest, xs[k - p]? = some x ∧ vs[k - p]? = some v ∧ ys[k - p]? = some y ∧ entW x = some e ∧ Lent F w σ μ fp x v y e gs rest ∧ ArgsRep (lentF F σ fp (lentL C σ f p xs)) w vs ys gs
  | [], ys, [], p, h1, h2, _, _ => by simp at h2; omega
  | x :: xs, ys, v :: vs, p, hpk, hlt, ⟨h1, h2⟩, hy => by
    by_cases he : k = p
    · subst he
      simp only [passL, pass1, Option.bind_eq_bind, Option.bind_eq_some_iff, hk, if_true] at hy
      obtain ⟨y, hy1, ys', hy2, he⟩ := hy
      cases he
      have hs : SLeaf F w σ.en μ fp v x := by
        cases x <;> first | (simp [lendW] at hy1; done) | exact h1
      obtain ⟨e, gs, rest, q1, q2⟩ := lendW_ok h hs hy1
      have r2 := (passL_plain h (fun k' hk' => by rw [hk] at hk'; cases hk'; omega) h2 hy2).mono (F' := lentF F σ fp (lentL C σ f k (x :: xs))) (w' := w) (fun b hb => lentF_mono (fun e he => by simp [lentL, hk]; exact he) hb) (fun _ _ => rfl)
      refine ⟨x, v, y, e, gs, rest, by simp, by simp, by simp, q1, q2, ?_⟩
      have := ArgsRep.cons (q2.rep.mono (F' := lentF F σ fp (lentL C σ f k (x :: xs))) (w' := w) (fun b hb => .inl hb) (fun _ _ => rfl)) r2
      simpa using this
    · have hne : C.wrt f ≠ some p := fun hk' => by rw [hk] at hk'; cases hk'; exact he rfl
      simp only [passL, pass1, Option.bind_eq_bind, Option.bind_eq_some_iff, if_neg hne] at hy
      obtain ⟨y, hy1, ys', hy2, hee⟩ := hy
      cases hee
      obtain ⟨x', v', y', e, gs, rest, q1, q2, q3, q4, q5, q6⟩ := passL_wrt h hk (p := p + 1) (by omega) (by simp only [List.length_cons] at hlt; omega) h2 hy2
      have ee : lentL C σ f p (x :: xs) = (leaves x).flatMap (lentOf σ) ++ lentL C σ f (p + 1) xs := by simp [lentL, hne]
      rw [ee]
      have r1 := (passArg_ok h h1 hy1).mono (F' := lentF F σ fp ((leaves x).flatMap (lentOf σ) ++ lentL C σ f (p + 1) xs)) (w' := w) (fun b hb => lentF_mono (fun e he => List.mem_append.2 (.inl he)) hb) (fun _ _ => rfl)
      have r2 := q6.mono (F' := lentF F σ fp ((leaves x).flatMap (lentOf σ) ++ lentL C σ f (p + 1) xs)) (w' := w) (fun b hb => lentF_mono (fun e he => List.mem_append.2 (.inr he)) hb) (fun _ _ => rfl)
      have hi : k - p = (k - (p + 1)) + 1 := by omega
      rw [hi]
      refine ⟨x', v', y', e, gs, rest, by simpa using q1, by simpa using q2, by simpa using q3, q4, q5, ?_⟩
      exact .cons (f1 := []) (.of_val r1) r2
  | [], _, _ :: _, _, _, _, h, _ => h.elim
  | _ :: _, _, [], _, _, _, h, _ => h.elim
/-! ### Behind the call -/
theorem Rel.freezeL : ∀ {es : List Nat} {σ : St} {F : Nat → Prop} {fp : Nat → List Nat}, Rel n w0 F0 S0 G F μ fp L σ a w → (∀ e ∈ es, (σ.en e).live = true) →
    ∃ F' fp', Rel n w0 F0 S0 G F' μ fp' L (Vm.freezeL σ es) a w ∧ (∀ b, F b → F' b) ∧ (∀ e ∈ es, ∀ b ∈ fp e, F' b) ∧ ∀ e, e ∉ es → fp' e = fp e ∧ (Vm.freezeL σ es).en e = σ.en e
  | [], σ, F, fp, h, _ => ⟨F, fp, h, fun _ h => h, by simp, fun _ _ => ⟨rfl, rfl⟩⟩
  | e :: es, σ, F, fp, h, hl => by
    have hle := hl e (by simp)
    simp only [Vm.freezeL]
    split
    · rename_i hf
      obtain ⟨F', fp', r1, r2, r3, r4⟩ := Rel.freezeL (es := es) h (fun e' he' => hl e' (by simp [he']))
      refine ⟨F', fp', r1, r2, fun e' he' b hb => ?_, fun e' he' => r4 e' (fun hx => he' (List.mem_cons_of_mem _ hx))⟩
      rcases List.mem_cons.1 he' with rfl | he'
      · rw [h.frz_fp hle hf] at hb; cases hb
      · exact r3 e' he' b hb
    · rename_i hf
      have hf : (σ.en e).frz = false := by simpa using hf
      have hz := (h.freeze e hle hf).1
      obtain ⟨F', fp', r1, r2, r3, r4⟩ := Rel.freezeL (es := es) hz (fun e' he' => by
        by_cases he : e' = e
        · subst he; simpa [St.freeze, St.ent, upd] using hle
        · simpa [St.freeze, St.ent, upd, he] using hl e' (by simp [he']))
      refine ⟨F', fp', r1, fun b hb => r2 b (.inl hb), fun e' he' b hb => ?_, fun e' he' => ?_⟩
      · by_cases he : e' = e
        · subst he; exact r2 b (.inr hb)
        · rcases List.mem_cons.1 he' with rfl | he'
          · exact absurd rfl he
          · exact r3 e' he' b (by rw [upd_ne _ _ _ _ he]; exact hb)
      · have hne : e' ≠ e := fun hx => he' (by rw [hx]; simp)
        obtain ⟨k1, k2⟩ := r4 e' (fun hx => he' (List.mem_cons_of_mem _ hx))
        rw [k1, k2, upd_ne _ _ _ _ hne]
        exact ⟨rfl, by simp [St.freeze, St.ent, upd, hne]⟩
theorem hasFroL_flat : ∀ {l : List AV}, hasFro.hasFroL l = false → hasFro.hasFroL (l.flatMap leaves) = false
  | [], _ => rfl
  | x :: xs, h => by
    simp only [hasFro.hasFroL, Bool.or_eq_false_iff] at h
    have happ : ∀ l l' : List AV, hasFro.hasFroL l = false → hasFro.hasFroL l' = false → hasFro.hasFroL (l ++ l') = false := by
      intro l l' h1 h2
      induction l with
      | nil => exact h2
      | cons y ys ih =>
        simp only [hasFro.hasFroL, Bool.or_eq_false_iff] at h1
        simp only [List.cons_append, hasFro.hasFroL, Bool.or_eq_false_iff]
        exact ⟨h1.1, ih h1.2⟩
    rw [List.flatMap_cons]
    refine happ _ _ ?_ (hasFroL_flat h.2)
    cases x with
    | agg fs => simpa [leaves, hasFro] using h.1
    | _ => simp only [leaves, hasFro.hasFroL, Bool.or_false]; exact h.1
theorem RepL.noFro {F' : Nat → Prop} {vs : List Value} {xs : List AV} {f : List Nat} (h : RepL F w vs xs f) (hx : hasFro.hasFroL xs = false) : RepL F' w vs xs f := by
  induction h with
  | nil => exact .nil
  | und hv t ih => simp only [hasFro.hasFroL, Bool.or_eq_false_iff] at hx; exact .und hv (ih hx.2)
  | int t ih => simp only [hasFro.hasFroL, Bool.or_eq_false_iff] at hx; exact .int (ih hx.2)
  | bool t ih => simp only [hasFro.hasFroL, Bool.or_eq_false_iff] at hx; exact .bool (ih hx.2)
  | str t ih => simp only [hasFro.hasFroL, Bool.or_eq_false_iff] at hx; exact .str (ih hx.2)
  | fro0 hc t ih => simp only [hasFro.hasFroL, Bool.or_eq_false_iff] at hx; exact .fro0 hc (ih hx.2)
  | @fro b o n c sz clip l us vs xs f hn hnc hc hF hcell hsz hu t ihu ih =>
    simp only [hasFro.hasFroL, Bool.or_eq_false_iff] at hx
    cases l with
    | nil =>
      simp at hn
      subst hn
      exact .fro0 hc (ih hx.2)
    | cons y ys => simp [hasFro] at hx
  | own0 t ih => simp only [hasFro.hasFroL, Bool.or_eq_false_iff] at hx; exact .own0 (ih hx.2)
  | own hn hnc hb hcap hcell hsz hu t ihu ih =>
    simp only [hasFro.hasFroL, Bool.or_eq_false_iff] at hx
    exact .own hn hnc hb hcap hcell hsz (ihu (hasFroL_flat (by simpa [hasFro] using hx.1))) (ih hx.2)
  | cptr => simp [hasFro.hasFroL, hasFro] at hx
  | clo => simp [hasFro.hasFroL, hasFro] at hx
theorem ValRep.noFro {F' : Nat → Prop} {v : Value} {x : AV} {f : List Nat} (h : ValRep F w v x f) (hx : hasFro x = false) : ValRep F' w v x f := by
  cases x with
  | agg fs => obtain ⟨cs, e, h⟩ := h; exact ⟨cs, e, h.noFro (by simpa [hasFro] using hx)⟩
  | _ => exact RepL.noFro (show RepL F w _ _ _ from h) (by simp only [hasFro.hasFroL, Bool.or_false]; exact hx)
theorem ValsRep.noFro {F' : Nat → Prop} {vs : List Value} {xs : List AV} {f : List Nat} (h : ValsRep F w vs xs f) (hx : hasFro.hasFroL xs = false) : ValsRep F' w vs xs f := by
  induction h with
  | nil => exact .nil
  | cons h1 h2 ih => simp only [hasFro.hasFroL, Bool.or_eq_false_iff] at hx; exact .cons (h1.noFro hx.1) (ih hx.2)
theorem ResRep.noFro {F' : Nat → Prop} {v : Value} {x : AV} {f : List Nat} (h : ResRep F w v x f) (hx : hasFro x = false) : ResRep F' w v x f := by
  cases x with
  | tup xs => obtain ⟨cs, e, h⟩ := h; exact ⟨cs, e, h.noFro (by simpa [hasFro] using hx)⟩
  | pt sz l i j =>
    obtain ⟨b, cur, et, us, f1, h1, h2, h3, h4, h5, rfl⟩ := h
    exact ⟨b, cur, et, us, f1, h1, h2, h3, h4, h5.noFro (hasFroL_flat (by simpa [hasFro] using hx)), rfl⟩
  | _ => simp only [ResRep] at h ⊢; exact h.noFro hx
theorem ArgRep.noFro {F' : Nat → Prop} {v : Value} {x : AV} {f : List Nat} (h : ArgRep F w v x f) (hx : hasFro x = false) : ArgRep F' w v x f := by
  cases x with
  | pt sz l i j =>
    obtain ⟨b, cur, et, us, f1, h1, h2, h3, h4, h5, rfl⟩ := h
    exact ⟨b, cur, et, us, f1, h1, h2, h3, h4, h5.noFro (hasFroL_flat (by simpa [hasFro] using hx)), rfl⟩
  | _ => simp only [ArgRep] at h ⊢; exact h.noFro hx
/-! ### A result becomes temporaries' values -/
theorem takeLeaf_ok {f : List Nat} (h : Rel n w0 F0 S0 G F μ fp (f ++ L) σ a w) {v : Value} {x y : AV} {d j : Nat} (hx : RepL F w [v] [x] f) (ht : takeLeaf d j σ x = (y, σ')) :
    ∃ μ' fp', Rel n w0 F0 S0 G F μ' fp' L σ' a w ∧ SLeaf F w σ'.en μ' fp' v y ∧ Step F w σ.en μ fp F w σ'.en μ' fp' ∧ σ'.sl = σ.sl := by
  have other : (∀ sz l, x ≠ .own sz l) → (y, σ') = (x, σ) → ∃ μ' fp', Rel n w0 F0 S0 G F μ' fp' L σ' a w ∧ SLeaf F w σ'.en μ' fp' v y ∧ Step F w σ.en μ fp F w σ'.en μ' fp' ∧ σ'.sl = σ.sl := by
    intro hne he
    cases he
    obtain rfl := hx.leaf_nil hne
    exact ⟨μ, fp, by simpa using h, hx.sleaf hne, Step.refl _ _ _ _ _, rfl⟩
  cases x with
  | own sz l =>
    simp only [takeLeaf, Prod.mk.injEq] at ht
    obtain ⟨rfl, rfl⟩ := ht
    have hg : (σ.en (eid d j)).gen + 1 ≤ ((σ.fresh (eid d j) sz l).en (eid d j)).gen := by simp [St.fresh, St.ent, upd]
    rcases hx.own_inv with ⟨rfl, rfl, A, rfl⟩ | ⟨g, c, et, cur, us, f1, rfl, hlc, hb, hcap, hcell, hsz, hu, rfl⟩
    · obtain ⟨r1, r2⟩ := Rel.newNil (L := L) (by simpa using h) (eid d j) sz
      exact ⟨_, _, r1, ⟨hg, fun _ _ => ⟨A, 0, rfl, Nat.le_refl _, fun _ => rfl, fun _ => by simp [St.fresh, St.ent, upd], fun h0 => absurd h0 (by simp)⟩⟩, r2, rfl⟩
    · have hnd := List.nodup_append.1 h.looseNodup
      obtain ⟨r1, r2⟩ := h.fresh (w' := w) (L' := L) (m := some g) (f := g :: f1) (eid d j) sz l (fun b hb => .inl (by simp only [List.mem_append]; exact .inl hb)) (List.sublist_append_right _ _) (fun b hb hb2 => hnd.2.2 b hb b hb2 rfl) hnd.1 (KeptS.refl _ _)
        (fun b hm => by cases hm; exact (Array.getElem?_eq_some_iff.1 hb).1) ⟨hsz, .inr <| .inl ⟨g, cur, et, (0, 0), us, f1, rfl, hb, hcell, hu, .inr ⟨rfl, rfl, rfl⟩⟩⟩
      refine ⟨_, _, r1, ⟨hg, fun _ _ => ⟨_, c, rfl, hlc, by simp, fun _ => ?_, fun _ => ⟨g, cur, et, (0, 0), by simp [upd], ?_, hb, ?_⟩⟩⟩, r2, rfl⟩
      · simpa [St.fresh, St.ent, upd] using hlc
      · simp
      · simpa [St.fresh, St.ent, upd] using hcap
  | _ => exact other (by simp) ht.symm
end
end Go.Vm
end
section
/- Calls. -/
namespace Go.Vm
section
variable {C : Cfg} {n : Nat} {w0 : World} {F0 S0 F : Nat → Prop} {G : Value → AV → Prop} {μ : Nat → Option Nat} {fp : Nat → List Nat} {L : List Nat} {σ σ' : St} {a : Act} {w w' : World} {o : Oper}
theorem takeL_ok : ∀ {xs ys : List AV} {vs : List Value} {f : List Nat} {j d : Nat} {σ σ' : St} {μ : Nat → Option Nat} {fp : Nat → List Nat} {L : List Nat}, Rel n w0 F0 S0 G F μ fp (f ++ L) σ a w → RepL F w vs xs f → takeL d j xs σ = (ys, σ') →
    ∃ μ' fp', Rel n w0 F0 S0 G F μ' fp' L σ' a w ∧ All2 (SLeaf F w σ'.en μ' fp') vs ys ∧ (∀ v x, SLeaf F w σ.en μ fp v x → SLeaf F w σ'.en μ' fp' v x) ∧ σ'.sl = σ.sl
  | [], ys, vs, f, j, d, σ, σ', μ, fp, L, h, hr, ht => by
    simp only [takeL, Prod.mk.injEq] at ht
    obtain ⟨rfl, rfl⟩ := ht
    cases hr
    exact ⟨μ, fp, by simpa using h, trivial, fun _ _ h => h, rfl⟩
  | x :: xs, ys, vs, f, j, d, σ, σ', μ, fp, L, h, hr, ht => by
    cases vs with
    | nil => cases hr
    | cons v vs =>
      obtain ⟨f1, f2, rfl, h1, h2⟩ := hr.cons_inv
      simp only [takeL, Prod.mk.injEq] at ht
      obtain ⟨rfl, rfl⟩ := ht
      cases e1 : takeLeaf d j σ x with
      | mk y σ1 =>
      obtain ⟨μ1, fp1, r1, r2, r3, r4⟩ := takeLeaf_ok (L := f2 ++ L) (by simpa using h) h1 e1
      cases e2 : takeL d (j + 1) xs σ1 with
      | mk ys' σ2 =>
      obtain ⟨μ2, fp2, s1, s2, s3, s4⟩ := takeL_ok r1 h2 e2
      exact ⟨μ2, fp2, s1, ⟨s3 _ _ r2, s2⟩, fun v x hx => s3 _ _ (hx.step r3), s4.trans r4⟩
theorem takeV_ok {f : List Nat} (h : Rel n w0 F0 S0 G F μ fp (f ++ L) σ a w) {v : Value} {x y : AV} {d j : Nat} (hx : ValRep F w v x f) (ht : takeV d j σ x = (y, σ')) :
    ∃ μ' fp', Rel n w0 F0 S0 G F μ' fp' L σ' a w ∧ SAgg F w σ'.en μ' fp' v y ∧ (∀ v x, SLeaf F w σ.en μ fp v x → SLeaf F w σ'.en μ' fp' v x) ∧ σ'.sl = σ.sl := by
  have leaf : RepL F w [v] [x] f → takeLeaf d j σ x = (y, σ') → ∃ μ' fp', Rel n w0 F0 S0 G F μ' fp' L σ' a w ∧ SAgg F w σ'.en μ' fp' v y ∧ (∀ v x, SLeaf F w σ.en μ fp v x → SLeaf F w σ'.en μ' fp' v x) ∧ σ'.sl = σ.sl := by
    intro hr ht
    obtain ⟨μ', fp', r1, r2, r3, r4⟩ := takeLeaf_ok h hr ht
    refine ⟨μ', fp', r1, ?_, fun v x hx => hx.step r3, r4⟩
    cases y with
    | agg => exact r2.elim
    | _ => exact r2
  cases x with
  | agg fs =>
    obtain ⟨cs, rfl, hr⟩ := hx
    simp only [takeV, Prod.mk.injEq] at ht
    obtain ⟨rfl, rfl⟩ := ht
    cases e1 : takeL d j fs σ with
    | mk ys σ1 =>
    obtain ⟨μ', fp', r1, r2, r3, r4⟩ := takeL_ok h hr e1
    exact ⟨μ', fp', r1, ⟨cs, rfl, r2⟩, r3, r4⟩
  | _ => exact leaf hx ht
theorem SAgg.trans {en en' : Nat → Ent} {μ' : Nat → Option Nat} {fp' : Nat → List Nat} (ht : ∀ v x, SLeaf F w en μ fp v x → SLeaf F w en' μ' fp' v x) {v : Value} {x : AV} (h : SAgg F w en μ fp v x) : SAgg F w en' μ' fp' v x := by
  cases x with
  | agg fs => obtain ⟨cs, e, h⟩ := h; exact ⟨cs, e, h.imp ht⟩
  | _ => simp only [SAgg] at h ⊢; exact ht _ _ h
theorem takeTup_ok : ∀ {xs ys : List AV} {vs : List Value} {f : List Nat} {j d : Nat} {σ σ' : St} {μ : Nat → Option Nat} {fp : Nat → List Nat} {L : List Nat}, Rel n w0 F0 S0 G F μ fp (f ++ L) σ a w → ValsRep F w vs xs f → takeTup d j xs σ = (ys, σ') →
    ∃ μ' fp', Rel n w0 F0 S0 G F μ' fp' L σ' a w ∧ All2 (SAgg F w σ'.en μ' fp') vs ys ∧ (∀ v x, SLeaf F w σ.en μ fp v x → SLeaf F w σ'.en μ' fp' v x) ∧ σ'.sl = σ.sl
  | [], ys, vs, f, j, d, σ, σ', μ, fp, L, h, hr, ht => by
    simp only [takeTup, Prod.mk.injEq] at ht
    obtain ⟨rfl, rfl⟩ := ht
    cases hr
    exact ⟨μ, fp, by simpa using h, trivial, fun _ _ h => h, rfl⟩
  | x :: xs, ys, vs, f, j, d, σ, σ', μ, fp, L, h, hr, ht => by
    cases hr with
    | @cons v _ vs _ f1 f2 h1 h2 =>
    simp only [takeTup, Prod.mk.injEq] at ht
    obtain ⟨rfl, rfl⟩ := ht
    cases e1 : takeV d j σ x with
    | mk y σ1 =>
    obtain ⟨μ1, fp1, r1, r2, r3, r4⟩ := takeV_ok (L := f2 ++ L) (by simpa using h) h1 e1
    cases e2 : takeTup d (j + (leaves x).length) xs σ1 with
    | mk ys' σ2 =>
    obtain ⟨μ2, fp2, s1, s2, s3, s4⟩ := takeTup_ok r1 h2 e2
    exact ⟨μ2, fp2, s1, ⟨SAgg.trans s3 r2, s2⟩, fun v x hx => s3 _ _ (r3 _ _ hx), s4.trans r4⟩
theorem SRep.of_agg {en : Nat → Ent} {v : Value} {x : AV} (h : SAgg F w en μ fp v x) : SRep F w en μ fp v x := by
  cases x with
  | tup => exact h.elim
  | pt => exact h.elim
  | _ => exact h
theorem takeRes_ok {f : List Nat} (h : Rel n w0 F0 S0 G F μ fp f σ a w) {dst : Option Nat} (hd : ∀ k, dst = some k → k < n) {v : Value} {r : AV} (hr : ResRep F w v r f) :
    ∃ μ' fp', Rel n w0 F0 S0 G F μ' fp' [] (takeRes dst σ r) (a.put dst v) w := by
  cases dst with
  | none => exact ⟨μ, fp, h.drop (List.nil_sublist _)⟩
  | some d =>
    have one : ValRep F w v r f → takeRes (some d) σ r = ((takeV d 0 σ r).2.put (some d) (takeV d 0 σ r).1) → ∃ μ' fp', Rel n w0 F0 S0 G F μ' fp' [] (takeRes (some d) σ r) (a.put (some d) v) w := by
      intro hv he
      cases e : takeV d 0 σ r with
      | mk y σ1 =>
      obtain ⟨μ', fp', r1, r2, _⟩ := takeV_ok (L := []) (by simpa using h) hv e
      rw [he, e]
      exact ⟨μ', fp', r1.put (hd d rfl) (SRep.of_agg r2)⟩
    cases r with
    | tup xs =>
      obtain ⟨us, rfl, hv⟩ := hr
      cases e : takeTup d 0 xs σ with
      | mk ys σ1 =>
      obtain ⟨μ', fp', r1, r2, _⟩ := takeTup_ok (L := []) (by simpa using h) hv e
      refine ⟨μ', fp', ?_⟩
      have : takeRes (some d) σ (.tup xs) = σ1.put (some d) (.tup ys) := by simp only [takeRes, e]
      rw [this]
      exact r1.put (hd d rfl) (x := .tup ys) ⟨us, rfl, r2⟩
    | pt sz l i j =>
      obtain ⟨b, cur, et, us, f1, rfl, hb, hcell, hsz, hu, rfl⟩ := hr
      obtain ⟨r1, _⟩ := h.fresh (w' := w) (L' := []) (m := some b) (f := b :: f1) (eid d 0) sz l (fun b hb => .inl hb) (List.nil_sublist _) (fun b hb => by simp) h.looseNodup (KeptS.refl _ _)
        (fun b' hm => by cases hm; exact (Array.getElem?_eq_some_iff.1 hb).1) ⟨hsz, .inr <| .inl ⟨b, cur, et, (0, 0), us, f1, rfl, hb, hcell, hu, .inr ⟨rfl, rfl, rfl⟩⟩⟩
      have r2 : SLeaf F w (σ.fresh (eid d 0) sz l).en (upd μ (eid d 0) (some b)) (upd fp (eid d 0) (b :: f1)) (.pointer (some ⟨b, i * sz + j, none⟩)) (.ptr (eid d 0) ((σ.en (eid d 0)).gen + 1) i j) := by
        refine ⟨by simp [St.fresh, St.ent, upd], fun _ _ => ⟨b, by simp [upd], by simp [St.fresh, St.ent, upd], _, _, _, hb⟩⟩
      exact ⟨_, _, r1.put (hd d rfl) (x := .ptr (eid d 0) ((σ.en (eid d 0)).gen + 1) i j) r2⟩
    | _ => exact one hr rfl
def LeftRep (C : Cfg) (f : Nat) (F : Nat → Prop) (w : World) (vals : List Value) (args : List AV) (left : AV) (gs : List Nat) : Prop :=
  match C.wrt f with
  | none => gs = []
  | some k => (∃ u y, vals[k]? = some u ∧ args[k]? = some y ∧ sameShape y left ∧ ArgRep F w u left gs) ∨ (left = .tup [] ∧ gs = [])
def DoesR (C : Cfg) (f : Nat) (args : List AV) (R : AV → AV → Prop) : Prop :=
  ∀ (w : World) (F : Nat → Prop) (vals : List Value) (gs : List Nat), (∀ b, F b → b < w.heap.size) → ArgsRep F w vals args gs → gs.Nodup → (∀ b ∈ gs, ¬ F b ∧ b < w.heap.size) →
    Calls C.P f vals.toArray w fun e w' => ∃ v F' g gs' res left, R res left ∧ e = .returned v ∧ KeptS w w' (fun b => b ∈ gs) ∧ (∀ b, F b → F' b) ∧ (∀ b, F' b → b < w'.heap.size ∧ (F b ∨ b ∈ gs ∨ w.heap.size ≤ b)) ∧
      (∀ b ∈ g ++ gs', ¬ F' b ∧ (b ∈ gs ∨ w.heap.size ≤ b) ∧ b < w'.heap.size) ∧ (g ++ gs').Nodup ∧ ResRep F' w' v res g ∧ LeftRep C f F' w' vals args left gs'
def Plain (C : Cfg) (f : Nat) : Prop := ∃ fn c, C.P.funcs[f]? = some fn ∧ (fn.name == "runtime.NumGoroutine") = false ∧ fn.body = some c
def SpecOk (C : Cfg) (D : Spec) : Prop := ∀ f args R, D f args R → Plain C f ∧ DoesR C f args R
theorem lent_live (_h : Rel n w0 F0 S0 G F μ fp L σ a w) {f : Nat} : ∀ {xs ys : List AV} {p : Nat}, passL C σ f p xs = some ys → ∀ e ∈ lentL C σ f p xs, (σ.en e).live = true := by
  have leaf : ∀ {x y : AV}, lendLeaf σ x = some y → ∀ e ∈ lentOf σ x, (σ.en e).live = true := by
    intro x y hy e he
    unfold lentOf at he
    split at he
    · rename_i e' g off len clip
      simp only [lendLeaf, Option.bind_eq_bind, Option.bind_eq_some_iff] at hy
      obtain ⟨E, hE, _⟩ := hy
      split at he
      · cases he
      · simp at he; subst he; exact (cur_some hE).1
    · rename_i e' wv oo clip l
      simp only [lendLeaf, Option.bind_eq_bind, Option.bind_eq_some_iff] at hy
      obtain ⟨_, hv, _⟩ := hy
      split at he
      · cases he
      · simp at he; subst he; exact (ensure_some hv).1
    · rename_i e' g i j
      simp only [lendLeaf, Option.bind_eq_bind, Option.bind_eq_some_iff] at hy
      obtain ⟨E, hE, _⟩ := hy
      split at he
      · cases he
      · simp at he; subst he; exact (cur_some hE).1
    · rename_i e' wv c
      simp only [lendLeaf, Option.bind_eq_bind, Option.bind_eq_some_iff] at hy
      obtain ⟨_, hv, _⟩ := hy
      split at he
      · cases he
      · simp at he; subst he; exact (ensure_some hv).1
    · cases he
  have leafL : ∀ {xs ys : List AV}, lendL σ xs = some ys → ∀ e ∈ xs.flatMap (lentOf σ), (σ.en e).live = true := by
    intro xs
    induction xs with
    | nil => intro ys _ e he; simp at he
    | cons x xs ih =>
      intro ys hy e he
      simp only [lendL, Option.bind_eq_bind, Option.bind_eq_some_iff] at hy
      obtain ⟨y, h1, ys', h2, _⟩ := hy
      rw [List.flatMap_cons] at he
      rcases List.mem_append.1 he with he | he
      · exact leaf h1 e he
      · exact ih h2 e he
  intro xs
  induction xs with
  | nil => intro ys p _ e he; simp [lentL] at he
  | cons x xs ih =>
    intro ys p hy e he
    simp only [passL, Option.bind_eq_bind, Option.bind_eq_some_iff] at hy
    obtain ⟨y, h1, ys', h2, _⟩ := hy
    simp only [lentL] at he
    rcases List.mem_append.1 he with he | he
    · split at he
      · cases he
      rename_i hw
      rw [pass1, if_neg hw] at h1
      unfold passArg at h1
      split at h1
      · simp only [Option.bind_eq_bind, Option.bind_eq_some_iff] at h1
        obtain ⟨ls, hls, _⟩ := h1
        exact leafL hls e he
      · rename_i hna
        rw [leaves_length_of (fun fs hx => hna fs hx)] at he
        exact leaf h1 e (by simpa using he)
    · exact ih h2 e he
theorem passL_caps {f : Nat} : ∀ {xs cs ys : List AV} {p : Nat}, passL C σ f p (xs ++ cs) = some ys → ∃ y1 y2, ys = y1 ++ y2 ∧ passL C σ f p xs = some y1 ∧ passL C σ f (p + xs.length) cs = some y2
  | [], cs, ys, p, h => ⟨[], ys, rfl, rfl, by simpa using h⟩
  | x :: xs, cs, ys, p, h => by
    simp only [List.cons_append, passL, Option.bind_eq_bind, Option.bind_eq_some_iff] at h
    obtain ⟨y, h1, ys', h2, he⟩ := h
    cases he
    obtain ⟨y1, y2, rfl, h3, h4⟩ := passL_caps h2
    refine ⟨y :: y1, y2, rfl, ?_, ?_⟩
    · simp only [passL, h1, h3, Option.bind_eq_bind, Option.bind_some]
    · rw [List.length_cons, show p + (xs.length + 1) = p + 1 + xs.length by omega]; exact h4
theorem ValsRep.append {vs us : List Value} {xs ys : List AV} {f g : List Nat} (h : ValsRep F w vs xs f) (k : ValsRep F w us ys g) : ValsRep F w (vs ++ us) (xs ++ ys) (f ++ g) := by
  induction h with
  | nil => exact k
  | cons h1 h2 ih => rw [List.append_assoc]; exact .cons h1 ih
theorem caps_ok (h : Rel n w0 F0 S0 G F μ fp L σ a w) {f : Nat} : ∀ {cs ys : List AV} {us : List Value} {p : Nat}, (∀ k, C.wrt f = some k → k < p) → RepL F w us cs [] → passL C σ f p cs = some ys → ValsRep F w us ys []
  | [], ys, us, p, _, hr, hy => by cases hr; cases hy; exact .nil
  | c :: cs, ys, us, p, hw, hr, hy => by
    cases us with
    | nil => cases hr
    | cons u us =>
      obtain ⟨f1, f2, hf, h1, h2⟩ := hr.cons_inv
      obtain ⟨rfl, rfl⟩ := List.append_eq_nil_iff.1 hf.symm
      have hne : C.wrt f ≠ some p := fun hk => by have := hw p hk; omega
      simp only [passL, pass1, Option.bind_eq_bind, Option.bind_eq_some_iff, if_neg hne] at hy
      obtain ⟨y, hy1, ys', hy2, he⟩ := hy
      cases he
      have r2 := caps_ok h (fun k hk => Nat.lt_succ_of_lt (hw k hk)) h2 hy2
      refine .cons (f1 := []) ?_ r2
      unfold passArg at hy1
      cases c with
      | agg => cases h1
      | fro tg clip l =>
        cases tg with
        | none => cases hy1; exact h1
        | some => cases h1
      | cptr tg c =>
        cases tg with
        | none => cases hy1; exact h1
        | some => cases h1
      | _ => first | (cases hy1; exact h1) | (cases h1; done) | (simp [lendLeaf] at hy1; done)
theorem ArgsRep.append {vs us : List Value} {xs ys : List AV} {f g : List Nat} (h : ArgsRep F w vs xs f) (k : ArgsRep F w us ys g) : ArgsRep F w (vs ++ us) (xs ++ ys) (f ++ g) := by
  induction h with
  | nil => exact k
  | cons h1 h2 ih => rw [List.append_assoc]; exact .cons h1 ih
end
end Go.Vm
end
section
/- The call itself. -/
namespace Go.Vm
section
variable {C : Cfg} {D : Spec} {n : Nat} {w0 : World} {F0 S0 F : Nat → Prop} {G : Value → AV → Prop} {μ : Nat → Option Nat} {fp : Nat → List Nat} {L : List Nat} {σ σ' : St} {a : Act} {w w' : World} {o : Oper}
theorem exec_call {f : Nat} {us : Array Value} {x : Operand} {args : Array Operand} {ts : Array TypeId} (hp : Plain C f) (ho : o.op = .call { callee := .value x, args, argTypes := ts }) (hx : a.eval x = .func (.func f) #[] us) (w : World) :
    (execOp a.eval o).run C.P w = .ok (.enter f (args.map a.eval ++ us)) w := by
  obtain ⟨fn, c, hf, hn, hb⟩ := hp
  have hn : fn.name ≠ "runtime.NumGoroutine" := by simpa using hn
  simp [execOp, ho, resolve, hx, Deferred.ofValue, invoke, callFunc, hf, hn, hb]
theorem args_all2 (h : Rel n w0 F0 S0 G F μ fp L σ a w) (args : Array Operand) : All2 (SRep F w σ.en μ fp) (args.toList.map a.eval) (args.toList.map σ.get) := All2.of_map (fun x => h.get x) _
theorem call_args (h : Rel n w0 F0 S0 G F μ fp [] σ a w) {x : Operand} {args : Array Operand} {f : Nat} {caps as : List AV} (hw : C.wrt f = none) (ht : target σ x = some (f, caps)) (ha : passL C σ f 0 (args.toList.map σ.get ++ caps) = some as) :
    ∃ us : List Value, a.eval x = .func (.func f) #[] us.toArray ∧ ArgsRep (lentF F σ fp (lentL C σ f 0 (args.toList.map σ.get))) w (args.toList.map a.eval ++ us) as [] := by
  unfold target at ht
  split at ht
  case h_2 => cases ht
  rename_i hx
  cases ht
  have hg := h.get x
  rw [hx] at hg
  obtain ⟨us, hv, hu⟩ := RepL.clo_inv hg
  obtain ⟨y1, y2, rfl, h1, h2⟩ := passL_caps ha
  refine ⟨us, hv, ?_⟩
  have r1 := passL_plain h (fun k hk => by rw [hw] at hk; cases hk) (args_all2 h args) h1
  have r2 := (caps_ok h (fun k hk => by rw [hw] at hk; cases hk) hu h2).mono (F' := lentF F σ fp (lentL C σ f 0 (args.toList.map σ.get))) (w' := w) (fun b hb => .inl hb) (fun _ _ => rfl)
  exact r1.append (.of_vals r2)
theorem call_argsW (h : Rel n w0 F0 S0 G F μ fp [] σ a w) {x : Operand} {args : Array Operand} {f k : Nat} {caps as : List AV} (hw : C.wrt f = some k) (hk : k < args.toList.length) (ht : target σ x = some (f, caps)) (ha : passL C σ f 0 (args.toList.map σ.get ++ caps) = some as) :
    ∃ (us : List Value) (x' : AV) (v : Value) (y : AV) (e : Nat) (gs rest : List Nat), a.eval x = .func (.func f) #[] us.toArray ∧ (args.toList.map σ.get)[k]? = some x' ∧ (args.toList.map a.eval ++ us)[k]? = some v ∧ as[k]? = some y ∧ entW x' = some e ∧ Lent F w σ μ fp x' v y e gs rest ∧
      ArgsRep (lentF F σ fp (lentL C σ f 0 (args.toList.map σ.get))) w (args.toList.map a.eval ++ us) as gs := by
  unfold target at ht
  split at ht
  case h_2 => cases ht
  rename_i hx
  cases ht
  have hg := h.get x
  rw [hx] at hg
  obtain ⟨us, hv, hu⟩ := RepL.clo_inv hg
  obtain ⟨y1, y2, rfl, h1, h2⟩ := passL_caps ha
  obtain ⟨x', v, y, e, gs, rest, q1, q2, q3, q4, q5, q6⟩ := passL_wrt h hw (Nat.zero_le k) (by simpa using hk) (args_all2 h args) h1
  have r2 := (caps_ok h (fun k' hk' => by rw [hw] at hk'; cases hk'; simpa using hk) hu h2).mono (F' := lentF F σ fp (lentL C σ f 0 (args.toList.map σ.get))) (w' := w) (fun b hb => .inl hb) (fun _ _ => rfl)
  rw [Nat.sub_zero] at q1 q2 q3
  have := q6.append (.of_vals r2)
  rw [List.append_nil] at this
  exact ⟨us, x', v, y, e, gs, rest, hv, q1, by rw [List.getElem?_append_left (List.getElem?_eq_some_iff.1 q2).1]; exact q2, by rw [List.getElem?_append_left (List.getElem?_eq_some_iff.1 q3).1]; exact q3, q4, q5, this⟩
theorem lentF_lt (h : Rel n w0 F0 S0 G F μ fp L σ a w) {es : List Nat} {b : Nat} (hb : lentF F σ fp es b) : b < w.heap.size := by
  rcases hb with hb | ⟨e, _, hl, hb⟩
  · exact (h.free b hb).1
  · exact (h.own e hl b hb).2.1
theorem toArray_append (args : Array Operand) (us : List Value) : (args.toList.map a.eval ++ us).toArray = args.map a.eval ++ us.toArray := by
  apply Array.ext'; simp
theorem call_ok0 (hD : SpecOk C D) (h : Rel n w0 F0 S0 G F μ fp [] σ a w) (hd : ∀ k, o.dst = some k → k < n) {q : Bool} {K : St → Prop} {x : Operand} {args : Array Operand} {ts : Array TypeId} (ho : o.op = .call { callee := .value x, args, argTypes := ts }) (hW : callP0 C D q x args o.dst K σ) :
    ∃ f vals, (execOp a.eval o).run C.P w = .ok (.enter f vals) w ∧
      Calls C.P f vals w fun e w' => ∃ v σ' F' μ' fp', e = .returned v ∧ K σ' ∧ Rel n w0 F0 S0 G F' μ' fp' [] σ' (a.put o.dst v) w' ∧ ((∀ p, target σ x = some p → C.wrt p.1 = none) → KeptS w w' (fun _ => False)) := by
  obtain ⟨⟨f, caps⟩, ht, as, ha, ⟨hokW, _⟩, R, hDf, _, hK⟩ := hW
  dsimp only at ha hDf hK hokW
  obtain ⟨hpl, hdo⟩ := hD _ _ _ hDf
  obtain ⟨_, _, _, hpa, _⟩ := passL_caps ha
  have hlive := lent_live h hpa
  cases hw : C.wrt f with
  | none =>
    obtain ⟨us, hv, hr⟩ := call_args h hw ht ha
    refine ⟨f, _, exec_call hpl ho hv w, ?_⟩
    have := hdo w _ _ [] (fun b hb => lentF_lt h hb) hr List.nodup_nil (by simp)
    rw [toArray_append] at this
    refine this.mono fun e w' ⟨v, F', g, gs', res, left, hR, he, hk, hFF, hF', hg, hnd, hres, hleft⟩ => ?_
    have hk : KeptS w w' (fun _ => False) := ⟨hk.os, hk.tape, hk.output, hk.size, fun b hb _ => hk.block b hb (by simp), hk.same⟩
    have hK := hK res left hR
    simp only [leftS, hw] at hK
    have hg' : ∀ b ∈ g, ¬ F' b ∧ w.heap.size ≤ b ∧ b < w'.heap.size := fun b hb => by
      obtain ⟨k1, k2, k3⟩ := hg b (List.mem_append.2 (.inl hb))
      exact ⟨k1, k2.resolve_left (by simp), k3⟩
    have r1 := h.extend (newF := fun b => F' b ∧ w.heap.size ≤ b) (g := g) hk (fun b hb => ⟨hb.2, (hF' b hb.1).1⟩) (fun b hb => ⟨(hg' b hb).2.1, (hg' b hb).2.2, fun hx => (hg' b hb).1 hx.1⟩) (List.nodup_append.1 hnd).1
    rw [List.append_nil] at r1
    cases hf : hasFro res || hasFro left
    · rw [hf, if_neg (by simp)] at hK
      rw [Bool.or_eq_false_iff] at hf
      obtain ⟨μ', fp', r2⟩ := takeRes_ok r1 hd (hres.noFro hf.1)
      exact ⟨v, _, _, μ', fp', he, hK, r2, fun _ => hk⟩
    · rw [hf, if_pos rfl] at hK
      obtain ⟨F'', fp'', r2, r3, r4, _⟩ := r1.freezeL hlive
      have hres' : ResRep F'' w' v res g := hres.mono (fun b hb => by
        rcases (hF' b hb).2 with (h1 | ⟨e, h1, h2, h3⟩) | h1 | h1
        · exact r3 b (.inl h1)
        · exact r4 e h1 b h3
        · simp at h1
        · exact r3 b (.inr ⟨hb, h1⟩)) (fun _ _ => rfl)
      obtain ⟨μ', fp', r5⟩ := takeRes_ok r2 hd hres'
      exact ⟨v, _, _, μ', fp', he, hK, r5, fun _ => hk⟩
  | some k =>
    simp only [okCW, hw] at hokW
    obtain ⟨x0, e0, hx0, hxe, hnot⟩ := hokW
    have hklt : k < args.toList.length := by simpa using (List.getElem?_eq_some_iff.1 hx0).1
    obtain ⟨us, x', v0, y, e, gs, rest, hv, q1, q2, q3, q4, lt, hr⟩ := call_argsW h hw hklt ht ha
    rw [hx0] at q1; cases q1
    rw [hxe] at q4; cases q4
    refine ⟨f, _, exec_call hpl ho hv w, ?_⟩
    have inE : ∀ b, b ∈ gs ++ rest → b ∈ fp e0 := fun b hb => lt.perm.mem_iff.2 hb
    have hgE : ∀ b ∈ gs, b ∈ fp e0 := fun b hb => inE b (List.mem_append.2 (.inl hb))
    have hndE : (gs ++ rest).Nodup := lt.perm.nodup_iff.1 (h.nodup e0 lt.live)
    have hdisj : ∀ b ∈ gs, ¬ lentF F σ fp (lentL C σ f 0 (args.toList.map σ.get)) b := fun b hb hx => by
      rcases hx with hx | ⟨e', he', hl', hx⟩
      · exact (h.own e0 lt.live b (hgE b hb)).1 hx
      · exact h.apart e' e0 hl' lt.live (fun hee => hnot (hee ▸ he')) b hx (hgE b hb)
    have := hdo w _ _ gs (fun b hb => lentF_lt h hb) hr (List.nodup_append.1 hndE).1 (fun b hb => ⟨hdisj b hb, (h.own e0 lt.live b (hgE b hb)).2.1⟩)
    rw [toArray_append] at this
    refine this.mono fun e w' ⟨v, F', g, gs', res, left, hR, he, hk, hFF, hF', hg, hnd, hres, hleft⟩ => ?_
    have hK := hK res left hR
    simp only [LeftRep, hw] at hleft
    have hleft : (sameShape y left ∧ ArgRep F' w' v0 left gs') ∨ (left = .tup [] ∧ gs' = []) := by
      rcases hleft with ⟨u, y', k1, k2, hshape, hlr⟩ | hleft
      · rw [q2] at k1; cases k1
        rw [q3] at k2; cases k2
        exact .inl ⟨hshape, hlr⟩
      · exact .inr hleft
    simp only [leftS, hw, hx0, putLeft, hxe] at hK
    have key : ∀ (σ1 : St) (F1 : Nat → Prop) (fp1 : Nat → List Nat), Rel n w0 F0 S0 G F1 μ fp1 [] σ1 a w → σ1.en e0 = σ.en e0 → fp1 e0 = fp e0 → (∀ b, F b → F1 b) →
        ResRep (fun b => F1 b ∨ (F' b ∧ (b ∈ gs ∨ w.heap.size ≤ b))) w' v res g → ((sameShape y left ∧ ArgRep (fun b => F1 b ∨ (F' b ∧ (b ∈ gs ∨ w.heap.size ≤ b))) w' v0 left gs') ∨ (left = .tup [] ∧ gs' = [])) →
        (match leftE (σ1.en e0) x0 left with | some E => K (takeRes o.dst (σ1.ent e0 E) res) | none => K (takeRes o.dst σ1 res)) →
        ∃ v σ' F' μ' fp', e = .returned v ∧ K σ' ∧ Rel n w0 F0 S0 G F' μ' fp' [] σ' (a.put o.dst v) w' ∧ ((∀ p, target σ x = some p → C.wrt p.1 = none) → KeptS w w' (fun _ => False)) := by
      intro σ1 F1 fp1 r1 hen hfp hF1 hres1 hleft1 hK1
      have hl1 : (σ1.en e0).live = true := by rw [hen]; exact lt.live
      have hown : ∀ b ∈ fp e0, ¬ F1 b ∧ b < w.heap.size := fun b hb => ⟨(r1.own e0 hl1 b (by rw [hfp]; exact hb)).1, (h.own e0 lt.live b hb).2.1⟩
      have hFlt : ∀ b, F1 b → b < w.heap.size := fun b hb => (r1.free b hb).1
      have hgg : ∀ b ∈ g ++ gs', b ∉ rest := fun b hb hx => by
        rcases (hg b hb).2.1 with h1 | h1
        · exact (List.nodup_append.1 hndE).2.2 b h1 b hx rfl
        · have := (hown b (inE b (List.mem_append.2 (.inr hx)))).2; omega
      have hnd2 : (gs' ++ rest).Nodup := List.nodup_append.2 ⟨(List.nodup_append.1 hnd).2.1, (List.nodup_append.1 hndE).2.1, fun x hx y hy hxy => hgg x (List.mem_append.2 (.inr hx)) (hxy ▸ hy)⟩
      have hE : ∃ E' f', leftE (σ.en e0) x0 left = some E' ∧ E'.gen = (σ.en e0).gen ∧ E'.wr = (σ.en e0).wr + 1 ∧ E'.sz = (σ.en e0).sz ∧ E'.elems.length ≤ (σ.en e0).elems.length ∧ (E'.live = true → EntRep (fun b => F1 b ∨ (F' b ∧ (b ∈ gs ∨ w.heap.size ≤ b))) w' E' (μ e0) f') ∧ (∀ b ∈ f', b ∈ gs' ++ rest) ∧ f'.Nodup := by
        rcases hleft1 with ⟨hshape, hleft1⟩ | ⟨rfl, rfl⟩
        case inr => exact ⟨_, [], leftE_gone _ _, rfl, rfl, rfl, Nat.le_refl _, fun h => absurd h (by simp), by simp, List.nodup_nil⟩
        obtain ⟨E', f', b1, b2, b3, b4, b5, b6, b7, b8, b9, b10⟩ := lt.back _ w' left gs' (fun b hb => .inl (hF1 b hb)) (fun b hb => by
        refine hk.block b ?_ ?_
        · rcases hb with hb | hb
          · exact (h.free b hb).1
          · exact (hown b (inE b (List.mem_append.2 (.inr hb)))).2
        · intro hx
          rcases hb with hb | hb
          · exact (h.own e0 lt.live b (hgE b hx)).1 hb
          · exact (List.nodup_append.1 hndE).2.2 b hx b hb rfl) hleft1 hshape hnd2
        exact ⟨E', f', b1, b3, b4, b6, b7, fun _ => b8, b9, b10⟩
      obtain ⟨E', f', b1, b3, b4, b6, b7, b8, b9, b10⟩ := hE
      have hnF : ∀ b ∈ g ++ gs', ¬ (F1 b ∨ (F' b ∧ (b ∈ gs ∨ w.heap.size ≤ b))) := fun b hb hx => by
        obtain ⟨h1, h2, _⟩ := hg b hb
        rcases hx with hx | hx
        · rcases h2 with h2 | h2
          · exact (hown b (hgE b h2)).1 hx
          · have := hFlt b hx; omega
        · exact h1 hx.1
      have r2 := r1.extendW (F' := fun b => F1 b ∨ (F' b ∧ (b ∈ gs ∨ w.heap.size ≤ b))) (g := g) (f' := f') (gs := gs) (rest := rest) (e := e0) (E' := E') hl1 (by rw [hen]; exact lt.frz) (by rw [hfp]; exact lt.perm) hk (fun b hb => .inl hb)
        (fun b hb => hb.imp id fun hb => hb.2.imp id fun h2 => ⟨h2, (hF' b hb.1).1⟩) (by rw [hen]; exact b3) (by rw [hen]; exact b4) (by rw [hen]; exact b6) (by rw [hen]; exact b7) b8 (fun b hb => by
          rcases List.mem_append.1 hb with hb | hb
          · have hb' := List.mem_append.2 (.inl hb : b ∈ g ∨ b ∈ gs')
            obtain ⟨_, h2, h3⟩ := hg b hb'
            exact ⟨hnF b hb', h2.imp (fun h => List.mem_append.2 (.inl h)) id, h3⟩
          · rcases List.mem_append.1 (b9 b hb) with hb | hb
            · have hb' := List.mem_append.2 (.inr hb : b ∈ g ∨ b ∈ gs')
              obtain ⟨_, h2, h3⟩ := hg b hb'
              exact ⟨hnF b hb', h2.imp (fun h => List.mem_append.2 (.inl h)) id, h3⟩
            · have hbE := inE b (List.mem_append.2 (.inr hb))
              refine ⟨fun hx => ?_, .inl (List.mem_append.2 (.inr hb)), Nat.lt_of_lt_of_le (hown b hbE).2 hk.size⟩
              rcases hx with hx | ⟨_, hx | hx⟩
              · exact (hown b hbE).1 hx
              · exact (List.nodup_append.1 hndE).2.2 b hx b hb rfl
              · have := (hown b hbE).2; omega)
        (List.nodup_append.2 ⟨(List.nodup_append.1 hnd).1, b10, fun x hx y hy hxy => by
          subst hxy
          rcases List.mem_append.1 (b9 x hy) with hy | hy
          · exact (List.nodup_append.1 hnd).2.2 x hx x hy rfl
          · exact hgg x (List.mem_append.2 (.inl hx)) hy⟩)
      rw [hen, b1] at hK1
      obtain ⟨μ', fp', r3⟩ := takeRes_ok r2 hd hres1
      exact ⟨v, _, _, μ', fp', he, hK1, r3, fun hx => by have h1 := hx _ ht; rw [hw] at h1; cases h1⟩
    cases hf : hasFro res || hasFro left
    · rw [hf, if_neg (by simp)] at hK
      rw [Bool.or_eq_false_iff] at hf
      refine key σ F fp h rfl rfl (fun _ h => h) (hres.noFro hf.1) (hleft.imp (fun h => ⟨h.1, h.2.noFro hf.2⟩) id) ?_
      split <;> simp_all
    · rw [hf, if_pos rfl] at hK
      obtain ⟨F1, fp1, r2, r3, r4, r5⟩ := h.freezeL hlive
      obtain ⟨r6, r7⟩ := r5 e0 hnot
      have hsub : ∀ b, F' b → F1 b ∨ (F' b ∧ (b ∈ gs ∨ w.heap.size ≤ b)) := fun b hb => by
        rcases (hF' b hb).2 with (h1 | ⟨e, h1, h2, h3⟩) | h1
        · exact .inl (r3 b h1)
        · exact .inl (r4 e h1 b h3)
        · exact .inr ⟨hb, h1⟩
      refine key _ F1 fp1 r2 r7 r6 r3 (hres.mono hsub (fun _ _ => rfl)) (hleft.imp (fun h => ⟨h.1, h.2.mono hsub (fun _ _ => rfl)⟩) id) ?_
      split <;> simp_all
theorem callC_ok (hD : SpecOk C D) (h : Rel n w0 F0 S0 G F μ fp [] σ a w) (hd : ∀ k, o.dst = some k → k < n) {q : Bool} {K : St → Prop} {x : Operand} {args : Array Operand} {ts : Array TypeId} (ho : o.op = .call { callee := .value x, args, argTypes := ts }) (hW : callC C D q x args o.dst K σ) :
    ∃ f vals, (execOp a.eval o).run C.P w = .ok (.enter f vals) w ∧
      Calls C.P f vals w fun e w' => ∃ v σ' F' μ' fp', e = .returned v ∧ K σ' ∧ Rel n w0 F0 S0 G F' μ' fp' [] σ' (a.put o.dst v) w' ∧ ((∀ p, target σ x = some p → C.wrt p.1 = none) → KeptS w w' (fun _ => False)) := by
  obtain ⟨_, hW⟩ := hW
  split at hW
  case h_2 => exact hW.elim
  rename_i f fs rest hargs
  obtain ⟨hw, hrl, ⟨ls, σ1⟩, hcl, as, hpas, R, hDf, _, hK⟩ := hW
  dsimp only at hcl hpas hDf hK
  obtain ⟨hpl, hdo⟩ := hD _ _ _ hDf
  have hall := args_all2 h args
  obtain ⟨ops, hops⟩ : ∃ l, args.toList = l := ⟨_, rfl⟩
  rw [hops] at hall hargs
  cases ops with
  | nil => simp at hargs
  | cons x0 xs =>
  simp only [List.map_cons, List.cons.injEq] at hargs
  obtain ⟨hx0, hxs⟩ := hargs
  obtain ⟨h0, _⟩ := hall
  rw [hx0] at h0
  obtain ⟨cs, hv0, hcs⟩ : ∃ cs : Array Value, a.eval x0 = .agg cs ∧ All2 (SLeaf F w σ.en μ fp) cs.toList fs := h0
  obtain ⟨F1, fp1, g0, r1, hrep, hF1, _, hsl⟩ := h.closeL hcs hcl
  rw [List.append_nil] at r1
  have hrest : All2 (SRep F1 w σ1.en μ fp1) (xs.map a.eval) rest := by
    have := All2.of_map (fun x => r1.get x) xs
    have e : xs.map σ1.get = rest := by
      rw [← hxs]
      refine List.map_congr_left fun y _ => ?_
      cases y with
      | tmp t => show σ1.sl t = σ.sl t; rw [hsl]
      | _ => rfl
    rwa [e] at this
  have hvals := passL_plain r1 (f := f) (fun k hk => by rw [hw] at hk; cases hk; omega) hrest hpas
  have hlf : ∀ b, lentF F1 σ1 fp1 (lentL C σ1 f 1 rest) b → b ∉ g0 := fun b hb hx => by
    obtain ⟨k1, _, _, k4⟩ := r1.loose b hx
    rcases hb with hb | ⟨e, _, hl, hb⟩
    · exact k1 hb
    · exact k4 e hl hb
  have hexec := exec_call (C := C) hpl ho (show a.eval (.func f) = .func (.func f) #[] ([] : List Value).toArray from rfl)
  refine ⟨f, _, hexec w, ?_⟩
  have := hdo w (lentF F1 σ1 fp1 (lentL C σ1 f 1 rest)) (a.eval x0 :: xs.map a.eval) g0 (fun b hb => lentF_lt r1 hb)
    (by
      have h1 : ArgRep (lentF F1 σ1 fp1 (lentL C σ1 f 1 rest)) w (a.eval x0) (.agg ls) g0 := ⟨cs, hv0, hrep.mono (fun b hb => .inl hb) (fun _ _ => rfl)⟩
      simpa using ArgsRep.cons h1 hvals)
    r1.looseNodup (fun b hb => ⟨fun hx => hlf b hx hb, (r1.loose b hb).2.1⟩)
  have e1 : (a.eval x0 :: xs.map a.eval).toArray = args.map a.eval ++ ([] : List Value).toArray := by
    apply Array.ext'
    simp [hops]
  rw [e1] at this
  refine this.mono fun e w' ⟨v, F', g, gs', res, left, hR, he, hk, hFF, hF', hg, hnd, hres, hleft⟩ => ?_
  obtain ⟨hsc, hK⟩ := hK res left hR
  have hgn : g = [] := by
    cases res with
    | int => cases (show RepL F' w' [v] [_] g from hres) with | int t => cases t; rfl
    | bool => cases (show RepL F' w' [v] [_] g from hres) with | bool t => cases t; rfl
    | str => cases (show RepL F' w' [v] [_] g from hres) with | str t => cases t; rfl
    | _ => cases hsc
  subst hgn
  have hnf : hasFro res = false := by cases res <;> first | rfl | cases hsc
  have hres' : ResRep F1 w' v res [] := hres.noFro hnf
  have hblk : ∀ b, b < w.heap.size → b ∉ g0 → w'.heap[b]? = w.heap[b]? := fun b hb hx => hk.block b hb hx
  have hF1b : ∀ b, F1 b → w'.heap[b]? = w.heap[b]? := fun b hb => hblk b (r1.free b hb).1 (fun hx => (r1.loose b hx).1 hb)
  have hfpb : ∀ e, (σ1.en e).live = true → ∀ b ∈ fp1 e, w'.heap[b]? = w.heap[b]? := fun e hl b hb => hblk b (r1.own e hl b hb).2.1 (fun hx => (r1.loose b hx).2.2.2 e hl hb)
  have st : Step F1 w σ1.en μ fp1 F1 w' σ1.en μ fp1 := by
    refine ⟨fun _ h => h, hF1b, fun _ => Nat.le_refl _, fun _ => Nat.le_refl _, fun e hl _ => ⟨hl, rfl, rfl, Nat.le_refl _, fun b _ => hk.same b⟩, fun e hl _ => ⟨hl, fun b hb => ⟨hfpb e hl b hb, .inl hb⟩, fun hf => ⟨hf, rfl, rfl, rfl, fun b hm => ?_⟩⟩⟩
    rcases (r1.ent e hl).2 with ⟨e1, _⟩ | ⟨b', cur, et, fr, us, f1, e1, _, _, _, e5⟩ | ⟨_, b', _, _, e1, _, e5⟩
    · rw [hm] at e1; cases e1
    · rw [hm] at e1; cases e1
      rcases e5 with ⟨e5, _⟩ | ⟨_, _, e7⟩
      · rw [hf] at e5; cases e5
      · exact hfpb e hl b (by rw [e7]; simp)
    · rw [hm] at e1; cases e1
      rcases e5 with ⟨e5, _⟩ | ⟨_, e7⟩
      · rw [hf] at e5; cases e5
      · exact hfpb e hl b (by rw [e7]; simp)
  have r2 : Rel n w0 F0 S0 G F1 μ fp1 [] { σ1 with en := σ1.en } a w' := r1.move (L' := []) st ⟨hk.os, hk.tape, hk.output, hk.size, fun b hb hn => hblk b hb (fun hx => hn ((r1.loose b hx).2.2.1)), hk.same⟩
    (fun b hb => ⟨Nat.lt_of_lt_of_le (r1.free b hb).1 hk.size, (r1.free b hb).2⟩) (fun e hl => (r1.ent e hl).mono (fun _ h => h) (fun b hb => hb.elim (hF1b b) (hfpb e hl b)))
    (fun e hl b hb => ⟨(r1.own e hl b hb).1, Nat.lt_of_lt_of_le (r1.own e hl b hb).2.1 hk.size, (r1.own e hl b hb).2.2⟩) r1.nodup r1.apart (fun b hb => by cases hb) List.nodup_nil
  obtain ⟨μ', fp', r3⟩ := takeRes_ok (f := []) r2 hd hres'
  exact ⟨v, _, _, μ', fp', he, hK, r3, fun hx => by have h1 := hx (f, []) rfl; rw [hw] at h1; cases h1⟩
theorem call_ok (hD : SpecOk C D) (h : Rel n w0 F0 S0 G F μ fp [] σ a w) (hd : ∀ k, o.dst = some k → k < n) {q : Bool} {K : St → Prop} {x : Operand} {args : Array Operand} {ts : Array TypeId} (ho : o.op = .call { callee := .value x, args, argTypes := ts }) (hW : callP C D q x args o.dst K σ) :
    ∃ f vals, (execOp a.eval o).run C.P w = .ok (.enter f vals) w ∧
      Calls C.P f vals w fun e w' => ∃ v σ' F' μ' fp', e = .returned v ∧ K σ' ∧ Rel n w0 F0 S0 G F' μ' fp' [] σ' (a.put o.dst v) w' ∧ ((∀ p, target σ x = some p → C.wrt p.1 = none) → KeptS w w' (fun _ => False)) := by
  unfold callP at hW
  split at hW
  · exact callC_ok hD h hd ho hW
  · exact call_ok0 hD h hd ho hW
theorem callQ_ok (hD : SpecOk C D) (h : Rel n w0 F0 S0 G F μ fp [] σ a w) {K : St → Prop} {x : Operand} {args : Array Operand} {ts : Array TypeId} (ho : o.op = .call { callee := .value x, args, argTypes := ts }) (hW : callP C D true x args o.dst K σ) :
    ∃ f vals v r, (∀ w', (execOp a.eval o).run C.P w' = .ok (.enter f vals) w') ∧ (∀ w', KeptS w w' (fun _ => False) → Calls C.P f vals w' fun e w'' => e = .returned v ∧ KeptS w w'' (fun _ => False)) ∧ SRep F w σ.en μ fp v r ∧ K (σ.put o.dst r) := by
  unfold callP at hW
  split at hW
  · exact absurd hW.1 (by decide)
  obtain ⟨⟨f, caps⟩, ht, as, ha, ⟨_, hnw⟩, R, hDf, hsc, hK⟩ := hW
  obtain ⟨res, hsc, hR0, hone⟩ := hsc rfl
  have hw := hnw rfl
  dsimp only at ha hDf hK hw
  obtain ⟨hpl, hdo⟩ := hD _ _ _ hDf
  obtain ⟨us, hv, hr⟩ := call_args h hw ht ha
  obtain ⟨v, hvs, hu⟩ : ∃ v, SRep F w σ.en μ fp v res ∧ ∀ F' w' v' g, ResRep F' w' v' res g → v' = v := by
    cases res with
    | int k i => exact ⟨.int k i, RepL.int .nil, fun F' w' v' g hr => by have hr : RepL F' w' [v'] [.int k i] g := hr; cases hr; rfl⟩
    | bool b => exact ⟨.bool b, RepL.bool .nil, fun F' w' v' g hr => by have hr : RepL F' w' [v'] [.bool b] g := hr; cases hr; rfl⟩
    | str s => exact ⟨.string s, RepL.str .nil, fun F' w' v' g hr => by have hr : RepL F' w' [v'] [.str s] g := hr; cases hr; rfl⟩
    | _ => cases hsc
  have hk0 : ∀ σ, takeRes o.dst σ res = σ.put o.dst res := fun σ => by
    cases res <;> first | (cases o.dst <;> rfl) | cases hsc
  have hdo' : ∀ w', KeptS w w' (fun _ => False) → Calls C.P f (args.map a.eval ++ us.toArray) w' fun e w'' => e = .returned v ∧ KeptS w w'' (fun _ => False) := fun w' hk => by
    have := hdo w' (lentF F σ fp (lentL C σ f 0 (args.toList.map σ.get))) _ [] (fun b hb => Nat.lt_of_lt_of_le (lentF_lt h hb) hk.size) (hr.mono (fun _ h => h) (fun b hb => hk.block b (lentF_lt h (by simpa using hb)) (fun h => h))) List.nodup_nil (by simp)
    rw [toArray_append] at this
    refine this.mono fun e w'' ⟨v', F', g, gs', r, left, hR, he, hk', hFF, hF', hg, hnd, hres, _⟩ => ?_
    obtain rfl := hone _ _ hR
    have hk' : KeptS w' w'' (fun _ => False) := ⟨hk'.os, hk'.tape, hk'.output, hk'.size, fun b hb _ => hk'.block b hb (by simp), hk'.same⟩
    exact ⟨by rw [he, hu _ _ _ _ hres], hk.trans hk' (fun _ _ h => h.elim)⟩
  have hK := hK res .und hR0
  have hf : (hasFro res || hasFro .und) = false := by cases res <;> first | rfl | cases hsc
  rw [hf, if_neg (by simp)] at hK
  simp only [leftS, hw] at hK
  rw [hk0] at hK
  exact ⟨f, _, v, res, exec_call hpl ho hv, hdo', hvs, hK⟩
end
end Go.Vm
end
