/- The call itself. -/
import Derived.Test.YtfimolakepbdbaaWCall2
namespace Go.Vm

section
variable {C : Cfg} {D : Spec} {n : Nat} {w0 : World} {F0 S0 F : Nat → Prop} {G : Value → AV → Prop} {μ : Nat → Option Nat} {fp : Nat → List Nat} {L : List Nat} {σ σ' : St} {a : Act} {w w' : World} {o : Oper}

theorem exec_call {f : Nat} {us : Array Value} {x : Operand} {args : Array Operand} {ts : Array TypeId} (hp : Plain C f) (ho : o.op = .call { callee := .value x, args, argTypes := ts }) (hx : a.eval x = .func (.func f) #[] us) (w : World) :
    (execOp a.eval o).run C.P w = .ok (.enter f (args.map a.eval ++ us)) w := by
  obtain ⟨fn, c, hf, hn, hb⟩ := hp
  have hn : fn.name ≠ "runtime.NumGoroutine" := by simpa using hn
  simp [execOp, ho, resolve, hx, Deferred.ofValue, invoke, callFunc, hf, hn, hb]

theorem args_all2 (h : Rel n w0 F0 S0 G F μ fp L σ a w) (args : Array Operand) : All2 (SRep F w σ.en μ fp) (args.toList.map a.eval) (args.toList.map σ.get) := All2.of_map (fun x => h.get x) _

/-- What a call is given stands for what the evaluator says; in every later world too. -/
theorem call_args (h : Rel n w0 F0 S0 G F μ fp [] σ a w) {x : Operand} {args : Array Operand} {f : Nat} {caps as : List AV} (hw : C.wrt f = none) (ht : target σ x = some (f, caps)) (ha : passL C σ f 0 (args.toList.map σ.get ++ caps) = some as) :
    ∃ us : List Value, a.eval x = .func (.func f) #[] us.toArray ∧ ArgsRep (lentF F σ fp (lentL C σ f 0 (args.toList.map σ.get))) w (args.toList.map a.eval ++ us) as [] := by
  unfold target at ht
  split at ht
  case h_2 => cases ht
  rename_i hx
  cases ht
  have hg := h.get x
  rw [hx] at hg
  obtain ⟨us, hv, hu⟩ := RepL.clo_inv hg
  obtain ⟨y1, y2, rfl, h1, h2⟩ := passL_caps ha
  refine ⟨us, hv, ?_⟩
  have r1 := passL_plain h (fun k hk => by rw [hw] at hk; cases hk) (args_all2 h args) h1
  have r2 := (caps_ok h (fun k hk => by rw [hw] at hk; cases hk) hu h2).mono (F' := lentF F σ fp (lentL C σ f 0 (args.toList.map σ.get))) (w' := w) (fun b hb => .inl hb) (fun _ _ => rfl)
  exact r1.append (.of_vals r2)

/-- The same where one argument is lent to be written. -/
theorem call_argsW (h : Rel n w0 F0 S0 G F μ fp [] σ a w) {x : Operand} {args : Array Operand} {f k : Nat} {caps as : List AV} (hw : C.wrt f = some k) (hk : k < args.toList.length) (ht : target σ x = some (f, caps)) (ha : passL C σ f 0 (args.toList.map σ.get ++ caps) = some as) :
    ∃ (us : List Value) (x' : AV) (v : Value) (y : AV) (e : Nat) (gs rest : List Nat), a.eval x = .func (.func f) #[] us.toArray ∧ (args.toList.map σ.get)[k]? = some x' ∧ (args.toList.map a.eval ++ us)[k]? = some v ∧ as[k]? = some y ∧ entW x' = some e ∧ Lent F w σ μ fp x' v y e gs rest ∧
      ArgsRep (lentF F σ fp (lentL C σ f 0 (args.toList.map σ.get))) w (args.toList.map a.eval ++ us) as gs := by
  unfold target at ht
  split at ht
  case h_2 => cases ht
  rename_i hx
  cases ht
  have hg := h.get x
  rw [hx] at hg
  obtain ⟨us, hv, hu⟩ := RepL.clo_inv hg
  obtain ⟨y1, y2, rfl, h1, h2⟩ := passL_caps ha
  obtain ⟨x', v, y, e, gs, rest, q1, q2, q3, q4, q5, q6⟩ := passL_wrt h hw (Nat.zero_le k) (by simpa using hk) (args_all2 h args) h1
  have r2 := (caps_ok h (fun k' hk' => by rw [hw] at hk'; cases hk'; simpa using hk) hu h2).mono (F' := lentF F σ fp (lentL C σ f 0 (args.toList.map σ.get))) (w' := w) (fun b hb => .inl hb) (fun _ _ => rfl)
  rw [Nat.sub_zero] at q1 q2 q3
  have := q6.append (.of_vals r2)
  rw [List.append_nil] at this
  exact ⟨us, x', v, y, e, gs, rest, hv, q1, by rw [List.getElem?_append_left (List.getElem?_eq_some_iff.1 q2).1]; exact q2, by rw [List.getElem?_append_left (List.getElem?_eq_some_iff.1 q3).1]; exact q3, q4, q5, this⟩

theorem lentF_lt (h : Rel n w0 F0 S0 G F μ fp L σ a w) {es : List Nat} {b : Nat} (hb : lentF F σ fp es b) : b < w.heap.size := by
  rcases hb with hb | ⟨e, _, hl, hb⟩
  · exact (h.free b hb).1
  · exact (h.own e hl b hb).2.1

theorem toArray_append (args : Array Operand) (us : List Value) : (args.toList.map a.eval ++ us).toArray = args.map a.eval ++ us.toArray := by
  apply Array.ext'; simp

theorem call_ok (hD : SpecOk C D) (h : Rel n w0 F0 S0 G F μ fp [] σ a w) (hd : ∀ k, o.dst = some k → k < n) {q : Bool} {K : St → Prop} {x : Operand} {args : Array Operand} {ts : Array TypeId} (ho : o.op = .call { callee := .value x, args, argTypes := ts }) (hW : callP C D q x args o.dst K σ) :
    ∃ f vals, (execOp a.eval o).run C.P w = .ok (.enter f vals) w ∧
      Calls C.P f vals w fun e w' => ∃ v σ' F' μ' fp', e = .returned v ∧ K σ' ∧ Rel n w0 F0 S0 G F' μ' fp' [] σ' (a.put o.dst v) w' ∧ ((∀ p, target σ x = some p → C.wrt p.1 = none) → KeptS w w' (fun _ => False)) := by
  obtain ⟨⟨f, caps⟩, ht, as, ha, ⟨hokW, _⟩, R, hDf, _, hK⟩ := hW
  dsimp only at ha hDf hK hokW
  obtain ⟨hpl, hdo⟩ := hD _ _ _ hDf
  obtain ⟨_, _, _, hpa, _⟩ := passL_caps ha
  have hlive := lent_live h hpa
  cases hw : C.wrt f with
  | none =>
    obtain ⟨us, hv, hr⟩ := call_args h hw ht ha
    refine ⟨f, _, exec_call hpl ho hv w, ?_⟩
    have := hdo w _ _ [] (fun b hb => lentF_lt h hb) hr List.nodup_nil (by simp)
    rw [toArray_append] at this
    refine this.mono fun e w' ⟨v, F', g, gs', res, left, hR, he, hk, hFF, hF', hg, hnd, hres, hleft⟩ => ?_
    have hk : KeptS w w' (fun _ => False) := ⟨hk.os, hk.tape, hk.output, hk.size, fun b hb _ => hk.block b hb (by simp), hk.same⟩
    have hK := hK res left hR
    simp only [leftS, hw] at hK
    have hg' : ∀ b ∈ g, ¬ F' b ∧ w.heap.size ≤ b ∧ b < w'.heap.size := fun b hb => by
      obtain ⟨k1, k2, k3⟩ := hg b (List.mem_append.2 (.inl hb))
      exact ⟨k1, k2.resolve_left (by simp), k3⟩
    have r1 := h.extend (newF := fun b => F' b ∧ w.heap.size ≤ b) (g := g) hk (fun b hb => ⟨hb.2, (hF' b hb.1).1⟩) (fun b hb => ⟨(hg' b hb).2.1, (hg' b hb).2.2, fun hx => (hg' b hb).1 hx.1⟩) (List.nodup_append.1 hnd).1
    rw [List.append_nil] at r1
    cases hf : hasFro res || hasFro left
    · rw [hf, if_neg (by simp)] at hK
      rw [Bool.or_eq_false_iff] at hf
      obtain ⟨μ', fp', r2⟩ := takeRes_ok r1 hd (hres.noFro hf.1)
      exact ⟨v, _, _, μ', fp', he, hK, r2, fun _ => hk⟩
    · rw [hf, if_pos rfl] at hK
      obtain ⟨F'', fp'', r2, r3, r4, _⟩ := r1.freezeL hlive
      have hres' : ResRep F'' w' v res g := hres.mono (fun b hb => by
        rcases (hF' b hb).2 with (h1 | ⟨e, h1, h2, h3⟩) | h1 | h1
        · exact r3 b (.inl h1)
        · exact r4 e h1 b h3
        · simp at h1
        · exact r3 b (.inr ⟨hb, h1⟩)) (fun _ _ => rfl)
      obtain ⟨μ', fp', r5⟩ := takeRes_ok r2 hd hres'
      exact ⟨v, _, _, μ', fp', he, hK, r5, fun _ => hk⟩
  | some k =>
    simp only [okCW, hw] at hokW
    obtain ⟨x0, e0, hx0, hxe, hnot⟩ := hokW
    have hklt : k < args.toList.length := by simpa using (List.getElem?_eq_some_iff.1 hx0).1
    obtain ⟨us, x', v0, y, e, gs, rest, hv, q1, q2, q3, q4, lt, hr⟩ := call_argsW h hw hklt ht ha
    rw [hx0] at q1; cases q1
    rw [hxe] at q4; cases q4
    refine ⟨f, _, exec_call hpl ho hv w, ?_⟩
    have inE : ∀ b, b ∈ gs ++ rest → b ∈ fp e0 := fun b hb => lt.perm.mem_iff.2 hb
    have hgE : ∀ b ∈ gs, b ∈ fp e0 := fun b hb => inE b (List.mem_append.2 (.inl hb))
    have hndE : (gs ++ rest).Nodup := lt.perm.nodup_iff.1 (h.nodup e0 lt.live)
    have hdisj : ∀ b ∈ gs, ¬ lentF F σ fp (lentL C σ f 0 (args.toList.map σ.get)) b := fun b hb hx => by
      rcases hx with hx | ⟨e', he', hl', hx⟩
      · exact (h.own e0 lt.live b (hgE b hb)).1 hx
      · exact h.apart e' e0 hl' lt.live (fun hee => hnot (hee ▸ he')) b hx (hgE b hb)
    have := hdo w _ _ gs (fun b hb => lentF_lt h hb) hr (List.nodup_append.1 hndE).1 (fun b hb => ⟨hdisj b hb, (h.own e0 lt.live b (hgE b hb)).2.1⟩)
    rw [toArray_append] at this
    refine this.mono fun e w' ⟨v, F', g, gs', res, left, hR, he, hk, hFF, hF', hg, hnd, hres, hleft⟩ => ?_
    have hK := hK res left hR
    simp only [LeftRep, hw] at hleft
    have hleft : (sameShape y left ∧ ArgRep F' w' v0 left gs') ∨ (left = .tup [] ∧ gs' = []) := by
      rcases hleft with ⟨u, y', k1, k2, hshape, hlr⟩ | hleft
      · rw [q2] at k1; cases k1
        rw [q3] at k2; cases k2
        exact .inl ⟨hshape, hlr⟩
      · exact .inr hleft
    simp only [leftS, hw, hx0, putLeft, hxe] at hK
    -- the state that goes on: with what was lent frozen, where the result or what is left may tell of it
    have key : ∀ (σ1 : St) (F1 : Nat → Prop) (fp1 : Nat → List Nat), Rel n w0 F0 S0 G F1 μ fp1 [] σ1 a w → σ1.en e0 = σ.en e0 → fp1 e0 = fp e0 → (∀ b, F b → F1 b) →
        ResRep (fun b => F1 b ∨ (F' b ∧ (b ∈ gs ∨ w.heap.size ≤ b))) w' v res g → ((sameShape y left ∧ ArgRep (fun b => F1 b ∨ (F' b ∧ (b ∈ gs ∨ w.heap.size ≤ b))) w' v0 left gs') ∨ (left = .tup [] ∧ gs' = [])) →
        (match leftE (σ1.en e0) x0 left with | some E => K (takeRes o.dst (σ1.ent e0 E) res) | none => K (takeRes o.dst σ1 res)) →
        ∃ v σ' F' μ' fp', e = .returned v ∧ K σ' ∧ Rel n w0 F0 S0 G F' μ' fp' [] σ' (a.put o.dst v) w' ∧ ((∀ p, target σ x = some p → C.wrt p.1 = none) → KeptS w w' (fun _ => False)) := by
      intro σ1 F1 fp1 r1 hen hfp hF1 hres1 hleft1 hK1
      have hl1 : (σ1.en e0).live = true := by rw [hen]; exact lt.live
      have hown : ∀ b ∈ fp e0, ¬ F1 b ∧ b < w.heap.size := fun b hb => ⟨(r1.own e0 hl1 b (by rw [hfp]; exact hb)).1, (h.own e0 lt.live b hb).2.1⟩
      have hFlt : ∀ b, F1 b → b < w.heap.size := fun b hb => (r1.free b hb).1
      have hgg : ∀ b ∈ g ++ gs', b ∉ rest := fun b hb hx => by
        rcases (hg b hb).2.1 with h1 | h1
        · exact (List.nodup_append.1 hndE).2.2 b h1 b hx rfl
        · have := (hown b (inE b (List.mem_append.2 (.inr hx)))).2; omega
      have hnd2 : (gs' ++ rest).Nodup := List.nodup_append.2 ⟨(List.nodup_append.1 hnd).2.1, (List.nodup_append.1 hndE).2.1, fun x hx y hy hxy => hgg x (List.mem_append.2 (.inr hx)) (hxy ▸ hy)⟩
      have hE : ∃ E' f', leftE (σ.en e0) x0 left = some E' ∧ E'.gen = (σ.en e0).gen ∧ E'.wr = (σ.en e0).wr + 1 ∧ E'.sz = (σ.en e0).sz ∧ E'.elems.length ≤ (σ.en e0).elems.length ∧ (E'.live = true → EntRep (fun b => F1 b ∨ (F' b ∧ (b ∈ gs ∨ w.heap.size ≤ b))) w' E' (μ e0) f') ∧ (∀ b ∈ f', b ∈ gs' ++ rest) ∧ f'.Nodup := by
        rcases hleft1 with ⟨hshape, hleft1⟩ | ⟨rfl, rfl⟩
        case inr => exact ⟨_, [], leftE_gone _ _, rfl, rfl, rfl, Nat.le_refl _, fun h => absurd h (by simp), by simp, List.nodup_nil⟩
        obtain ⟨E', f', b1, b2, b3, b4, b5, b6, b7, b8, b9, b10⟩ := lt.back _ w' left gs' (fun b hb => .inl (hF1 b hb)) (fun b hb => by
        refine hk.block b ?_ ?_
        · rcases hb with hb | hb
          · exact (h.free b hb).1
          · exact (hown b (inE b (List.mem_append.2 (.inr hb)))).2
        · intro hx
          rcases hb with hb | hb
          · exact (h.own e0 lt.live b (hgE b hx)).1 hb
          · exact (List.nodup_append.1 hndE).2.2 b hx b hb rfl) hleft1 hshape hnd2
        exact ⟨E', f', b1, b3, b4, b6, b7, fun _ => b8, b9, b10⟩
      obtain ⟨E', f', b1, b3, b4, b6, b7, b8, b9, b10⟩ := hE
      have hnF : ∀ b ∈ g ++ gs', ¬ (F1 b ∨ (F' b ∧ (b ∈ gs ∨ w.heap.size ≤ b))) := fun b hb hx => by
        obtain ⟨h1, h2, _⟩ := hg b hb
        rcases hx with hx | hx
        · rcases h2 with h2 | h2
          · exact (hown b (hgE b h2)).1 hx
          · have := hFlt b hx; omega
        · exact h1 hx.1
      have r2 := r1.extendW (F' := fun b => F1 b ∨ (F' b ∧ (b ∈ gs ∨ w.heap.size ≤ b))) (g := g) (f' := f') (gs := gs) (rest := rest) (e := e0) (E' := E') hl1 (by rw [hen]; exact lt.frz) (by rw [hfp]; exact lt.perm) hk (fun b hb => .inl hb)
        (fun b hb => hb.imp id fun hb => hb.2.imp id fun h2 => ⟨h2, (hF' b hb.1).1⟩) (by rw [hen]; exact b3) (by rw [hen]; exact b4) (by rw [hen]; exact b6) (by rw [hen]; exact b7) b8 (fun b hb => by
          rcases List.mem_append.1 hb with hb | hb
          · have hb' := List.mem_append.2 (.inl hb : b ∈ g ∨ b ∈ gs')
            obtain ⟨_, h2, h3⟩ := hg b hb'
            exact ⟨hnF b hb', h2.imp (fun h => List.mem_append.2 (.inl h)) id, h3⟩
          · rcases List.mem_append.1 (b9 b hb) with hb | hb
            · have hb' := List.mem_append.2 (.inr hb : b ∈ g ∨ b ∈ gs')
              obtain ⟨_, h2, h3⟩ := hg b hb'
              exact ⟨hnF b hb', h2.imp (fun h => List.mem_append.2 (.inl h)) id, h3⟩
            · have hbE := inE b (List.mem_append.2 (.inr hb))
              refine ⟨fun hx => ?_, .inl (List.mem_append.2 (.inr hb)), Nat.lt_of_lt_of_le (hown b hbE).2 hk.size⟩
              rcases hx with hx | ⟨_, hx | hx⟩
              · exact (hown b hbE).1 hx
              · exact (List.nodup_append.1 hndE).2.2 b hx b hb rfl
              · have := (hown b hbE).2; omega)
        (List.nodup_append.2 ⟨(List.nodup_append.1 hnd).1, b10, fun x hx y hy hxy => by
          subst hxy
          rcases List.mem_append.1 (b9 x hy) with hy | hy
          · exact (List.nodup_append.1 hnd).2.2 x hx x hy rfl
          · exact hgg x (List.mem_append.2 (.inl hx)) hy⟩)
      rw [hen, b1] at hK1
      obtain ⟨μ', fp', r3⟩ := takeRes_ok r2 hd hres1
      exact ⟨v, _, _, μ', fp', he, hK1, r3, fun hx => by have h1 := hx _ ht; rw [hw] at h1; cases h1⟩
    cases hf : hasFro res || hasFro left
    · rw [hf, if_neg (by simp)] at hK
      rw [Bool.or_eq_false_iff] at hf
      refine key σ F fp h rfl rfl (fun _ h => h) (hres.noFro hf.1) (hleft.imp (fun h => ⟨h.1, h.2.noFro hf.2⟩) id) ?_
      split <;> simp_all
    · rw [hf, if_pos rfl] at hK
      obtain ⟨F1, fp1, r2, r3, r4, r5⟩ := h.freezeL hlive
      obtain ⟨r6, r7⟩ := r5 e0 hnot
      have hsub : ∀ b, F' b → F1 b ∨ (F' b ∧ (b ∈ gs ∨ w.heap.size ≤ b)) := fun b hb => by
        rcases (hF' b hb).2 with (h1 | ⟨e, h1, h2, h3⟩) | h1
        · exact .inl (r3 b h1)
        · exact .inl (r4 e h1 b h3)
        · exact .inr ⟨hb, h1⟩
      refine key _ F1 fp1 r2 r7 r6 r3 (hres.mono hsub (fun _ _ => rfl)) (hleft.imp (fun h => ⟨h.1, h.2.mono hsub (fun _ _ => rfl)⟩) id) ?_
      split <;> simp_all

/-- A call whose result is a whole number, a bool or a text: the same value in every later world. -/
theorem callQ_ok (hD : SpecOk C D) (h : Rel n w0 F0 S0 G F μ fp [] σ a w) {K : St → Prop} {x : Operand} {args : Array Operand} {ts : Array TypeId} (ho : o.op = .call { callee := .value x, args, argTypes := ts }) (hW : callP C D true x args o.dst K σ) :
    ∃ f vals v r, (∀ w', (execOp a.eval o).run C.P w' = .ok (.enter f vals) w') ∧ (∀ w', KeptS w w' (fun _ => False) → Calls C.P f vals w' fun e w'' => e = .returned v ∧ KeptS w w'' (fun _ => False)) ∧ SRep F w σ.en μ fp v r ∧ K (σ.put o.dst r) := by
  obtain ⟨⟨f, caps⟩, ht, as, ha, ⟨_, hnw⟩, R, hDf, hsc, hK⟩ := hW
  obtain ⟨res, hsc, hR0, hone⟩ := hsc rfl
  have hw := hnw rfl
  dsimp only at ha hDf hK hw
  obtain ⟨hpl, hdo⟩ := hD _ _ _ hDf
  obtain ⟨us, hv, hr⟩ := call_args h hw ht ha
  obtain ⟨v, hvs, hu⟩ : ∃ v, SRep F w σ.en μ fp v res ∧ ∀ F' w' v' g, ResRep F' w' v' res g → v' = v := by
    cases res with
    | int k i => exact ⟨.int k i, RepL.int .nil, fun F' w' v' g hr => by have hr : RepL F' w' [v'] [.int k i] g := hr; cases hr; rfl⟩
    | bool b => exact ⟨.bool b, RepL.bool .nil, fun F' w' v' g hr => by have hr : RepL F' w' [v'] [.bool b] g := hr; cases hr; rfl⟩
    | str s => exact ⟨.string s, RepL.str .nil, fun F' w' v' g hr => by have hr : RepL F' w' [v'] [.str s] g := hr; cases hr; rfl⟩
    | _ => cases hsc
  have hk0 : ∀ σ, takeRes o.dst σ res = σ.put o.dst res := fun σ => by
    cases res <;> first | (cases o.dst <;> rfl) | cases hsc
  have hdo' : ∀ w', KeptS w w' (fun _ => False) → Calls C.P f (args.map a.eval ++ us.toArray) w' fun e w'' => e = .returned v ∧ KeptS w w'' (fun _ => False) := fun w' hk => by
    have := hdo w' (lentF F σ fp (lentL C σ f 0 (args.toList.map σ.get))) _ [] (fun b hb => Nat.lt_of_lt_of_le (lentF_lt h hb) hk.size) (hr.mono (fun _ h => h) (fun b hb => hk.block b (lentF_lt h (by simpa using hb)) (fun h => h))) List.nodup_nil (by simp)
    rw [toArray_append] at this
    refine this.mono fun e w'' ⟨v', F', g, gs', r, left, hR, he, hk', hFF, hF', hg, hnd, hres, _⟩ => ?_
    obtain rfl := hone _ _ hR
    have hk' : KeptS w' w'' (fun _ => False) := ⟨hk'.os, hk'.tape, hk'.output, hk'.size, fun b hb _ => hk'.block b hb (by simp), hk'.same⟩
    exact ⟨by rw [he, hu _ _ _ _ hres], hk.trans hk' (fun _ _ h => h.elim)⟩
  have hK := hK res .und hR0
  have hf : (hasFro res || hasFro .und) = false := by cases res <;> first | rfl | cases hsc
  rw [hf, if_neg (by simp)] at hK
  simp only [leftS, hw] at hK
  rw [hk0] at hK
  exact ⟨f, _, v, res, exec_call hpl ho hv, hdo', hvs, hK⟩

end
end Go.Vm
