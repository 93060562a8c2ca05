/- The call itself. -/
import Derived.Test.YtickagjmjlnabaaVCall2
namespace Go.Vm

section
variable {C : Cfg} {D : Spec} {n : Nat} {w0 : World} {F0 S0 F : Nat → Prop} {G : Value → AV → Prop} {μ : Nat → Option Nat} {fp : Nat → List Nat} {L : List Nat} {σ σ' : St} {a : Act} {w w' : World} {o : Oper}

theorem exec_call {f : Nat} {us : Array Value} {x : Operand} {args : Array Operand} {ts : Array TypeId} (hp : Plain C f) (ho : o.op = .call { callee := .value x, args, argTypes := ts }) (hx : a.eval x = .func (.func f) #[] us) (w : World) :
    (execOp a.eval o).run C.P w = .ok (.enter f (args.map a.eval ++ us)) w := by
  obtain ⟨_, fn, c, hf, hn, hb⟩ := hp
  have hn : fn.name ≠ "runtime.NumGoroutine" := by simpa using hn
  simp [execOp, ho, resolve, hx, Deferred.ofValue, invoke, callFunc, hf, hn, hb]

theorem args_all2 (h : Rel n w0 F0 S0 G F μ fp L σ a w) (args : Array Operand) : All2 (SRep F w σ.en μ fp) (args.toList.map a.eval) (args.toList.map σ.get) := All2.of_map (fun x => h.get x) _

/-- What a call is given stands for what the evaluator says; in every later world too. -/
theorem call_args (h : Rel n w0 F0 S0 G F μ fp [] σ a w) {x : Operand} {args : Array Operand} {f : Nat} {caps as : List AV} (hw : ∀ p, C.wrt f p = false) (ht : target σ x = some (f, caps)) (ha : passL C σ f 0 (args.toList.map σ.get ++ caps) = some as) :
    ∃ us : List Value, a.eval x = .func (.func f) #[] us.toArray ∧ ValsRep (lentF F σ fp (lentL C σ f 0 (args.toList.map σ.get))) w (args.toList.map a.eval ++ us) as [] := by
  unfold target at ht
  split at ht
  case h_2 => cases ht
  rename_i hx
  cases ht
  have hg := h.get x
  rw [hx] at hg
  obtain ⟨us, hv, hu⟩ := RepL.clo_inv hg
  obtain ⟨y1, y2, rfl, h1, h2⟩ := passL_caps hw ha
  refine ⟨us, hv, ?_⟩
  have r1 := passL_ok h hw (args_all2 h args) h1
  have r2 := (caps_ok h hw hu h2).mono (F' := lentF F σ fp (lentL C σ f 0 (args.toList.map σ.get))) (w' := w) (fun b hb => .inl hb) (fun _ _ => rfl)
  exact r1.append r2

theorem lentF_lt (h : Rel n w0 F0 S0 G F μ fp L σ a w) {es : List Nat} {b : Nat} (hb : lentF F σ fp es b) : b < w.heap.size := by
  rcases hb with hb | ⟨e, _, hl, hb⟩
  · exact (h.free b hb).1
  · exact (h.own e hl b hb).2.1

theorem toArray_append (args : Array Operand) (us : List Value) : (args.toList.map a.eval ++ us).toArray = args.map a.eval ++ us.toArray := by
  apply Array.ext'; simp

theorem call_ok (hD : SpecOk C D) (h : Rel n w0 F0 S0 G F μ fp [] σ a w) (hd : ∀ k, o.dst = some k → k < n) {q : Bool} {K : St → Prop} {x : Operand} {args : Array Operand} {ts : Array TypeId} (ho : o.op = .call { callee := .value x, args, argTypes := ts }) (hW : callP C D q x args o.dst K σ) :
    ∃ f vals, (execOp a.eval o).run C.P w = .ok (.enter f vals) w ∧
      Calls C.P f vals w fun e w' => ∃ v σ' F' μ' fp', e = .returned v ∧ K σ' ∧ Rel n w0 F0 S0 G F' μ' fp' [] σ' (a.put o.dst v) w' := by
  obtain ⟨⟨f, caps⟩, ht, as, ha, res, left, hDf, _, hK⟩ := hW
  dsimp only at ha hDf hK
  obtain ⟨hpl, hdo⟩ := hD _ _ _ _ hDf
  obtain ⟨us, hv, hr⟩ := call_args h hpl.1 ht ha
  obtain ⟨_, _, _, hpa, _⟩ := passL_caps hpl.1 ha
  have hlive := lent_live h hpa
  refine ⟨f, _, exec_call hpl ho hv w, ?_⟩
  have := hdo w _ _ (fun b hb => lentF_lt h hb) hr
  rw [toArray_append] at this
  refine this.mono fun e w' ⟨v, F', g, he, hk, hF', hg, hnd, hres⟩ => ?_
  have r1 := h.extend (newF := fun b => F' b ∧ w.heap.size ≤ b) (g := g) hk (fun b hb => ⟨hb.2, (hF' b hb.1).1⟩) (fun b hb => ⟨(hg b hb).2.1, (hg b hb).2.2, fun hx => (hg b hb).1 hx.1⟩) hnd
  rw [List.append_nil] at r1
  cases hf : hasFro res
  · rw [hf, if_neg (by simp)] at hK
    obtain ⟨μ', fp', r2⟩ := takeRes_ok r1 hd (hres.noFro hf)
    exact ⟨v, _, _, μ', fp', he, hK, r2⟩
  · rw [hf, if_pos rfl] at hK
    obtain ⟨F'', fp'', r2, r3, r4⟩ := r1.freezeL hlive
    have hres' : ResRep F'' w' v res g := hres.mono (fun b hb => by
      rcases (hF' b hb).2 with (h1 | ⟨e, h1, h2, h3⟩) | h1
      · exact r3 b (.inl h1)
      · exact r4 e h1 b h3
      · exact r3 b (.inr ⟨hb, h1⟩)) (fun _ _ => rfl)
    obtain ⟨μ', fp', r5⟩ := takeRes_ok r2 hd hres'
    exact ⟨v, _, _, μ', fp', he, hK, r5⟩

/-- A call whose result is a whole number, a bool or a text: the same value in every later world. -/
theorem callQ_ok (hD : SpecOk C D) (h : Rel n w0 F0 S0 G F μ fp [] σ a w) {K : St → Prop} {x : Operand} {args : Array Operand} {ts : Array TypeId} (ho : o.op = .call { callee := .value x, args, argTypes := ts }) (hW : callP C D true x args o.dst K σ) :
    ∃ f vals v r, (∀ w', (execOp a.eval o).run C.P w' = .ok (.enter f vals) w') ∧ (∀ w', KeptS w w' (fun _ => False) → Calls C.P f vals w' fun e w'' => e = .returned v ∧ KeptS w w'' (fun _ => False)) ∧ SRep F w σ.en μ fp v r ∧ K (σ.put o.dst r) := by
  obtain ⟨⟨f, caps⟩, ht, as, ha, res, left, hDf, hsc, hK⟩ := hW
  have hsc := hsc rfl
  dsimp only at ha hDf hK
  obtain ⟨hpl, hdo⟩ := hD _ _ _ _ hDf
  obtain ⟨us, hv, hr⟩ := call_args h hpl.1 ht ha
  obtain ⟨v, hvs, hu⟩ : ∃ v, SRep F w σ.en μ fp v res ∧ ∀ F' w' v' g, ResRep F' w' v' res g → v' = v := by
    cases res with
    | int k i => exact ⟨.int k i, RepL.int .nil, fun F' w' v' g hr => by have hr : RepL F' w' [v'] [.int k i] g := hr; cases hr; rfl⟩
    | bool b => exact ⟨.bool b, RepL.bool .nil, fun F' w' v' g hr => by have hr : RepL F' w' [v'] [.bool b] g := hr; cases hr; rfl⟩
    | str s => exact ⟨.string s, RepL.str .nil, fun F' w' v' g hr => by have hr : RepL F' w' [v'] [.str s] g := hr; cases hr; rfl⟩
    | _ => cases hsc
  have hk0 : takeRes o.dst (if hasFro res then freezeL σ (lentL C σ f 0 (args.toList.map σ.get)) else σ) res = σ.put o.dst res := by
    cases res <;> first | (cases o.dst <;> rfl) | cases hsc
  rw [hk0] at hK
  refine ⟨f, _, v, res, exec_call hpl ho hv, fun w' hk => ?_, hvs, hK⟩
  have := hdo w' (lentF F σ fp (lentL C σ f 0 (args.toList.map σ.get))) _ (fun b hb => Nat.lt_of_lt_of_le (lentF_lt h hb) hk.size) (hr.mono (fun _ h => h) (fun b hb => hk.block b (lentF_lt h (by simpa using hb)) (fun h => h)))
  rw [toArray_append] at this
  refine this.mono fun e w'' ⟨v', F', g, he, hk', hF', hg, hnd, hres⟩ => ⟨?_, hk.trans hk' (fun _ _ h => h.elim)⟩
  rw [he, hu _ _ _ _ hres]

end
end Go.Vm
