/- A function does what the logic says. -/
import Derived.Test.YtickagjmjlnabaaVSound
namespace Go.Vm

section
variable {C : Cfg} {D : Spec} {n : Nat} {w0 : World} {F0 S0 F : Nat → Prop} {G : Value → AV → Prop} {μ : Nat → Option Nat} {fp : Nat → List Nat} {L : List Nat} {σ σ' : St} {a : Act} {w w' : World} {o : Oper}

theorem Rel.closeAgg (h : Rel n w0 F0 S0 G F μ fp L σ a w) {v : Value} {x y : AV} (hx : SRep F w σ.en μ fp v x) (hc : σ.closeV x = some (y, σ')) :
    ∃ F' fp' f, Rel n w0 F0 S0 G F' μ fp' (f ++ L) σ' a w ∧ ValRep F' w v y f ∧ (∀ b, F b → F' b) ∧ (∀ v x, SLeaf F w σ.en μ fp v x → SLeaf F' w σ'.en μ fp' v x) := by
  have leaf : SLeaf F w σ.en μ fp v x → σ.close x = some (y, σ') → ∃ F' fp' f, Rel n w0 F0 S0 G F' μ fp' (f ++ L) σ' a w ∧ ValRep F' w v y f ∧ (∀ b, F b → F' b) ∧ (∀ v x, SLeaf F w σ.en μ fp v x → SLeaf F' w σ'.en μ fp' v x) := by
    intro hl he
    obtain ⟨F', fp', f, r1, r2, r3, r4, _⟩ := h.close hl he
    refine ⟨F', fp', f, r1, ?_, r3, r4⟩
    cases y with
    | agg => cases r2
    | _ => exact r2
  cases x with
  | agg fs =>
    obtain ⟨cs, rfl, hall⟩ := hx
    simp only [St.closeV, Option.bind_eq_bind, Option.bind_eq_some_iff] at hc
    obtain ⟨⟨ls, σ1⟩, hls, he⟩ := hc
    simp only [Option.some.injEq, Prod.mk.injEq] at he
    obtain ⟨rfl, rfl⟩ := he
    obtain ⟨F', fp', f, r1, r2, r3, r4, _⟩ := h.closeL hall hls
    exact ⟨F', fp', f, r1, ⟨cs, rfl, r2⟩, r3, r4⟩
  | tup => simp [St.closeV, St.close] at hc
  | pt => simp [St.closeV, St.close] at hc
  | _ => exact leaf (hx.leaf (by simp) (by simp) (by simp)) hc

theorem SRep.trans {F' : Nat → Prop} {en en' : Nat → Ent} {μ' : Nat → Option Nat} {fp' : Nat → List Nat} (ht : ∀ v x, SLeaf F w en μ fp v x → SLeaf F' w en' μ' fp' v x) {v : Value} {x : AV} (h : SRep F w en μ fp v x) : SRep F' w en' μ' fp' v x := by
  have agg : ∀ v x, SAgg F w en μ fp v x → SAgg F' w en' μ' fp' v x := by
    intro v x h
    cases x with
    | agg fs => obtain ⟨cs, e, h⟩ := h; exact ⟨cs, e, h.imp ht⟩
    | _ => simp only [SAgg] at h ⊢; exact ht _ _ h
  cases x with
  | tup vs => obtain ⟨us, e, h⟩ := h; exact ⟨us, e, h.imp agg⟩
  | pt => trivial
  | _ => simp only [SRep] at h ⊢; exact agg _ _ h

theorem Rel.closeAggs : ∀ {xs ys : List AV} {vs : List Value} {σ σ' : St} {F : Nat → Prop} {fp : Nat → List Nat} {L : List Nat}, Rel n w0 F0 S0 G F μ fp L σ a w → All2 (SRep F w σ.en μ fp) vs xs → σ.closeVs xs = some (ys, σ') →
    ∃ F' fp' f, Rel n w0 F0 S0 G F' μ fp' (f ++ L) σ' a w ∧ ValsRep F' w vs ys f ∧ (∀ b, F b → F' b)
  | [], ys, [], σ, σ', F, fp, L, h, _, hc => by
    simp only [St.closeVs, Option.some.injEq, Prod.mk.injEq] at hc
    obtain ⟨rfl, rfl⟩ := hc
    exact ⟨F, fp, [], h, .nil, fun _ h => h⟩
  | x :: xs, ys, v :: vs, σ, σ', F, fp, L, h, ⟨h1, h2⟩, hc => by
    simp only [St.closeVs, Option.bind_eq_bind, Option.bind_eq_some_iff] at hc
    obtain ⟨⟨y, σ1⟩, hy, ⟨ys', σ2⟩, hys, he⟩ := hc
    simp only [Option.some.injEq, Prod.mk.injEq] at he
    obtain ⟨rfl, rfl⟩ := he
    obtain ⟨F1, fp1, f1, r1, r2, r3, r4⟩ := h.closeAgg h1 hy
    obtain ⟨F2, fp2, f2, s1, s2, s3⟩ := Rel.closeAggs r1 (h2.imp fun _ _ hx => SRep.trans r4 hx) hys
    refine ⟨F2, fp2, f1 ++ f2, s1.perm ?_, .cons (r2.mono s3 fun _ _ => rfl) s2, fun b hb => s3 b (r3 b hb)⟩
    rw [← List.append_assoc]
    exact List.perm_append_comm.append_right L
  | [], _, _ :: _, _, _, _, _, _, _, h, _ => h.elim
  | _ :: _, _, [], _, _, _, _, _, _, h, _ => h.elim

def resVar (tmps : Array Value) : ResultVar → Sem Value
  | .tmp t => pure (tmps.getD t undef)
  | .cell a t => do loadVar t (← asAddr (tmps.getD a undef))

theorem run_resVars (hC : CfgOk C) (h : Rel n w0 F0 S0 G F μ fp [] σ a w) : ∀ {l : List ResultVar} {xs : List AV}, resL C σ l = some xs → ∃ vs, (l.mapM (resVar a.tmps)).run C.P w = .ok vs w ∧ All2 (SRep F w σ.en μ fp) vs xs
  | [], xs, hx => by cases hx; exact ⟨[], by simp, trivial⟩
  | .tmp t :: l, xs, hx => by
    simp only [resL, Option.bind_eq_bind, Option.bind_eq_some_iff, Option.some.injEq] at hx
    obtain ⟨xs', hx', rfl⟩ := hx
    obtain ⟨vs, h1, h2⟩ := run_resVars hC h hx'
    exact ⟨_ :: vs, by simp only [List.mapM_cons, resVar, Sem.run_bind, Sem.run_pure, Result.andThen_ok, h1], h.slots t, h2⟩
  | .cell r t :: l, xs, hx => by
    simp only [resL, Option.bind_eq_bind, Option.bind_eq_some_iff, Option.some.injEq] at hx
    obtain ⟨x, hl, xs', hx', rfl⟩ := hx
    obtain ⟨vs, h1, h2⟩ := run_resVars hC h hx'
    obtain ⟨v, x', he, hv, hrun⟩ := op_load (o := { dst := some 0, op := .load t (.tmp r), type := 0, pos := "", after := #[], guard := none }) hC h rfl hl
    have hxx : x = x' := by
      have := congrArg (fun s : St => s.sl 0) he
      simpa [St.put, upd] using this
    subst hxx
    have hr := hrun w (KeptS.refl _ _)
    have hld : (Instr.loadAt t (a.tmps.getD r undef)).run C.P w = .ok v w := by
      simp only [execOp, Sem.run_bind] at hr
      have e : a.eval (.tmp r) = a.tmps.getD r undef := rfl
      rw [e] at hr
      cases hq : (Instr.loadAt t (a.tmps.getD r undef)).run C.P w with
      | ok v1 w1 =>
        rw [hq] at hr
        simp only [Result.andThen_ok, Sem.run_pure, Result.ok.injEq, Next.value.injEq] at hr
        rw [hr.1, hr.2]
      | halt x w1 => rw [hq] at hr; simp [Result.andThen] at hr
    have hcell : (resVar a.tmps (.cell r t)).run C.P w = .ok v w := by
      unfold Instr.loadAt at hld
      show ((do loadVar t (← asAddr (a.tmps.getD r undef))) : Sem Value).run C.P w = .ok v w
      generalize a.tmps.getD r undef = u at hld ⊢
      cases u with
      | pointer p =>
        cases p with
        | some p => simpa [Instr.sureAddr, asAddr] using hld
        | none => simp [Instr.sureAddr, stuck] at hld
      | _ => simp [Instr.sureAddr, stuck] at hld
    exact ⟨v :: vs, by simp only [List.mapM_cons, Sem.run_bind, hcell, Sem.run_pure, Result.andThen_ok, h1], hv, h2⟩

def resVal : List Value → Value
  | [v] => v
  | vs => .tuple vs.toArray

theorem run_results (hC : CfgOk C) (h : Rel n w0 F0 S0 G F μ fp [] σ a w) {fn : Func} {xs : List AV} (hx : resL C σ fn.results.toList = some xs) : ∃ vs, (results fn a.tmps).run C.P w = .ok (resVal vs) w ∧ All2 (SRep F w σ.en μ fp) vs xs := by
  obtain ⟨vs, hk, hall⟩ := run_resVars hC h hx
  refine ⟨vs, ?_, hall⟩
  change ((do let vs ← fn.results.mapM (resVar a.tmps); pure (if h : vs.size = 1 then vs[0] else .tuple vs)) : Sem Value).run C.P w = _
  rw [Sem.run_bind, Array.mapM_eq_mapM_toList, Sem.run_map, hk]
  simp only [Result.andThen_ok, Sem.run_pure]
  congr 1
  match vs with
  | [] => simp [resVal]
  | [r] => simp [resVal]
  | r1 :: r2 :: rs => simp [resVal]

theorem ValsRep.length {vs : List Value} {xs : List AV} {f : List Nat} (h : ValsRep F w vs xs f) : vs.length = xs.length := by
  induction h with
  | nil => rfl
  | cons _ _ ih => simp [ih]

theorem ValsRep.get {vs : List Value} {xs : List AV} {i : Nat} {x : AV} (h : ValsRep F w vs xs []) (hx : xs[i]? = some x) : ∃ v, vs[i]? = some v ∧ ValRep F w v x [] := by
  generalize hf : ([] : List Nat) = f at h
  induction h generalizing i with
  | nil => simp at hx
  | cons h1 h2 ih =>
    obtain ⟨rfl, rfl⟩ := List.append_eq_nil_iff.1 hf.symm
    cases i with
    | zero => simp at hx ⊢; subst hx; exact h1
    | succ i => simpa using ih (by simpa using hx) rfl

/-- Nothing is owned by an argument. -/
def argOk (x : AV) : Bool := (leaves x).all noOwn

theorem ValRep.srep {en : Nat → Ent} {v : Value} {x : AV} (h : ValRep F w v x []) (hx : argOk x = true) : SRep F w en μ fp v x := by
  cases x with
  | agg fs =>
    obtain ⟨cs, rfl, hr⟩ := h
    exact ⟨cs, rfl, hr.all2 hx⟩
  | tup => cases h
  | pt => trivial
  | own sz l => simp [argOk, leaves, noOwn] at hx
  | _ => exact SRep.of_agg (RepL.sleaf (en := en) (μ := μ) (fp := fp) (show RepL F w _ _ _ from h) (by simp))

theorem init_ok (hF : ∀ b, F b → b < w.heap.size) {vals : List Value} {args : List AV} (h : ValsRep F w vals args []) (hx : args.all argOk = true) (hn : args.length ≤ n) :
    Stands n w F (fun _ => False) (fun _ _ => False) (St.init args) { tmps := vals.toArray ++ Array.replicate (n - vals.toArray.size) undef, defers := [] } w := by
  have hl := h.length
  refine ⟨F, fun _ => none, fun _ => [], rfl, by simp; omega, KeptS.refl _ _, fun _ h => h, fun b hb => ⟨hF b hb, .inl hb⟩, fun e he => by simp [St.init] at he, fun e he => by simp [St.init] at he, fun e he => by simp [St.init] at he, fun e _ he => by simp [St.init] at he, by simp, List.nodup_nil, fun s => ?_, fun _ _ h => h.elim⟩
  show SRep F w _ _ _ _ (args.getD s (.tup []))
  by_cases hs : s < args.length
  · have hx' := List.getElem?_eq_getElem hs
    obtain ⟨v, hv, hr⟩ := h.get hx'
    have e1 : args.getD s (.tup []) = args[s] := by simp [List.getD, hx']
    have e2 : (vals.toArray ++ Array.replicate (n - vals.toArray.size) undef).getD s undef = v := by
      rw [Array.getD_eq_getD_getElem?, Array.getElem?_append_left (by simp; omega)]
      simp [hv]
    rw [e1, e2]
    exact hr.srep (List.all_eq_true.1 hx _ (List.getElem_mem hs))
  · have e1 : args.getD s (.tup []) = .tup [] := by simp [List.getD, List.getElem?_eq_none (by omega : args.length ≤ s)]
    have e2 : (vals.toArray ++ Array.replicate (n - vals.toArray.size) undef).getD s undef = undef := by
      rw [Array.getD_eq_getD_getElem?, Array.getElem?_append_right (by simp; omega), Array.getElem?_replicate]
      split <;> rfl
    rw [e1, e2]
    exact SRep.unit _ _ _ _ _

theorem ret_ok (hC : CfgOk C) (h : Stands n w0 F0 (fun _ => False) G σ a w) {fn : Func} {res : AV} (hr : retF C σ fn.results.toList = some res) :
    ∃ v F' g, (results fn a.tmps).run C.P w = .ok v w ∧ KeptS w0 w (fun _ => False) ∧ (∀ b, F' b → b < w.heap.size ∧ (F0 b ∨ w0.heap.size ≤ b)) ∧ (∀ b ∈ g, ¬ F' b ∧ w0.heap.size ≤ b ∧ b < w.heap.size) ∧ g.Nodup ∧ ResRep F' w v res g := by
  obtain ⟨F, μ, fp, h⟩ := h
  simp only [retF, Option.bind_eq_bind, Option.bind_eq_some_iff] at hr
  obtain ⟨xs, hx, hr⟩ := hr
  obtain ⟨vs, hrun, hall⟩ := run_results hC h hx
  have fin : ∀ {F' : Nat → Prop} {fp' : Nat → List Nat} {g : List Nat} {σ' : St}, Rel n w0 F0 (fun _ => False) G F' μ fp' (g ++ []) σ' a w → ResRep F' w (resVal vs) res g →
      ∃ v F' g, (results fn a.tmps).run C.P w = .ok v w ∧ KeptS w0 w (fun _ => False) ∧ (∀ b, F' b → b < w.heap.size ∧ (F0 b ∨ w0.heap.size ≤ b)) ∧ (∀ b ∈ g, ¬ F' b ∧ w0.heap.size ≤ b ∧ b < w.heap.size) ∧ g.Nodup ∧ ResRep F' w v res g := by
    intro F' fp' g σ' hr hres
    rw [List.append_nil] at hr
    refine ⟨_, F', g, hrun, hr.kept, fun b hb => ⟨(hr.free b hb).1, (hr.free b hb).2.imp id (fun h => h.resolve_left (fun h => h))⟩, fun b hb => ?_, hr.looseNodup, hres⟩
    obtain ⟨h1, h2, h3, _⟩ := hr.loose b hb
    exact ⟨h1, h3.resolve_left (fun h => h), h2⟩
  split at hr
  · rename_i x
    simp only [Option.bind_eq_some_iff] at hr
    obtain ⟨⟨y, σ'⟩, hy, he⟩ := hr
    cases he
    have hl := hall.length
    obtain ⟨v, rfl⟩ : ∃ v, vs = [v] := by
      cases vs with
      | nil => simp at hl
      | cons v t => cases t with
        | nil => exact ⟨v, rfl⟩
        | cons => simp at hl
    obtain ⟨F', fp', f, r1, r2, _⟩ := h.closeAgg hall.1 hy
    refine fin r1 ?_
    have hv : ValRep F' w v y f := r2
    cases y with
    | tup => cases hv
    | _ => exact hv
  · rename_i hne
    simp only [Option.bind_eq_some_iff] at hr
    obtain ⟨⟨y, σ'⟩, hy, he⟩ := hr
    cases he
    obtain ⟨F', fp', f, r1, r2, _⟩ := Rel.closeAggs h hall hy
    refine fin r1 ?_
    have hv : resVal vs = .tuple vs.toArray := by
      have hl := hall.length
      cases vs with
      | nil => rfl
      | cons v t => cases t with
        | cons => rfl
        | nil =>
          cases xs with
          | nil => simp at hl
          | cons x t => cases t with
            | nil => exact absurd rfl (hne x)
            | cons => simp at hl
    rw [hv]
    exact ⟨_, rfl, by simpa using r2⟩

/-- THE LAW: what the logic says of a function's text, the function does. -/
theorem does_of_W (hC : CfgOk C) (hD : SpecOk C D) {f : Nat} {fn : Func} {c : Code} {args : List AV} {res : AV} (hf : C.P.funcs[f]? = some fn) (hb : fn.body = some c) (hok : okCode fn.ntmps c = true)
    (hn : args.length ≤ fn.ntmps) (ha : args.all argOk = true) (hW : W C D c (retQ C fn.results.toList (· = res)) (St.init args)) : Does C f args res := by
  intro w F vals hF hv
  refine calls_of_wp hf hb (wp_mono (W_sound hC hD c _ _ _ _ hok (init_ok hF hv ha hn) hW) ?_)
  rintro e a' w' ⟨e', σ, rfl, hq, hs⟩
  have key : exP (retF C σ fn.results.toList) (· = res) → a'.defers = [] ∧ ∃ v, (results fn a'.tmps).run C.P w' = .ok v w' ∧ ∃ v' F' g, Ending.returned v = .returned v' ∧ KeptS w w' (fun _ => False) ∧ (∀ b, F' b → b < w'.heap.size ∧ (F b ∨ w.heap.size ≤ b)) ∧ (∀ b ∈ g, ¬ F' b ∧ w.heap.size ≤ b ∧ b < w'.heap.size) ∧ g.Nodup ∧ ResRep F' w' v' res g := by
    rintro ⟨r, hr, rfl⟩
    obtain ⟨v, F', g, h0, h1, h2, h3, h4, h5⟩ := ret_ok hC hs hr
    obtain ⟨_, _, _, hrel⟩ := hs
    exact ⟨hrel.defers, v, h0, _, F', g, rfl, h1, h2, h3, h4, h5⟩
  cases e' with
  | normal => exact key hq
  | exit i => exact hq.elim
  | ret => exact key hq

end
end Go.Vm
