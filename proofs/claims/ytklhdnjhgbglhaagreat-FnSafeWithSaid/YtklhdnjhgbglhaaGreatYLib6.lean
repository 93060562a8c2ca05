/- A part of the evaluator of the walks. Conditions: none but those ahead of each theorem. -/
import Derived.Test.YtklhdnjhgbglhaaGreatYLib5
import Derived.Laws.StructEq
section
/- A function does what the logic says. -/
namespace Go.Vm
section
variable {C : Cfg} {D : Spec} {n : Nat} {w0 : World} {F0 S0 F : Nat → Prop} {G : Value → AV → Prop} {μ : Nat → Option Nat} {fp : Nat → List Nat} {L : List Nat} {σ σ' : St} {a : Act} {w w' : World} {o : Oper}
theorem Rel.closeAgg (h : Rel n w0 F0 S0 G F μ fp L σ a w) {v : Value} {x y : AV} (hx : SRep F w σ.en μ fp v x) (hc : σ.closeV x = some (y, σ')) :
    ∃ F' fp' f, Rel n w0 F0 S0 G F' μ fp' (f ++ L) σ' a w ∧ ValRep F' w v y f ∧ (∀ b, F b → F' b) ∧ (∀ v x, SLeaf F w σ.en μ fp v x → SLeaf F' w σ'.en μ fp' v x) := by
  have leaf : SLeaf F w σ.en μ fp v x → σ.close x = some (y, σ') → ∃ F' fp' f, Rel n w0 F0 S0 G F' μ fp' (f ++ L) σ' a w ∧ ValRep F' w v y f ∧ (∀ b, F b → F' b) ∧ (∀ v x, SLeaf F w σ.en μ fp v x → SLeaf F' w σ'.en μ fp' v x) := by
    intro hl he
    obtain ⟨F', fp', f, r1, r2, r3, r4, _⟩ := h.close hl he
    refine ⟨F', fp', f, r1, ?_, r3, r4⟩
    cases y with
    | agg => cases r2
    | _ => exact r2
  cases x with
  | agg fs =>
    obtain ⟨cs, rfl, hall⟩ := hx
    simp only [St.closeV, Option.bind_eq_bind, Option.bind_eq_some_iff] at hc
    obtain ⟨⟨ls, σ1⟩, hls, he⟩ := hc
    simp only [Option.some.injEq, Prod.mk.injEq] at he
    obtain ⟨rfl, rfl⟩ := he
    obtain ⟨F', fp', f, r1, r2, r3, r4, _⟩ := h.closeL hall hls
    exact ⟨F', fp', f, r1, ⟨cs, rfl, r2⟩, r3, r4⟩
  | tup => simp [St.closeV, St.close] at hc
  | pt => simp [St.closeV, St.close] at hc
  | _ => exact leaf (hx.leaf (by simp) (by simp) (by simp)) hc
theorem SRep.trans {F' : Nat → Prop} {en en' : Nat → Ent} {μ' : Nat → Option Nat} {fp' : Nat → List Nat} (ht : ∀ v x, SLeaf F w en μ fp v x → SLeaf F' w en' μ' fp' v x) {v : Value} {x : AV} (h : SRep F w en μ fp v x) : SRep F' w en' μ' fp' v x := by
  have agg : ∀ v x, SAgg F w en μ fp v x → SAgg F' w en' μ' fp' v x := by
    intro v x h
    cases x with
    | agg fs => obtain ⟨cs, e, h⟩ := h; exact ⟨cs, e, h.imp ht⟩
    | _ => simp only [SAgg] at h ⊢; exact ht _ _ h
  cases x with
  | tup vs => obtain ⟨us, e, h⟩ := h; exact ⟨us, e, h.imp agg⟩
  | pt => trivial
  | _ => simp only [SRep] at h ⊢; exact agg _ _ h
theorem Rel.closeAggs : ∀ {xs ys : List AV} {vs : List Value} {σ σ' : St} {F : Nat → Prop} {fp : Nat → List Nat} {L : List Nat}, Rel n w0 F0 S0 G F μ fp L σ a w → All2 (SRep F w σ.en μ fp) vs xs → σ.closeVs xs = some (ys, σ') →
    ∃ F' fp' f, Rel n w0 F0 S0 G F' μ fp' (f ++ L) σ' a w ∧ ValsRep F' w vs ys f ∧ (∀ b, F b → F' b)
  | [], ys, [], σ, σ', F, fp, L, h, _, hc => by
    simp only [St.closeVs, Option.some.injEq, Prod.mk.injEq] at hc
    obtain ⟨rfl, rfl⟩ := hc
    exact ⟨F, fp, [], h, .nil, fun _ h => h⟩
  | x :: xs, ys, v :: vs, σ, σ', F, fp, L, h, ⟨h1, h2⟩, hc => by
    simp only [St.closeVs, Option.bind_eq_bind, Option.bind_eq_some_iff] at hc
    obtain ⟨⟨y, σ1⟩, hy, ⟨ys', σ2⟩, hys, he⟩ := hc
    simp only [Option.some.injEq, Prod.mk.injEq] at he
    obtain ⟨rfl, rfl⟩ := he
    obtain ⟨F1, fp1, f1, r1, r2, r3, r4⟩ := h.closeAgg h1 hy
    obtain ⟨F2, fp2, f2, s1, s2, s3⟩ := Rel.closeAggs r1 (h2.imp fun _ _ hx => SRep.trans r4 hx) hys
    refine ⟨F2, fp2, f1 ++ f2, s1.perm ?_, .cons (r2.mono s3 fun _ _ => rfl) s2, fun b hb => s3 b (r3 b hb)⟩
    rw [← List.append_assoc]
    exact List.perm_append_comm.append_right L
  | [], _, _ :: _, _, _, _, _, _, _, h, _ => h.elim
  | _ :: _, _, [], _, _, _, _, _, _, h, _ => h.elim
def resVar (tmps : Array Value) : ResultVar → Sem Value
  | .tmp t => pure (tmps.getD t undef)
  | .cell a t => do loadVar t (← asAddr (tmps.getD a undef))
theorem run_resVars (hC : CfgOk C) (h : Rel n w0 F0 S0 G F μ fp [] σ a w) : ∀ {l : List ResultVar} {xs : List AV}, resL C σ l = some xs → ∃ vs, (l.mapM (resVar a.tmps)).run C.P w = .ok vs w ∧ All2 (SRep F w σ.en μ fp) vs xs
  | [], xs, hx => by cases hx; exact ⟨[], by simp, trivial⟩
  | .tmp t :: l, xs, hx => by
    simp only [resL, Option.bind_eq_bind, Option.bind_eq_some_iff, Option.some.injEq] at hx
    obtain ⟨xs', hx', rfl⟩ := hx
    obtain ⟨vs, h1, h2⟩ := run_resVars hC h hx'
    exact ⟨_ :: vs, by simp only [List.mapM_cons, resVar, Sem.run_bind, Sem.run_pure, Result.andThen_ok, h1], h.slots t, h2⟩
  | .cell r t :: l, xs, hx => by
    simp only [resL, Option.bind_eq_bind, Option.bind_eq_some_iff, Option.some.injEq] at hx
    obtain ⟨x, hl, xs', hx', rfl⟩ := hx
    obtain ⟨vs, h1, h2⟩ := run_resVars hC h hx'
    obtain ⟨v, x', he, hv, hrun⟩ := op_load (o := { dst := some 0, op := .load t (.tmp r), type := 0, pos := "", after := #[], guard := none }) hC h rfl hl
    have hxx : x = x' := by
      have := congrArg (fun s : St => s.sl 0) he
      simpa [St.put, upd] using this
    subst hxx
    have hr := hrun w (KeptS.refl _ _)
    have hld : (Instr.loadAt t (a.tmps.getD r undef)).run C.P w = .ok v w := by
      simp only [execOp, Sem.run_bind] at hr
      have e : a.eval (.tmp r) = a.tmps.getD r undef := rfl
      rw [e] at hr
      cases hq : (Instr.loadAt t (a.tmps.getD r undef)).run C.P w with
      | ok v1 w1 =>
        rw [hq] at hr
        simp only [Result.andThen_ok, Sem.run_pure, Result.ok.injEq, Next.value.injEq] at hr
        rw [hr.1, hr.2]
      | halt x w1 => rw [hq] at hr; simp [Result.andThen] at hr
    have hcell : (resVar a.tmps (.cell r t)).run C.P w = .ok v w := by
      unfold Instr.loadAt at hld
      show ((do loadVar t (← asAddr (a.tmps.getD r undef))) : Sem Value).run C.P w = .ok v w
      generalize a.tmps.getD r undef = u at hld ⊢
      cases u with
      | pointer p =>
        cases p with
        | some p => simpa [Instr.sureAddr, asAddr] using hld
        | none => simp [Instr.sureAddr, stuck] at hld
      | _ => simp [Instr.sureAddr, stuck] at hld
    exact ⟨v :: vs, by simp only [List.mapM_cons, Sem.run_bind, hcell, Sem.run_pure, Result.andThen_ok, h1], hv, h2⟩
def resVal : List Value → Value
  | [v] => v
  | vs => .tuple vs.toArray
theorem run_results (hC : CfgOk C) (h : Rel n w0 F0 S0 G F μ fp [] σ a w) {fn : Func} {xs : List AV} (hx : resL C σ fn.results.toList = some xs) : ∃ vs, (results fn a.tmps).run C.P w = .ok (resVal vs) w ∧ All2 (SRep F w σ.en μ fp) vs xs := by
  obtain ⟨vs, hk, hall⟩ := run_resVars hC h hx
  refine ⟨vs, ?_, hall⟩
  change ((do let vs ← fn.results.mapM (resVar a.tmps); pure (if h : vs.size = 1 then vs[0] else .tuple vs)) : Sem Value).run C.P w = _
  rw [Sem.run_bind, Array.mapM_eq_mapM_toList, Sem.run_map, hk]
  simp only [Result.andThen_ok, Sem.run_pure]
  congr 1
  match vs with
  | [] => simp [resVal]
  | [r] => simp [resVal]
  | r1 :: r2 :: rs => simp [resVal]
theorem ValsRep.length {vs : List Value} {xs : List AV} {f : List Nat} (h : ValsRep F w vs xs f) : vs.length = xs.length := by
  induction h with
  | nil => rfl
  | cons _ _ ih => simp [ih]
theorem ValsRep.get {vs : List Value} {xs : List AV} {i : Nat} {x : AV} (h : ValsRep F w vs xs []) (hx : xs[i]? = some x) : ∃ v, vs[i]? = some v ∧ ValRep F w v x [] := by
  generalize hf : ([] : List Nat) = f at h
  induction h generalizing i with
  | nil => simp at hx
  | cons h1 h2 ih =>
    obtain ⟨rfl, rfl⟩ := List.append_eq_nil_iff.1 hf.symm
    cases i with
    | zero => simp at hx ⊢; subst hx; exact h1
    | succ i => simpa using ih (by simpa using hx) rfl
def argOk (x : AV) : Bool := (leaves x).all noOwn
theorem ValRep.srep {en : Nat → Ent} {v : Value} {x : AV} (h : ValRep F w v x []) (hx : argOk x = true) : SRep F w en μ fp v x := by
  cases x with
  | agg fs =>
    obtain ⟨cs, rfl, hr⟩ := h
    exact ⟨cs, rfl, hr.all2 hx⟩
  | tup => cases h
  | pt => trivial
  | own sz l => simp [argOk, leaves, noOwn] at hx
  | _ => exact SRep.of_agg (RepL.sleaf (en := en) (μ := μ) (fp := fp) (show RepL F w _ _ _ from h) (by simp))
def plainArg : AV → Bool
  | .pt _ _ _ _ => false
  | x => argOk x
theorem ArgRep.plain {v : Value} {x : AV} {f : List Nat} (h : ArgRep F w v x f) (hx : plainArg x = true) : f = [] ∧ ValRep F w v x [] := by
  have leaf : ∀ x : AV, (∀ fs, x ≠ .agg fs) → argOk x = true → RepL F w [v] [x] f → f = [] := fun x hna hx hr => hr.noOwn_nil (by
    unfold argOk at hx; rw [leaves_length_of (fun fs hx => hna fs hx)] at hx; exact hx)
  cases x with
  | pt => cases hx
  | agg fs =>
    obtain ⟨cs, rfl, hr⟩ := h
    obtain rfl := hr.noOwn_nil hx
    exact ⟨rfl, cs, rfl, hr⟩
  | _ =>
    have hr : RepL F w [v] [_] f := h
    obtain rfl := leaf _ (by simp) hx hr
    exact ⟨rfl, hr⟩
theorem ArgsRep.plain {vs : List Value} {xs : List AV} {f : List Nat} (h : ArgsRep F w vs xs f) (hx : xs.all plainArg = true) : f = [] ∧ ValsRep F w vs xs [] := by
  induction h with
  | nil => exact ⟨rfl, .nil⟩
  | cons h1 h2 ih =>
    simp only [List.all_cons, Bool.and_eq_true] at hx
    obtain ⟨rfl, r1⟩ := h1.plain hx.1
    obtain ⟨rfl, r2⟩ := ih hx.2
    exact ⟨rfl, .cons (f1 := []) r1 r2⟩
theorem ArgRep.one {v : Value} {x : AV} {f : List Nat} (h : ArgRep F w v x f) (hx : ∃ sz l, x = .own sz l ∨ ∃ i j, x = .pt sz l i j) : v.oneCell' = true := by
  obtain ⟨sz, l, rfl | ⟨i, j, rfl⟩⟩ := hx
  · have hr : RepL F w [v] [.own sz l] f := h
    rcases hr.own_inv with ⟨_, _, A, rfl⟩ | ⟨_, _, _, _, _, _, rfl, _⟩ <;> rfl
  · obtain ⟨_, _, _, _, _, rfl, _⟩ := h; rfl
theorem ArgsRep.one {vs : List Value} {xs : List AV} {f : List Nat} (h : ArgsRep F w vs xs f) : ∀ {k : Nat} {y : AV}, xs[k]? = some y → (∃ sz l, y = .own sz l ∨ ∃ i j, y = .pt sz l i j) → (xs.set k .und).all plainArg = true →
    ∃ v, vs[k]? = some v ∧ ArgRep F w v y f ∧ ValsRep F w vs (xs.set k .und) [] := by
  induction h with
  | nil => intro k y hy; simp at hy
  | @cons v x vs xs f1 f2 h1 h2 ih =>
    intro k y hy ho hx
    cases k with
    | zero =>
      simp only [List.getElem?_cons_zero, Option.some.injEq] at hy
      subst hy
      simp only [List.set_cons_zero, List.all_cons, Bool.and_eq_true] at hx
      obtain ⟨rfl, r2⟩ := h2.plain hx.2
      refine ⟨v, rfl, by simpa using h1, ?_⟩
      simp only [List.set_cons_zero]
      exact .cons (f1 := []) (show RepL F w [v] [.und] [] from .und (h1.one ho) .nil) r2
    | succ k =>
      simp only [List.getElem?_cons_succ] at hy
      simp only [List.set_cons_succ, List.all_cons, Bool.and_eq_true] at hx
      obtain ⟨rfl, r1⟩ := h1.plain hx.1
      obtain ⟨v', q1, q2, q3⟩ := ih hy ho hx.2
      exact ⟨v', by simpa using q1, by simpa using q2, by simp only [List.set_cons_succ]; exact .cons (f1 := []) r1 q3⟩
theorem argOk_of_plain {x : AV} (h : plainArg x = true) : argOk x = true := by
  cases x <;> first | exact h | cases h
theorem init_rel {gs : List Nat} (hF : ∀ b, F b → b < w.heap.size) (hg : ∀ b ∈ gs, ¬ F b ∧ b < w.heap.size) (hnd : gs.Nodup) {vals : List Value} {args : List AV} (h : ValsRep F w vals args []) (hx : args.all plainArg = true) (hn : args.length ≤ n) :
    Rel n w F (fun b => b ∈ gs) (fun _ _ => False) F (fun _ => none) (fun _ => []) gs (St.init args) { tmps := vals.toArray ++ Array.replicate (n - vals.toArray.size) undef, defers := [] } w := by
  have hl := h.length
  refine ⟨rfl, by simp; omega, KeptS.refl _ _, fun _ h => h, fun b hb => ⟨hF b hb, .inl hb⟩, fun e he => by simp [St.init] at he, fun e he => by simp [St.init] at he, fun e he => by simp [St.init] at he, fun e _ he => by simp [St.init] at he,
    fun b hb => ⟨(hg b hb).1, (hg b hb).2, .inl hb, fun e he => by simp [St.init] at he⟩, hnd, fun s => ?_, fun _ _ h => h.elim⟩
  show SRep F w _ _ _ _ (args.getD s (.tup []))
  by_cases hs : s < args.length
  · have hx' := List.getElem?_eq_getElem hs
    obtain ⟨v, hv, hr⟩ := h.get hx'
    have e1 : args.getD s (.tup []) = args[s] := by simp [List.getD, hx']
    have e2 : (vals.toArray ++ Array.replicate (n - vals.toArray.size) undef).getD s undef = v := by
      rw [Array.getD_eq_getD_getElem?, Array.getElem?_append_left (by simp; omega)]
      simp [hv]
    rw [e1, e2]
    exact hr.srep (argOk_of_plain (List.all_eq_true.1 hx _ (List.getElem_mem hs)))
  · have e1 : args.getD s (.tup []) = .tup [] := by simp [List.getD, List.getElem?_eq_none (by omega : args.length ≤ s)]
    have e2 : (vals.toArray ++ Array.replicate (n - vals.toArray.size) undef).getD s undef = undef := by
      rw [Array.getD_eq_getD_getElem?, Array.getElem?_append_right (by simp; omega), Array.getElem?_replicate]
      split <;> rfl
    rw [e1, e2]
    exact SRep.unit _ _ _ _ _
def St.lentS (σ : St) (k : Nat) : AV → St
  | .own sz l => (σ.fresh (eid k 0) sz l).put (some k) (.hd (eid k 0) 1 0 l.length false)
  | .pt sz l i j => (σ.fresh (eid k 0) sz l).put (some k) (.ptr (eid k 0) 1 i j)
  | _ => σ
def ghostW (k : Nat) : AV → AV
  | .own _ l => .hd (eid k 0) 1 0 l.length false
  | .pt _ _ i j => .ptr (eid k 0) 1 i j
  | x => x
theorem Rel.withGhost (h : Rel n w0 F0 S0 (fun _ _ => False) F μ fp L σ a w) {v : Value} {x : AV} (hx : SLeaf F w σ.en μ fp v x) : Rel n w0 F0 S0 (fun v' x' => v' = v ∧ x' = x) F μ fp L σ a w :=
  ⟨h.defers, h.size, h.kept, h.base, h.free, h.ent, h.own, h.nodup, h.apart, h.loose, h.looseNodup, h.slots, fun _ _ ⟨e1, e2⟩ => by subst e1 e2; exact hx⟩
theorem put_self {k : Nat} {v : Value} (hk : k < a.tmps.size) (hv : a.tmps.getD k undef = v) : a.put (some k) v = a := by
  cases a with
  | mk tmps defers =>
    simp only [Act.put]
    congr 1
    have hk : k < tmps.size := hk
    have hv : tmps.getD k undef = v := hv
    have hk2 : tmps[k] = v := by simpa [hk] using hv
    apply Array.ext_getElem?
    intro i
    by_cases hi : k = i
    · subst hi
      rw [Array.getElem?_setIfInBounds_self, if_pos hk, Array.getElem?_eq_getElem hk, hk2]
    · exact Array.getElem?_setIfInBounds_ne hi
theorem take_lent {gs : List Nat} (h : Rel n w0 F0 S0 (fun _ _ => False) F μ fp gs σ a w) {k : Nat} (hk : k < n) {v : Value} {y : AV} (hv : a.tmps.getD k undef = v) (hy : ArgRep F w v y gs) (ho : ∃ sz l, y = .own sz l ∨ ∃ i j, y = .pt sz l i j) (hg : (σ.en (eid k 0)).gen = 0) :
    ∃ μ' fp', Rel n w0 F0 S0 (fun v' x' => v' = v ∧ x' = ghostW k y) F μ' fp' [] (σ.lentS k y) a w := by
  have hka : k < a.tmps.size := by rw [h.size]; exact hk
  obtain ⟨sz, l, rfl | ⟨i, j, rfl⟩⟩ := ho
  · cases e : takeLeaf k 0 σ (.own sz l) with
    | mk z σ1 =>
    obtain ⟨μ', fp', r1, r2, _, _⟩ := takeLeaf_ok (L := []) (by simpa using h) (show RepL F w [v] [.own sz l] gs from hy) e
    simp only [takeLeaf, hg, Prod.mk.injEq, Nat.zero_add] at e
    obtain ⟨rfl, rfl⟩ := e
    refine ⟨μ', fp', ?_⟩
    have := (r1.withGhost r2).put (d := k) hk (v := v) (x := .hd (eid k 0) 1 0 l.length false) r2
    rw [put_self hka hv] at this
    exact this
  · obtain ⟨b, cur, et, us, f1, rfl, hb, hcell, hsz, hu, rfl⟩ := hy
    have hnd := h.looseNodup
    obtain ⟨r1, _⟩ := h.fresh (w' := w) (L' := []) (m := some b) (f := b :: f1) (eid k 0) sz l (fun b hb => .inl hb) (List.nil_sublist _) (fun b hb => by simp) hnd (KeptS.refl _ _)
      (fun b' hm => by cases hm; exact (Array.getElem?_eq_some_iff.1 hb).1) ⟨hsz, .inr <| .inl ⟨b, cur, et, (0, 0), us, f1, rfl, hb, hcell, hu, .inr ⟨rfl, rfl, rfl⟩⟩⟩
    have r2 : SLeaf F w (σ.fresh (eid k 0) sz l).en (upd μ (eid k 0) (some b)) (upd fp (eid k 0) (b :: f1)) (.pointer (some ⟨b, i * sz + j, none⟩)) (.ptr (eid k 0) 1 i j) := by
      refine ⟨by simp [St.fresh, St.ent, upd], fun _ _ => ⟨b, by simp [upd], by simp [St.fresh, St.ent, upd], _, _, _, hb⟩⟩
    refine ⟨upd μ (eid k 0) (some b), upd fp (eid k 0) (b :: f1), ?_⟩
    have := (r1.withGhost r2).put (d := k) hk (v := .pointer (some ⟨b, i * sz + j, none⟩)) (x := .ptr (eid k 0) 1 i j) r2
    rw [put_self hka hv] at this
    exact this
def leftV (σ : St) (y gh : AV) : Option AV :=
  match y, gh with
  | .own sz _, .hd e g off len _ => if (σ.en e).live = false then some (.tup []) else do
    let E ← σ.cur e g
    ensure (E.frz = false ∧ off = 0 ∧ len ≤ E.elems.length ∧ E.sz = sz)
    some (.own E.sz (E.elems.take len))
  | .pt sz l i j, .ptr e g i' j' => if (σ.en e).live = false then some (.tup []) else do
    let E ← σ.cur e g
    ensure (E.frz = false ∧ E.sz = sz ∧ E.elems.length = l.length ∧ i' = i ∧ j' = j)
    some (.pt sz E.elems i j)
  | _, _ => none
theorem leftV_ok (h : Rel n w0 F0 S0 G F μ fp L σ a w) {v : Value} {y gh left : AV} (hx : SLeaf F w σ.en μ fp v gh) (hl : leftV σ y gh = some left) :
    ∃ F' f, ((sameShape y left ∧ ArgRep F' w v left f) ∨ (left = .tup [] ∧ f = [])) ∧ (∀ b, F b → F' b) ∧ (∀ b, F' b → b < w.heap.size ∧ (F0 b ∨ S0 b ∨ w0.heap.size ≤ b)) ∧ (∀ b ∈ f ++ L, ¬ F' b ∧ b < w.heap.size ∧ (S0 b ∨ w0.heap.size ≤ b)) ∧ (f ++ L).Nodup := by
  unfold leftV at hl
  split at hl
  · rename_i sz l e g off len clip
    split at hl
    · cases hl
      exact ⟨F, [], .inr ⟨rfl, rfl⟩, fun _ h => h, h.free, fun b hb => let ⟨h1, h2, h3, _⟩ := h.loose b (by simpa using hb); ⟨h1, h2, h3⟩, by simpa using h.looseNodup⟩
    simp only [Option.bind_eq_bind, Option.bind_eq_some_iff, Option.some.injEq] at hl
    obtain ⟨E, hE, _, hb, rfl⟩ := hl
    have hE' := hE
    obtain ⟨hlive, hg, rfl⟩ := cur_some hE
    obtain ⟨hfz, rfl, hlen, rfl⟩ := ensure_some hb
    have hc : σ.close (.hd e g 0 len clip) = some (.own (σ.en e).sz ((σ.en e).elems.take len), σ.kill e) := by
      simp only [St.close, hE', Option.bind_eq_bind, Option.bind_some, hfz, Bool.false_eq_true, if_false]
      simp [ensure, hlen]
    obtain ⟨F', fp', f, r1, r2, r3, _, _⟩ := h.close hx hc
    exact ⟨F', f, .inl ⟨rfl, r2⟩, r3, r1.free, fun b hb => let ⟨h1, h2, h3, _⟩ := r1.loose b hb; ⟨h1, h2, h3⟩, r1.looseNodup⟩
  · rename_i sz l i j e g i' j'
    split at hl
    · cases hl
      exact ⟨F, [], .inr ⟨rfl, rfl⟩, fun _ h => h, h.free, fun b hb => let ⟨h1, h2, h3, _⟩ := h.loose b (by simpa using hb); ⟨h1, h2, h3⟩, by simpa using h.looseNodup⟩
    simp only [Option.bind_eq_bind, Option.bind_eq_some_iff, Option.some.injEq] at hl
    obtain ⟨E, hE, _, hb, rfl⟩ := hl
    obtain ⟨hlive, hg, rfl⟩ := cur_some hE
    obtain ⟨hfz, rfl, hlen, rfl, rfl⟩ := ensure_some hb
    obtain ⟨r1, _⟩ := h.kill e hlive
    obtain ⟨b, hμ, rfl, _, _, _, hcb⟩ := hx.2 hlive hg
    have hent := h.ent e hlive
    rcases hent.2 with ⟨e1, _⟩ | ⟨b', cur, et, fr, us, f1, e1, e2, e3, e4, e5⟩ | hm
    rotate_right 1
    · exact (hm.noCells (by assumption) (by assumption)).elim
    · rw [hμ] at e1; cases e1
    rw [hμ] at e1; cases e1
    rcases e5 with ⟨e5, _⟩ | ⟨_, rfl, e7⟩
    · rw [hfz] at e5; cases e5
    exact ⟨F, fp e, .inl ⟨⟨rfl, rfl, rfl, hlen⟩, ⟨b, cur, et, us, f1, rfl, e2, e3, hent.1, e4, e7⟩⟩, fun _ h => h, r1.free, fun b hb => let ⟨h1, h2, h3, _⟩ := r1.loose b hb; ⟨h1, h2, h3⟩, r1.looseNodup⟩
  · cases hl
def closeR (m : Bool) (σ : St) : AV → Option (AV × St)
  | .agg fs => do
    let (ls, σ1) ← σ.closeM m fs
    some (.agg ls, σ1)
  | .ptr e g i j => do
    let E ← σ.cur e g
    ensure (E.frz = false)
    some (.pt E.sz E.elems i j, σ.kill e)
  | x => σ.closeV x
def retG (C : Cfg) (σ : St) (rs : List ResultVar) : Option (AV × St) := do
  let xs ← resL C σ rs
  match xs with
  | [x] => closeR C.mv σ x
  | xs => do let (ys, σ') ← σ.closeVs xs; some (.tup ys, σ')
theorem retG_ok (hC : CfgOk C) (h : Rel n w0 F0 S0 G F μ fp [] σ a w) {fn : Func} {res : AV} (hr : retG C σ fn.results.toList = some (res, σ')) :
    ∃ v F' fp' g, (results fn a.tmps).run C.P w = .ok v w ∧ Rel n w0 F0 S0 G F' μ fp' g σ' a w ∧ (∀ b, F b → F' b) ∧ ResRep F' w v res g := by
  simp only [retG, Option.bind_eq_bind, Option.bind_eq_some_iff] at hr
  obtain ⟨xs, hx, hr⟩ := hr
  obtain ⟨vs, hrun, hall⟩ := run_results hC h hx
  split at hr
  · rename_i x
    have hl := hall.length
    obtain ⟨v, rfl⟩ : ∃ v, vs = [v] := by
      cases vs with
      | nil => simp at hl
      | cons v t => cases t with
        | nil => exact ⟨v, rfl⟩
        | cons => simp at hl
    have other : σ.closeV x = some (res, σ') → ∃ v' F' fp' g, (results fn a.tmps).run C.P w = .ok v' w ∧ Rel n w0 F0 S0 G F' μ fp' g σ' a w ∧ (∀ b, F b → F' b) ∧ ResRep F' w v' res g := by
      intro hr
      obtain ⟨F', fp', f, r1, r2, r3, _⟩ := h.closeAgg hall.1 hr
      refine ⟨_, F', fp', f, hrun, by simpa using r1, r3, ?_⟩
      have hv : ValRep F' w v res f := r2
      cases res with
      | tup => cases hv
      | pt => cases (show RepL F' w _ _ _ from hv)
      | _ => exact hv
    unfold closeR at hr
    split at hr
    · rename_i fs
      simp only [Option.bind_eq_bind, Option.bind_eq_some_iff, Option.some.injEq, Prod.mk.injEq] at hr
      obtain ⟨⟨ls, σ1⟩, hls, rfl, rfl⟩ := hr
      obtain ⟨cs, rfl, hall2⟩ : ∃ cs : Array Value, v = .agg cs ∧ All2 (SLeaf F w σ.en μ fp) cs.toList fs := hall.1
      obtain ⟨F', fp', f, r1, r2, r3, _⟩ := h.closeM hall2 hls
      exact ⟨_, F', fp', f, hrun, by simpa using r1, r3, cs, rfl, r2⟩
    · rename_i e g i j
      simp only [Option.bind_eq_bind, Option.bind_eq_some_iff, Option.some.injEq, Prod.mk.injEq] at hr
      obtain ⟨E, hE, _, hb, rfl, rfl⟩ := hr
      obtain ⟨hlive, hg, rfl⟩ := cur_some hE
      have hfz := ensure_some hb
      obtain ⟨r1, _⟩ := h.kill e hlive
      have hx : SLeaf F w σ.en μ fp v (.ptr e g i j) := hall.1
      obtain ⟨b, hμ, rfl, _, _, _, hcb⟩ := hx.2 hlive hg
      have hent := h.ent e hlive
      rcases hent.2 with ⟨e1, _⟩ | ⟨b', cur, et, fr, us, f1, e1, e2, e3, e4, e5⟩ | hm
      rotate_right 1
      · exact (hm.noCells (by assumption) (by assumption)).elim
      · rw [hμ] at e1; cases e1
      rw [hμ] at e1; cases e1
      rcases e5 with ⟨e5, _⟩ | ⟨_, rfl, e7⟩
      · rw [hfz] at e5; cases e5
      exact ⟨_, F, fp, fp e, hrun, by simpa using r1, fun _ h => h, ⟨b, cur, et, us, f1, rfl, e2, e3, hent.1, e4, e7⟩⟩
    · exact other hr
  · rename_i hne
    simp only [Option.bind_eq_some_iff] at hr
    obtain ⟨⟨y, σ1⟩, hy, he⟩ := hr
    cases he
    obtain ⟨F', fp', f, r1, r2, r3⟩ := Rel.closeAggs h hall hy
    refine ⟨_, F', fp', f, hrun, by simpa using r1, r3, ?_⟩
    have hv : resVal vs = .tuple vs.toArray := by
      have hl := hall.length
      cases vs with
      | nil => rfl
      | cons v t => cases t with
        | cons => rfl
        | nil =>
          cases xs with
          | nil => simp at hl
          | cons x t => cases t with
            | nil => exact absurd rfl (hne x)
            | cons => simp at hl
    rw [hv]
    exact ⟨_, rfl, by simpa using r2⟩
def retW (C : Cfg) (k : Nat) (y : AV) (rs : List ResultVar) (R : AV → AV → Prop) : Ex → St → Prop
  | .exit _, _ => False
  | _, σ => exP (retG C σ rs) fun p => exP (leftV p.2 y (ghostW k y)) fun l => R p.1 l
def retR (C : Cfg) (rs : List ResultVar) (R : AV → AV → Prop) : Ex → St → Prop
  | .exit _, _ => False
  | _, σ => exP (retG C σ rs) fun p => R p.1 .und
theorem does_of_WX {rs : Ways} (hC : CfgOk C) (hD : SpecOk C D) {f : Nat} {fn : Func} {c : Code} {args : List AV} {R : AV → AV → Prop} (hf : C.P.funcs[f]? = some fn) (hb : fn.body = some c) (hok : okCodeX rs C.wrt fn.ntmps c = true) (hw : C.wrt f = none)
    (hn : args.length ≤ fn.ntmps) (ha : args.all plainArg = true) (hW : W C D (tr rs c) (retR C fn.results.toList R) (St.init args)) : DoesR C f args R := by
  intro w F vals gs hF hv hnd hg
  obtain ⟨rfl, hvs⟩ := hv.plain ha
  refine calls_of_wp hf hb (wp_mono (W_soundX hC hD c _ _ _ _ hok ⟨_, _, _, init_rel hF hg hnd hvs ha hn⟩ hW) ?_)
  rintro e a' w' ⟨e', σ, rfl, hq, F1, μ, fp, hs⟩
  have key : exP (retG C σ fn.results.toList) (fun p => R p.1 .und) → a'.defers = [] ∧ ∃ v, (results fn a'.tmps).run C.P w' = .ok v w' ∧ ∃ v' F' g gs' res left, R res left ∧ Ending.returned v = .returned v' ∧ KeptS w w' (fun b => b ∈ ([] : List Nat)) ∧ (∀ b, F b → F' b) ∧ (∀ b, F' b → b < w'.heap.size ∧ (F b ∨ b ∈ ([] : List Nat) ∨ w.heap.size ≤ b)) ∧
      (∀ b ∈ g ++ gs', ¬ F' b ∧ (b ∈ ([] : List Nat) ∨ w.heap.size ≤ b) ∧ b < w'.heap.size) ∧ (g ++ gs').Nodup ∧ ResRep F' w' v' res g ∧ LeftRep C f F' w' vals args left gs' := by
    rintro ⟨⟨res, σ'⟩, hr, hR⟩
    obtain ⟨v, F', fp', g, h0, h1, h2, h3⟩ := retG_ok hC hs hr
    refine ⟨hs.defers, v, h0, _, F', g, [], res, .und, hR, rfl, h1.kept, fun b hb => h1.base b hb, h1.free, fun b hb => ?_, by simpa using h1.looseNodup, h3, by simp [LeftRep, hw]⟩
    obtain ⟨k1, k2, k3, _⟩ := h1.loose b (by simpa using hb)
    exact ⟨k1, k3, k2⟩
  cases e' with
  | normal => exact key hq
  | exit i => exact hq.elim
  | ret => exact key hq
theorem does_of_W (hC : CfgOk C) (hD : SpecOk C D) {f : Nat} {fn : Func} {c : Code} {args : List AV} {R : AV → AV → Prop} (hf : C.P.funcs[f]? = some fn) (hb : fn.body = some c) (hok : okCode fn.ntmps c = true) (hw : C.wrt f = none)
    (hn : args.length ≤ fn.ntmps) (ha : args.all plainArg = true) (hW : W C D c (retR C fn.results.toList R) (St.init args)) : DoesR C f args R := by
  obtain ⟨h1, h2⟩ := okCode_tr c C.wrt hok
  exact does_of_WX hC hD hf hb h1 hw hn ha (by rw [h2]; exact hW)
theorem does_of_WWX {rs : Ways} (hC : CfgOk C) (hD : SpecOk C D) {f k : Nat} {y : AV} {fn : Func} {c : Code} {args : List AV} {R : AV → AV → Prop} (hf : C.P.funcs[f]? = some fn) (hb : fn.body = some c) (hok : okCodeX rs C.wrt fn.ntmps c = true) (hw : C.wrt f = some k)
    (hn : args.length ≤ fn.ntmps) (hy : args[k]? = some y) (ho : ∃ sz l, y = .own sz l ∨ ∃ i j, y = .pt sz l i j) (ha : (args.set k .und).all plainArg = true) (hW : W C D (tr rs c) (retW C k y fn.results.toList R) ((St.init (args.set k .und)).lentS k y)) : DoesR C f args R := by
  intro w F vals gs hF hv hnd hg
  obtain ⟨v0, hv0, hy0, hvs⟩ := hv.one hy ho ha
  have hkl : k < vals.length := (List.getElem?_eq_some_iff.1 hv0).1
  have hvl := hvs.length
  rw [List.length_set] at hvl
  have hv0' : (vals.toArray ++ Array.replicate (fn.ntmps - vals.toArray.size) undef).getD k undef = v0 := by
    rw [Array.getD_eq_getD_getElem?, Array.getElem?_append_left (by simpa using hkl)]
    simp [hv0]
  obtain ⟨μ0, fp0, r0⟩ := take_lent (init_rel (n := fn.ntmps) hF hg hnd hvs ha (by rw [List.length_set]; exact hn)) (k := k) (by omega) hv0' hy0 ho rfl
  refine calls_of_wp hf hb (wp_mono (W_soundX hC hD c _ _ _ _ hok ⟨_, _, _, r0⟩ hW) ?_)
  rintro e a' w' ⟨e', σ, rfl, hq, F1, μ, fp, hs⟩
  have key : exP (retG C σ fn.results.toList) (fun p => exP (leftV p.2 y (ghostW k y)) fun l => R p.1 l) → a'.defers = [] ∧ ∃ v, (results fn a'.tmps).run C.P w' = .ok v w' ∧ ∃ v' F' g gs' res left, R res left ∧ Ending.returned v = .returned v' ∧ KeptS w w' (fun b => b ∈ gs) ∧ (∀ b, F b → F' b) ∧ (∀ b, F' b → b < w'.heap.size ∧ (F b ∨ b ∈ gs ∨ w.heap.size ≤ b)) ∧
      (∀ b ∈ g ++ gs', ¬ F' b ∧ (b ∈ gs ∨ w.heap.size ≤ b) ∧ b < w'.heap.size) ∧ (g ++ gs').Nodup ∧ ResRep F' w' v' res g ∧ LeftRep C f F' w' vals args left gs' := by
    rintro ⟨⟨res, σ'⟩, hr, left, hl, hR⟩
    obtain ⟨v, F', fp', g, h0, h1, h2, h3⟩ := retG_ok hC hs hr
    obtain ⟨F2, f2, k1, k3, k4, k5, k6⟩ := leftV_ok h1 (h1.ghost v0 _ ⟨rfl, rfl⟩) hl
    refine ⟨hs.defers, v, h0, _, F2, g, f2, res, left, hR, rfl, h1.kept, fun b hb => k3 b (h1.base b hb), k4, fun b hb => ?_, ?_, h3.mono k3 (fun _ _ => rfl), ?_⟩
    · obtain ⟨q1, q2, q3⟩ := k5 b (by simpa [or_comm] using hb)
      exact ⟨q1, q3, q2⟩
    · exact (List.perm_append_comm.nodup_iff).1 k6
    · simp only [LeftRep, hw]
      exact k1.imp (fun k => ⟨v0, y, hv0, hy, k⟩) id
  cases e' with
  | normal => exact key hq
  | exit i => exact hq.elim
  | ret => exact key hq
theorem does_of_WW (hC : CfgOk C) (hD : SpecOk C D) {f k : Nat} {y : AV} {fn : Func} {c : Code} {args : List AV} {R : AV → AV → Prop} (hf : C.P.funcs[f]? = some fn) (hb : fn.body = some c) (hok : okCode fn.ntmps c = true) (hw : C.wrt f = some k)
    (hn : args.length ≤ fn.ntmps) (hy : args[k]? = some y) (ho : ∃ sz l, y = .own sz l ∨ ∃ i j, y = .pt sz l i j) (ha : (args.set k .und).all plainArg = true) (hW : W C D c (retW C k y fn.results.toList R) ((St.init (args.set k .und)).lentS k y)) : DoesR C f args R := by
  obtain ⟨h1, h2⟩ := okCode_tr c C.wrt hok
  exact does_of_WWX hC hD hf hb h1 hw hn hy ho ha (by rw [h2]; exact hW)
end
end Go.Vm
end
section
/- The table of types, out of the program. -/
namespace Go.Vm
def TD.of : TypeDesc → Option TD
  | .int k => some (.int k)
  | .bool => some .bool
  | .string => some .string
  | .slice e => some (.slice e)
  | .struct fs => some (.struct (fs.toList.map fun f => (f.offset, f.type)))
  | .pointer e => some (.pointer e)
  | .map k e => some (.map k e)
  | .array _ _ => none
  | _ => some .other
def TI.of (P : Program) (t : Nat) : Option TI :=
  match P.info? t, P.underlying t with
  | some i, some d =>
    match i.zero, TD.of d with
    | some z, some D =>
      if decide (0 < i.size) && decide (0 < i.bytes) && decide (z.cells.size = i.size) && z.cells.toList.all (·.oneCell') && (D.isStruct || z.oneCell') then
        some { desc := D, sz := i.size, bytes := i.bytes, zero := z.cells.toList.map ofC1 }
      else none
    | _, _ => none
  | _, _ => none
theorem repl_ofC1 (F : Nat → Prop) (w : World) : ∀ l : List Value, l.all (·.oneCell') = true → RepL F w l (l.map ofC1) []
  | [], _ => .nil
  | v :: l, h => by
    simp only [List.all_cons, Bool.and_eq_true] at h
    have ih := repl_ofC1 F w l h.2
    rw [List.map_cons]
    unfold ofC1
    split
    · exact .int ih
    · exact .bool ih
    · exact .str ih
    · exact .fro0 (by simp) ih
    · exact .und h.1 ih
theorem noOwn_ofC1 (v : Value) : noOwn (ofC1 v) = true := by
  unfold ofC1; split <;> rfl
theorem TI.of_ok {P : Program} {t : Nat} {T : TI} (h : TI.of P t = some T) : TIok P t T := by
  unfold TI.of at h
  split at h
  case h_2 => cases h
  rename_i i d hi hu
  split at h
  case h_2 => cases h
  rename_i z D hz hD
  split at h
  case isFalse => cases h
  rename_i hc
  simp only [Bool.and_eq_true, decide_eq_true_eq, Bool.or_eq_true] at hc
  obtain ⟨⟨⟨⟨h1, h2⟩, h3⟩, h4⟩, h5⟩ := hc
  cases h
  refine ⟨⟨i, z, hi, rfl, rfl, hz, h3, fun F w => repl_ofC1 F w _ h4, fun hs => ?_⟩, ?_, ⟨h1, h2⟩, ?_⟩
  · exact cells_one (h5.resolve_left (by simpa using hs))
  · show descOk P t D
    cases d <;> simp only [TD.of, Option.some.injEq, reduceCtorEq] at hD <;> subst hD <;> first
      | exact hu
      | exact ⟨_, hu, rfl⟩
      | skip
    rename_i fs
    refine ⟨fs, hu, by simp, fun k off ty hk => ?_⟩
    rw [List.getElem?_map] at hk
    obtain ⟨f, hf, he⟩ := Option.map_eq_some_iff.1 hk
    cases he
    exact ⟨f, by simpa using hf, rfl, rfl⟩
  · simp [noOwn_ofC1]
def Cfg.of (P : Program) (eqs : Nat → Option (List TD)) (wrt : Nat → Option Nat) (mv : Bool) (stl : List Nat) : Cfg := { P, tt := TI.of P, eqs, wrt, mv, stl }
theorem Cfg.of_ok {P : Program} {eqs : Nat → Option (List TD)} {wrt : Nat → Option Nat} {mv : Bool} {stl : List Nat} (h : P.follows .mixedOrders = true) (he : ∀ t ks, eqs t = some ks → EqOk P t ks) : CfgOk (Cfg.of P eqs wrt mv stl) := ⟨he, fun _ _ h => TI.of_ok h, h⟩
end Go.Vm
end
section
/- The logic's rules, as they are used. -/
namespace Go.Vm
section
variable {C : Cfg} {D : Vm.Spec} {Q : Ex → St → Prop} {σ : St}
theorem guardW_mono {g : Option (Option Tmp × Bool)} {y n y' n' : St → Prop} (hy : ∀ σ, y σ → y' σ) (hn : ∀ σ, n σ → n' σ) (h : guardW g σ y n) : guardW g σ y' n' := by
  unfold guardW at *
  split
  · exact hy _ h
  · exact hn _ h
  · rename_i d want
    simp only at h
    split
    · rename_i b hb
      rw [hb] at h
      refine ⟨fun e => ?_, fun e => ?_⟩
      · have := h.1 e
        cases want
        · exact hn _ this
        · exact hy _ this
      · have := h.2 e
        cases want
        · exact hy _ this
        · exact hn _ this
    · rename_i ht
      rw [ht] at h
      exact hn _ h
    · rename_i h1 h2
      split at h
      · rename_i b hb; exact absurd hb (h1 b)
      · rename_i ht; exact absurd ht h2
      · exact h
theorem callP_mono {q : Bool} {x : Operand} {args : Array Operand} {dst : Option Tmp} {K K' : St → Prop} (hK : ∀ σ, K σ → K' σ) (h : callP C D q x args dst K σ) : callP C D q x args dst K' σ := by
  unfold callP at *
  split
  · rename_i hc
    rw [if_pos hc] at h
    obtain ⟨h1, h⟩ := h
    refine ⟨h1, ?_⟩
    split at h
    · obtain ⟨k1, k2, r, k3, as, k4, R, k5, k6, k7⟩ := h
      exact ⟨k1, k2, r, k3, as, k4, R, k5, k6, fun r l h => ⟨(k7 r l h).1, hK _ (k7 r l h).2⟩⟩
    · exact h.elim
  · rename_i hc
    rw [if_neg hc] at h
    obtain ⟨p, hp, as, ha, hok, R, hd, hq, hk⟩ := h
    exact ⟨p, hp, as, ha, hok, R, hd, hq, fun r l h => hK _ (hk r l h)⟩
theorem opG_mono {q : Bool} {o : Oper} {K K' : St → Prop} (hK : ∀ σ, K σ → K' σ) (h : opG C q o K σ) : opG C q o K' σ := by
  obtain ⟨h1, σ1, h2, h3⟩ := h
  exact ⟨h1, σ1, h2, hK _ h3⟩
theorem opW_mono {q : Bool} {o : Oper} {K K' : St → Prop} (hK : ∀ σ, K σ → K' σ) (h : opW C D q o K σ) : opW C D q o K' σ := by
  unfold opW at *
  split
  · rename_i ho; simp only [ho] at h; exact callP_mono hK h
  · rename_i t x ho
    simp only [ho] at h
    split
    · rename_i hs; rw [if_pos hs] at h; obtain ⟨σ1, h2, h3⟩ := h; exact ⟨σ1, h2, hK _ h3⟩
    · rename_i hs; rw [if_neg hs] at h; exact opG_mono hK h
  · rename_i f first cap ho
    simp only [ho] at h
    obtain ⟨σ1, h2, h3⟩ := h
    exact ⟨σ1, h2, hK _ h3⟩
  · rename_i h1 h2 h3
    split at h
    · rename_i ho; exact absurd ho (h1 _ _ _)
    · rename_i ho; exact absurd ho (h2 _ _)
    · rename_i ho; exact absurd ho (h3 _ _ _)
    · exact opG_mono hK h
theorem opsW_mono {q : Bool} {ops : Array Oper} {K K' : St → Prop} (hK : ∀ σ, K σ → K' σ) : ∀ {l : List Oper} {σ : St}, opsW C D q ops K l σ → opsW C D q ops K' l σ
  | [], _, h => hK _ h
  | _ :: _, _, h => guardW_mono (fun _ h => opW_mono (fun _ h => opsW_mono hK h) h) (fun _ h => opsW_mono hK h) h
theorem condW_mono {c : Operand} {y n y' n' : St → Prop} (hy : ∀ σ, y σ → y' σ) (hn : ∀ σ, n σ → n' σ) (h : condW σ c y n) : condW σ c y' n' := by
  cases c with
  | tmp d =>
    cases hs : σ.sl d <;> simp only [condW, hs] at h ⊢
    exact ⟨fun e => hy _ (h.1 e), fun e => hn _ (h.2 e)⟩
  | const v =>
    cases v <;> simp only [condW] at h ⊢
    rename_i b
    cases b
    · exact hn _ (by simpa using h)
    · exact hy _ (by simpa using h)
  | _ => exact h.elim
theorem W_mono : ∀ {c : Code} {Q Q' : Ex → St → Prop} {σ : St}, (∀ e σ, Q e σ → Q' e σ) → W C D c Q σ → W C D c Q' σ
  | .skip, _, _, _, hq, h => hq _ _ h
  | .exit _, _, _, _, hq, h => hq _ _ h
  | .ret, _, _, _, hq, h => hq _ _ h
  | .seq a b, Q, Q', _, hq, h => W_mono (c := a) (fun e σ h => by
      cases e with
      | normal => exact W_mono hq h
      | exit i => exact hq _ _ h
      | ret => exact hq _ _ h) h
  | .cond c a b, Q, Q', σ, hq, h => condW_mono (fun _ h => W_mono hq h) (fun _ h => W_mono hq h) h
  | .block i c, Q, Q', _, hq, h => W_mono (c := c) (fun e σ h => by
      cases e with
      | normal => exact hq _ _ h
      | exit j =>
        dsimp only at h ⊢
        split
        · rename_i hj; rw [if_pos hj] at h; exact hq _ _ h
        · rename_i hj; rw [if_neg hj] at h; exact hq _ _ h
      | ret => exact hq _ _ h) h
  | .loop c, Q, Q', _, hq, ⟨I, m, h1, h2⟩ => ⟨I, m, h1, fun σ hI => W_mono (c := c) (fun e σ h => by
      cases e with
      | normal => exact h
      | exit i => exact hq _ _ h
      | ret => exact hq _ _ h) (h2 σ hI)⟩
  | .region _ ops q, _, _, _, hq, h => opsW_mono (fun _ h => hq _ _ h) h
  | .scope (.region k ops _), _, _, _, hq, h => by
    have h := (show markW C D k ops _ _ from h)
    show markW C D k ops _ _
    unfold markW at *
    split
    · rename_i hk; rw [if_pos hk] at h; exact ⟨h.1, hq _ _ h.2⟩
    · rename_i hk; rw [if_neg hk] at h; exact ⟨h.1, opsW_mono (fun _ h => hq _ _ h) h.2⟩
  | .scope (.seq a b), _, _, _, hq, h => ⟨W_mono (c := a) hq h.1, W_mono (c := b) hq h.2⟩
theorem W_loop0 {α : Type} (R : α → St → Prop) (m : α → Nat) {c : Code} (h : ∃ σ0, told σ σ0 ∧ ∃ x, R x σ0) (hs : ∀ x σ, R x σ → W C D c (fun e σ' => match e with | .normal => ∃ σ0, told σ' σ0 ∧ ∃ y, R y σ0 ∧ m y < m x | e => Q e σ') σ) : W C D (.loop c) Q σ := by
  refine ⟨fun σ => ∃ x, R x σ, fun σ => leastOf fun k => ∃ x, R x σ ∧ m x = k, h, fun σ ⟨x1, h1⟩ => ?_⟩
  obtain ⟨⟨x2, h2, e2⟩, _⟩ := leastOf_spec (p := fun k => ∃ x, R x σ ∧ m x = k) ⟨x1, h1, rfl⟩
  have hw := hs x2 σ h2
  refine W_mono ?_ hw
  intro e σ' hq
  cases e with
  | normal =>
    obtain ⟨σ0, ht, y, hy, hlt⟩ := hq
    refine ⟨σ0, ht, ⟨y, hy⟩, ?_⟩
    obtain ⟨_, hle⟩ := leastOf_spec (p := fun k => ∃ x, R x σ0 ∧ m x = k) ⟨y, hy, rfl⟩
    show (leastOf fun k => ∃ x, R x σ0 ∧ m x = k) < leastOf fun k => ∃ x, R x σ ∧ m x = k
    omega
  | exit i => exact hq
  | ret => exact hq
theorem loop_plain {α : Type} {R : α → St → Prop} {m : α → Nat} {c : Code} {x : α} (hs : W C D c (fun e σ' => match e with | .normal => ∃ y, R y σ' ∧ m y < m x | e => Q e σ') σ) : W C D c (fun e σ' => match e with | .normal => ∃ σ0, told σ' σ0 ∧ ∃ y, R y σ0 ∧ m y < m x | e => Q e σ') σ := W_mono (fun e σ' hq => by
  cases e with
  | normal => exact ⟨σ', .inl rfl, hq⟩
  | exit i => exact hq
  | ret => exact hq) hs
theorem W_loop {α : Type} (R : α → St → Prop) (m : α → Nat) {c : Code} (x : α) (h : R x σ) (hs : ∀ x σ, R x σ → W C D c (fun e σ' => match e with | .normal => ∃ y, R y σ' ∧ m y < m x | e => Q e σ') σ) : W C D (.loop c) Q σ := W_loop0 R m ⟨σ, .inl rfl, x, h⟩ fun x σ h => loop_plain (hs x σ h)
theorem W_loopN {α : Type} (R : α → St → Prop) (m : α → Nat) {c : Code} (x : α) (s sz : Nat) (h0 : σ.sl s = .fro none true []) (h : R x (takeRes (some s) σ (.own sz []))) (hs : ∀ x σ, R x σ → W C D c (fun e σ' => match e with | .normal => ∃ y, R y σ' ∧ m y < m x | e => Q e σ') σ) : W C D (.loop c) Q σ := W_loop0 R m ⟨_, .inr (.inl ⟨s, sz, h0, rfl⟩), x, h⟩ fun x σ h => loop_plain (hs x σ h)
theorem W_loopR {α : Type} (R : α → St → Prop) (m : α → Nat) {c : Code} (s : Nat) (h : reown σ s fun σ0 => ∃ x, R x σ0) (hs : ∀ x σ, R x σ → W C D c (fun e σ' => match e with | .normal => reown σ' s (fun σ0 => ∃ y, R y σ0 ∧ m y < m x) | e => Q e σ') σ) : W C D (.loop c) Q σ := W_loop0 R m (reown_told h) fun x σ h => W_mono (fun e σ' hq => by
  cases e with
  | normal => exact reown_told hq
  | exit i => exact hq
  | ret => exact hq) (hs x σ h)
theorem exP_map {α β : Type} (o : Option α) (f : α → β) (K : β → Prop) : exP (o.map f) K = exP o fun a => K (f a) := by
  cases o <;> simp [exP]
theorem exP_at {α : Type} [Inhabited α] (l : List α) (i : Nat) (K : α → Prop) : exP l[i]? K = (i < l.length ∧ K l[i]!) := by
  by_cases h : i < l.length
  · rw [List.getElem?_eq_getElem h, exP_some, getElem!_pos l i h]; simp [h]
  · rw [List.getElem?_eq_none (by omega), exP_none]; simp [h]
end
end Go.Vm
end
section
/- One operation at a time: how the rules are walked by simp. -/
namespace Go.Vm
section
variable {C : Cfg} {D : Vm.Spec} {q : Bool} {ops : Array Oper} {K : St → Prop} {σ : St} {d : Option Tmp} {ty : TypeId} {pos : String} {af : Array Edge} {rest : List Oper}
@[congr] theorem exP_congr {α : Type} {o o' : Option α} {K : α → Prop} (h : o = o') : exP o K = exP o' K := by rw [h]
@[congr] theorem opsW_congr {l : List Oper} {σ σ' : St} (h : σ = σ') : opsW C D q ops K l σ = opsW C D q ops K l σ' := by rw [h]
@[congr] theorem W_congr {c : Code} {Q : Ex → St → Prop} {σ σ' : St} (h : σ = σ') : W C D c Q σ = W C D c Q σ' := by rw [h]
@[congr] theorem callW_congr {q : Bool} {f f' : Nat} {as as' : List AV} {K : AV → AV → Prop} (hf : f = f') (h : as = as') : callW D q f as K = callW D q f' as' K := by rw [hf, h]
def testV (x : AV) (d : Tmp) (want : Bool) (σ : St) (yes no : St → Prop) : Prop :=
  match x with
  | .bool b => (b = true → (if want then yes else no) (σ.put (some d) (.bool true))) ∧ (b = false → (if want then no else yes) (σ.put (some d) (.bool false)))
  | .tup [] => no σ
  | _ => False
@[congr] theorem testV_congr {x x' : AV} {d : Tmp} {want : Bool} {σ : St} {yes no : St → Prop} (h : x = x') : testV x d want σ yes no = testV x' d want σ yes no := by rw [h]
theorem testV_true (d : Tmp) (σ : St) (yes no : St → Prop) : testV (.bool true) d true σ yes no = yes (σ.put (some d) (.bool true)) := by simp [testV]
theorem testV_true' (d : Tmp) (σ : St) (yes no : St → Prop) : testV (.bool true) d false σ yes no = no (σ.put (some d) (.bool true)) := by simp [testV]
theorem testV_false (d : Tmp) (σ : St) (yes no : St → Prop) : testV (.bool false) d true σ yes no = no (σ.put (some d) (.bool false)) := by simp [testV]
theorem testV_false' (d : Tmp) (σ : St) (yes no : St → Prop) : testV (.bool false) d false σ yes no = yes (σ.put (some d) (.bool false)) := by simp [testV]
theorem testV_bool (b : Bool) (d : Tmp) (σ : St) (yes no : St → Prop) : testV (.bool b) d true σ yes no = ((b = true → yes (σ.put (some d) (.bool true))) ∧ (b = false → no (σ.put (some d) (.bool false)))) := rfl
theorem testV_bool' (b : Bool) (d : Tmp) (σ : St) (yes no : St → Prop) : testV (.bool b) d false σ yes no = ((b = true → no (σ.put (some d) (.bool true))) ∧ (b = false → yes (σ.put (some d) (.bool false)))) := rfl
def condV (x : AV) (d : Tmp) (σ : St) (yes no : St → Prop) : Prop :=
  match x with
  | .bool b => (b = true → yes (σ.put (some d) (.bool true))) ∧ (b = false → no (σ.put (some d) (.bool false)))
  | _ => False
@[congr] theorem condV_congr {x x' : AV} {d : Tmp} {σ : St} {yes no : St → Prop} (h : x = x') : condV x d σ yes no = condV x' d σ yes no := by rw [h]
theorem condV_true (d : Tmp) (σ : St) (yes no : St → Prop) : condV (.bool true) d σ yes no = yes (σ.put (some d) (.bool true)) := by simp [condV]
theorem condV_false (d : Tmp) (σ : St) (yes no : St → Prop) : condV (.bool false) d σ yes no = no (σ.put (some d) (.bool false)) := by simp [condV]
theorem condV_bool (b : Bool) (d : Tmp) (σ : St) (yes no : St → Prop) : condV (.bool b) d σ yes no = ((b = true → yes (σ.put (some d) (.bool true))) ∧ (b = false → no (σ.put (some d) (.bool false)))) := rfl
def guardS (g : Option Tmp) (want : Bool) (σ : St) (yes no : St → Prop) : Prop :=
  match g with
  | some d => testV (σ.sl d) d want σ yes no
  | none => no σ
@[congr] theorem guardS_congr {g g' : Option Tmp} {want : Bool} {σ : St} {yes no : St → Prop} (h : g = g') : guardS g want σ yes no = guardS g' want σ yes no := by rw [h]
theorem s_guard {op : Op} {j : Nat} {want : Bool} : opsW C D q ops K (⟨d, op, ty, pos, af, some (j, want)⟩ :: rest) σ =
    guardS ((ops[j]?).bind (·.dst)) want σ (fun σ => opsW C D q ops K (⟨d, op, ty, pos, af, none⟩ :: rest) σ) (fun σ => opsW C D q ops K rest (σ.put d (.tup []))) := by
  unfold guardS
  simp only [opsW, guardOf, Option.map_some, guardW, testV, Option.map_none]
  cases (ops[j]?).bind (·.dst) <;> rfl
def pickF (c x y : AV) : Option AV :=
  match c with
  | .bool t => some (if t then x else y)
  | _ => none
theorem pickF_true (x y : AV) : pickF (.bool true) x y = some x := rfl
theorem pickF_false (x y : AV) : pickF (.bool false) x y = some y := rfl
theorem pickF_bools (t b c : Bool) : pickF (.bool t) (.bool b) (.bool c) = some (.bool (if t then b else c)) := by cases t <;> rfl
theorem s_move {x : Operand} : opsW C D q ops K (⟨d, .move x, ty, pos, af, none⟩ :: rest) σ = opsW C D q ops K rest (σ.put d (σ.get x)) := by simp [opsW, guardW, guardOf, opW, opG, opF, exP_some, looks]
theorem s_assign {x : Operand} : opsW C D q ops K (⟨d, .assign x, ty, pos, af, none⟩ :: rest) σ = opsW C D q ops K rest (σ.put d (σ.get x)) := by simp [opsW, guardW, guardOf, opW, opG, opF, exP_some, looks]
theorem s_pick {c x y : Operand} : opsW C D q ops K (⟨d, .pick c x y, ty, pos, af, none⟩ :: rest) σ = exP (pickF (σ.get c) (σ.get x) (σ.get y)) fun v => opsW C D q ops K rest (σ.put d v) := by
  simp only [opsW, guardW, guardOf, opW, opG, opF, looks, Option.map_none, implies_true, true_and, pickF]
  cases σ.get c <;> simp [exP_some, exP_none]
theorem s_load {t : TypeId} {x : Operand} (hs : stlD C d = false) : opsW C D q ops K (⟨d, .load t x, ty, pos, af, none⟩ :: rest) σ = exP (loadF C σ t (σ.get x)) fun v => opsW C D q ops K rest (σ.put d v) := by
  simp [hs, opsW, guardW, guardOf, opW, opG, opF, exP_some, looks, exP_bind]
def nilF (σ : St) : AV → Option AV
  | .ptr e g i j => do let _ ← σ.cur e g; some (.ptr e g i j)
  | .cptr tg c => do σ.validC tg; some (.cptr tg c)
  | .clo f c => some (.clo f c)
  | .np e wv i j k q => do σ.valid e wv; ensure ((σ.en e).frz = false); some (.np e wv i j k q)
  | _ => none
theorem s_loadS {t : TypeId} {x : Operand} (hs : stlD C d = true) : opsW C D q ops K (⟨d, .load t x, ty, pos, af, none⟩ :: rest) σ = exP (loadSD C σ d t (σ.get x)) fun σ' => opsW C D q ops K rest σ' := by
  simp [hs, opsW, guardW, guardOf, opW]
theorem s_nilCheck {x : Operand} : opsW C D q ops K (⟨d, .nilCheck x, ty, pos, af, none⟩ :: rest) σ = exP (nilF σ (σ.get x)) fun v => opsW C D q ops K rest (σ.put d v) := by
  have hl : looks C ⟨d, .nilCheck x, ty, pos, af, none⟩ = true := rfl
  simp only [opsW, guardW, guardOf, opW, opG, opF, Option.map_none, nilF, hl, implies_true, true_and]
  cases σ.get x <;> simp [exP_bind, exP_some, exP_none]
theorem s_bin {op : BinOp} {t t' : TypeId} {x y : Operand} : opsW C D q ops K (⟨d, .binOp op t x y t', ty, pos, af, none⟩ :: rest) σ = exP (binF C op t (σ.get x) (σ.get y)) fun v => opsW C D q ops K rest (σ.put d v) := by
  simp [opsW, guardW, guardOf, opW, opG, opF, exP_some, looks, exP_bind]
theorem s_un {op : UnOp} {t : TypeId} {x : Operand} : opsW C D q ops K (⟨d, .unOp op t x, ty, pos, af, none⟩ :: rest) σ = exP (unF op (σ.get x)) fun v => opsW C D q ops K rest (σ.put d v) := by
  simp [opsW, guardW, guardOf, opW, opG, opF, exP_some, looks, exP_bind]
theorem s_slice {t : TypeId} {x : Operand} {lo hi mx : Option Operand} : opsW C D q ops K (⟨d, .slice t x lo hi mx, ty, pos, af, none⟩ :: rest) σ = exP (sliceF C σ t (σ.get x) (lo.map σ.get) (hi.map σ.get) (mx.map σ.get)) fun v => opsW C D q ops K rest (σ.put d v) := by
  simp [opsW, guardW, guardOf, opW, opG, opF, exP_some, looks, exP_bind]
theorem s_fieldAddr {s : TypeId} {x : Operand} {f : Nat} : opsW C D q ops K (⟨d, .fieldAddr s x f, ty, pos, af, none⟩ :: rest) σ = exP (fieldAddrF C σ s (σ.get x) f) fun v => opsW C D q ops K rest (σ.put d v) := by
  simp [opsW, guardW, guardOf, opW, opG, opF, exP_some, looks, exP_bind]
theorem s_field {s : TypeId} {x : Operand} {f : Nat} : opsW C D q ops K (⟨d, .field s x f, ty, pos, af, none⟩ :: rest) σ = exP (fieldF C s (σ.get x) f) fun v => opsW C D q ops K rest (σ.put d v) := by
  simp [opsW, guardW, guardOf, opW, opG, opF, exP_some, looks, exP_bind]
theorem s_indexAddr {t : TypeId} {x i : Operand} (hs : nstD C d = false) : opsW C D q ops K (⟨d, .indexAddr t x i, ty, pos, af, none⟩ :: rest) σ = exP (indexAddrF C σ t (σ.get x) (σ.get i)) fun v => opsW C D q ops K rest (σ.put d v) := by
  simp [opsW, guardW, guardOf, opW, opG, opF, exP_some, looks, exP_bind, idxG, hs]
theorem s_indexAddrN {t : TypeId} {x i : Operand} (hs : nstD C d = true) : opsW C D q ops K (⟨d, .indexAddr t x i, ty, pos, af, none⟩ :: rest) σ = exP (idxNF C σ t (σ.get x) (σ.get i)) fun v => opsW C D q ops K rest (σ.put d v) := by
  simp [opsW, guardW, guardOf, opW, opG, opF, exP_some, looks, exP_bind, idxG, hs]
def indexF (C : Cfg) (t : Nat) (x i : AV) : Option AV := do
  let T ← C.tt t
  match T.desc, x, i with
  | .string, .str s, .int _ n => do
    ensure (0 ≤ n ∧ n < s.size)
    some (.int .u8 ((s.data[n.toNat]?).getD 0).toNat)
  | _, _, _ => none
theorem s_lookup {t : TypeId} {m x : Operand} : opsW C D q ops K (⟨d, .lookup t m x false, ty, pos, af, none⟩ :: rest) σ = exP (lookupF C σ t (σ.get m) (σ.get x)) fun v => opsW C D q ops K rest (σ.put d v) := by
  simp [opsW, guardW, guardOf, opW, opG, opF, exP_some, looks, exP_bind]
theorem s_makeMap {t : TypeId} : opsW C D false ops K (⟨d, .makeMap t none, ty, pos, af, none⟩ :: rest) σ = exP (makeMapF C σ d t) (opsW C D false ops K rest) := by
  simp [opsW, guardW, guardOf, opW, opG, opF]
theorem s_mapUpdate {t : TypeId} {m x y : Operand} : opsW C D false ops K (⟨d, .mapUpdate t m x y, ty, pos, af, none⟩ :: rest) σ = exP (mapUpdateF C σ t (σ.get m) (σ.get x) (σ.get y)) fun σ1 => opsW C D false ops K rest (σ1.put d (.tup [])) := by
  simp [opsW, guardW, guardOf, opW, opG, opF, exP_some, exP_bind]
theorem s_index {t : TypeId} {x i : Operand} : opsW C D q ops K (⟨d, .index t x i, ty, pos, af, none⟩ :: rest) σ = exP (indexF C t (σ.get x) (σ.get i)) fun v => opsW C D q ops K rest (σ.put d v) := by
  simp only [opsW, guardW, guardOf, opW, opG, opF, looks, Option.map_none, implies_true, true_and, indexF, Option.bind_eq_bind, exP_bind]
  congr 1
  funext T
  split <;> rename_i h1 h2 <;> simp [*, exP_bind, exP_some, exP_none]
def extractF (x : AV) (i : Nat) : Option AV :=
  match x with
  | .tup vs => vs[i]?
  | _ => none
theorem s_extract {x : Operand} {i : Nat} : opsW C D q ops K (⟨d, .extract x i, ty, pos, af, none⟩ :: rest) σ = exP (extractF (σ.get x) i) fun v => opsW C D q ops K rest (σ.put d v) := by
  simp only [opsW, guardW, guardOf, opW, opG, opF, looks, Option.map_none, implies_true, true_and, extractF]
  split <;> simp [*, exP_bind, exP_some, exP_none]
theorem s_len {x : Operand} {t : TypeId} : opsW C D q ops K (⟨d, .call { callee := .builtin .len, args := #[x], argTypes := #[t] }, ty, pos, af, none⟩ :: rest) σ =
    exP (C.tt t) fun T => exP (lenF σ T.desc (σ.get x)) fun n => opsW C D q ops K rest (σ.put d (.int .i64 n)) := by
  simp [opsW, guardW, guardOf, opW, opG, opF, exP_some, looks, exP_bind]
theorem s_append {x y : Operand} {t t2 : TypeId} : opsW C D false ops K (⟨d, .call { callee := .builtin .append, args := #[x, y], argTypes := #[t, t2] }, ty, pos, af, none⟩ :: rest) σ =
    exP (appendF C σ d t t2 (σ.get x) (σ.get y)) fun σ => opsW C D false ops K rest σ := by
  simp [opsW, guardW, guardOf, opW, opG, opF]
theorem s_copy {x y : Operand} {t t2 : TypeId} : opsW C D false ops K (⟨d, .call { callee := .builtin .copy, args := #[x, y], argTypes := #[t, t2] }, ty, pos, af, none⟩ :: rest) σ =
    exP (copyF C σ d t t2 (σ.get x) (σ.get y)) fun σ => opsW C D false ops K rest σ := by
  simp [opsW, guardW, guardOf, opW, opG, opF]
theorem s_clear {x : Operand} {t : TypeId} : opsW C D false ops K (⟨d, .call { callee := .builtin .clear, args := #[x], argTypes := #[t] }, ty, pos, af, none⟩ :: rest) σ =
    exP (clearF C σ t (σ.get x)) fun σ1 => opsW C D false ops K rest (σ1.put d (.tup [])) := by
  simp [opsW, guardW, guardOf, opW, opG, opF, exP_some, exP_bind]
theorem s_store {t : TypeId} {p x : Operand} (hs : rnD C = false) : opsW C D false ops K (⟨d, .store t p x, ty, pos, af, none⟩ :: rest) σ = exP (storeF C σ t (σ.get p) (σ.get x)) fun σ1 => opsW C D false ops K rest (σ1.put d (.tup [])) := by
  simp [opsW, guardW, guardOf, opW, opG, opF, exP_some, exP_bind, storeR, hs]
theorem s_storeR {t : TypeId} {p x : Operand} (hs : rnD C = true) : opsW C D false ops K (⟨d, .store t p x, ty, pos, af, none⟩ :: rest) σ = exP (C.tt t) fun T => exP (storeF C σ t (σ.get p) (σ.get x)) fun σ1 => opsW C D false ops K rest ((renewL σ1 (σ.get p) T.sz (rnI C.stl)).put d (.tup [])) := by
  simp [opsW, guardW, guardOf, opW, opG, opF, exP_some, exP_bind, storeR, hs]
theorem s_alloc {t : TypeId} : opsW C D false ops K (⟨d, .alloc t, ty, pos, af, none⟩ :: rest) σ = exP (C.tt t) fun T => exP (newVar σ d T.sz (mkV T.desc.isStruct T.zero)) fun σ => opsW C D false ops K rest σ := by
  simp [opsW, guardW, guardOf, opW, opG, opF, exP_bind]
theorem s_box {t : TypeId} {x : Operand} : opsW C D false ops K (⟨d, .box t x, ty, pos, af, none⟩ :: rest) σ =
    exP (C.tt t) fun T => exP (σ.closeL (leaves (σ.get x))) fun p => p.1.length = T.sz ∧ exP (newVar p.2 d T.sz (mkV T.desc.isStruct p.1)) fun σ => opsW C D false ops K rest σ := by
  simp [opsW, guardW, guardOf, opW, opG, opF, exP_bind, exP_ensure]
def buildStF (C : Cfg) (σ : St) (t : Nat) (parts : List (Nat × Operand)) : Option AV := do
  let T ← C.tt t
  match T.desc with
  | .struct fs => do
    ensure (fs.all (fun p => (C.tt p.2).isSome) = true)
    let ls ← buildF C fs σ parts T.zero
    some (.agg ls)
  | _ => none
theorem s_build {t : TypeId} {parts : Array (Nat × Operand)} : opsW C D q ops K (⟨d, .build t parts, ty, pos, af, none⟩ :: rest) σ = exP (buildStF C σ t parts.toList) fun v => opsW C D q ops K rest (σ.put d v) := by
  simp only [opsW, guardW, guardOf, opW, opG, opF, looks, Option.map_none, implies_true, true_and, buildStF, Option.bind_eq_bind, exP_bind]
  congr 1
  funext T
  split <;> simp [*, exP_bind, exP_some, exP_none]
def buildSlF (C : Cfg) (σ : St) (d : Option Tmp) (t n : Nat) (parts : List (Nat × Operand)) : Option St := do
  let T ← C.tt t
  match T.desc with
  | .slice el => do
    let U ← C.tt el
    ensure (n * U.sz ≤ 16777216)
    let (l, σ) ← buildSliceF C.mv U parts (List.replicate n (mkV U.desc.isStruct U.zero)) σ
    newArr σ d U.sz l n true
  | _ => none
theorem s_buildSlice {t n : Nat} {parts : Array (Nat × Operand)} : opsW C D false ops K (⟨d, .buildSlice t n parts, ty, pos, af, none⟩ :: rest) σ = exP (buildSlF C σ d t n parts.toList) fun σ => opsW C D false ops K rest σ := by
  simp only [opsW, guardW, guardOf, opW, opG, opF, Option.map_none, buildSlF, Bool.false_eq_true, false_imp_iff, true_and]
  rfl
def makeF (C : Cfg) (σ : St) (d : Option Tmp) (t : Nat) (l c : AV) : Option St := do
  let T ← C.tt t
  match T.desc, l, c with
  | .slice el, .int .i64 l, .int .i64 c => do
    let U ← C.tt el
    ensure (0 ≤ l ∧ l ≤ c ∧ c * U.bytes ≤ 140737488355328 ∧ c ≤ 140737488355328)
    newArr σ d U.sz (List.replicate c.toNat (mkV U.desc.isStruct U.zero)) l.toNat (decide (l = c))
  | _, _, _ => none
theorem s_makeSlice {t : TypeId} {l c : Operand} : opsW C D false ops K (⟨d, .makeSlice t l c, ty, pos, af, none⟩ :: rest) σ = exP (makeF C σ d t (σ.get l) (σ.get c)) fun σ => opsW C D false ops K rest σ := by
  simp only [opsW, guardW, guardOf, opW, opG, opF, Option.map_none, makeF, Bool.false_eq_true, false_imp_iff, true_and]
  rfl
theorem s_makeFunc {f : Nat} {cap : Array Operand} : opsW C D q ops K (⟨d, .makeFunc (.func f) #[] cap, ty, pos, af, none⟩ :: rest) σ = exP (captureL cap.toList σ) fun p => opsW C D q ops K rest (p.2.put d (.clo f p.1)) := by
  simp [opsW, guardW, guardOf, opW, opF, exP_bind, exP_ensure, exP_some]
def leftO (σ : St) (left : AV) : Option AV → St
  | some x => putLeft σ x left
  | none => σ
def leftM (σ : St) (as : List AV) (left : AV) : Option Nat → St
  | none => σ
  | some k => leftO σ left as[k]?
theorem leftS_eq (f : Nat) (as : List AV) (left : AV) : leftS C σ f as left = leftM σ as left (C.wrt f) := by
  unfold leftS leftM
  cases C.wrt f with
  | none => rfl
  | some k => cases as[k]? <;> rfl
def behind (C : Cfg) (σ : St) (f : Nat) (as : List AV) (d : Option Tmp) (res left : AV) : St := takeRes d (leftS C (if hasFro res || hasFro left then freezeL σ (lentL C σ f 0 as) else σ) f as left) res
def okQ (C : Cfg) (σ : St) (q : Bool) (f : Nat) (as : List AV) : Prop := okCW C σ f as ∧ (q = true → C.wrt f = none)
def okEnt (lent : List Nat) : Option AV → Prop
  | some x => match entW x with
    | some e => e ∉ lent
    | none => False
  | none => False
def okM (q : Bool) (as : List AV) (lent : List Nat) : Option Nat → Prop
  | none => True
  | some k => q = false ∧ okEnt lent as[k]?
theorem okQ_eq (q : Bool) (f : Nat) (as : List AV) : okQ C σ q f as = okM q as (lentL C σ f 0 as) (C.wrt f) := by
  unfold okQ okCW okM
  cases C.wrt f with
  | none => simp
  | some k =>
    have key : (∃ x e, as[k]? = some x ∧ entW x = some e ∧ e ∉ lentL C σ f 0 as) ↔ okEnt (lentL C σ f 0 as) as[k]? := by
      constructor
      · rintro ⟨x, e, h1, h2, h3⟩
        rw [h1]; simp only [okEnt, h2]; exact h3
      · intro h
        unfold okEnt at h
        split at h
        · rename_i x hx
          split at h
          · rename_i e he; exact ⟨x, e, hx, he, h⟩
          · exact h.elim
        · exact h.elim
    dsimp only
    rw [key]
    cases q <;> simp
theorem okM_none (q : Bool) (as : List AV) (lent : List Nat) : okM q as lent none = True := rfl
theorem okM_some (as : List AV) (lent : List Nat) (k : Nat) : okM false as lent (some k) = okEnt lent as[k]? := by simp [okM]
theorem okE_ptr (lent : List Nat) (e g i j : Nat) : okEnt lent (some (.ptr e g i j)) = (e ∉ lent) := rfl
theorem okE_hd (lent : List Nat) (e g off len : Nat) (c : Bool) : okEnt lent (some (.hd e g off len c)) = (e ∉ lent) := rfl
theorem okE_fro (lent : List Nat) (e v i j : Nat) (c : Bool) (l : List AV) : okEnt lent (some (.fro (some (e, v, some (i, j))) c l)) = (e ∉ lent) := rfl
theorem s_call {f : Nat} {args : Array Operand} {ts : Array TypeId} (hs : cstD C d = false) : opsW C D q ops K (⟨d, .call { callee := .value (.func f), args, argTypes := ts }, ty, pos, af, none⟩ :: rest) σ =
    exP (passL C σ f 0 (args.toList.map σ.get)) fun as => okQ C σ q f (args.toList.map σ.get) ∧ callW D q f as fun res left => opsW C D q ops K rest (behind C σ f (args.toList.map σ.get) d res left) := by
  simp only [opsW, guardW, guardOf, opW, callP, hs, Bool.false_eq_true, if_false, callP0, target, St.get, exP_some, Option.map_none, List.append_nil, behind, okQ]
/-! ### Slots -/
theorem put_sl (σ : St) (d : Tmp) (v : AV) (k : Nat) : (σ.put (some d) v).sl k = if k = d then v else σ.sl k := rfl
theorem put_en (σ : St) (d : Option Tmp) (v : AV) : (σ.put d v).en = σ.en := by cases d <;> rfl
theorem put_none (σ : St) (v : AV) : σ.put none v = σ := rfl
theorem get_tmp (σ : St) (t : Tmp) : σ.get (.tmp t) = σ.sl t := rfl
theorem get_func (σ : St) (f : Nat) : σ.get (.func f) = .clo f [] := rfl
theorem get_const (σ : St) (v : Value) : σ.get (.const v) = ofC v := rfl
theorem init_sl (args : List AV) (k : Nat) : (St.init args).sl k = args.getD k (.tup []) := rfl
theorem lenF_str (s : ByteArray) : lenF σ .string (.str s) = some s.size := rfl
theorem lenF_fro (e : Nat) (clip : Bool) (l : List AV) : lenF σ (.slice e) (.fro none clip l) = some l.length := rfl
theorem lenF_hd (t e g off len : Nat) (clip : Bool) : lenF σ (.slice t) (.hd e g off len clip) = (σ.cur e g).bind fun _ => some len := rfl
theorem exP_cur (e g : Nat) (K : Ent → Prop) : exP (σ.cur e g) K = (((σ.en e).live = true ∧ (σ.en e).gen = g) ∧ K (σ.en e)) := by
  unfold St.cur
  split
  · rename_i h; rw [exP_some]; simp [h]
  · rename_i h; rw [exP_none]; simp [h]
theorem init_en (args : List AV) (e : Nat) : (St.init args).en e = { live := false, gen := 0, wr := 0, frz := false, sz := 0, elems := [] } := rfl
theorem fresh_sl (σ : St) (e sz : Nat) (l : List AV) : (σ.fresh e sz l).sl = σ.sl := rfl
theorem fresh_en (σ : St) (e sz : Nat) (l : List AV) (k : Nat) : (σ.fresh e sz l).en k = if k = e then { live := true, gen := (σ.en e).gen + 1, wr := (σ.en e).wr + 1, frz := false, sz, elems := l } else σ.en k := rfl
theorem ent_sl (σ : St) (e : Nat) (E : Ent) : (σ.ent e E).sl = σ.sl := rfl
theorem ent_en (σ : St) (e : Nat) (E : Ent) (k : Nat) : (σ.ent e E).en k = if k = e then E else σ.en k := rfl
theorem upd_eq {α : Type} (f : Nat → α) (a : Nat) (v : α) (b : Nat) : upd f a v b = if b = a then v else f b := rfl
theorem exP_true {α : Type} (a : α) : exP (some a) (fun _ => True) = True := by simp [exP]
theorem eid_eq (d j : Nat) : eid d j = 64 * d + j := rfl
theorem leftE_und (E : Ent) (x : AV) : leftE E x .und = none := by unfold leftE; split <;> simp_all
theorem putLeft_und (σ : St) (x : AV) : putLeft σ x .und = σ := by
  unfold putLeft
  split
  · rw [leftE_und]
  · rfl
theorem leftS_und (σ : St) (f : Nat) (as : List AV) : leftS C σ f as .und = σ := by
  rw [leftS_eq]
  unfold leftM
  split
  · rfl
  · unfold leftO
    split
    · exact putLeft_und σ _
    · rfl
theorem behind_int {f : Nat} {as : List AV} {dd : Option Tmp} {k : IntKind} {n : Int} : behind C σ f as dd (.int k n) .und = σ.put dd (.int k n) := by unfold behind; rw [leftS_und]; cases dd <;> rfl
theorem behind_bool {f : Nat} {as : List AV} {dd : Option Tmp} {b : Bool} : behind C σ f as dd (.bool b) .und = σ.put dd (.bool b) := by unfold behind; rw [leftS_und]; cases dd <;> rfl
theorem behind_str {f : Nat} {as : List AV} {dd : Option Tmp} {s : ByteArray} : behind C σ f as dd (.str s) .und = σ.put dd (.str s) := by unfold behind; rw [leftS_und]; cases dd <;> rfl
theorem testV_dec (p : Prop) [Decidable p] (d : Tmp) (σ : St) (yes no : St → Prop) : testV (.bool (decide p)) d true σ yes no = ((p → yes (σ.put (some d) (.bool true))) ∧ (¬ p → no (σ.put (some d) (.bool false)))) := by
  simp only [testV_bool, decide_eq_true_eq, decide_eq_false_iff_not]
theorem testV_dec' (p : Prop) [Decidable p] (d : Tmp) (σ : St) (yes no : St → Prop) : testV (.bool (decide p)) d false σ yes no = ((p → no (σ.put (some d) (.bool true))) ∧ (¬ p → yes (σ.put (some d) (.bool false)))) := by
  simp only [testV_bool', decide_eq_true_eq, decide_eq_false_iff_not]
theorem condV_dec (p : Prop) [Decidable p] (d : Tmp) (σ : St) (yes no : St → Prop) : condV (.bool (decide p)) d σ yes no = ((p → yes (σ.put (some d) (.bool true))) ∧ (¬ p → no (σ.put (some d) (.bool false)))) := by
  simp only [condV_bool, decide_eq_true_eq, decide_eq_false_iff_not]
theorem bool_eq (a b : Int) : AV.bool (a == b) = AV.bool (decide (a = b)) := by congr 1
theorem bool_ne (a b : Int) : AV.bool (a != b) = AV.bool (decide (¬ a = b)) := by
  congr 1
  by_cases h : a = b <;> simp [h]
theorem bool_not (p : Prop) [Decidable p] : AV.bool (!decide p) = AV.bool (decide (¬ p)) := by
  congr 1
  by_cases h : p <;> simp [h]
theorem bool_not_true : AV.bool (!true) = AV.bool false := rfl
theorem bool_not_false : AV.bool (!false) = AV.bool true := rfl
/-! ### Behind a call -/
theorem freeze_none (c : Bool) (σ : St) : (if c then freezeL σ [] else σ) = σ := by split <;> rfl
theorem behind_gen {f : Nat} {as : List AV} {dd : Option Tmp} {res left : AV} (h : lentL C σ f 0 as = []) : behind C σ f as dd res left = takeRes dd (leftM σ as left (C.wrt f)) res := by
  unfold behind
  rw [h, freeze_none, leftS_eq]
theorem takeL_same (k : Tmp) : ∀ (l : List AV) (j : Nat) (σ : St), l.all noOwn = true → takeL k j l σ = (l, σ) := by
  intro l
  induction l with
  | nil => intros; rfl
  | cons x xs ih =>
    intro j σ hx
    simp only [List.all_cons, Bool.and_eq_true] at hx
    have h1 : takeLeaf k j σ x = (x, σ) := by cases x <;> first | rfl | cases hx.1
    simp only [takeL, h1, ih (j + 1) σ hx.2]
theorem behind_agg {f : Nat} {as : List AV} {k : Tmp} {fs : List AV} (h : lentL C σ f 0 as = []) (hn : fs.all noOwn = true) : behind C σ f as (some k) (.agg fs) .und = σ.put (some k) (.agg fs) := by
  unfold behind
  rw [h, freeze_none, leftS_und]
  simp only [takeRes, takeV, takeL_same k fs 0 σ hn]
theorem behind_own {f : Nat} {as : List AV} {k : Tmp} {sz : Nat} {l : List AV} (h : lentL C σ f 0 as = []) : behind C σ f as (some k) (.own sz l) .und = (σ.fresh (eid k 0) sz l).put (some k) (.hd (eid k 0) ((σ.en (eid k 0)).gen + 1) 0 l.length false) := by
  unfold behind
  rw [h, freeze_none, leftS_und]
  rfl
theorem behind_fro {f : Nat} {as : List AV} {k : Tmp} {c : Bool} {l : List AV} (h : lentL C σ f 0 as = []) : behind C σ f as (some k) (.fro none c l) .und = σ.put (some k) (.fro none c l) := by
  unfold behind
  rw [h, freeze_none, leftS_und]
  rfl
theorem behind_tup {f : Nat} {as : List AV} {k : Tmp} {vs : List AV} (h : lentL C σ f 0 as = []) : behind C σ f as (some k) (.tup vs) .und = takeRes (some k) σ (.tup vs) := by
  unfold behind
  rw [h, freeze_none, leftS_und]
theorem behind_rpt {f : Nat} {as : List AV} {k : Tmp} {sz i j : Nat} {l : List AV} (h : lentL C σ f 0 as = []) : behind C σ f as (some k) (.pt sz l i j) .und = (σ.fresh (eid k 0) sz l).put (some k) (.ptr (eid k 0) ((σ.en (eid k 0)).gen + 1) i j) := by
  unfold behind
  rw [h, freeze_none, leftS_und]
  rfl
theorem behind_pt {f : Nat} {as : List AV} {dd : Option Tmp} {res : AV} {sz i j : Nat} {l : List AV} (h : lentL C σ f 0 as = []) : behind C σ f as dd res (.pt sz l i j) = takeRes dd (leftM σ as (.pt sz l i j) (C.wrt f)) res := behind_gen h
theorem behind_gone {f : Nat} {as : List AV} {dd : Option Tmp} {res : AV} (h : lentL C σ f 0 as = []) : behind C σ f as dd res (.tup []) = takeRes dd (leftM σ as (.tup []) (C.wrt f)) res := behind_gen h
theorem putLeft_gone (σ : St) (e g off len : Nat) (c : Bool) : putLeft σ (.hd e g off len c) (.tup []) = σ.ent e { σ.en e with live := false, wr := (σ.en e).wr + 1 } := rfl
theorem behind_lo {f : Nat} {as : List AV} {dd : Option Tmp} {res : AV} {sz : Nat} {l : List AV} (h : lentL C σ f 0 as = []) : behind C σ f as dd res (.own sz l) = takeRes dd (leftM σ as (.own sz l) (C.wrt f)) res := behind_gen h
theorem leftM_none (σ : St) (as : List AV) (left : AV) : leftM σ as left none = σ := rfl
theorem leftM_some (σ : St) (as : List AV) (left : AV) (k : Nat) : leftM σ as left (some k) = leftO σ left as[k]? := rfl
theorem leftO_some (σ : St) (left x : AV) : leftO σ left (some x) = putLeft σ x left := rfl
theorem putLeft_ptr (σ : St) (e g i j sz i' j' : Nat) (l : List AV) : putLeft σ (.ptr e g i j) (.pt sz l i' j') = σ.ent e { σ.en e with wr := (σ.en e).wr + 1, elems := l } := rfl
theorem putLeft_hd (σ : St) (e g off len sz : Nat) (c : Bool) (l : List AV) : putLeft σ (.hd e g off len c) (.own sz l) = σ.ent e { σ.en e with wr := (σ.en e).wr + 1, elems := l } := rfl
theorem putLeft_fro (σ : St) (e v i j sz : Nat) (c : Bool) (l l' : List AV) : putLeft σ (.fro (some (e, v, some (i, j))) c l) (.own sz l') = σ.ent e { σ.en e with wr := (σ.en e).wr + 1, elems := (σ.en e).elems.modify i fun x => reEl x ((leaves x).set j (.own sz l')) } := rfl
theorem takeRes_int (dd : Option Tmp) (σ : St) (k : IntKind) (n : Int) : takeRes dd σ (.int k n) = σ.put dd (.int k n) := by cases dd <;> rfl
theorem takeRes_bool (dd : Option Tmp) (σ : St) (b : Bool) : takeRes dd σ (.bool b) = σ.put dd (.bool b) := by cases dd <;> rfl
theorem takeRes_str (dd : Option Tmp) (σ : St) (s : ByteArray) : takeRes dd σ (.str s) = σ.put dd (.str s) := by cases dd <;> rfl
theorem lentS_own (σ : St) (k sz : Nat) (l : List AV) : σ.lentS k (.own sz l) = (σ.fresh (eid k 0) sz l).put (some k) (.hd (eid k 0) 1 0 l.length false) := rfl
theorem lentS_pt (σ : St) (k sz i j : Nat) (l : List AV) : σ.lentS k (.pt sz l i j) = (σ.fresh (eid k 0) sz l).put (some k) (.ptr (eid k 0) 1 i j) := rfl
theorem lentOf_fro {c : Bool} {l : List AV} : lentOf σ (.fro none c l) = [] := rfl
theorem lentOf_int {k : IntKind} {n : Int} : lentOf σ (.int k n) = [] := rfl
theorem lentOf_bool {b : Bool} : lentOf σ (.bool b) = [] := rfl
theorem lentOf_str {s : ByteArray} : lentOf σ (.str s) = [] := rfl
theorem lentL_nil {f p : Nat} : lentL C σ f p [] = [] := rfl
theorem lentL_cons {f p : Nat} {x : AV} {xs : List AV} : lentL C σ f p (x :: xs) = (if C.wrt f = some p then [] else (leaves x).flatMap (lentOf σ)) ++ lentL C σ f (p + 1) xs := rfl
theorem frzHd_nil (σ : St) : σ.frzHd [] = some σ := by unfold St.frzHd; rfl
theorem frzHd_hd (σ : St) (e g o l : Nat) (c : Bool) (xs : List AV) : σ.frzHd (.hd e g o l c :: xs) = (σ.cur e g).bind fun E => (if E.frz then σ else σ.freeze e).frzHd xs := by
  conv => lhs; unfold St.frzHd
  rfl
theorem frzHd_int (σ : St) (k : IntKind) (x : Int) (xs : List AV) : σ.frzHd (.int k x :: xs) = σ.frzHd xs := by conv => lhs; unfold St.frzHd
theorem frzHd_bool (σ : St) (x : Bool) (xs : List AV) : σ.frzHd (.bool x :: xs) = σ.frzHd xs := by conv => lhs; unfold St.frzHd
theorem frzHd_str (σ : St) (x : ByteArray) (xs : List AV) : σ.frzHd (.str x :: xs) = σ.frzHd xs := by conv => lhs; unfold St.frzHd
theorem frzHd_fro (σ : St) (t : Option (Nat × Nat × Option (Nat × Nat))) (c : Bool) (l : List AV) (xs : List AV) : σ.frzHd (.fro t c l :: xs) = σ.frzHd xs := by conv => lhs; unfold St.frzHd
theorem kill_sl (σ : St) (e : Nat) : (σ.kill e).sl = σ.sl := rfl
theorem kill_en (σ : St) (e k : Nat) : (σ.kill e).en k = if k = e then { σ.en e with live := false } else σ.en k := rfl
theorem freeze_sl (σ : St) (e : Nat) : (σ.freeze e).sl = σ.sl := rfl
theorem freeze_en (σ : St) (e k : Nat) : (σ.freeze e).en k = if k = e then { σ.en e with frz := true, elems := (σ.en e).elems.map froize } else σ.en k := rfl
theorem take_map_len {α β : Type} (f : α → β) (l : List α) : (l.map f).take l.length = l.map f := List.take_of_length_le (by simp)
theorem exP_valid (e v : Nat) (K : Unit → Prop) : exP (σ.valid e v) K = (((σ.en e).live = true ∧ (σ.en e).wr = v) ∧ K ()) := exP_ensure _ _
def convA (C : Cfg) (σ : St) (s t : Nat) (x : AV) : Option AV :=
  match convF C s t x with
  | some v => some v
  | none => match convS C σ s t x with
    | some v => some v
    | none => convB C s t x
theorem convE (C : Cfg) (o : Option Tmp) (σ : St) (s t : Nat) (x : AV) (K : St → Prop) : exP (match convF C s t x with
    | some v => some (σ.put o v)
    | none => match convS C σ s t x with
      | some v => some (σ.put o v)
      | none => do let v ← convB C s t x; some (σ.put o v)) K = exP (convA C σ s t x) fun v => K (σ.put o v) := by
  unfold convA
  cases convF C s t x with
  | some v => simp [exP_some]
  | none =>
    cases convS C σ s t x with
    | some v => simp [exP_some]
    | none => simp [exP_bind, exP_some]
theorem s_conv {s t : TypeId} {x : Operand} : opsW C D false ops K (⟨d, .convert s t x, ty, pos, af, none⟩ :: rest) σ = exP (convA C σ s t (σ.get x)) fun v => opsW C D false ops K rest (σ.put d v) := by
  rw [← convE]
  simp only [opsW, guardW, guardOf, opW, opG, opF, Option.map_none, Bool.false_eq_true, false_imp_iff, true_and]
  rfl
def lookT (C : Cfg) (t : Nat) : Bool :=
  match C.tt t with
  | some T => match T.desc with
    | .slice _ => false
    | _ => true
  | none => true
theorem s_convQ {s t : TypeId} {x : Operand} : opsW C D true ops K (⟨d, .convert s t x, ty, pos, af, none⟩ :: rest) σ = (lookT C t = true ∧ exP (convA C σ s t (σ.get x)) fun v => opsW C D true ops K rest (σ.put d v)) := by
  have hl : looks C ⟨d, .convert s t x, ty, pos, af, none⟩ = lookT C t := rfl
  rw [← convE]
  simp only [opsW, guardW, guardOf, opW, opG, opF, Option.map_none, hl, true_imp_iff]
  rfl
def cloV : AV → Option (Nat × List AV)
  | .clo f caps => some (f, caps)
  | _ => none
theorem cloV_clo (f : Nat) (caps : List AV) : cloV (.clo f caps) = some (f, caps) := rfl
theorem s_callT {t : Tmp} {args : Array Operand} {ts : Array TypeId} (hs : cstD C d = false) : opsW C D q ops K (⟨d, .call { callee := .value (.tmp t), args, argTypes := ts }, ty, pos, af, none⟩ :: rest) σ =
    exP (cloV (σ.sl t)) fun p => exP (passL C σ p.1 0 (args.toList.map σ.get ++ p.2)) fun as => okQ C σ q p.1 (args.toList.map σ.get) ∧ callW D q p.1 as fun res left => opsW C D q ops K rest (behind C σ p.1 (args.toList.map σ.get) d res left) := by
  have e : target σ (.tmp t) = cloV (σ.sl t) := by
    simp only [target, St.get]
    cases σ.sl t <;> rfl
  simp only [opsW, guardW, guardOf, opW, callP, hs, Bool.false_eq_true, if_false, callP0, e, Option.map_none, behind, okQ]
theorem exP_atm {α β : Type} [Inhabited α] (f : α → β) (l : List α) (i : Nat) (K : β → Prop) : exP (l[i]?.map f) K = (i < l.length ∧ K (f l[i]!)) := by rw [exP_map, exP_at]
end
end Go.Vm
end
section
/- Structs that are compared. -/
namespace Go.Vm
def fieldsOk (P : Program) : List Field → List TD → Nat → Bool
  | [], [], _ => true
  | f :: fs, k :: ks, i => !(f.name == "_") && decide (f.offset = i) && (match k, P.underlying f.type with
    | .int k, some (.int k') => decide (k = k')
    | .bool, some .bool => true
    | .string, some .string => true
    | _, _ => false) && fieldsOk P fs ks (i + 1)
  | _, _, _ => false
theorem run_part_scalar {P : Program} {t : TypeId} {u : TypeDesc} (hu : P.underlying t = some u) (hn : u.isRow = false) {cs : Array Value} {i : Nat} {v : Value} (hv : cs[i]? = some v) (w : World) : (part t cs i).run P w = .ok v w := by
  unfold part isAgg
  simp only [Sem.run_bind, run_underlying hu, Result.andThen_ok]
  cases u <;> simp_all
theorem eqFields_ok {P : Program} {d : Nat} {w : World} {xs ys : Array Value} : ∀ {fs : List Field} {ks : List TD} {i : Nat} {p q : List AV} {r : Bool}, fieldsOk P fs ks i = true → kindsOk ks p = true → kindsOk ks q = true →
    (∀ j x, p[j]? = some x → xs[i + j]? = some (toV x)) → (∀ j x, q[j]? = some x → ys[i + j]? = some (toV x)) → eqCells p q = some r → (Op.eqFields (d + 1) xs ys fs).run P w = .ok r w
  | [], ks, i, p, q, r, hf, hp, hq, _, _, hr => by
    cases ks with
    | cons => simp [fieldsOk] at hf
    | nil =>
      cases p <;> cases q <;> simp [kindsOk] at hp hq
      simp only [eqCells, Option.some.injEq] at hr
      subst hr
      simp [Op.eqFields]
  | f :: fs, ks, i, p, q, r, hf, hp, hq, hx, hy, hr => by
    cases ks with
    | nil => simp [fieldsOk] at hf
    | cons k ks =>
      cases p with
      | nil => simp [kindsOk] at hp
      | cons a p =>
      cases q with
      | nil => simp [kindsOk] at hq
      | cons b q =>
      simp only [fieldsOk, Bool.and_eq_true, Bool.not_eq_true', decide_eq_true_eq] at hf
      obtain ⟨⟨⟨hn, ho⟩, hk⟩, hf⟩ := hf
      simp only [kindsOk, Bool.and_eq_true] at hp hq
      simp only [eqCells, Option.bind_eq_bind, Option.bind_eq_some_iff] at hr
      obtain ⟨r1, h1, r2, h2, hr⟩ := hr
      cases hr
      have ih := eqFields_ok (d := d) (w := w) hf hp.2 hq.2 (fun j x hj => by have := hx (j + 1) x (by simpa using hj); rwa [show i + (j + 1) = i + 1 + j by omega] at this) (fun j x hj => by have := hy (j + 1) x (by simpa using hj); rwa [show i + (j + 1) = i + 1 + j by omega] at this) h2
      have ha := hx 0 a rfl
      have hb := hy 0 b rfl
      rw [Nat.add_zero] at ha hb
      have hn' : f.name ≠ "_" := by simpa using hn
      have key : ∃ u, P.underlying f.type = some u ∧ u.isRow = false ∧ (Op.equalIn (d + 1) f.type (toV a) (toV b)).run P w = .ok r1 w := by
        split at hk
        · rename_i k1 k2 hu
          simp only [decide_eq_true_eq] at hk
          cases a <;> simp only [kindOk, Bool.false_eq_true, false_and] at hp
          cases b <;> simp only [kindOk, Bool.false_eq_true, false_and] at hq
          refine ⟨_, hu, rfl, ?_⟩
          rename_i ka na kb nb
          have e1 : k1 = ka := by simpa using hp.1
          have e2 : k1 = kb := by simpa using hq.1
          subst e1 e2
          simp only [eqCell, if_true, Option.some.injEq] at h1
          subst h1
          exact run_equalIn_int w d f.type _ _ _ _ hu
        · rename_i hu
          cases a <;> simp only [kindOk, Bool.false_eq_true, false_and] at hp
          cases b <;> simp only [kindOk, Bool.false_eq_true, false_and] at hq
          refine ⟨_, hu, rfl, ?_⟩
          simp only [eqCell, Option.some.injEq] at h1
          subst h1
          exact run_equalIn_bool' w d f.type _ _ hu
        · rename_i hu
          cases a <;> simp only [kindOk, Bool.false_eq_true, false_and] at hp
          cases b <;> simp only [kindOk, Bool.false_eq_true, false_and] at hq
          refine ⟨_, hu, rfl, ?_⟩
          simp only [eqCell, Option.some.injEq] at h1
          subst h1
          have := run_equalIn_string (P := P) w d f.type
          simp only [toV]
          rw [this _ _ hu, beq_toListBytes]
        · cases hk
      obtain ⟨u, hu, hrow, heq⟩ := key
      rw [Op.eqFields]
      simp only [if_pos hn', Sem.run_bind, ho, run_part_scalar hu hrow ha, run_part_scalar hu hrow hb, Result.andThen_ok, heq]
      cases r1
      · simp
      · simpa using ih
theorem EqOk.of {P : Program} {t : TypeId} {ks : List TD} {fs : Array Field} (hu : P.underlying t = some (.struct fs)) (hg : P.eqGuardType P.depth t = false) (hs : P.stoodInHeld t = false) (hf : fieldsOk P fs.toList ks 0 = true) : EqOk P t ks := by
  refine ⟨fun op x y xs ys w => run_eqGuard_agg w op t x y xs ys hg, fun p q r w hp hq hr => ?_⟩
  have e : P.fieldsOf t = fs := by simp [Program.fieldsOf, hu]
  unfold Op.equal
  rw [show Op.maxDepth = 9998 + 1 + 1 from rfl, run_equalIn_struct (P := P) w (9998 + 1) t _ _ (by rw [e]; exact hu) hs, e]
  exact eqFields_ok hf hp hq (fun j x hj => by simp [hj]) (fun j x hj => by simp [hj]) hr
theorem bytes_beq (a b : ByteArray) : (a.toList == b.toList) = decide (a = b) := by
  rw [ByteArray.toList_eq, ByteArray.toList_eq]
  obtain ⟨⟨x⟩⟩ := a
  obtain ⟨⟨y⟩⟩ := b
  by_cases h : x = y
  · subst h; simp
  · have h2 : ¬ ((⟨⟨x⟩⟩ : ByteArray) = ⟨⟨y⟩⟩) := fun he => h (by cases he; rfl)
    simp [h]
theorem binStr_eql (a b : ByteArray) : binStr .eql a b = some (.bool (decide (a = b))) := by simp only [binStr, bytes_beq]
theorem binStr_neq (a b : ByteArray) : binStr .neq a b = some (.bool (decide (¬ a = b))) := by
  simp only [binStr, bytes_beq]
  by_cases h : a = b <;> simp [h]
theorem eqCell_str (a b : ByteArray) : eqCell (.str a) (.str b) = some (decide (a = b)) := by
  simp only [eqCell, beq_toListBytes, bytes_beq]
theorem eqCell_int (k : IntKind) (a b : Int) : eqCell (.int k a) (.int k b) = some (decide (a = b)) := by
  simp only [eqCell, if_true]
  congr 1
end Go.Vm
end
section
/- The same steps, what comes behind held fixed: simp does not enter it. -/
namespace Go.Vm
structure Tag {α : Type} (a : α) : Type where
def exT {α : Type} (o : Option α) (K : α → Prop) (_ : Tag K) : Prop := exP o K
def opsT (C : Cfg) (D : Vm.Spec) (q : Bool) (ops : Array Oper) (K : St → Prop) (l : List Oper) (σ : St) (_ : Tag K) : Prop := opsW C D q ops K l σ
def WT (C : Cfg) (D : Vm.Spec) (c : Code) (Q : Ex → St → Prop) (σ : St) (_ : Tag Q) : Prop := W C D c Q σ
def callT (D : Vm.Spec) (q : Bool) (f : Nat) (as : List AV) (K : AV → AV → Prop) (_ : Tag K) : Prop := callW D q f as K
def testT (x : AV) (d : Tmp) (want : Bool) (σ : St) (yes no : St → Prop) (_ : Tag yes) (_ : Tag no) : Prop := testV x d want σ yes no
def condT (x : AV) (d : Tmp) (σ : St) (yes no : St → Prop) (_ : Tag yes) (_ : Tag no) : Prop := condV x d σ yes no
def guardT (g : Option Tmp) (want : Bool) (σ : St) (yes no : St → Prop) (_ : Tag yes) (_ : Tag no) : Prop := guardS g want σ yes no
section
variable {C : Cfg} {D : Vm.Spec} {Q : Ex → St → Prop} {σ : St} {tq : Tag Q}
theorem WT_skip : WT C D .skip Q σ tq = Q .normal σ := by unfold WT; rfl
theorem WT_exit (i : Nat) : WT C D (.exit i) Q σ tq = Q (.exit i) σ := by unfold WT; rfl
theorem WT_ret : WT C D .ret Q σ tq = Q .ret σ := by unfold WT; rfl
theorem WT_seq (a b : Code) : WT C D (.seq a b) Q σ tq = WT C D a (fun e σ' => match e with | .normal => WT C D b Q σ' tq | e => Q e σ') σ ⟨⟩ := by unfold WT; rfl
theorem WT_block (i : Nat) (c : Code) : WT C D (.block i c) Q σ tq = WT C D c (fun e σ' => match e with | .exit j => if j = i then Q .normal σ' else Q (.exit j) σ' | e => Q e σ') σ ⟨⟩ := by unfold WT; rfl
theorem WT_region (i : Nat) (ops : Array Oper) (q : Bool) : WT C D (.region i ops q) Q σ tq = opsT C D q ops (Q .normal) ops.toList σ ⟨⟩ := by unfold WT; rfl
theorem WT_if {c : Tmp} {a b : Code} : WT C D (.cond (.tmp c) a b) Q σ tq = condT (σ.sl c) c σ (fun σ => WT C D a Q σ tq) (fun σ => WT C D b Q σ tq) ⟨⟩ ⟨⟩ := by unfold WT; rfl
theorem WT_loop {α : Type} (R : α → St → Prop) (m : α → Nat) {c : Code} (x : α) (h : R x σ) (hs : ∀ x σ, R x σ → WT C D c (fun e σ' => match e with | .normal => ∃ y, R y σ' ∧ m y < m x | e => Q e σ') σ ⟨⟩) : WT C D (.loop c) Q σ tq := W_loop R m x h hs
theorem WT_loopR {α : Type} (R : α → St → Prop) (m : α → Nat) {c : Code} (s : Nat) (h : reown σ s fun σ0 => ∃ x, R x σ0) (hs : ∀ x σ, R x σ → WT C D c (fun e σ' => match e with | .normal => reown σ' s (fun σ0 => ∃ y, R y σ0 ∧ m y < m x) | e => Q e σ') σ ⟨⟩) : WT C D (.loop c) Q σ tq := W_loopR R m s h hs
theorem WT_loopN {α : Type} (R : α → St → Prop) (m : α → Nat) {c : Code} (x : α) (s sz : Nat) (h0 : σ.sl s = .fro none true []) (h : R x (takeRes (some s) σ (.own sz []))) (hs : ∀ x σ, R x σ → WT C D c (fun e σ' => match e with | .normal => ∃ y, R y σ' ∧ m y < m x | e => Q e σ') σ ⟨⟩) : WT C D (.loop c) Q σ tq := W_loopN R m x s sz h0 h hs
end
section
variable {α β : Type} {K : α → Prop} {t : Tag K}
theorem exT_some (a : α) : exT (some a) K t = K a := exP_some a K
theorem exT_none : exT none K t = False := exP_none K
theorem exT_bind {β : Type} {K : β → Prop} {t : Tag K} (o : Option α) (f : α → Option β) : exT (o.bind f) K t = exT o (fun a => exT (f a) K t) ⟨⟩ := exP_bind o f K
theorem exT_bind' {β : Type} {K : β → Prop} {t : Tag K} (o : Option α) (f : α → Option β) : exT (o >>= f) K t = exT o (fun a => exT (f a) K t) ⟨⟩ := exP_bind o f K
theorem exT_ensure (c : Prop) [Decidable c] {K : Unit → Prop} {t : Tag K} : exT (ensure c) K t = (c ∧ K ()) := exP_ensure c K
theorem exT_atm {γ : Type} [Inhabited γ] (f : γ → α) (l : List γ) (i : Nat) : exT (l[i]?.map f) K t = (i < l.length ∧ K (f l[i]!)) := exP_atm f l i K
theorem exT_cur {σ : St} (e g : Nat) {K : Ent → Prop} {t : Tag K} : exT (σ.cur e g) K t = (((σ.en e).live = true ∧ (σ.en e).gen = g) ∧ K (σ.en e)) := exP_cur e g K
theorem exT_valid {σ : St} (e v : Nat) {K : Unit → Prop} {t : Tag K} : exT (σ.valid e v) K t = (((σ.en e).live = true ∧ (σ.en e).wr = v) ∧ K ()) := exP_valid e v K
end
section
variable {d : Tmp} {σ : St} {yes no : St → Prop} {ty : Tag yes} {tn : Tag no}
theorem testT_true : testT (.bool true) d true σ yes no ty tn = yes (σ.put (some d) (.bool true)) := testV_true d σ yes no
theorem testT_true' : testT (.bool true) d false σ yes no ty tn = no (σ.put (some d) (.bool true)) := testV_true' d σ yes no
theorem testT_false : testT (.bool false) d true σ yes no ty tn = no (σ.put (some d) (.bool false)) := testV_false d σ yes no
theorem testT_false' : testT (.bool false) d false σ yes no ty tn = yes (σ.put (some d) (.bool false)) := testV_false' d σ yes no
theorem testT_tup (w : Bool) : testT (.tup []) d w σ yes no ty tn = no σ := by unfold testT; rfl
theorem testT_dec (p : Prop) [Decidable p] : testT (.bool (decide p)) d true σ yes no ty tn = ((p → yes (σ.put (some d) (.bool true))) ∧ (¬ p → no (σ.put (some d) (.bool false)))) := testV_dec p d σ yes no
theorem testT_dec' (p : Prop) [Decidable p] : testT (.bool (decide p)) d false σ yes no ty tn = ((p → no (σ.put (some d) (.bool true))) ∧ (¬ p → yes (σ.put (some d) (.bool false)))) := testV_dec' p d σ yes no
theorem condT_true : condT (.bool true) d σ yes no ty tn = yes (σ.put (some d) (.bool true)) := condV_true d σ yes no
theorem condT_false : condT (.bool false) d σ yes no ty tn = no (σ.put (some d) (.bool false)) := condV_false d σ yes no
theorem condT_dec (p : Prop) [Decidable p] : condT (.bool (decide p)) d σ yes no ty tn = ((p → yes (σ.put (some d) (.bool true))) ∧ (¬ p → no (σ.put (some d) (.bool false)))) := condV_dec p d σ yes no
theorem guardT_some (want : Bool) : guardT (some d) want σ yes no ty tn = testT (σ.sl d) d want σ yes no ty tn := by unfold guardT; rfl
end
section
variable {C : Cfg} {D : Vm.Spec} {q : Bool} {ops : Array Oper} {K : St → Prop} {σ : St} {d : Option Tmp} {ty : TypeId} {pos : String} {af : Array Edge} {rest : List Oper}
theorem t_nil {tg : Tag K} : opsT C D q ops K [] σ tg = K σ := by unfold opsT; rfl
theorem t_guard {op : Op} {j : Nat} {want : Bool} {tg : Tag K} : opsT C D q ops K (⟨d, op, ty, pos, af, some (j, want)⟩ :: rest) σ tg = guardT ((ops[j]?).bind (·.dst)) want σ (fun σ => opsT C D q ops K (⟨d, op, ty, pos, af, none⟩ :: rest) σ tg) (fun σ => opsT C D q ops K rest (σ.put d (.tup [])) tg) ⟨⟩ ⟨⟩ := s_guard
theorem t_move {x : Operand} {tg : Tag K} : opsT C D q ops K (⟨d, .move x, ty, pos, af, none⟩ :: rest) σ tg = opsT C D q ops K rest (σ.put d (σ.get x)) tg := s_move
theorem t_assign {x : Operand} {tg : Tag K} : opsT C D q ops K (⟨d, .assign x, ty, pos, af, none⟩ :: rest) σ tg = opsT C D q ops K rest (σ.put d (σ.get x)) tg := s_assign
theorem t_pick {c x y : Operand} {tg : Tag K} : opsT C D q ops K (⟨d, .pick c x y, ty, pos, af, none⟩ :: rest) σ tg = exT (pickF (σ.get c) (σ.get x) (σ.get y)) (fun v => opsT C D q ops K rest (σ.put d v) tg) ⟨⟩ := s_pick
theorem t_load {t : TypeId} {x : Operand} {tg : Tag K} (hs : stlD C d = false) : opsT C D q ops K (⟨d, .load t x, ty, pos, af, none⟩ :: rest) σ tg = exT (loadF C σ t (σ.get x)) (fun v => opsT C D q ops K rest (σ.put d v) tg) ⟨⟩ := s_load hs
theorem t_loadS {t : TypeId} {x : Operand} {tg : Tag K} (hs : stlD C d = true) : opsT C D q ops K (⟨d, .load t x, ty, pos, af, none⟩ :: rest) σ tg = exT (loadSD C σ d t (σ.get x)) (fun σ' => opsT C D q ops K rest σ' tg) ⟨⟩ := s_loadS hs
theorem stlD_some {C : Cfg} (k : Tmp) : stlD C (some k) = C.stl.contains k := by unfold stlD; rfl
theorem stlD_none {C : Cfg} : stlD C none = false := by unfold stlD; rfl
theorem t_nilCheck {x : Operand} {tg : Tag K} : opsT C D q ops K (⟨d, .nilCheck x, ty, pos, af, none⟩ :: rest) σ tg = exT (nilF σ (σ.get x)) (fun v => opsT C D q ops K rest (σ.put d v) tg) ⟨⟩ := s_nilCheck
theorem t_bin {op : BinOp} {t t' : TypeId} {x y : Operand} {tg : Tag K} : opsT C D q ops K (⟨d, .binOp op t x y t', ty, pos, af, none⟩ :: rest) σ tg = exT (binF C op t (σ.get x) (σ.get y)) (fun v => opsT C D q ops K rest (σ.put d v) tg) ⟨⟩ := s_bin
theorem t_un {op : UnOp} {t : TypeId} {x : Operand} {tg : Tag K} : opsT C D q ops K (⟨d, .unOp op t x, ty, pos, af, none⟩ :: rest) σ tg = exT (unF op (σ.get x)) (fun v => opsT C D q ops K rest (σ.put d v) tg) ⟨⟩ := s_un
theorem t_slice {t : TypeId} {x : Operand} {lo hi mx : Option Operand} {tg : Tag K} : opsT C D q ops K (⟨d, .slice t x lo hi mx, ty, pos, af, none⟩ :: rest) σ tg = exT (sliceF C σ t (σ.get x) (lo.map σ.get) (hi.map σ.get) (mx.map σ.get)) (fun v => opsT C D q ops K rest (σ.put d v) tg) ⟨⟩ := s_slice
theorem t_fieldAddr {s : TypeId} {x : Operand} {f : Nat} {tg : Tag K} : opsT C D q ops K (⟨d, .fieldAddr s x f, ty, pos, af, none⟩ :: rest) σ tg = exT (fieldAddrF C σ s (σ.get x) f) (fun v => opsT C D q ops K rest (σ.put d v) tg) ⟨⟩ := s_fieldAddr
theorem t_field {s : TypeId} {x : Operand} {f : Nat} {tg : Tag K} : opsT C D q ops K (⟨d, .field s x f, ty, pos, af, none⟩ :: rest) σ tg = exT (fieldF C s (σ.get x) f) (fun v => opsT C D q ops K rest (σ.put d v) tg) ⟨⟩ := s_field
theorem t_indexAddr {t : TypeId} {x i : Operand} {tg : Tag K} (hs : nstD C d = false) : opsT C D q ops K (⟨d, .indexAddr t x i, ty, pos, af, none⟩ :: rest) σ tg = exT (indexAddrF C σ t (σ.get x) (σ.get i)) (fun v => opsT C D q ops K rest (σ.put d v) tg) ⟨⟩ := s_indexAddr hs
theorem t_indexAddrN {t : TypeId} {x i : Operand} {tg : Tag K} (hs : nstD C d = true) : opsT C D q ops K (⟨d, .indexAddr t x i, ty, pos, af, none⟩ :: rest) σ tg = exT (idxNF C σ t (σ.get x) (σ.get i)) (fun v => opsT C D q ops K rest (σ.put d v) tg) ⟨⟩ := s_indexAddrN hs
theorem nstD_some {C : Cfg} (k : Tmp) : nstD C (some k) = C.stl.contains (k + 100000) := by unfold nstD; rfl
theorem nstD_none {C : Cfg} : nstD C none = false := by unfold nstD; rfl
theorem t_index {t : TypeId} {x i : Operand} {tg : Tag K} : opsT C D q ops K (⟨d, .index t x i, ty, pos, af, none⟩ :: rest) σ tg = exT (indexF C t (σ.get x) (σ.get i)) (fun v => opsT C D q ops K rest (σ.put d v) tg) ⟨⟩ := s_index
theorem t_lookup {t : TypeId} {m x : Operand} {tg : Tag K} : opsT C D q ops K (⟨d, .lookup t m x false, ty, pos, af, none⟩ :: rest) σ tg = exT (lookupF C σ t (σ.get m) (σ.get x)) (fun v => opsT C D q ops K rest (σ.put d v) tg) ⟨⟩ := s_lookup
theorem t_makeMap {t : TypeId} {tg : Tag K} : opsT C D false ops K (⟨d, .makeMap t none, ty, pos, af, none⟩ :: rest) σ tg = exT (makeMapF C σ d t) (fun σ => opsT C D false ops K rest σ tg) ⟨⟩ := s_makeMap
theorem t_mapUpdate {t : TypeId} {m x y : Operand} {tg : Tag K} : opsT C D false ops K (⟨d, .mapUpdate t m x y, ty, pos, af, none⟩ :: rest) σ tg = exT (mapUpdateF C σ t (σ.get m) (σ.get x) (σ.get y)) (fun σ1 => opsT C D false ops K rest (σ1.put d (.tup [])) tg) ⟨⟩ := s_mapUpdate
theorem t_extract {x : Operand} {i : Nat} {tg : Tag K} : opsT C D q ops K (⟨d, .extract x i, ty, pos, af, none⟩ :: rest) σ tg = exT (extractF (σ.get x) i) (fun v => opsT C D q ops K rest (σ.put d v) tg) ⟨⟩ := s_extract
theorem t_len {x : Operand} {t : TypeId} {tg : Tag K} : opsT C D q ops K (⟨d, .call { callee := .builtin .len, args := #[x], argTypes := #[t] }, ty, pos, af, none⟩ :: rest) σ tg = exT (C.tt t) (fun T => exT (lenF σ T.desc (σ.get x)) (fun n => opsT C D q ops K rest (σ.put d (.int .i64 n)) tg) ⟨⟩) ⟨⟩ := s_len
theorem t_append {x y : Operand} {t t2 : TypeId} {tg : Tag K} : opsT C D false ops K (⟨d, .call { callee := .builtin .append, args := #[x, y], argTypes := #[t, t2] }, ty, pos, af, none⟩ :: rest) σ tg = exT (appendF C σ d t t2 (σ.get x) (σ.get y)) (fun σ => opsT C D false ops K rest σ tg) ⟨⟩ := s_append
theorem t_clear {x : Operand} {t : TypeId} {tg : Tag K} : opsT C D false ops K (⟨d, .call { callee := .builtin .clear, args := #[x], argTypes := #[t] }, ty, pos, af, none⟩ :: rest) σ tg = exT (clearF C σ t (σ.get x)) (fun σ1 => opsT C D false ops K rest (σ1.put d (.tup [])) ⟨⟩) ⟨⟩ := s_clear
theorem t_copy {x y : Operand} {t t2 : TypeId} {tg : Tag K} : opsT C D false ops K (⟨d, .call { callee := .builtin .copy, args := #[x, y], argTypes := #[t, t2] }, ty, pos, af, none⟩ :: rest) σ tg = exT (copyF C σ d t t2 (σ.get x) (σ.get y)) (fun σ => opsT C D false ops K rest σ tg) ⟨⟩ := s_copy
theorem WT_ifc {b : Bool} {c : Code} {e : Code} {Q : Ex → St → Prop} {tq : Tag Q} : WT C D (.cond (.const (.bool b)) c e) Q σ tq = if b = true then WT C D c Q σ tq else WT C D e Q σ tq := by
  unfold WT
  cases b <;> rfl
theorem t_storeR {t : TypeId} {p x : Operand} {tg : Tag K} (hs : rnD C = true) : opsT C D false ops K (⟨d, .store t p x, ty, pos, af, none⟩ :: rest) σ tg = exT (C.tt t) (fun T => exT (storeF C σ t (σ.get p) (σ.get x)) (fun σ1 => opsT C D false ops K rest ((renewL σ1 (σ.get p) T.sz (rnI C.stl)).put d (.tup [])) tg) ⟨⟩) ⟨⟩ := s_storeR hs
theorem t_store {t : TypeId} {p x : Operand} {tg : Tag K} (hs : rnD C = false) : opsT C D false ops K (⟨d, .store t p x, ty, pos, af, none⟩ :: rest) σ tg = exT (storeF C σ t (σ.get p) (σ.get x)) (fun σ1 => opsT C D false ops K rest (σ1.put d (.tup [])) tg) ⟨⟩ := s_store hs
theorem t_alloc {t : TypeId} {tg : Tag K} : opsT C D false ops K (⟨d, .alloc t, ty, pos, af, none⟩ :: rest) σ tg = exT (C.tt t) (fun T => exT (newVar σ d T.sz (mkV T.desc.isStruct T.zero)) (fun σ => opsT C D false ops K rest σ tg) ⟨⟩) ⟨⟩ := s_alloc
theorem t_box {t : TypeId} {x : Operand} {tg : Tag K} : opsT C D false ops K (⟨d, .box t x, ty, pos, af, none⟩ :: rest) σ tg = exT (C.tt t) (fun T => exT (σ.closeL (leaves (σ.get x))) (fun p => (p.1.length = T.sz ∧ exT (newVar p.2 d T.sz (mkV T.desc.isStruct p.1)) (fun σ => opsT C D false ops K rest σ tg) ⟨⟩)) ⟨⟩) ⟨⟩ := s_box
theorem t_build {t : TypeId} {parts : Array (Nat × Operand)} {tg : Tag K} : opsT C D q ops K (⟨d, .build t parts, ty, pos, af, none⟩ :: rest) σ tg = exT (buildStF C σ t parts.toList) (fun v => opsT C D q ops K rest (σ.put d v) tg) ⟨⟩ := s_build
theorem t_buildSlice {t n : Nat} {parts : Array (Nat × Operand)} {tg : Tag K} : opsT C D false ops K (⟨d, .buildSlice t n parts, ty, pos, af, none⟩ :: rest) σ tg = exT (buildSlF C σ d t n parts.toList) (fun σ => opsT C D false ops K rest σ tg) ⟨⟩ := s_buildSlice
theorem t_makeSlice {t : TypeId} {l c : Operand} {tg : Tag K} : opsT C D false ops K (⟨d, .makeSlice t l c, ty, pos, af, none⟩ :: rest) σ tg = exT (makeF C σ d t (σ.get l) (σ.get c)) (fun σ => opsT C D false ops K rest σ tg) ⟨⟩ := s_makeSlice
theorem t_makeFunc {f : Nat} {cap : Array Operand} {tg : Tag K} : opsT C D q ops K (⟨d, .makeFunc (.func f) #[] cap, ty, pos, af, none⟩ :: rest) σ tg = exT (captureL cap.toList σ) (fun p => opsT C D q ops K rest (p.2.put d (.clo f p.1)) tg) ⟨⟩ := s_makeFunc
theorem t_call {f : Nat} {args : Array Operand} {ts : Array TypeId} {tg : Tag K} (hs : cstD C d = false) : opsT C D q ops K (⟨d, .call { callee := .value (.func f), args, argTypes := ts }, ty, pos, af, none⟩ :: rest) σ tg = exT (passL C σ f 0 (args.toList.map σ.get)) (fun as => (okQ C σ q f (args.toList.map σ.get) ∧ callT D q f as (fun res left => opsT C D q ops K rest (behind C σ f (args.toList.map σ.get) d res left) tg) ⟨⟩)) ⟨⟩ := s_call hs
theorem t_conv {s t : TypeId} {x : Operand} {tg : Tag K} : opsT C D false ops K (⟨d, .convert s t x, ty, pos, af, none⟩ :: rest) σ tg = exT (convA C σ s t (σ.get x)) (fun v => opsT C D false ops K rest (σ.put d v) tg) ⟨⟩ := s_conv
theorem t_convQ {s t : TypeId} {x : Operand} {tg : Tag K} : opsT C D true ops K (⟨d, .convert s t x, ty, pos, af, none⟩ :: rest) σ tg = (lookT C t = true ∧ exT (convA C σ s t (σ.get x)) (fun v => opsT C D true ops K rest (σ.put d v) tg) ⟨⟩) := s_convQ
theorem t_callT {t : Tmp} {args : Array Operand} {ts : Array TypeId} {tg : Tag K} (hs : cstD C d = false) : opsT C D q ops K (⟨d, .call { callee := .value (.tmp t), args, argTypes := ts }, ty, pos, af, none⟩ :: rest) σ tg = exT (cloV (σ.sl t)) (fun p => exT (passL C σ p.1 0 (args.toList.map σ.get ++ p.2)) (fun as => (okQ C σ q p.1 (args.toList.map σ.get) ∧ callT D q p.1 as (fun res left => opsT C D q ops K rest (behind C σ p.1 (args.toList.map σ.get) d res left) tg) ⟨⟩)) ⟨⟩) ⟨⟩ := s_callT hs
theorem cstD_some {C : Cfg} (k : Tmp) : cstD C (some k) = C.stl.contains (k + 200000) := by unfold cstD; rfl
theorem cstD_none {C : Cfg} : cstD C none = false := by unfold cstD; rfl
def conT (C : Cfg) (D : Vm.Spec) (f : Nat) (d : Option Tmp) (K : St → Prop) (σ : St) : List AV → Prop
  | .agg fs :: rest => exP (σ.closeL fs) fun r => exP (passL C r.2 f 1 rest) fun as => callW D false f (.agg r.1 :: as) fun res _ => scalR res = true ∧ K (takeRes d r.2 res)
  | _ => False
theorem WT_mark0 {k : Array Oper} {b : Bool} {Q : Ex → St → Prop} {tq : Tag Q} : WT C D (.scope (.region 0 k b)) Q σ tq = (stabW C D k.toList σ ∧ Q .normal σ) := by
  unfold WT; show markW C D 0 k (Q .normal) σ = _; unfold markW; rw [if_pos rfl]
theorem WT_mark1 {k : Array Oper} {b : Bool} {Q : Ex → St → Prop} {tq : Tag Q} : WT C D (.scope (.region 1 k b)) Q σ tq = (noStl C k.toList ∧ opsT C D true k (Q .normal) k.toList σ ⟨⟩) := by
  unfold WT opsT; show markW C D 1 k (Q .normal) σ = _; unfold markW; rw [if_neg (by decide)]
theorem WT_both {a b : Code} {Q : Ex → St → Prop} {tq : Tag Q} : WT C D (.scope (.seq a b)) Q σ tq = (WT C D a Q σ ⟨⟩ ∧ WT C D b Q σ ⟨⟩) := by unfold WT; rfl
theorem WT_cut {c : Code} {Q : Ex → St → Prop} {tq : Tag Q} (P : St → Prop) (h1 : WT C D c (fun e σ' => e = .normal ∧ P σ') σ ⟨⟩) (h2 : ∀ σ', P σ' → Q .normal σ') : WT C D c Q σ tq :=
  W_mono (fun _ σ' ⟨he, hp⟩ => by subst he; exact h2 σ' hp) h1
def eqD (d : Tmp) (x : AV) (σ : St) : Prop := σ.sl d = x
theorem eqD_eq (d : Tmp) (x : AV) : eqD d x σ = (σ.sl d = x) := by unfold eqD; rfl
theorem stabT_nil : stabW C D [] σ = True := by unfold stabW; rfl
theorem stabT_cons {d : Tmp} {op : Op} {l : List Oper} {af : Array Edge} {g : Option (Nat × Bool)} : stabW C D (⟨some d, op, ty, pos, af, g⟩ :: l) σ = ((stlD C (some d) = false ∧ opsT C D true #[] (eqD d (σ.sl d)) [⟨some d, op, ty, pos, af, g⟩] σ ⟨⟩) ∧ stabW C D l σ) := by
  unfold opsT
  rfl
theorem noStl_nil : noStl C [] = True := by unfold noStl; rfl
theorem noStl_cons (o : Oper) (l : List Oper) : noStl C (o :: l) = (stlD C o.dst = false ∧ noStl C l) := by rfl
theorem WT_mid {α : Type} (I : α → St → Prop) {c : Code} {Q : Ex → St → Prop} {tq : Tag Q} (h : WT C D c (fun e σ' => match e with | .normal => ∃ x, I x σ' | e => Q e σ') σ ⟨⟩) (hn : ∀ x σ', I x σ' → Q .normal σ') : WT C D c Q σ tq := by
  unfold WT at *
  refine W_mono (fun e σ' h => ?_) h
  cases e with
  | normal => obtain ⟨x, hx⟩ := h; exact hn x σ' hx
  | exit i => exact h
  | ret => exact h
end
theorem makeMapF_some {C : Cfg} {σ : St} {d t : Nat} (h : mapT C t = some ()) : makeMapF C σ (some d) t = some ((σ.fresh (eid d 0) 0 []).put (some d) (.mp (eid d 0) ((σ.en (eid d 0)).wr + 1) [])) := by
  unfold makeMapF; rw [h]; rfl
theorem lookupF_mp {C : Cfg} {σ : St} {t e w : Nat} {l : List (Int × Bool)} {k : Int} (h : mapT C t = some ()) : lookupF C σ t (.mp e w l) (.int .i64 k) = (σ.valid e w).bind fun _ => some (.bool (getM l k)) := by
  unfold lookupF; rw [h]; rfl
theorem mapUpdateF_mp {C : Cfg} {σ : St} {t e w : Nat} {l : List (Int × Bool)} {k : Int} {b : Bool} (h : mapT C t = some ()) : mapUpdateF C σ t (.mp e w l) (.int .i64 k) (.bool b) = (σ.valid e w).bind fun _ => (ensure ((σ.en e).frz = false)).bind fun _ => some ((σ.ent e { σ.en e with wr := (σ.en e).wr + 1 }).remap e w (setM l k b)) := by
  unfold mapUpdateF; rw [h]; rfl
theorem remap_sl (σ : St) (e w : Nat) (l' : List (Int × Bool)) (k : Nat) : (σ.remap e w l').sl k = reM e w l' (σ.sl k) := by unfold St.remap; rfl
theorem remap_en (σ : St) (e w : Nat) (l' : List (Int × Bool)) : (σ.remap e w l').en = σ.en := by unfold St.remap; rfl
theorem reM_mp (e w e' w' : Nat) (l l' : List (Int × Bool)) : reM e w l' (.mp e' w' l) = if e' = e ∧ w' = w then .mp e (w + 1) l' else .mp e' w' l := by unfold reM; rfl
theorem reM_int (e w : Nat) (l' : List (Int × Bool)) (k : IntKind) (n : Int) : reM e w l' (.int k n) = .int k n := by unfold reM; rfl
theorem reM_bool (e w : Nat) (l' : List (Int × Bool)) (b : Bool) : reM e w l' (.bool b) = .bool b := by unfold reM; rfl
theorem reM_agg (e w : Nat) (l' : List (Int × Bool)) (l : List AV) : reM e w l' (.agg l) = .agg l := by unfold reM; rfl
theorem reM_fro (e w : Nat) (l' : List (Int × Bool)) (tg : Option (Nat × Nat × Option (Nat × Nat))) (c : Bool) (l : List AV) : reM e w l' (.fro tg c l) = .fro tg c l := by unfold reM; rfl
theorem reM_hd (e w : Nat) (l' : List (Int × Bool)) (a b c d : Nat) (x : Bool) : reM e w l' (.hd a b c d x) = .hd a b c d x := by unfold reM; rfl
theorem reM_ptr (e w : Nat) (l' : List (Int × Bool)) (a b c d : Nat) : reM e w l' (.ptr a b c d) = .ptr a b c d := by unfold reM; rfl
theorem reM_cptr (e w : Nat) (l' : List (Int × Bool)) (tg : Option (Nat × Nat)) (c : List AV) : reM e w l' (.cptr tg c) = .cptr tg c := by unfold reM; rfl
end Go.Vm
end
section
/- Structs with structs inside, compared. -/
set_option linter.unusedSimpArgs false
set_option linter.unusedVariables false
namespace Go.Vm
def szT (P : Program) (t : TypeId) : Nat := match P.info? t with
  | some i => i.size
  | none => 0
def fieldsOk2 (P : Program) : Nat → List Field → List TD → Nat → Bool
  | 0, _, _, _ => false
  | _ + 1, [], [], _ => true
  | _ + 1, [], _ :: _, _ => false
  | m + 1, f :: fs, ks, i => !(f.name == "_") && decide (f.offset = i) && (match P.underlying f.type with
    | some (.struct gs) => !P.stoodInHeld f.type && (P.info? f.type).isSome && decide (szT P f.type ≤ ks.length) && fieldsOk P gs.toList (ks.take (szT P f.type)) 0 && fieldsOk2 P m fs (ks.drop (szT P f.type)) (i + szT P f.type)
    | _ => match ks with
      | k :: ks => fieldsOk P [f] [k] i && fieldsOk2 P m fs ks (i + 1)
      | [] => false)
end Go.Vm
end
section
/- What is known of capacities may be forgotten. -/
namespace Go.Vm
mutual
def wk : AV → AV
  | .fro tg _ l => .fro tg false (wkL l)
  | .own sz l => .own sz (wkL l)
  | .agg fs => .agg (wkL fs)
  | .tup vs => .tup (wkL vs)
  | .pt sz l i j => .pt sz (wkL l) i j
  | x => x
def wkL : List AV → List AV
  | [] => []
  | a :: as => wk a :: wkL as
end
theorem wkL_eq (l : List AV) : wkL l = l.map wk := by
  induction l with
  | nil => simp [wkL]
  | cons a as ih => simp [wkL, ih]
theorem leaves_wk (a : AV) : leaves (wk a) = (leaves a).map wk := by
  cases a <;> simp [wk, leaves, wkL_eq]
theorem flat_wk (l : List AV) : (l.map wk).flatMap leaves = (l.flatMap leaves).map wk := by
  induction l with
  | nil => rfl
  | cons a as ih => simp [List.flatMap_cons, leaves_wk, ih]
section
variable {C : Cfg} {F : Nat → Prop} {w : World}
theorem RepL.wk {vs : List Value} {xs : List AV} {f : List Nat} (h : RepL F w vs xs f) : RepL F w vs (xs.map Vm.wk) f := by
  induction h with
  | nil => exact .nil
  | und hv t ih => exact .und hv ih
  | int t ih => exact .int ih
  | bool t ih => exact .bool ih
  | str t ih => exact .str ih
  | fro0 hc t ih => simpa [Vm.wk, wkL] using RepL.fro0 (clip := false) (by simp) ih
  | @fro b o n c sz clip l us vs xs f hn hnc hc hb hcell hsz hu t ihu ih =>
    rw [← flat_wk] at ihu
    simp only [List.map_cons, Vm.wk, wkL_eq]
    exact .fro (by simpa using hn) hnc (by simp) hb hcell (fun a ha => by obtain ⟨y, hy, rfl⟩ := List.mem_map.1 ha; rw [leaves_wk]; simpa using hsz y hy) ihu ih
  | own0 t ih => simpa [Vm.wk, wkL] using RepL.own0 ih
  | @own g n c sz et cur l us vs xs f1 f hn hnc hb hcap hcell hsz hu t ihu ih =>
    rw [← flat_wk] at ihu
    simp only [List.map_cons, Vm.wk, wkL_eq]
    exact .own (by simpa using hn) hnc hb hcap hcell (fun a ha => by obtain ⟨y, hy, rfl⟩ := List.mem_map.1 ha; rw [leaves_wk]; simpa using hsz y hy) ihu ih
  | cptr hb hcell hu t _ ih => exact .cptr hb hcell hu ih
  | clo hu t _ ih => exact .clo hu ih
theorem ValRep.wk {v : Value} {x : AV} {f : List Nat} (h : ValRep F w v x f) : ValRep F w v (Vm.wk x) f := by
  cases x with
  | agg fs => obtain ⟨cs, e, h⟩ := h; exact ⟨cs, e, by rw [wkL_eq]; exact h.wk⟩
  | _ => exact (show RepL F w [v] [_] f from h).wk
theorem ValsRep.wk {vs : List Value} {xs : List AV} {f : List Nat} (h : ValsRep F w vs xs f) : ValsRep F w vs (xs.map Vm.wk) f := by
  induction h with
  | nil => exact .nil
  | cons h1 h2 ih => exact .cons h1.wk ih
theorem ResRep.wk {v : Value} {x : AV} {f : List Nat} (h : ResRep F w v x f) : ResRep F w v (Vm.wk x) f := by
  cases x with
  | tup xs => obtain ⟨us, e, h⟩ := h; exact ⟨us, e, by rw [wkL_eq]; exact h.wk⟩
  | pt sz l i j =>
    obtain ⟨b, cur, et, us, f1, h1, h2, h3, h4, h5, rfl⟩ := h
    refine ⟨b, cur, et, us, f1, h1, h2, h3, fun a ha => ?_, ?_, rfl⟩
    · rw [wkL_eq] at ha
      obtain ⟨y, hy, rfl⟩ := List.mem_map.1 ha
      rw [leaves_wk]; simpa using h4 y hy
    · rw [wkL_eq, flat_wk]; exact h5.wk
  | _ => simp only [ResRep] at h; have := ValRep.wk h; simpa only [Vm.wk, ResRep] using this
theorem DoesR.wk {f : Nat} {args : List AV} {R : AV → AV → Prop} (h : DoesR C f args R) : DoesR C f args fun r l => ∃ r0, R r0 l ∧ r = Vm.wk r0 := fun w F vals gs h1 h2 h3 h4 =>
  (h w F vals gs h1 h2 h3 h4).mono fun _ _ ⟨v, F', g, gs', res, left, hr, he, hk, hf, hf', hg, hnd, hres, hl⟩ => ⟨v, F', g, gs', _, left, ⟨res, hr, rfl⟩, he, hk, hf, hf', hg, hnd, hres.wk, hl⟩
end
end Go.Vm
namespace Go.Vm
def Weak (r r' : AV) : Prop := ∀ (F : Nat → Prop) (w : World) (v : Value) (g : List Nat), ResRep F w v r g → ResRep F w v r' g
def WeakV (r r' : AV) : Prop := ∀ (F : Nat → Prop) (w : World) (v : Value) (g : List Nat), ValRep F w v r g → ValRep F w v r' g
theorem Weak.refl (r : AV) : Weak r r := fun _ _ _ _ h => h
theorem WeakV.refl (r : AV) : WeakV r r := fun _ _ _ _ h => h
theorem weakV_nil (sz : Nat) : WeakV (.fro none true []) (.own sz []) := fun F w v g h => by
  have h : RepL F w [v] [.fro none true []] g := h
  cases h with
  | fro0 hc t =>
    cases t
    obtain rfl := hc rfl
    exact RepL.own0 .nil
  | fro hn hnc hc hb hcell hsz hu t =>
    cases t
    simp only [List.length_nil] at hn
    subst hn
    obtain rfl := hc rfl
    exact RepL.own0 .nil
theorem weak_nil (sz : Nat) : Weak (.fro none true []) (.own sz []) := fun F w v g h => weakV_nil sz F w v g h
inductive WeakL : List AV → List AV → Prop
  | nil : WeakL [] []
  | cons {x y : AV} {xs ys : List AV} (h : WeakV x y) (t : WeakL xs ys) : WeakL (x :: xs) (y :: ys)
theorem WeakL.vals {xs ys : List AV} (h : WeakL xs ys) : ∀ {F : Nat → Prop} {w : World} {vs : List Value} {g : List Nat}, ValsRep F w vs xs g → ValsRep F w vs ys g := by
  induction h with
  | nil => exact fun h => h
  | cons h _ ih => intro F w vs g hv; cases hv with | cons h1 h2 => exact .cons (h F w _ _ h1) (ih h2)
theorem DoesR.weak {C : Cfg} {f : Nat} {args : List AV} {R R' : AV → AV → Prop} (h : DoesR C f args R) (hR : ∀ r l, R r l → ∃ r', R' r' l ∧ Weak r r') : DoesR C f args R' := fun w F vals gs h1 h2 h3 h4 =>
  (h w F vals gs h1 h2 h3 h4).mono fun _ _ ⟨v, F', g, gs', _, left, hr, he, hk, hf, hf', hg, hnd, hres, hl⟩ => let ⟨r', h5, h6⟩ := hR _ _ hr; ⟨v, F', g, gs', r', left, h5, he, hk, hf, hf', hg, hnd, h6 _ _ _ _ hres, hl⟩
end Go.Vm
end
section
namespace Go.Vm
variable {C : Cfg} {D : Vm.Spec}
theorem once {α : Type} (P : α → St → Prop) {c : Code} {Q : Ex → St → Prop} {goal : Prop} (h1 : (∀ x σ, P x σ → ∀ tq, WT C D c Q σ tq) → goal) (h2 : ∀ x σ, P x σ → WT C D c Q σ ⟨⟩) : goal := h1 fun x σ h _ => h2 x σ h
end Go.Vm
end
section
/- What lies within what is owned may be told as what nobody writes any more. -/
namespace Go.Vm
def froIn : AV → AV
  | .own sz l => .own sz (l.map froize)
  | x => x
def froV : AV → AV
  | .agg fs => .agg (fs.map froIn)
  | x => froIn x
def froI : AV → AV
  | .tup xs => .tup (xs.map froV)
  | x => froV x
section
variable {C : Cfg} {F : Nat → Prop} {w : World} {vs : List Value} {xs : List AV} {f : List Nat}
theorem RepL.froIn (h : RepL F w vs xs f) : f.Nodup → ∃ g : List Nat, g.Nodup ∧ (∀ b ∈ g, b ∈ f) ∧ RepL (fun b => F b ∨ (b ∈ f ∧ b ∉ g)) w vs (xs.map Vm.froIn) g := by
  induction h with
  | nil => exact fun _ => ⟨[], by simp, by simp, .nil⟩
  | und hv t ih => intro hnd; obtain ⟨g, h1, h2, h3⟩ := ih hnd; exact ⟨g, h1, h2, .und hv h3⟩
  | int t ih => intro hnd; obtain ⟨g, h1, h2, h3⟩ := ih hnd; exact ⟨g, h1, h2, .int h3⟩
  | bool t ih => intro hnd; obtain ⟨g, h1, h2, h3⟩ := ih hnd; exact ⟨g, h1, h2, .bool h3⟩
  | str t ih => intro hnd; obtain ⟨g, h1, h2, h3⟩ := ih hnd; exact ⟨g, h1, h2, .str h3⟩
  | fro0 hc t ih => intro hnd; obtain ⟨g, h1, h2, h3⟩ := ih hnd; exact ⟨g, h1, h2, .fro0 hc h3⟩
  | fro hn hnc hc hb hcell hsz hu t ihu ih => intro hnd; obtain ⟨g, h1, h2, h3⟩ := ih hnd; exact ⟨g, h1, h2, .fro hn hnc hc (.inl hb) hcell hsz (hu.mono (fun _ h => .inl h) (fun _ _ => rfl)) h3⟩
  | own0 t ih => intro hnd; obtain ⟨g, h1, h2, h3⟩ := ih hnd; exact ⟨g, h1, h2, .own0 h3⟩
  | @own g n c sz et cur l us vs xs f1 f hn hnc hb hcap hcell hsz hu t ihu ih =>
    intro hnd
    have hnd' : (g :: (f1 ++ f)).Nodup := hnd
    obtain ⟨n1, n2⟩ := List.nodup_cons.1 hnd'
    obtain ⟨m1, m2, m3⟩ := List.nodup_append.1 n2
    obtain ⟨g2, h1, h2, h3⟩ := ih m2
    have hg1 : g ∉ g2 := fun hh => n1 (by simp [h2 g hh])
    refine ⟨g :: [] ++ g2, ?_, ?_, ?_⟩
    · exact List.nodup_cons.2 ⟨hg1, h1⟩
    · intro b hb; simp at hb ⊢; rcases hb with rfl | hb
      · exact .inl rfl
      · exact .inr (.inr (h2 b hb))
    · refine .own (f1 := []) (by simpa using hn) hnc hb hcap hcell ?_ ?_ (h3.mono (fun b h => ?_) fun _ _ => rfl)
      · intro a ha
        obtain ⟨a', ha', rfl⟩ := List.mem_map.1 ha
        rw [leaves_froize]; simpa using hsz a' ha'
      · rw [flat_froize]
        refine hu.froized.mono (fun b h => h.imp id fun hb => ⟨by simp [hb], ?_⟩) fun _ _ => rfl
        simp only [List.cons_append, List.nil_append, List.mem_cons, not_or]
        exact ⟨fun e => n1 (by simp [← e, hb]), fun hb2 => m3 b hb b (h2 b hb2) rfl⟩
      · refine h.imp id fun ⟨ha, hb⟩ => ⟨by simp [ha], ?_⟩
        simp only [List.cons_append, List.nil_append, List.mem_cons, not_or]
        exact ⟨fun e => n1 (by simp [← e, ha]), hb⟩
  | cptr hb hcell hu t _ ih => intro hnd; obtain ⟨g, h1, h2, h3⟩ := ih hnd; exact ⟨g, h1, h2, .cptr (.inl hb) hcell (hu.mono (fun _ h => .inl h) (fun _ _ => rfl)) h3⟩
  | clo hu t _ ih => intro hnd; obtain ⟨g, h1, h2, h3⟩ := ih hnd; exact ⟨g, h1, h2, .clo (hu.mono (fun _ h => .inl h) (fun _ _ => rfl)) h3⟩
theorem ValRep.froV {v : Value} {x : AV} (h : ValRep F w v x f) (hnd : f.Nodup) : ∃ g : List Nat, g.Nodup ∧ (∀ b ∈ g, b ∈ f) ∧ ValRep (fun b => F b ∨ (b ∈ f ∧ b ∉ g)) w v (Vm.froV x) g := by
  cases x with
  | agg fs => obtain ⟨cs, e, h⟩ := h; obtain ⟨g, h1, h2, h3⟩ := h.froIn hnd; exact ⟨g, h1, h2, cs, e, h3⟩
  | own sz l => obtain ⟨g, h1, h2, h3⟩ := (show RepL F w [v] [_] f from h).froIn hnd; exact ⟨g, h1, h2, h3⟩
  | _ => obtain ⟨g, h1, h2, h3⟩ := (show RepL F w [v] [_] f from h).froIn hnd; exact ⟨g, h1, h2, h3⟩
theorem ValsRep.froV (h : ValsRep F w vs xs f) : f.Nodup → ∃ g : List Nat, g.Nodup ∧ (∀ b ∈ g, b ∈ f) ∧ ValsRep (fun b => F b ∨ (b ∈ f ∧ b ∉ g)) w vs (xs.map Vm.froV) g := by
  induction h with
  | nil => exact fun _ => ⟨[], by simp, by simp, .nil⟩
  | @cons v x vs xs f1 f2 h1 h2 ih =>
    intro hnd
    obtain ⟨m1, m2, m3⟩ := List.nodup_append.1 hnd
    obtain ⟨g1, a1, a2, a3⟩ := h1.froV m1
    obtain ⟨g2, b1, b2, b3⟩ := ih m2
    refine ⟨g1 ++ g2, List.nodup_append.2 ⟨a1, b1, fun x hx y hy => m3 x (a2 x hx) y (b2 y hy)⟩, fun b hb => ?_, .cons (a3.mono (fun b h => ?_) fun _ _ => rfl) (b3.mono (fun b h => ?_) fun _ _ => rfl)⟩
    · rcases List.mem_append.1 hb with h | h
      · simp [a2 b h]
      · simp [b2 b h]
    · refine h.imp id fun ⟨ha, hb⟩ => ⟨by simp [ha], fun hh => ?_⟩
      rcases List.mem_append.1 hh with h | h
      · exact hb h
      · exact m3 b ha b (b2 b h) rfl
    · refine h.imp id fun ⟨ha, hb⟩ => ⟨by simp [ha], fun hh => ?_⟩
      rcases List.mem_append.1 hh with h | h
      · exact m3 b (a2 b h) b ha rfl
      · exact hb h
theorem ResRep.froI {v : Value} {x : AV} (h : ResRep F w v x f) (hnd : f.Nodup) : ∃ g : List Nat, g.Nodup ∧ (∀ b ∈ g, b ∈ f) ∧ ResRep (fun b => F b ∨ (b ∈ f ∧ b ∉ g)) w v (Vm.froI x) g := by
  cases x with
  | tup xs => obtain ⟨us, e, h⟩ := h; obtain ⟨g, h1, h2, h3⟩ := h.froV hnd; exact ⟨g, h1, h2, us, e, h3⟩
  | pt sz l i j => exact ⟨f, hnd, fun _ h => h, PtRep.mono h (fun _ h => .inl h) fun _ _ => rfl⟩
  | _ => simp only [ResRep] at h; exact h.froV hnd
theorem DoesR.froI {f : Nat} {args : List AV} {R : AV → AV → Prop} (h : DoesR C f args R) : DoesR C f args fun r l => ∃ r0, R r0 l ∧ r = Vm.froI r0 := fun w F vals gs h1 h2 h3 h4 =>
  (h w F vals gs h1 h2 h3 h4).mono fun _ w' ⟨v, F', g, gs', res, left, hr, he, hk, hf, hf', hg, hnd, hres, hl⟩ => by
    obtain ⟨m1, m2, m3⟩ := List.nodup_append.1 hnd
    obtain ⟨g2, a1, a2, a3⟩ := hres.froI m1
    refine ⟨v, fun b => F' b ∨ (b ∈ g ∧ b ∉ g2), g2, gs', Vm.froI res, left, ⟨res, hr, rfl⟩, he, hk, fun b hb => .inl (hf b hb), fun b hb => ?_, fun b hb => ?_, List.nodup_append.2 ⟨a1, m2, fun x hx y hy => m3 x (a2 x hx) y hy⟩, a3, ?_⟩
    · rcases hb with hb | hb
      · exact hf' b hb
      · have := hg b (by simp [hb.1])
        exact ⟨this.2.2, .inr this.2.1⟩
    · rcases List.mem_append.1 hb with h | h
      · have := hg b (by simp [a2 b h])
        exact ⟨fun hh => hh.elim this.1 fun hh => hh.2 h, this.2⟩
      · have := hg b (by simp [h])
        exact ⟨fun hh => hh.elim this.1 fun hh => m3 b hh.1 b h rfl, this.2⟩
    · unfold LeftRep at hl ⊢
      split at hl
      · exact hl
      · rcases hl with ⟨u, y, b1, b2, b3, b4⟩ | hl
        · exact .inl ⟨u, y, b1, b2, b3, ArgRep.mono b4 (fun _ h => .inl h) fun _ _ => rfl⟩
        · exact .inr hl
end
end Go.Vm
end
section
/- All of what a function returns may be told as what nobody writes any more. -/
namespace Go.Vm
def froR : AV → AV
  | .tup xs => .tup (xs.map froize)
  | .pt sz l i j => .pt sz l i j
  | x => froize x
section
variable {C : Cfg} {F : Nat → Prop} {w : World} {vs : List Value} {xs : List AV} {f : List Nat}
theorem ValRep.froA {v : Value} {x : AV} (h : ValRep F w v x f) : ValRep (fun b => F b ∨ b ∈ f) w v (froize x) [] := by
  cases x with
  | agg fs =>
    obtain ⟨cs, e, h⟩ := h
    have := h.froized
    rw [froize, froizeL_eq]
    exact ⟨cs, e, this⟩
  | _ => exact (show RepL F w [v] [_] f from h).froized
theorem ValsRep.froA (h : ValsRep F w vs xs f) : ValsRep (fun b => F b ∨ b ∈ f) w vs (xs.map froize) [] := by
  induction h with
  | nil => exact .nil
  | @cons v x vs xs f1 f2 h1 h2 ih =>
    exact .cons (f1 := []) (f2 := []) (h1.froA.mono (fun b h => h.imp id fun h => by simp [h]) fun _ _ => rfl) (ih.mono (fun b h => h.imp id fun h => by simp [h]) fun _ _ => rfl)
theorem ResRep.froA {v : Value} {x : AV} (h : ResRep F w v x f) (hnd : f.Nodup) : ∃ g : List Nat, g.Nodup ∧ (∀ b ∈ g, b ∈ f) ∧ ResRep (fun b => F b ∨ (b ∈ f ∧ b ∉ g)) w v (Vm.froR x) g := by
  have imp : ∀ b, (F b ∨ b ∈ f) → (F b ∨ (b ∈ f ∧ b ∉ ([] : List Nat))) := fun b h => h.imp id fun h => ⟨h, by simp⟩
  cases x with
  | tup xs => obtain ⟨us, e, h⟩ := h; exact ⟨[], List.nodup_nil, by simp, us, e, h.froA.mono imp fun _ _ => rfl⟩
  | pt sz l i j => exact ⟨f, hnd, fun _ h => h, PtRep.mono h (fun _ h => .inl h) fun _ _ => rfl⟩
  | agg fs => exact ⟨[], List.nodup_nil, by simp, (show ValRep F w v (.agg fs) f from h).froA.mono imp fun _ _ => rfl⟩
  | own sz l => exact ⟨[], List.nodup_nil, by simp, (show ValRep F w v (.own sz l) f from h).froA.mono imp fun _ _ => rfl⟩
  | _ => simp only [ResRep] at h; exact ⟨[], List.nodup_nil, by simp, h.froA.mono imp fun _ _ => rfl⟩
theorem DoesR.froA {f : Nat} {args : List AV} {R : AV → AV → Prop} (h : DoesR C f args R) : DoesR C f args fun r l => ∃ r0, R r0 l ∧ r = Vm.froR r0 := fun w F vals gs h1 h2 h3 h4 =>
  (h w F vals gs h1 h2 h3 h4).mono fun _ w' ⟨v, F', g, gs', res, left, hr, he, hk, hf, hf', hg, hnd, hres, hl⟩ => by
    obtain ⟨m1, m2, m3⟩ := List.nodup_append.1 hnd
    obtain ⟨g2, a1, a2, a3⟩ := hres.froA m1
    refine ⟨v, fun b => F' b ∨ (b ∈ g ∧ b ∉ g2), g2, gs', Vm.froR res, left, ⟨res, hr, rfl⟩, he, hk, fun b hb => .inl (hf b hb), fun b hb => ?_, fun b hb => ?_, List.nodup_append.2 ⟨a1, m2, fun x hx y hy => m3 x (a2 x hx) y hy⟩, a3, ?_⟩
    · rcases hb with hb | hb
      · exact hf' b hb
      · have := hg b (by simp [hb.1])
        exact ⟨this.2.2, .inr this.2.1⟩
    · rcases List.mem_append.1 hb with h | h
      · have := hg b (by simp [a2 b h])
        exact ⟨fun hh => hh.elim this.1 fun hh => hh.2 h, this.2⟩
      · have := hg b (by simp [h])
        exact ⟨fun hh => hh.elim this.1 fun hh => m3 b hh.1 b h rfl, this.2⟩
    · unfold LeftRep at hl ⊢
      split at hl
      · exact hl
      · rcases hl with ⟨u, y, b1, b2, b3, b4⟩ | hl
        · exact .inl ⟨u, y, b1, b2, b3, ArgRep.mono b4 (fun _ h => .inl h) fun _ _ => rfl⟩
        · exact .inr hl
end
end Go.Vm
end
section
/- A function that is handed a struct with all that it owns. -/
namespace Go.Vm
section
variable {C : Cfg} {D : Spec} {n : Nat} {w0 : World} {F0 S0 F : Nat → Prop} {G : Value → AV → Prop} {μ : Nat → Option Nat} {fp : Nat → List Nat} {L : List Nat} {σ σ' : St} {a : Act} {w w' : World} {o : Oper}
def St.handS (fs rest : List AV) : St :=
  let p := takeV 0 0 (St.init (.pt 0 [] 0 0 :: rest)) (.agg fs)
  p.2.put (some 0) p.1
def retA (C : Cfg) (rs : List ResultVar) (R : AV → AV → Prop) : Ex → St → Prop
  | .exit _, _ => False
  | _, σ => exP (retG C σ rs) fun p => R p.1 (.tup [])
end
end Go.Vm
end
