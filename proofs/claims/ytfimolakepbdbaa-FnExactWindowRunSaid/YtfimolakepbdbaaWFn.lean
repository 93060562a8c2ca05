/- A function does what the logic says. -/
import Derived.Test.YtfimolakepbdbaaWSound
namespace Go.Vm

section
variable {C : Cfg} {D : Spec} {n : Nat} {w0 : World} {F0 S0 F : Nat → Prop} {G : Value → AV → Prop} {μ : Nat → Option Nat} {fp : Nat → List Nat} {L : List Nat} {σ σ' : St} {a : Act} {w w' : World} {o : Oper}

theorem Rel.closeAgg (h : Rel n w0 F0 S0 G F μ fp L σ a w) {v : Value} {x y : AV} (hx : SRep F w σ.en μ fp v x) (hc : σ.closeV x = some (y, σ')) :
    ∃ F' fp' f, Rel n w0 F0 S0 G F' μ fp' (f ++ L) σ' a w ∧ ValRep F' w v y f ∧ (∀ b, F b → F' b) ∧ (∀ v x, SLeaf F w σ.en μ fp v x → SLeaf F' w σ'.en μ fp' v x) := by
  have leaf : SLeaf F w σ.en μ fp v x → σ.close x = some (y, σ') → ∃ F' fp' f, Rel n w0 F0 S0 G F' μ fp' (f ++ L) σ' a w ∧ ValRep F' w v y f ∧ (∀ b, F b → F' b) ∧ (∀ v x, SLeaf F w σ.en μ fp v x → SLeaf F' w σ'.en μ fp' v x) := by
    intro hl he
    obtain ⟨F', fp', f, r1, r2, r3, r4, _⟩ := h.close hl he
    refine ⟨F', fp', f, r1, ?_, r3, r4⟩
    cases y with
    | agg => cases r2
    | _ => exact r2
  cases x with
  | agg fs =>
    obtain ⟨cs, rfl, hall⟩ := hx
    simp only [St.closeV, Option.bind_eq_bind, Option.bind_eq_some_iff] at hc
    obtain ⟨⟨ls, σ1⟩, hls, he⟩ := hc
    simp only [Option.some.injEq, Prod.mk.injEq] at he
    obtain ⟨rfl, rfl⟩ := he
    obtain ⟨F', fp', f, r1, r2, r3, r4, _⟩ := h.closeL hall hls
    exact ⟨F', fp', f, r1, ⟨cs, rfl, r2⟩, r3, r4⟩
  | tup => simp [St.closeV, St.close] at hc
  | pt => simp [St.closeV, St.close] at hc
  | _ => exact leaf (hx.leaf (by simp) (by simp) (by simp)) hc

theorem SRep.trans {F' : Nat → Prop} {en en' : Nat → Ent} {μ' : Nat → Option Nat} {fp' : Nat → List Nat} (ht : ∀ v x, SLeaf F w en μ fp v x → SLeaf F' w en' μ' fp' v x) {v : Value} {x : AV} (h : SRep F w en μ fp v x) : SRep F' w en' μ' fp' v x := by
  have agg : ∀ v x, SAgg F w en μ fp v x → SAgg F' w en' μ' fp' v x := by
    intro v x h
    cases x with
    | agg fs => obtain ⟨cs, e, h⟩ := h; exact ⟨cs, e, h.imp ht⟩
    | _ => simp only [SAgg] at h ⊢; exact ht _ _ h
  cases x with
  | tup vs => obtain ⟨us, e, h⟩ := h; exact ⟨us, e, h.imp agg⟩
  | pt => trivial
  | _ => simp only [SRep] at h ⊢; exact agg _ _ h

theorem Rel.closeAggs : ∀ {xs ys : List AV} {vs : List Value} {σ σ' : St} {F : Nat → Prop} {fp : Nat → List Nat} {L : List Nat}, Rel n w0 F0 S0 G F μ fp L σ a w → All2 (SRep F w σ.en μ fp) vs xs → σ.closeVs xs = some (ys, σ') →
    ∃ F' fp' f, Rel n w0 F0 S0 G F' μ fp' (f ++ L) σ' a w ∧ ValsRep F' w vs ys f ∧ (∀ b, F b → F' b)
  | [], ys, [], σ, σ', F, fp, L, h, _, hc => by
    simp only [St.closeVs, Option.some.injEq, Prod.mk.injEq] at hc
    obtain ⟨rfl, rfl⟩ := hc
    exact ⟨F, fp, [], h, .nil, fun _ h => h⟩
  | x :: xs, ys, v :: vs, σ, σ', F, fp, L, h, ⟨h1, h2⟩, hc => by
    simp only [St.closeVs, Option.bind_eq_bind, Option.bind_eq_some_iff] at hc
    obtain ⟨⟨y, σ1⟩, hy, ⟨ys', σ2⟩, hys, he⟩ := hc
    simp only [Option.some.injEq, Prod.mk.injEq] at he
    obtain ⟨rfl, rfl⟩ := he
    obtain ⟨F1, fp1, f1, r1, r2, r3, r4⟩ := h.closeAgg h1 hy
    obtain ⟨F2, fp2, f2, s1, s2, s3⟩ := Rel.closeAggs r1 (h2.imp fun _ _ hx => SRep.trans r4 hx) hys
    refine ⟨F2, fp2, f1 ++ f2, s1.perm ?_, .cons (r2.mono s3 fun _ _ => rfl) s2, fun b hb => s3 b (r3 b hb)⟩
    rw [← List.append_assoc]
    exact List.perm_append_comm.append_right L
  | [], _, _ :: _, _, _, _, _, _, _, h, _ => h.elim
  | _ :: _, _, [], _, _, _, _, _, _, h, _ => h.elim

def resVar (tmps : Array Value) : ResultVar → Sem Value
  | .tmp t => pure (tmps.getD t undef)
  | .cell a t => do loadVar t (← asAddr (tmps.getD a undef))

theorem run_resVars (hC : CfgOk C) (h : Rel n w0 F0 S0 G F μ fp [] σ a w) : ∀ {l : List ResultVar} {xs : List AV}, resL C σ l = some xs → ∃ vs, (l.mapM (resVar a.tmps)).run C.P w = .ok vs w ∧ All2 (SRep F w σ.en μ fp) vs xs
  | [], xs, hx => by cases hx; exact ⟨[], by simp, trivial⟩
  | .tmp t :: l, xs, hx => by
    simp only [resL, Option.bind_eq_bind, Option.bind_eq_some_iff, Option.some.injEq] at hx
    obtain ⟨xs', hx', rfl⟩ := hx
    obtain ⟨vs, h1, h2⟩ := run_resVars hC h hx'
    exact ⟨_ :: vs, by simp only [List.mapM_cons, resVar, Sem.run_bind, Sem.run_pure, Result.andThen_ok, h1], h.slots t, h2⟩
  | .cell r t :: l, xs, hx => by
    simp only [resL, Option.bind_eq_bind, Option.bind_eq_some_iff, Option.some.injEq] at hx
    obtain ⟨x, hl, xs', hx', rfl⟩ := hx
    obtain ⟨vs, h1, h2⟩ := run_resVars hC h hx'
    obtain ⟨v, x', he, hv, hrun⟩ := op_load (o := { dst := some 0, op := .load t (.tmp r), type := 0, pos := "", after := #[], guard := none }) hC h rfl hl
    have hxx : x = x' := by
      have := congrArg (fun s : St => s.sl 0) he
      simpa [St.put, upd] using this
    subst hxx
    have hr := hrun w (KeptS.refl _ _)
    have hld : (Instr.loadAt t (a.tmps.getD r undef)).run C.P w = .ok v w := by
      simp only [execOp, Sem.run_bind] at hr
      have e : a.eval (.tmp r) = a.tmps.getD r undef := rfl
      rw [e] at hr
      cases hq : (Instr.loadAt t (a.tmps.getD r undef)).run C.P w with
      | ok v1 w1 =>
        rw [hq] at hr
        simp only [Result.andThen_ok, Sem.run_pure, Result.ok.injEq, Next.value.injEq] at hr
        rw [hr.1, hr.2]
      | halt x w1 => rw [hq] at hr; simp [Result.andThen] at hr
    have hcell : (resVar a.tmps (.cell r t)).run C.P w = .ok v w := by
      unfold Instr.loadAt at hld
      show ((do loadVar t (← asAddr (a.tmps.getD r undef))) : Sem Value).run C.P w = .ok v w
      generalize a.tmps.getD r undef = u at hld ⊢
      cases u with
      | pointer p =>
        cases p with
        | some p => simpa [Instr.sureAddr, asAddr] using hld
        | none => simp [Instr.sureAddr, stuck] at hld
      | _ => simp [Instr.sureAddr, stuck] at hld
    exact ⟨v :: vs, by simp only [List.mapM_cons, Sem.run_bind, hcell, Sem.run_pure, Result.andThen_ok, h1], hv, h2⟩

def resVal : List Value → Value
  | [v] => v
  | vs => .tuple vs.toArray

theorem run_results (hC : CfgOk C) (h : Rel n w0 F0 S0 G F μ fp [] σ a w) {fn : Func} {xs : List AV} (hx : resL C σ fn.results.toList = some xs) : ∃ vs, (results fn a.tmps).run C.P w = .ok (resVal vs) w ∧ All2 (SRep F w σ.en μ fp) vs xs := by
  obtain ⟨vs, hk, hall⟩ := run_resVars hC h hx
  refine ⟨vs, ?_, hall⟩
  change ((do let vs ← fn.results.mapM (resVar a.tmps); pure (if h : vs.size = 1 then vs[0] else .tuple vs)) : Sem Value).run C.P w = _
  rw [Sem.run_bind, Array.mapM_eq_mapM_toList, Sem.run_map, hk]
  simp only [Result.andThen_ok, Sem.run_pure]
  congr 1
  match vs with
  | [] => simp [resVal]
  | [r] => simp [resVal]
  | r1 :: r2 :: rs => simp [resVal]

theorem ValsRep.length {vs : List Value} {xs : List AV} {f : List Nat} (h : ValsRep F w vs xs f) : vs.length = xs.length := by
  induction h with
  | nil => rfl
  | cons _ _ ih => simp [ih]

theorem ValsRep.get {vs : List Value} {xs : List AV} {i : Nat} {x : AV} (h : ValsRep F w vs xs []) (hx : xs[i]? = some x) : ∃ v, vs[i]? = some v ∧ ValRep F w v x [] := by
  generalize hf : ([] : List Nat) = f at h
  induction h generalizing i with
  | nil => simp at hx
  | cons h1 h2 ih =>
    obtain ⟨rfl, rfl⟩ := List.append_eq_nil_iff.1 hf.symm
    cases i with
    | zero => simp at hx ⊢; subst hx; exact h1
    | succ i => simpa using ih (by simpa using hx) rfl

/-- Nothing is owned by an argument. -/
def argOk (x : AV) : Bool := (leaves x).all noOwn

theorem ValRep.srep {en : Nat → Ent} {v : Value} {x : AV} (h : ValRep F w v x []) (hx : argOk x = true) : SRep F w en μ fp v x := by
  cases x with
  | agg fs =>
    obtain ⟨cs, rfl, hr⟩ := h
    exact ⟨cs, rfl, hr.all2 hx⟩
  | tup => cases h
  | pt => trivial
  | own sz l => simp [argOk, leaves, noOwn] at hx
  | _ => exact SRep.of_agg (RepL.sleaf (en := en) (μ := μ) (fp := fp) (show RepL F w _ _ _ from h) (by simp))

/-- Nothing is owned by an argument, and it is no array that is lent. -/
def plainArg : AV → Bool
  | .pt _ _ _ _ => false
  | x => argOk x

theorem ArgRep.plain {v : Value} {x : AV} {f : List Nat} (h : ArgRep F w v x f) (hx : plainArg x = true) : f = [] ∧ ValRep F w v x [] := by
  have leaf : ∀ x : AV, (∀ fs, x ≠ .agg fs) → argOk x = true → RepL F w [v] [x] f → f = [] := fun x hna hx hr => hr.noOwn_nil (by
    unfold argOk at hx; rw [leaves_length_of (fun fs hx => hna fs hx)] at hx; exact hx)
  cases x with
  | pt => cases hx
  | agg fs =>
    obtain ⟨cs, rfl, hr⟩ := h
    obtain rfl := hr.noOwn_nil hx
    exact ⟨rfl, cs, rfl, hr⟩
  | _ =>
    have hr : RepL F w [v] [_] f := h
    obtain rfl := leaf _ (by simp) hx hr
    exact ⟨rfl, hr⟩

theorem ArgsRep.plain {vs : List Value} {xs : List AV} {f : List Nat} (h : ArgsRep F w vs xs f) (hx : xs.all plainArg = true) : f = [] ∧ ValsRep F w vs xs [] := by
  induction h with
  | nil => exact ⟨rfl, .nil⟩
  | cons h1 h2 ih =>
    simp only [List.all_cons, Bool.and_eq_true] at hx
    obtain ⟨rfl, r1⟩ := h1.plain hx.1
    obtain ⟨rfl, r2⟩ := ih hx.2
    exact ⟨rfl, .cons (f1 := []) r1 r2⟩

theorem ArgRep.one {v : Value} {x : AV} {f : List Nat} (h : ArgRep F w v x f) (hx : ∃ sz l, x = .own sz l ∨ ∃ i j, x = .pt sz l i j) : v.oneCell' = true := by
  obtain ⟨sz, l, rfl | ⟨i, j, rfl⟩⟩ := hx
  · have hr : RepL F w [v] [.own sz l] f := h
    rcases hr.own_inv with ⟨_, _, A, rfl⟩ | ⟨_, _, _, _, _, _, rfl, _⟩ <;> rfl
  · obtain ⟨_, _, _, _, _, rfl, _⟩ := h; rfl

/-- One argument is lent to be written, the others are looked at. -/
theorem ArgsRep.one {vs : List Value} {xs : List AV} {f : List Nat} (h : ArgsRep F w vs xs f) : ∀ {k : Nat} {y : AV}, xs[k]? = some y → (∃ sz l, y = .own sz l ∨ ∃ i j, y = .pt sz l i j) → (xs.set k .und).all plainArg = true →
    ∃ v, vs[k]? = some v ∧ ArgRep F w v y f ∧ ValsRep F w vs (xs.set k .und) [] := by
  induction h with
  | nil => intro k y hy; simp at hy
  | @cons v x vs xs f1 f2 h1 h2 ih =>
    intro k y hy ho hx
    cases k with
    | zero =>
      simp only [List.getElem?_cons_zero, Option.some.injEq] at hy
      subst hy
      simp only [List.set_cons_zero, List.all_cons, Bool.and_eq_true] at hx
      obtain ⟨rfl, r2⟩ := h2.plain hx.2
      refine ⟨v, rfl, by simpa using h1, ?_⟩
      simp only [List.set_cons_zero]
      exact .cons (f1 := []) (show RepL F w [v] [.und] [] from .und (h1.one ho) .nil) r2
    | succ k =>
      simp only [List.getElem?_cons_succ] at hy
      simp only [List.set_cons_succ, List.all_cons, Bool.and_eq_true] at hx
      obtain ⟨rfl, r1⟩ := h1.plain hx.1
      obtain ⟨v', q1, q2, q3⟩ := ih hy ho hx.2
      exact ⟨v', by simpa using q1, by simpa using q2, by simp only [List.set_cons_succ]; exact .cons (f1 := []) r1 q3⟩

theorem argOk_of_plain {x : AV} (h : plainArg x = true) : argOk x = true := by
  cases x <;> first | exact h | cases h

theorem init_rel {gs : List Nat} (hF : ∀ b, F b → b < w.heap.size) (hg : ∀ b ∈ gs, ¬ F b ∧ b < w.heap.size) (hnd : gs.Nodup) {vals : List Value} {args : List AV} (h : ValsRep F w vals args []) (hx : args.all plainArg = true) (hn : args.length ≤ n) :
    Rel n w F (fun b => b ∈ gs) (fun _ _ => False) F (fun _ => none) (fun _ => []) gs (St.init args) { tmps := vals.toArray ++ Array.replicate (n - vals.toArray.size) undef, defers := [] } w := by
  have hl := h.length
  refine ⟨rfl, by simp; omega, KeptS.refl _ _, fun _ h => h, fun b hb => ⟨hF b hb, .inl hb⟩, fun e he => by simp [St.init] at he, fun e he => by simp [St.init] at he, fun e he => by simp [St.init] at he, fun e _ he => by simp [St.init] at he,
    fun b hb => ⟨(hg b hb).1, (hg b hb).2, .inl hb, fun e he => by simp [St.init] at he⟩, hnd, fun s => ?_, fun _ _ h => h.elim⟩
  show SRep F w _ _ _ _ (args.getD s (.tup []))
  by_cases hs : s < args.length
  · have hx' := List.getElem?_eq_getElem hs
    obtain ⟨v, hv, hr⟩ := h.get hx'
    have e1 : args.getD s (.tup []) = args[s] := by simp [List.getD, hx']
    have e2 : (vals.toArray ++ Array.replicate (n - vals.toArray.size) undef).getD s undef = v := by
      rw [Array.getD_eq_getD_getElem?, Array.getElem?_append_left (by simp; omega)]
      simp [hv]
    rw [e1, e2]
    exact hr.srep (argOk_of_plain (List.all_eq_true.1 hx _ (List.getElem_mem hs)))
  · have e1 : args.getD s (.tup []) = .tup [] := by simp [List.getD, List.getElem?_eq_none (by omega : args.length ≤ s)]
    have e2 : (vals.toArray ++ Array.replicate (n - vals.toArray.size) undef).getD s undef = undef := by
      rw [Array.getD_eq_getD_getElem?, Array.getElem?_append_right (by simp; omega), Array.getElem?_replicate]
      split <;> rfl
    rw [e1, e2]
    exact SRep.unit _ _ _ _ _

/-- The state that a function begins in that is lent an array to write, in slot k. -/
def St.lentS (σ : St) (k : Nat) : AV → St
  | .own sz l => (σ.fresh (eid k 0) sz l).put (some k) (.hd (eid k 0) 1 0 l.length false)
  | .pt sz l i j => (σ.fresh (eid k 0) sz l).put (some k) (.ptr (eid k 0) 1 i j)
  | _ => σ

/-- What the array is known by. -/
def ghostW (k : Nat) : AV → AV
  | .own _ l => .hd (eid k 0) 1 0 l.length false
  | .pt _ _ i j => .ptr (eid k 0) 1 i j
  | x => x

theorem Rel.withGhost (h : Rel n w0 F0 S0 (fun _ _ => False) F μ fp L σ a w) {v : Value} {x : AV} (hx : SLeaf F w σ.en μ fp v x) : Rel n w0 F0 S0 (fun v' x' => v' = v ∧ x' = x) F μ fp L σ a w :=
  ⟨h.defers, h.size, h.kept, h.base, h.free, h.ent, h.own, h.nodup, h.apart, h.loose, h.looseNodup, h.slots, fun _ _ ⟨e1, e2⟩ => by subst e1 e2; exact hx⟩

theorem put_self {k : Nat} {v : Value} (hk : k < a.tmps.size) (hv : a.tmps.getD k undef = v) : a.put (some k) v = a := by
  cases a with
  | mk tmps defers =>
    simp only [Act.put]
    congr 1
    have hk : k < tmps.size := hk
    have hv : tmps.getD k undef = v := hv
    have hk2 : tmps[k] = v := by simpa [hk] using hv
    apply Array.ext_getElem?
    intro i
    by_cases hi : k = i
    · subst hi
      rw [Array.getElem?_setIfInBounds_self, if_pos hk, Array.getElem?_eq_getElem hk, hk2]
    · exact Array.getElem?_setIfInBounds_ne hi

/-- An array that is lent, taken. -/
theorem take_lent {gs : List Nat} (h : Rel n w0 F0 S0 (fun _ _ => False) F μ fp gs σ a w) {k : Nat} (hk : k < n) {v : Value} {y : AV} (hv : a.tmps.getD k undef = v) (hy : ArgRep F w v y gs) (ho : ∃ sz l, y = .own sz l ∨ ∃ i j, y = .pt sz l i j) (hg : (σ.en (eid k 0)).gen = 0) :
    ∃ μ' fp', Rel n w0 F0 S0 (fun v' x' => v' = v ∧ x' = ghostW k y) F μ' fp' [] (σ.lentS k y) a w := by
  have hka : k < a.tmps.size := by rw [h.size]; exact hk
  obtain ⟨sz, l, rfl | ⟨i, j, rfl⟩⟩ := ho
  · cases e : takeLeaf k 0 σ (.own sz l) with
    | mk z σ1 =>
    obtain ⟨μ', fp', r1, r2, _, _⟩ := takeLeaf_ok (L := []) (by simpa using h) (show RepL F w [v] [.own sz l] gs from hy) e
    simp only [takeLeaf, hg, Prod.mk.injEq, Nat.zero_add] at e
    obtain ⟨rfl, rfl⟩ := e
    refine ⟨μ', fp', ?_⟩
    have := (r1.withGhost r2).put (d := k) hk (v := v) (x := .hd (eid k 0) 1 0 l.length false) r2
    rw [put_self hka hv] at this
    exact this
  · obtain ⟨b, cur, et, us, f1, rfl, hb, hcell, hsz, hu, rfl⟩ := hy
    have hnd := h.looseNodup
    obtain ⟨r1, _⟩ := h.fresh (w' := w) (L' := []) (m := some b) (f := b :: f1) (eid k 0) sz l (fun b hb => .inl hb) (List.nil_sublist _) (fun b hb => by simp) hnd (KeptS.refl _ _)
      (fun b' hm => by cases hm; exact (Array.getElem?_eq_some_iff.1 hb).1) ⟨hsz, .inr ⟨b, cur, et, (0, 0), us, f1, rfl, hb, hcell, hu, .inr ⟨rfl, rfl, rfl⟩⟩⟩
    have r2 : SLeaf F w (σ.fresh (eid k 0) sz l).en (upd μ (eid k 0) (some b)) (upd fp (eid k 0) (b :: f1)) (.pointer (some ⟨b, i * sz + j, none⟩)) (.ptr (eid k 0) 1 i j) := by
      refine ⟨by simp [St.fresh, St.ent, upd], fun _ _ => ⟨b, by simp [upd], by simp [St.fresh, St.ent, upd]⟩⟩
    refine ⟨upd μ (eid k 0) (some b), upd fp (eid k 0) (b :: f1), ?_⟩
    have := (r1.withGhost r2).put (d := k) hk (v := .pointer (some ⟨b, i * sz + j, none⟩)) (x := .ptr (eid k 0) 1 i j) r2
    rw [put_self hka hv] at this
    exact this

/-- What is left in an array that was lent. -/
def leftV (σ : St) (y gh : AV) : Option AV :=
  match y, gh with
  | .own sz _, .hd e g off len _ => if (σ.en e).live = false then some (.tup []) else do
    let E ← σ.cur e g
    ensure (E.frz = false ∧ off = 0 ∧ len ≤ E.elems.length ∧ E.sz = sz)
    some (.own E.sz (E.elems.take len))
  | .pt sz l i j, .ptr e g i' j' => if (σ.en e).live = false then some (.tup []) else do
    let E ← σ.cur e g
    ensure (E.frz = false ∧ E.sz = sz ∧ E.elems.length = l.length ∧ i' = i ∧ j' = j)
    some (.pt sz E.elems i j)
  | _, _ => none

theorem leftV_ok (h : Rel n w0 F0 S0 G F μ fp L σ a w) {v : Value} {y gh left : AV} (hx : SLeaf F w σ.en μ fp v gh) (hl : leftV σ y gh = some left) :
    ∃ F' f, ((sameShape y left ∧ ArgRep F' w v left f) ∨ (left = .tup [] ∧ f = [])) ∧ (∀ b, F b → F' b) ∧ (∀ b, F' b → b < w.heap.size ∧ (F0 b ∨ S0 b ∨ w0.heap.size ≤ b)) ∧ (∀ b ∈ f ++ L, ¬ F' b ∧ b < w.heap.size ∧ (S0 b ∨ w0.heap.size ≤ b)) ∧ (f ++ L).Nodup := by
  unfold leftV at hl
  split at hl
  · rename_i sz l e g off len clip
    split at hl
    · cases hl
      exact ⟨F, [], .inr ⟨rfl, rfl⟩, fun _ h => h, h.free, fun b hb => let ⟨h1, h2, h3, _⟩ := h.loose b (by simpa using hb); ⟨h1, h2, h3⟩, by simpa using h.looseNodup⟩
    simp only [Option.bind_eq_bind, Option.bind_eq_some_iff, Option.some.injEq] at hl
    obtain ⟨E, hE, _, hb, rfl⟩ := hl
    have hE' := hE
    obtain ⟨hlive, hg, rfl⟩ := cur_some hE
    obtain ⟨hfz, rfl, hlen, rfl⟩ := ensure_some hb
    have hc : σ.close (.hd e g 0 len clip) = some (.own (σ.en e).sz ((σ.en e).elems.take len), σ.kill e) := by
      simp only [St.close, hE', Option.bind_eq_bind, Option.bind_some, hfz, Bool.false_eq_true, if_false]
      simp [ensure, hlen]
    obtain ⟨F', fp', f, r1, r2, r3, _, _⟩ := h.close hx hc
    exact ⟨F', f, .inl ⟨rfl, r2⟩, r3, r1.free, fun b hb => let ⟨h1, h2, h3, _⟩ := r1.loose b hb; ⟨h1, h2, h3⟩, r1.looseNodup⟩
  · rename_i sz l i j e g i' j'
    split at hl
    · cases hl
      exact ⟨F, [], .inr ⟨rfl, rfl⟩, fun _ h => h, h.free, fun b hb => let ⟨h1, h2, h3, _⟩ := h.loose b (by simpa using hb); ⟨h1, h2, h3⟩, by simpa using h.looseNodup⟩
    simp only [Option.bind_eq_bind, Option.bind_eq_some_iff, Option.some.injEq] at hl
    obtain ⟨E, hE, _, hb, rfl⟩ := hl
    obtain ⟨hlive, hg, rfl⟩ := cur_some hE
    obtain ⟨hfz, rfl, hlen, rfl, rfl⟩ := ensure_some hb
    obtain ⟨r1, _⟩ := h.kill e hlive
    obtain ⟨b, hμ, rfl⟩ := hx.2 hlive hg
    have hent := h.ent e hlive
    rcases hent.2 with ⟨e1, _⟩ | ⟨b', cur, et, fr, us, f1, e1, e2, e3, e4, e5⟩
    · rw [hμ] at e1; cases e1
    rw [hμ] at e1; cases e1
    rcases e5 with ⟨e5, _⟩ | ⟨_, rfl, e7⟩
    · rw [hfz] at e5; cases e5
    exact ⟨F, fp e, .inl ⟨⟨rfl, rfl, rfl, hlen⟩, ⟨b, cur, et, us, f1, rfl, e2, e3, hent.1, e4, e7⟩⟩, fun _ h => h, r1.free, fun b hb => let ⟨h1, h2, h3, _⟩ := r1.loose b hb; ⟨h1, h2, h3⟩, r1.looseNodup⟩
  · cases hl

/-- A result alone: a pointer takes its array with it. -/
def closeR (m : Bool) (σ : St) : AV → Option (AV × St)
  | .agg fs => do
    let (ls, σ1) ← σ.closeM m fs
    some (.agg ls, σ1)
  | .ptr e g i j => do
    let E ← σ.cur e g
    ensure (E.frz = false)
    some (.pt E.sz E.elems i j, σ.kill e)
  | x => σ.closeV x

/-- The function's result, and the state behind it. -/
def retG (C : Cfg) (σ : St) (rs : List ResultVar) : Option (AV × St) := do
  let xs ← resL C σ rs
  match xs with
  | [x] => closeR C.mv σ x
  | xs => do let (ys, σ') ← σ.closeVs xs; some (.tup ys, σ')

theorem retG_ok (hC : CfgOk C) (h : Rel n w0 F0 S0 G F μ fp [] σ a w) {fn : Func} {res : AV} (hr : retG C σ fn.results.toList = some (res, σ')) :
    ∃ v F' fp' g, (results fn a.tmps).run C.P w = .ok v w ∧ Rel n w0 F0 S0 G F' μ fp' g σ' a w ∧ (∀ b, F b → F' b) ∧ ResRep F' w v res g := by
  simp only [retG, Option.bind_eq_bind, Option.bind_eq_some_iff] at hr
  obtain ⟨xs, hx, hr⟩ := hr
  obtain ⟨vs, hrun, hall⟩ := run_results hC h hx
  split at hr
  · rename_i x
    have hl := hall.length
    obtain ⟨v, rfl⟩ : ∃ v, vs = [v] := by
      cases vs with
      | nil => simp at hl
      | cons v t => cases t with
        | nil => exact ⟨v, rfl⟩
        | cons => simp at hl
    have other : σ.closeV x = some (res, σ') → ∃ v' F' fp' g, (results fn a.tmps).run C.P w = .ok v' w ∧ Rel n w0 F0 S0 G F' μ fp' g σ' a w ∧ (∀ b, F b → F' b) ∧ ResRep F' w v' res g := by
      intro hr
      obtain ⟨F', fp', f, r1, r2, r3, _⟩ := h.closeAgg hall.1 hr
      refine ⟨_, F', fp', f, hrun, by simpa using r1, r3, ?_⟩
      have hv : ValRep F' w v res f := r2
      cases res with
      | tup => cases hv
      | pt => cases (show RepL F' w _ _ _ from hv)
      | _ => exact hv
    unfold closeR at hr
    split at hr
    · rename_i fs
      simp only [Option.bind_eq_bind, Option.bind_eq_some_iff, Option.some.injEq, Prod.mk.injEq] at hr
      obtain ⟨⟨ls, σ1⟩, hls, rfl, rfl⟩ := hr
      obtain ⟨cs, rfl, hall2⟩ : ∃ cs : Array Value, v = .agg cs ∧ All2 (SLeaf F w σ.en μ fp) cs.toList fs := hall.1
      obtain ⟨F', fp', f, r1, r2, r3, _⟩ := h.closeM hall2 hls
      exact ⟨_, F', fp', f, hrun, by simpa using r1, r3, cs, rfl, r2⟩
    · rename_i e g i j
      simp only [Option.bind_eq_bind, Option.bind_eq_some_iff, Option.some.injEq, Prod.mk.injEq] at hr
      obtain ⟨E, hE, _, hb, rfl, rfl⟩ := hr
      obtain ⟨hlive, hg, rfl⟩ := cur_some hE
      have hfz := ensure_some hb
      obtain ⟨r1, _⟩ := h.kill e hlive
      have hx : SLeaf F w σ.en μ fp v (.ptr e g i j) := hall.1
      obtain ⟨b, hμ, rfl⟩ := hx.2 hlive hg
      have hent := h.ent e hlive
      rcases hent.2 with ⟨e1, _⟩ | ⟨b', cur, et, fr, us, f1, e1, e2, e3, e4, e5⟩
      · rw [hμ] at e1; cases e1
      rw [hμ] at e1; cases e1
      rcases e5 with ⟨e5, _⟩ | ⟨_, rfl, e7⟩
      · rw [hfz] at e5; cases e5
      exact ⟨_, F, fp, fp e, hrun, by simpa using r1, fun _ h => h, ⟨b, cur, et, us, f1, rfl, e2, e3, hent.1, e4, e7⟩⟩
    · exact other hr
  · rename_i hne
    simp only [Option.bind_eq_some_iff] at hr
    obtain ⟨⟨y, σ1⟩, hy, he⟩ := hr
    cases he
    obtain ⟨F', fp', f, r1, r2, r3⟩ := Rel.closeAggs h hall hy
    refine ⟨_, F', fp', f, hrun, by simpa using r1, r3, ?_⟩
    have hv : resVal vs = .tuple vs.toArray := by
      have hl := hall.length
      cases vs with
      | nil => rfl
      | cons v t => cases t with
        | cons => rfl
        | nil =>
          cases xs with
          | nil => simp at hl
          | cons x t => cases t with
            | nil => exact absurd rfl (hne x)
            | cons => simp at hl
    rw [hv]
    exact ⟨_, rfl, by simpa using r2⟩

/-- At the end: the results, and what is left. -/
def retW (C : Cfg) (k : Nat) (y : AV) (rs : List ResultVar) (R : AV → AV → Prop) : Ex → St → Prop
  | .exit _, _ => False
  | _, σ => exP (retG C σ rs) fun p => exP (leftV p.2 y (ghostW k y)) fun l => R p.1 l

def retR (C : Cfg) (rs : List ResultVar) (R : AV → AV → Prop) : Ex → St → Prop
  | .exit _, _ => False
  | _, σ => exP (retG C σ rs) fun p => R p.1 .und

theorem ArgRep.of_eq {F' : Nat → Prop} {v : Value} {x : AV} {f : List Nat} (h : ArgRep F w v x f) (hF : ∀ b, F b → F' b) : ArgRep F' w v x f := h.mono hF fun _ _ => rfl

/-- The same where regions are cut in two. -/
theorem does_of_WX {rs : Ways} (hC : CfgOk C) (hD : SpecOk C D) {f : Nat} {fn : Func} {c : Code} {args : List AV} {R : AV → AV → Prop} (hf : C.P.funcs[f]? = some fn) (hb : fn.body = some c) (hok : okCodeX rs C.wrt fn.ntmps c = true) (hw : C.wrt f = none)
    (hn : args.length ≤ fn.ntmps) (ha : args.all plainArg = true) (hW : W C D (tr rs c) (retR C fn.results.toList R) (St.init args)) : DoesR C f args R := by
  intro w F vals gs hF hv hnd hg
  obtain ⟨rfl, hvs⟩ := hv.plain ha
  refine calls_of_wp hf hb (wp_mono (W_soundX hC hD c _ _ _ _ hok ⟨_, _, _, init_rel hF hg hnd hvs ha hn⟩ hW) ?_)
  rintro e a' w' ⟨e', σ, rfl, hq, F1, μ, fp, hs⟩
  have key : exP (retG C σ fn.results.toList) (fun p => R p.1 .und) → a'.defers = [] ∧ ∃ v, (results fn a'.tmps).run C.P w' = .ok v w' ∧ ∃ v' F' g gs' res left, R res left ∧ Ending.returned v = .returned v' ∧ KeptS w w' (fun b => b ∈ ([] : List Nat)) ∧ (∀ b, F b → F' b) ∧ (∀ b, F' b → b < w'.heap.size ∧ (F b ∨ b ∈ ([] : List Nat) ∨ w.heap.size ≤ b)) ∧
      (∀ b ∈ g ++ gs', ¬ F' b ∧ (b ∈ ([] : List Nat) ∨ w.heap.size ≤ b) ∧ b < w'.heap.size) ∧ (g ++ gs').Nodup ∧ ResRep F' w' v' res g ∧ LeftRep C f F' w' vals args left gs' := by
    rintro ⟨⟨res, σ'⟩, hr, hR⟩
    obtain ⟨v, F', fp', g, h0, h1, h2, h3⟩ := retG_ok hC hs hr
    refine ⟨hs.defers, v, h0, _, F', g, [], res, .und, hR, rfl, h1.kept, fun b hb => h1.base b hb, h1.free, fun b hb => ?_, by simpa using h1.looseNodup, h3, by simp [LeftRep, hw]⟩
    obtain ⟨k1, k2, k3, _⟩ := h1.loose b (by simpa using hb)
    exact ⟨k1, k3, k2⟩
  cases e' with
  | normal => exact key hq
  | exit i => exact hq.elim
  | ret => exact key hq

/-- THE LAW: what the logic says of a function's text, the function does. -/
theorem does_of_W (hC : CfgOk C) (hD : SpecOk C D) {f : Nat} {fn : Func} {c : Code} {args : List AV} {R : AV → AV → Prop} (hf : C.P.funcs[f]? = some fn) (hb : fn.body = some c) (hok : okCode fn.ntmps c = true) (hw : C.wrt f = none)
    (hn : args.length ≤ fn.ntmps) (ha : args.all plainArg = true) (hW : W C D c (retR C fn.results.toList R) (St.init args)) : DoesR C f args R := by
  obtain ⟨h1, h2⟩ := okCode_tr (rs := []) c C.wrt hok
  exact does_of_WX hC hD hf hb h1 hw hn ha (by rw [h2]; exact hW)

/-- The same of a function that is lent an array to write. -/
theorem does_of_WWX {rs : Ways} (hC : CfgOk C) (hD : SpecOk C D) {f k : Nat} {y : AV} {fn : Func} {c : Code} {args : List AV} {R : AV → AV → Prop} (hf : C.P.funcs[f]? = some fn) (hb : fn.body = some c) (hok : okCodeX rs C.wrt fn.ntmps c = true) (hw : C.wrt f = some k)
    (hn : args.length ≤ fn.ntmps) (hy : args[k]? = some y) (ho : ∃ sz l, y = .own sz l ∨ ∃ i j, y = .pt sz l i j) (ha : (args.set k .und).all plainArg = true) (hW : W C D (tr rs c) (retW C k y fn.results.toList R) ((St.init (args.set k .und)).lentS k y)) : DoesR C f args R := by
  intro w F vals gs hF hv hnd hg
  obtain ⟨v0, hv0, hy0, hvs⟩ := hv.one hy ho ha
  have hkl : k < vals.length := (List.getElem?_eq_some_iff.1 hv0).1
  have hvl := hvs.length
  rw [List.length_set] at hvl
  have hv0' : (vals.toArray ++ Array.replicate (fn.ntmps - vals.toArray.size) undef).getD k undef = v0 := by
    rw [Array.getD_eq_getD_getElem?, Array.getElem?_append_left (by simpa using hkl)]
    simp [hv0]
  obtain ⟨μ0, fp0, r0⟩ := take_lent (init_rel (n := fn.ntmps) hF hg hnd hvs ha (by rw [List.length_set]; exact hn)) (k := k) (by omega) hv0' hy0 ho rfl
  refine calls_of_wp hf hb (wp_mono (W_soundX hC hD c _ _ _ _ hok ⟨_, _, _, r0⟩ hW) ?_)
  rintro e a' w' ⟨e', σ, rfl, hq, F1, μ, fp, hs⟩
  have key : exP (retG C σ fn.results.toList) (fun p => exP (leftV p.2 y (ghostW k y)) fun l => R p.1 l) → a'.defers = [] ∧ ∃ v, (results fn a'.tmps).run C.P w' = .ok v w' ∧ ∃ v' F' g gs' res left, R res left ∧ Ending.returned v = .returned v' ∧ KeptS w w' (fun b => b ∈ gs) ∧ (∀ b, F b → F' b) ∧ (∀ b, F' b → b < w'.heap.size ∧ (F b ∨ b ∈ gs ∨ w.heap.size ≤ b)) ∧
      (∀ b ∈ g ++ gs', ¬ F' b ∧ (b ∈ gs ∨ w.heap.size ≤ b) ∧ b < w'.heap.size) ∧ (g ++ gs').Nodup ∧ ResRep F' w' v' res g ∧ LeftRep C f F' w' vals args left gs' := by
    rintro ⟨⟨res, σ'⟩, hr, left, hl, hR⟩
    obtain ⟨v, F', fp', g, h0, h1, h2, h3⟩ := retG_ok hC hs hr
    obtain ⟨F2, f2, k1, k3, k4, k5, k6⟩ := leftV_ok h1 (h1.ghost v0 _ ⟨rfl, rfl⟩) hl
    refine ⟨hs.defers, v, h0, _, F2, g, f2, res, left, hR, rfl, h1.kept, fun b hb => k3 b (h1.base b hb), k4, fun b hb => ?_, ?_, h3.mono k3 (fun _ _ => rfl), ?_⟩
    · obtain ⟨q1, q2, q3⟩ := k5 b (by simpa [or_comm] using hb)
      exact ⟨q1, q3, q2⟩
    · exact (List.perm_append_comm.nodup_iff).1 k6
    · simp only [LeftRep, hw]
      exact k1.imp (fun k => ⟨v0, y, hv0, hy, k⟩) id
  cases e' with
  | normal => exact key hq
  | exit i => exact hq.elim
  | ret => exact key hq

theorem does_of_WW (hC : CfgOk C) (hD : SpecOk C D) {f k : Nat} {y : AV} {fn : Func} {c : Code} {args : List AV} {R : AV → AV → Prop} (hf : C.P.funcs[f]? = some fn) (hb : fn.body = some c) (hok : okCode fn.ntmps c = true) (hw : C.wrt f = some k)
    (hn : args.length ≤ fn.ntmps) (hy : args[k]? = some y) (ho : ∃ sz l, y = .own sz l ∨ ∃ i j, y = .pt sz l i j) (ha : (args.set k .und).all plainArg = true) (hW : W C D c (retW C k y fn.results.toList R) ((St.init (args.set k .und)).lentS k y)) : DoesR C f args R := by
  obtain ⟨h1, h2⟩ := okCode_tr (rs := []) c C.wrt hok
  exact does_of_WWX hC hD hf hb h1 hw hn hy ho ha (by rw [h2]; exact hW)

end
end Go.Vm
