/- The operations, one by one: what the evaluator says is what the machine does. -/
import Derived.Test.YtfimolakepbdbaaWTrans2
import Derived.Laws.Entries
import Derived.Deep.MidRow
import Derived.Deep.AppendSrc
namespace Go.Vm

def descOk (P : Program) (t : TypeId) : TD → Prop
  | .int k => P.underlying t = some (.int k)
  | .bool => P.underlying t = some .bool
  | .string => P.underlying t = some .string
  | .slice e => P.underlying t = some (.slice e)
  | .struct fs => ∃ fields, P.underlying t = some (.struct fields) ∧ fs.length = fields.size ∧ ∀ (i off ty : Nat), fs[i]? = some (off, ty) → ∃ fd, fields[i]? = some fd ∧ fd.offset = off ∧ fd.type = ty
  | .pointer e => P.underlying t = some (.pointer e)
  | .other => ∃ d, P.underlying t = some d ∧ d.isRow = false

structure TIok (P : Program) (t : TypeId) (T : TI) : Prop where
  info : ∃ i z, P.info? t = some i ∧ i.size = T.sz ∧ i.bytes = T.bytes ∧ i.zero = some z ∧ z.cells.size = T.sz ∧ (∀ F w, RepL F w z.cells.toList T.zero []) ∧ (T.desc.isStruct = false → z.cells = #[z])
  desc : descOk P t T.desc
  pos : 0 < T.sz ∧ 0 < T.bytes
  noOwn : T.zero.all noOwn = true

/-- The machine's value of a cell that is a whole number, a bool or a text. -/
def toV : AV → Value
  | .int k n => .int k n
  | .bool b => .bool b
  | .str s => .string s
  | _ => undef

structure EqOk (P : Program) (t : TypeId) (ks : List TD) : Prop where
  guard : ∀ (op : BinOp) (x y : Operand) (xs ys : Array Value) (w : World), (eqGuard op t x y (.agg xs) (.agg ys)).run P w = .ok () w
  equal : ∀ (as bs : List AV) (r : Bool) (w : World), kindsOk ks as = true → kindsOk ks bs = true → eqCells as bs = some r → (Op.equal t (.agg (as.map toV).toArray) (.agg (bs.map toV).toArray)).run P w = .ok r w

structure CfgOk (C : Cfg) : Prop where
  eqs : ∀ t ks, C.eqs t = some ks → EqOk C.P t ks
  tt : ∀ t T, C.tt t = some T → TIok C.P t T
  mixed : C.P.follows .mixedOrders = true

section
variable {C : Cfg} {n : Nat} {w0 : World} {F0 S0 F : Nat → Prop} {G : Value → AV → Prop} {μ : Nat → Option Nat} {fp : Nat → List Nat} {L : List Nat} {σ σ' : St} {a : Act} {w w' : World} {o : Oper}

/-- An operation does what the evaluator says. -/
def OpOk (C : Cfg) (n : Nat) (w0 : World) (F0 S0 : Nat → Prop) (G : Value → AV → Prop) (o : Oper) (a : Act) (w : World) (σ' : St) : Prop :=
  ∃ v w', ((execOp a.eval o).run C.P w = .ok (.value v) w' ∨ ((execOp a.eval o).run C.P w = .ok .skip w' ∧ v = undef)) ∧ ∃ F' μ' fp', Rel n w0 F0 S0 G F' μ' fp' [] σ' (a.put o.dst v) w'

theorem Rel.putO (h : Rel n w0 F0 S0 G F μ fp L σ a w) {d : Option Nat} (hd : ∀ k, d = some k → k < n) {v : Value} {x : AV} (hx : SRep F w σ.en μ fp v x) :
    Rel n w0 F0 S0 G F μ fp L (σ.put d x) (a.put d v) w := by
  cases d with
  | none => exact h
  | some d => exact h.put (hd d rfl) hx

theorem Rel.get (h : Rel n w0 F0 S0 G F μ fp L σ a w) (x : Operand) : SRep F w σ.en μ fp (a.eval x) (σ.get x) := by
  cases x with
  | tmp t => exact h.slots t
  | const v =>
    have c1 : ∀ v : Value, v.oneCell' = true → SLeaf F w σ.en μ fp v (ofC1 v) := by
      intro v hv
      unfold ofC1
      split
      · exact RepL.int .nil
      · exact RepL.bool .nil
      · exact RepL.str .nil
      · exact RepL.fro0 (by simp) .nil
      · exact RepL.und hv .nil
    have cs : ∀ l : List Value, (∀ v ∈ l, v.oneCell' = true) → All2 (SLeaf F w σ.en μ fp) l (l.map ofC1) := by
      intro l
      induction l with
      | nil => exact fun _ => trivial
      | cons v vs ih => exact fun h => ⟨c1 v (h v (by simp)), ih fun u hu => h u (by simp [hu])⟩
    show SRep F w σ.en μ fp v (ofC v)
    have plain : v.oneCell' = true → SRep F w σ.en μ fp v (ofC1 v) := by
      intro hv
      have := c1 v hv
      unfold ofC1 at this ⊢
      split at this <;> exact this
    cases v with
    | agg cs' =>
      simp only [ofC]
      split
      · rename_i hall
        exact ⟨cs', rfl, cs _ fun v hv => by simpa using Array.all_eq_true_iff_forall_mem.1 hall v (by simpa using hv)⟩
      · trivial
    | tuple cs' =>
      simp only [ofC]
      split
      · rename_i hall
        refine ⟨cs', rfl, ?_⟩
        have := cs cs'.toList fun v hv => by simpa using Array.all_eq_true_iff_forall_mem.1 hall v (by simpa using hv)
        refine All2.mk this.length fun i v x hv hx => ?_
        obtain ⟨v', hv', h'⟩ := this.get hx
        rw [hv] at hv'; cases hv'
        rw [List.getElem?_map] at hx
        obtain ⟨y, _, rfl⟩ := Option.map_eq_some_iff.1 hx
        unfold ofC1 at h' ⊢
        split at h' <;> exact h'
      · trivial
    | _ => exact plain rfl
  | func f => exact RepL.clo (us := []) .nil .nil
  | global g => trivial

theorem SRep.int_inv {v : Value} {k : IntKind} {i : Int} (h : SRep F w σ.en μ fp v (.int k i)) : v = .int k i := by
  have h : RepL F w [v] [.int k i] [] := h
  cases h; rfl
theorem SRep.bool_inv {v : Value} {b : Bool} (h : SRep F w σ.en μ fp v (.bool b)) : v = .bool b := by
  have h : RepL F w [v] [.bool b] [] := h
  cases h; rfl
theorem SRep.str_inv {v : Value} {s : ByteArray} (h : SRep F w σ.en μ fp v (.str s)) : v = .string s := by
  have h : RepL F w [v] [.str s] [] := h
  cases h; rfl

/-- An operation that hands back one value and leaves the world alone: the same value in every world that bears the blocks of this one. -/
def OpPure (C : Cfg) (F : Nat → Prop) (μ : Nat → Option Nat) (fp : Nat → List Nat) (σ : St) (o : Oper) (a : Act) (w : World) (σ' : St) : Prop :=
  ∃ v x, σ' = σ.put o.dst x ∧ SRep F w σ.en μ fp v x ∧ ∀ w', KeptS w w' (fun _ => False) → (execOp a.eval o).run C.P w' = .ok (.value v) w'

theorem OpPure.mk' {v : Value} {x : AV} (hr : ∀ w', KeptS w w' (fun _ => False) → (execOp a.eval o).run C.P w' = .ok (.value v) w') (hx : SRep F w σ.en μ fp v x) : OpPure C F μ fp σ o a w (σ.put o.dst x) := ⟨v, x, rfl, hx, hr⟩

theorem OpPure.ok (hp : OpPure C F μ fp σ o a w σ') (h : Rel n w0 F0 S0 G F μ fp [] σ a w) (hd : ∀ k, o.dst = some k → k < n) : OpOk C n w0 F0 S0 G o a w σ' := by
  obtain ⟨v, x, rfl, hx, hr⟩ := hp
  exact ⟨v, w, .inl (hr w (KeptS.refl _ _)), F, μ, fp, h.putO hd hx⟩

theorem op_move (h : Rel n w0 F0 S0 G F μ fp [] σ a w) {x : Operand} (ho : o.op = .move x ∨ o.op = .assign x) : OpPure C F μ fp σ o a w (σ.put o.dst (σ.get x)) :=
  .mk' (v := a.eval x) (fun w' _ => by rcases ho with ho | ho <;> simp [execOp, ho]) (h.get x)

theorem op_pick (h : Rel n w0 F0 S0 G F μ fp [] σ a w) {c x y : Operand} {t : Bool} (ho : o.op = .pick c x y) (hc : σ.get c = .bool t) :
    OpPure C F μ fp σ o a w (σ.put o.dst (if t then σ.get x else σ.get y)) := by
  have e : a.eval c = .bool t := SRep.bool_inv (hc ▸ h.get c)
  refine .mk' (v := if t then a.eval x else a.eval y) (fun w' _ => by simp [execOp, ho, e, asBool]) ?_
  cases t
  · simpa using h.get y
  · simpa using h.get x

theorem run_binInt {k : IntKind} {p q : Int} {op : BinOp} {x : AV} (hop : binInt op k p q = some x) (t : TypeId) : ∃ v, (∀ w', (binOp op t (.int k p) (.int k q)).run C.P w' = .ok v w') ∧ SRep F w σ.en μ fp v x := by
  cases op <;> simp only [binInt, Option.some.injEq, reduceCtorEq] at hop
  case quo =>
    split at hop
    · cases hop
    · rename_i hq; cases hop; exact ⟨_, fun w' => by simp [binOp, Op.intDiv, hq], RepL.int RepL.nil⟩
  case rem =>
    split at hop
    · cases hop
    · rename_i hq; cases hop; exact ⟨_, fun w' => by simp [binOp, Op.intDiv, hq], RepL.int RepL.nil⟩
  all_goals (subst hop)
  case add => exact ⟨_, fun w' => by simp [binOp, Op.intArith], RepL.int RepL.nil⟩
  case sub => exact ⟨_, fun w' => by simp [binOp, Op.intArith], RepL.int RepL.nil⟩
  case mul => exact ⟨_, fun w' => by simp [binOp, Op.intArith], RepL.int RepL.nil⟩
  case and => exact ⟨_, fun w' => by simp [binOp, Op.intBits], RepL.int RepL.nil⟩
  case or => exact ⟨_, fun w' => by simp [binOp, Op.intBits], RepL.int RepL.nil⟩
  case xor => exact ⟨_, fun w' => by simp [binOp, Op.intBits], RepL.int RepL.nil⟩
  case andNot => exact ⟨_, fun w' => by simp [binOp, Op.intBits], RepL.int RepL.nil⟩
  case eql => exact ⟨_, fun w' => by simp [binOp, Op.intCmp], RepL.bool RepL.nil⟩
  case neq => exact ⟨_, fun w' => by simp [binOp, Op.intCmp], RepL.bool RepL.nil⟩
  case lss => exact ⟨_, fun w' => by simp [binOp, Op.intCmp], RepL.bool RepL.nil⟩
  case leq => exact ⟨_, fun w' => by simp [binOp, Op.intCmp], RepL.bool RepL.nil⟩
  case gtr => exact ⟨_, fun w' => by simp [binOp, Op.intCmp], RepL.bool RepL.nil⟩
  case geq => exact ⟨_, fun w' => by simp [binOp, Op.intCmp], RepL.bool RepL.nil⟩

theorem run_binStr {p q : ByteArray} {op : BinOp} {x : AV} (hop : binStr op p q = some x) (t : TypeId) : ∃ v, (∀ w', (binOp op t (.string p) (.string q)).run C.P w' = .ok v w') ∧ SRep F w σ.en μ fp v x := by
  cases op <;> simp only [binStr, Option.some.injEq, reduceCtorEq] at hop
  case add =>
    split at hop
    · cases hop
    · rename_i hq; cases hop
      refine ⟨_, fun w' => ?_, RepL.str RepL.nil⟩
      have h63 : ¬ (9223372036854775807 < ((p.size : Int) + (q.size : Int))) := by omega
      simp only [binOp, Op.stringOp]
      rw [if_neg]
      · rfl
      · have : IntKind.i64.max = 9223372036854775807 := by decide
        rw [this]; omega
  all_goals (subst hop)
  case eql => exact ⟨_, fun w' => by simp [binOp, Op.stringOp], RepL.bool RepL.nil⟩
  case neq => exact ⟨_, fun w' => by simp [binOp, Op.stringOp], RepL.bool RepL.nil⟩
  case lss => exact ⟨_, fun w' => by simp [binOp, Op.stringOp], RepL.bool RepL.nil⟩
  case leq => exact ⟨_, fun w' => by simp [binOp, Op.stringOp], RepL.bool RepL.nil⟩
  case gtr => exact ⟨_, fun w' => by simp [binOp, Op.stringOp], RepL.bool RepL.nil⟩
  case geq => exact ⟨_, fun w' => by simp [binOp, Op.stringOp], RepL.bool RepL.nil⟩

theorem run_equalIn_bool {t : TypeId} (ht : C.P.underlying t = some .bool) (d : Nat) (x y : Bool) : (Op.equalIn (d + 1) t (.bool x) (.bool y)).run C.P w = .ok (x == y) w := by
  simp [Op.equalIn, run_underlying ht]

theorem run_eqGuard_plain (op : BinOp) (t : TypeId) (x y : Operand) (u v : Value) (h1 : u ≠ .nilIface) (h2 : ∀ cs, u ≠ .agg cs) : (eqGuard op t x y u v).run C.P w = .ok () w := by
  unfold eqGuard
  cases op <;> (first | rfl | skip)
  all_goals
    simp only [Bool.not_true, Bool.false_eq_true, if_false]
    cases u <;> first | exact absurd rfl h1 | exact absurd rfl (h2 _) | rfl

theorem kinds_toV {en : Nat → Ent} : ∀ {ks : List TD} {xs : List AV} {vs : List Value}, kindsOk ks xs = true → All2 (SLeaf F w en μ fp) vs xs → vs = xs.map toV
  | [], [], [], _, _ => rfl
  | k :: ks, x :: xs, v :: vs, hk, ⟨h1, h2⟩ => by
    simp only [kindsOk, Bool.and_eq_true] at hk
    have ih := kinds_toV hk.2 h2
    have e : v = toV x := by
      cases x <;> cases k <;> simp only [kindOk, Bool.false_eq_true, false_and] at hk <;> (have h1 : RepL F w [v] [_] [] := h1; cases h1; rfl)
    rw [List.map_cons, ← ih, ← e]
  | _ :: _, [], _, hk, _ => by simp [kindsOk] at hk
  | [], _ :: _, _, hk, _ => by simp [kindsOk] at hk
  | _, _ :: _, [], _, h => h.elim
  | _, [], _ :: _, _, h => h.elim

theorem run_binF (hC : CfgOk C) {u v : Value} {p q r : AV} {op : BinOp} {t : TypeId} (x y : Operand) (hu : SRep F w σ.en μ fp u p) (hv : SRep F w σ.en μ fp v q) (hop : binF C op t p q = some r) :
    (∃ r', (∀ w', (binOp op t u v).run C.P w' = .ok r' w') ∧ SRep F w σ.en μ fp r' r) ∧ ∀ w', (eqGuard op t x y u v).run C.P w' = .ok () w' := by
  have plain : ∀ {u v : Value}, u ≠ .nilIface → (∀ cs, u ≠ .agg cs) → ∀ w', (eqGuard op t x y u v).run C.P w' = .ok () w' := fun h1 h2 w' => run_eqGuard_plain op t x y _ _ h1 h2
  unfold binF at hop
  split at hop
  · rename_i k i k' j
    obtain rfl := SRep.int_inv hu
    obtain rfl := SRep.int_inv hv
    refine ⟨?_, plain (by simp) (by simp)⟩
    split at hop
    · split at hop
      · cases hop
      · rename_i hj; cases hop; exact ⟨_, fun w' => by simp [binOp, Op.shift, hj], RepL.int RepL.nil⟩
    · split at hop
      · cases hop
      · rename_i hj; cases hop; exact ⟨_, fun w' => by simp [binOp, Op.shift, hj], RepL.int RepL.nil⟩
    · split at hop
      · rename_i hk; subst hk; exact run_binInt hop t
      · cases hop
  · obtain rfl := SRep.str_inv hu
    obtain rfl := SRep.str_inv hv
    exact ⟨run_binStr hop t, plain (by simp) (by simp)⟩
  · obtain rfl := SRep.bool_inv hu
    obtain rfl := SRep.bool_inv hv
    refine ⟨?_, plain (by simp) (by simp)⟩
    simp only [Option.bind_eq_bind, Option.bind_eq_some_iff] at hop
    obtain ⟨T, hT, hop⟩ := hop
    have hd := (hC.tt t T hT).desc
    split at hop
    · rename_i hb
      cases hop
      rw [hb] at hd
      refine ⟨_, fun w' => ?_, RepL.bool RepL.nil⟩
      simp only [binOp, Op.equal, Op.maxDepth, Sem.run_bind, run_equalIn_bool (w := w') hd 9999, Result.andThen_ok, Sem.run_pure]
    · rename_i hb
      cases hop
      rw [hb] at hd
      refine ⟨_, fun w' => ?_, RepL.bool RepL.nil⟩
      simp only [binOp, Op.equal, Op.maxDepth, Sem.run_bind, run_equalIn_bool (w := w') hd 9999, Result.andThen_ok, Sem.run_pure]
    · cases hop
  · rename_i as bs
    simp only [Option.bind_eq_bind, Option.bind_eq_some_iff] at hop
    obtain ⟨ks, hks, _, hen, r0, hr, hop⟩ := hop
    unfold ensure at hen
    split at hen
    case isFalse => cases hen
    rename_i hk
    obtain ⟨cs, rfl, h1⟩ := hu
    obtain ⟨ds, rfl, h2⟩ := hv
    obtain ⟨hg, he⟩ := hC.eqs t ks hks
    have e1 : cs = (as.map toV).toArray := by apply Array.ext'; simpa using kinds_toV hk.1 h1
    have e2 : ds = (bs.map toV).toArray := by apply Array.ext'; simpa using kinds_toV hk.2 h2
    have heq := fun w' => he as bs r0 w' hk.1 hk.2 hr
    rw [← e1, ← e2] at heq
    refine ⟨?_, hg op x y cs ds⟩
    split at hop
    · cases hop
      exact ⟨_, fun w' => by simp only [binOp, Sem.run_bind, heq w', Result.andThen_ok, Sem.run_pure], RepL.bool RepL.nil⟩
    · cases hop
      exact ⟨_, fun w' => by simp only [binOp, Sem.run_bind, heq w', Result.andThen_ok, Sem.run_pure], RepL.bool RepL.nil⟩
    · cases hop
  · cases hop

theorem op_bin (hC : CfgOk C) (h : Rel n w0 F0 S0 G F μ fp [] σ a w) {op : BinOp} {t t' : TypeId} {x y : Operand} {r : AV} (ho : o.op = .binOp op t x y t') (hr : binF C op t (σ.get x) (σ.get y) = some r) :
    OpPure C F μ fp σ o a w (σ.put o.dst r) := by
  obtain ⟨⟨v, hv, hx⟩, hg⟩ := run_binF (F := F) (μ := μ) (fp := fp) (w := w) hC x y (h.get x) (h.get y) hr
  refine .mk' (v := v) (fun w' _ => ?_) hx
  simp only [execOp, ho, Sem.run_bind, hg w', Result.andThen_ok, hv w', Sem.run_pure]

theorem op_un (h : Rel n w0 F0 S0 G F μ fp [] σ a w) {op : UnOp} {t : TypeId} {x : Operand} {r : AV} (ho : o.op = .unOp op t x) (hr : unF op (σ.get x) = some r) :
    OpPure C F μ fp σ o a w (σ.put o.dst r) := by
  unfold unF at hr
  have hx := h.get x
  split at hr
  · rename_i k i e
    rw [e] at hx
    cases hr
    refine .mk' (v := .int k (k.wrap (0 - i))) ?_ (RepL.int .nil)
    intro w' _
    simp [execOp, ho, SRep.int_inv hx, Op.unary, Op.intArith]
  · rename_i k i e
    rw [e] at hx
    cases hr
    refine .mk' (v := .int k (k.wrap (BitVec.ofInt k.bits (if k.signed then -1 else k.max) ^^^ BitVec.ofInt k.bits i).toNat)) ?_ (RepL.int .nil)
    intro w' _
    simp [execOp, ho, SRep.int_inv hx, Op.unary, Op.intBits]
  · rename_i b e
    rw [e] at hx
    cases hr
    refine .mk' (v := .bool !b) ?_ (RepL.bool .nil)
    intro w' _
    simp [execOp, ho, SRep.bool_inv hx, Op.unary]
  · cases hr

end
end Go.Vm
