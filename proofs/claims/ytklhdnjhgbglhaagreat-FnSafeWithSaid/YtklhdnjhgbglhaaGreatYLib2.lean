/- A part of the evaluator of the walks. Conditions: none but those ahead of each theorem. -/
import Derived.Test.YtklhdnjhgbglhaaGreatYLib1
import Derived.Laws.Entries
import Derived.Deep.MidRow
import Derived.Deep.AppendSrc
import Derived.Laws.Slices
section
/- The operations, one by one: what the evaluator says is what the machine does. -/
namespace Go.Vm
def descOk (P : Program) (t : TypeId) : TD → Prop
  | .int k => P.underlying t = some (.int k)
  | .bool => P.underlying t = some .bool
  | .string => P.underlying t = some .string
  | .slice e => P.underlying t = some (.slice e)
  | .struct fs => ∃ fields, P.underlying t = some (.struct fields) ∧ fs.length = fields.size ∧ ∀ (i off ty : Nat), fs[i]? = some (off, ty) → ∃ fd, fields[i]? = some fd ∧ fd.offset = off ∧ fd.type = ty
  | .pointer e => P.underlying t = some (.pointer e)
  | .map k e => P.underlying t = some (.map k e)
  | .other => ∃ d, P.underlying t = some d ∧ d.isRow = false
structure TIok (P : Program) (t : TypeId) (T : TI) : Prop where
  info : ∃ i z, P.info? t = some i ∧ i.size = T.sz ∧ i.bytes = T.bytes ∧ i.zero = some z ∧ z.cells.size = T.sz ∧ (∀ F w, RepL F w z.cells.toList T.zero []) ∧ (T.desc.isStruct = false → z.cells = #[z])
  desc : descOk P t T.desc
  pos : 0 < T.sz ∧ 0 < T.bytes
  noOwn : T.zero.all noOwn = true
def toV : AV → Value
  | .int k n => .int k n
  | .bool b => .bool b
  | .str s => .string s
  | _ => undef
structure EqOk (P : Program) (t : TypeId) (ks : List TD) : Prop where
  guard : ∀ (op : BinOp) (x y : Operand) (xs ys : Array Value) (w : World), (eqGuard op t x y (.agg xs) (.agg ys)).run P w = .ok () w
  equal : ∀ (as bs : List AV) (r : Bool) (w : World), kindsOk ks as = true → kindsOk ks bs = true → eqCells as bs = some r → (Op.equal t (.agg (as.map toV).toArray) (.agg (bs.map toV).toArray)).run P w = .ok r w
structure CfgOk (C : Cfg) : Prop where
  eqs : ∀ t ks, C.eqs t = some ks → EqOk C.P t ks
  tt : ∀ t T, C.tt t = some T → TIok C.P t T
  mixed : C.P.follows .mixedOrders = true
section
variable {C : Cfg} {n : Nat} {w0 : World} {F0 S0 F : Nat → Prop} {G : Value → AV → Prop} {μ : Nat → Option Nat} {fp : Nat → List Nat} {L : List Nat} {σ σ' : St} {a : Act} {w w' : World} {o : Oper}
def OpOk (C : Cfg) (n : Nat) (w0 : World) (F0 S0 : Nat → Prop) (G : Value → AV → Prop) (o : Oper) (a : Act) (w : World) (σ' : St) : Prop :=
  ∃ v w', ((execOp a.eval o).run C.P w = .ok (.value v) w' ∨ ((execOp a.eval o).run C.P w = .ok .skip w' ∧ v = undef)) ∧ ∃ F' μ' fp', Rel n w0 F0 S0 G F' μ' fp' [] σ' (a.put o.dst v) w'
theorem Rel.putO (h : Rel n w0 F0 S0 G F μ fp L σ a w) {d : Option Nat} (hd : ∀ k, d = some k → k < n) {v : Value} {x : AV} (hx : SRep F w σ.en μ fp v x) :
    Rel n w0 F0 S0 G F μ fp L (σ.put d x) (a.put d v) w := by
  cases d with
  | none => exact h
  | some d => exact h.put (hd d rfl) hx
theorem Rel.get (h : Rel n w0 F0 S0 G F μ fp L σ a w) (x : Operand) : SRep F w σ.en μ fp (a.eval x) (σ.get x) := by
  cases x with
  | tmp t => exact h.slots t
  | const v =>
    have c1 : ∀ v : Value, v.oneCell' = true → SLeaf F w σ.en μ fp v (ofC1 v) := by
      intro v hv
      unfold ofC1
      split
      · exact RepL.int .nil
      · exact RepL.bool .nil
      · exact RepL.str .nil
      · exact RepL.fro0 (by simp) .nil
      · exact RepL.und hv .nil
    have cs : ∀ l : List Value, (∀ v ∈ l, v.oneCell' = true) → All2 (SLeaf F w σ.en μ fp) l (l.map ofC1) := by
      intro l
      induction l with
      | nil => exact fun _ => trivial
      | cons v vs ih => exact fun h => ⟨c1 v (h v (by simp)), ih fun u hu => h u (by simp [hu])⟩
    show SRep F w σ.en μ fp v (ofC v)
    have plain : v.oneCell' = true → SRep F w σ.en μ fp v (ofC1 v) := by
      intro hv
      have := c1 v hv
      unfold ofC1 at this ⊢
      split at this <;> exact this
    cases v with
    | agg cs' =>
      simp only [ofC]
      split
      · rename_i hall
        exact ⟨cs', rfl, cs _ fun v hv => by simpa using Array.all_eq_true_iff_forall_mem.1 hall v (by simpa using hv)⟩
      · trivial
    | tuple cs' =>
      simp only [ofC]
      split
      · rename_i hall
        refine ⟨cs', rfl, ?_⟩
        have := cs cs'.toList fun v hv => by simpa using Array.all_eq_true_iff_forall_mem.1 hall v (by simpa using hv)
        refine All2.mk this.length fun i v x hv hx => ?_
        obtain ⟨v', hv', h'⟩ := this.get hx
        rw [hv] at hv'; cases hv'
        rw [List.getElem?_map] at hx
        obtain ⟨y, _, rfl⟩ := Option.map_eq_some_iff.1 hx
        unfold ofC1 at h' ⊢
        split at h' <;> exact h'
      · trivial
    | _ => exact plain rfl
  | func f => exact RepL.clo (us := []) .nil .nil
  | global g => trivial
theorem SRep.int_inv {v : Value} {k : IntKind} {i : Int} (h : SRep F w σ.en μ fp v (.int k i)) : v = .int k i := by
  have h : RepL F w [v] [.int k i] [] := h
  cases h; rfl
theorem SRep.bool_inv {v : Value} {b : Bool} (h : SRep F w σ.en μ fp v (.bool b)) : v = .bool b := by
  have h : RepL F w [v] [.bool b] [] := h
  cases h; rfl
theorem SRep.str_inv {v : Value} {s : ByteArray} (h : SRep F w σ.en μ fp v (.str s)) : v = .string s := by
  have h : RepL F w [v] [.str s] [] := h
  cases h; rfl
def OpPure (C : Cfg) (F : Nat → Prop) (μ : Nat → Option Nat) (fp : Nat → List Nat) (σ : St) (o : Oper) (a : Act) (w : World) (σ' : St) : Prop :=
  ∃ v x, σ' = σ.put o.dst x ∧ SRep F w σ.en μ fp v x ∧ ∀ w', KeptS w w' (fun _ => False) → (execOp a.eval o).run C.P w' = .ok (.value v) w'
theorem OpPure.mk' {v : Value} {x : AV} (hr : ∀ w', KeptS w w' (fun _ => False) → (execOp a.eval o).run C.P w' = .ok (.value v) w') (hx : SRep F w σ.en μ fp v x) : OpPure C F μ fp σ o a w (σ.put o.dst x) := ⟨v, x, rfl, hx, hr⟩
theorem OpPure.ok (hp : OpPure C F μ fp σ o a w σ') (h : Rel n w0 F0 S0 G F μ fp [] σ a w) (hd : ∀ k, o.dst = some k → k < n) : OpOk C n w0 F0 S0 G o a w σ' := by
  obtain ⟨v, x, rfl, hx, hr⟩ := hp
  exact ⟨v, w, .inl (hr w (KeptS.refl _ _)), F, μ, fp, h.putO hd hx⟩
theorem op_move (h : Rel n w0 F0 S0 G F μ fp [] σ a w) {x : Operand} (ho : o.op = .move x ∨ o.op = .assign x) : OpPure C F μ fp σ o a w (σ.put o.dst (σ.get x)) :=
  .mk' (v := a.eval x) (fun w' _ => by rcases ho with ho | ho <;> simp [execOp, ho]) (h.get x)
theorem op_pick (h : Rel n w0 F0 S0 G F μ fp [] σ a w) {c x y : Operand} {t : Bool} (ho : o.op = .pick c x y) (hc : σ.get c = .bool t) :
    OpPure C F μ fp σ o a w (σ.put o.dst (if t then σ.get x else σ.get y)) := by
  have e : a.eval c = .bool t := SRep.bool_inv (hc ▸ h.get c)
  refine .mk' (v := if t then a.eval x else a.eval y) (fun w' _ => by simp [execOp, ho, e, asBool]) ?_
  cases t
  · simpa using h.get y
  · simpa using h.get x
theorem run_binInt {k : IntKind} {p q : Int} {op : BinOp} {x : AV} (hop : binInt op k p q = some x) (t : TypeId) : ∃ v, (∀ w', (binOp op t (.int k p) (.int k q)).run C.P w' = .ok v w') ∧ SRep F w σ.en μ fp v x := by
  cases op <;> simp only [binInt, Option.some.injEq, reduceCtorEq] at hop
  case quo =>
    split at hop
    · cases hop
    · rename_i hq; cases hop; exact ⟨_, fun w' => by simp [binOp, Op.intDiv, hq], RepL.int RepL.nil⟩
  case rem =>
    split at hop
    · cases hop
    · rename_i hq; cases hop; exact ⟨_, fun w' => by simp [binOp, Op.intDiv, hq], RepL.int RepL.nil⟩
  all_goals (subst hop)
  case add => exact ⟨_, fun w' => by simp [binOp, Op.intArith], RepL.int RepL.nil⟩
  case sub => exact ⟨_, fun w' => by simp [binOp, Op.intArith], RepL.int RepL.nil⟩
  case mul => exact ⟨_, fun w' => by simp [binOp, Op.intArith], RepL.int RepL.nil⟩
  case and => exact ⟨_, fun w' => by simp [binOp, Op.intBits], RepL.int RepL.nil⟩
  case or => exact ⟨_, fun w' => by simp [binOp, Op.intBits], RepL.int RepL.nil⟩
  case xor => exact ⟨_, fun w' => by simp [binOp, Op.intBits], RepL.int RepL.nil⟩
  case andNot => exact ⟨_, fun w' => by simp [binOp, Op.intBits], RepL.int RepL.nil⟩
  case eql => exact ⟨_, fun w' => by simp [binOp, Op.intCmp], RepL.bool RepL.nil⟩
  case neq => exact ⟨_, fun w' => by simp [binOp, Op.intCmp], RepL.bool RepL.nil⟩
  case lss => exact ⟨_, fun w' => by simp [binOp, Op.intCmp], RepL.bool RepL.nil⟩
  case leq => exact ⟨_, fun w' => by simp [binOp, Op.intCmp], RepL.bool RepL.nil⟩
  case gtr => exact ⟨_, fun w' => by simp [binOp, Op.intCmp], RepL.bool RepL.nil⟩
  case geq => exact ⟨_, fun w' => by simp [binOp, Op.intCmp], RepL.bool RepL.nil⟩
theorem run_binStr {p q : ByteArray} {op : BinOp} {x : AV} (hop : binStr op p q = some x) (t : TypeId) : ∃ v, (∀ w', (binOp op t (.string p) (.string q)).run C.P w' = .ok v w') ∧ SRep F w σ.en μ fp v x := by
  cases op <;> simp only [binStr, Option.some.injEq, reduceCtorEq] at hop
  case add =>
    split at hop
    · cases hop
    · rename_i hq; cases hop
      refine ⟨_, fun w' => ?_, RepL.str RepL.nil⟩
      have h63 : ¬ (9223372036854775807 < ((p.size : Int) + (q.size : Int))) := by omega
      simp only [binOp, Op.stringOp]
      rw [if_neg]
      · rfl
      · have : IntKind.i64.max = 9223372036854775807 := by decide
        rw [this]; omega
  all_goals (subst hop)
  case eql => exact ⟨_, fun w' => by simp [binOp, Op.stringOp], RepL.bool RepL.nil⟩
  case neq => exact ⟨_, fun w' => by simp [binOp, Op.stringOp], RepL.bool RepL.nil⟩
  case lss => exact ⟨_, fun w' => by simp [binOp, Op.stringOp], RepL.bool RepL.nil⟩
  case leq => exact ⟨_, fun w' => by simp [binOp, Op.stringOp], RepL.bool RepL.nil⟩
  case gtr => exact ⟨_, fun w' => by simp [binOp, Op.stringOp], RepL.bool RepL.nil⟩
  case geq => exact ⟨_, fun w' => by simp [binOp, Op.stringOp], RepL.bool RepL.nil⟩
theorem run_equalIn_bool {t : TypeId} (ht : C.P.underlying t = some .bool) (d : Nat) (x y : Bool) : (Op.equalIn (d + 1) t (.bool x) (.bool y)).run C.P w = .ok (x == y) w := by
  simp [Op.equalIn, run_underlying ht]
theorem run_eqGuard_plain (op : BinOp) (t : TypeId) (x y : Operand) (u v : Value) (h1 : u ≠ .nilIface) (h2 : ∀ cs, u ≠ .agg cs) : (eqGuard op t x y u v).run C.P w = .ok () w := by
  unfold eqGuard
  cases op <;> (first | rfl | skip)
  all_goals
    simp only [Bool.not_true, Bool.false_eq_true, if_false]
    cases u <;> first | exact absurd rfl h1 | exact absurd rfl (h2 _) | rfl
theorem kinds_toV {en : Nat → Ent} : ∀ {ks : List TD} {xs : List AV} {vs : List Value}, kindsOk ks xs = true → All2 (SLeaf F w en μ fp) vs xs → vs = xs.map toV
  | [], [], [], _, _ => rfl
  | k :: ks, x :: xs, v :: vs, hk, ⟨h1, h2⟩ => by
    simp only [kindsOk, Bool.and_eq_true] at hk
    have ih := kinds_toV hk.2 h2
    have e : v = toV x := by
      cases x <;> cases k <;> simp only [kindOk, Bool.false_eq_true, false_and] at hk <;> (have h1 : RepL F w [v] [_] [] := h1; cases h1; rfl)
    rw [List.map_cons, ← ih, ← e]
  | _ :: _, [], _, hk, _ => by simp [kindsOk] at hk
  | [], _ :: _, _, hk, _ => by simp [kindsOk] at hk
  | _, _ :: _, [], _, h => h.elim
  | _, [], _ :: _, _, h => h.elim
theorem run_binF (hC : CfgOk C) {u v : Value} {p q r : AV} {op : BinOp} {t : TypeId} (x y : Operand) (hu : SRep F w σ.en μ fp u p) (hv : SRep F w σ.en μ fp v q) (hop : binF C op t p q = some r) :
    (∃ r', (∀ w', (binOp op t u v).run C.P w' = .ok r' w') ∧ SRep F w σ.en μ fp r' r) ∧ ∀ w', (eqGuard op t x y u v).run C.P w' = .ok () w' := by
  have plain : ∀ {u v : Value}, u ≠ .nilIface → (∀ cs, u ≠ .agg cs) → ∀ w', (eqGuard op t x y u v).run C.P w' = .ok () w' := fun h1 h2 w' => run_eqGuard_plain op t x y _ _ h1 h2
  unfold binF at hop
  split at hop
  · rename_i k i k' j
    obtain rfl := SRep.int_inv hu
    obtain rfl := SRep.int_inv hv
    refine ⟨?_, plain (by simp) (by simp)⟩
    split at hop
    · split at hop
      · cases hop
      · rename_i hj; cases hop; exact ⟨_, fun w' => by simp [binOp, Op.shift, hj], RepL.int RepL.nil⟩
    · split at hop
      · cases hop
      · rename_i hj; cases hop; exact ⟨_, fun w' => by simp [binOp, Op.shift, hj], RepL.int RepL.nil⟩
    · split at hop
      · rename_i hk; subst hk; exact run_binInt hop t
      · cases hop
  · obtain rfl := SRep.str_inv hu
    obtain rfl := SRep.str_inv hv
    exact ⟨run_binStr hop t, plain (by simp) (by simp)⟩
  · obtain rfl := SRep.bool_inv hu
    obtain rfl := SRep.bool_inv hv
    refine ⟨?_, plain (by simp) (by simp)⟩
    simp only [Option.bind_eq_bind, Option.bind_eq_some_iff] at hop
    obtain ⟨T, hT, hop⟩ := hop
    have hd := (hC.tt t T hT).desc
    split at hop
    · rename_i hb
      cases hop
      rw [hb] at hd
      refine ⟨_, fun w' => ?_, RepL.bool RepL.nil⟩
      simp only [binOp, Op.equal, Op.maxDepth, Sem.run_bind, run_equalIn_bool (w := w') hd 9999, Result.andThen_ok, Sem.run_pure]
    · rename_i hb
      cases hop
      rw [hb] at hd
      refine ⟨_, fun w' => ?_, RepL.bool RepL.nil⟩
      simp only [binOp, Op.equal, Op.maxDepth, Sem.run_bind, run_equalIn_bool (w := w') hd 9999, Result.andThen_ok, Sem.run_pure]
    · cases hop
  · rename_i as bs
    simp only [Option.bind_eq_bind, Option.bind_eq_some_iff] at hop
    obtain ⟨ks, hks, _, hen, r0, hr, hop⟩ := hop
    unfold ensure at hen
    split at hen
    case isFalse => cases hen
    rename_i hk
    obtain ⟨cs, rfl, h1⟩ := hu
    obtain ⟨ds, rfl, h2⟩ := hv
    obtain ⟨hg, he⟩ := hC.eqs t ks hks
    have e1 : cs = (as.map toV).toArray := by apply Array.ext'; simpa using kinds_toV hk.1 h1
    have e2 : ds = (bs.map toV).toArray := by apply Array.ext'; simpa using kinds_toV hk.2 h2
    have heq := fun w' => he as bs r0 w' hk.1 hk.2 hr
    rw [← e1, ← e2] at heq
    refine ⟨?_, hg op x y cs ds⟩
    split at hop
    · cases hop
      exact ⟨_, fun w' => by simp only [binOp, Sem.run_bind, heq w', Result.andThen_ok, Sem.run_pure], RepL.bool RepL.nil⟩
    · cases hop
      exact ⟨_, fun w' => by simp only [binOp, Sem.run_bind, heq w', Result.andThen_ok, Sem.run_pure], RepL.bool RepL.nil⟩
    · cases hop
  · cases hop
theorem op_bin (hC : CfgOk C) (h : Rel n w0 F0 S0 G F μ fp [] σ a w) {op : BinOp} {t t' : TypeId} {x y : Operand} {r : AV} (ho : o.op = .binOp op t x y t') (hr : binF C op t (σ.get x) (σ.get y) = some r) :
    OpPure C F μ fp σ o a w (σ.put o.dst r) := by
  obtain ⟨⟨v, hv, hx⟩, hg⟩ := run_binF (F := F) (μ := μ) (fp := fp) (w := w) hC x y (h.get x) (h.get y) hr
  refine .mk' (v := v) (fun w' _ => ?_) hx
  simp only [execOp, ho, Sem.run_bind, hg w', Result.andThen_ok, hv w', Sem.run_pure]
theorem op_un (h : Rel n w0 F0 S0 G F μ fp [] σ a w) {op : UnOp} {t : TypeId} {x : Operand} {r : AV} (ho : o.op = .unOp op t x) (hr : unF op (σ.get x) = some r) :
    OpPure C F μ fp σ o a w (σ.put o.dst r) := by
  unfold unF at hr
  have hx := h.get x
  split at hr
  · rename_i k i e
    rw [e] at hx
    cases hr
    refine .mk' (v := .int k (k.wrap (0 - i))) ?_ (RepL.int .nil)
    intro w' _
    simp [execOp, ho, SRep.int_inv hx, Op.unary, Op.intArith]
  · rename_i k i e
    rw [e] at hx
    cases hr
    refine .mk' (v := .int k (k.wrap (BitVec.ofInt k.bits (if k.signed then -1 else k.max) ^^^ BitVec.ofInt k.bits i).toNat)) ?_ (RepL.int .nil)
    intro w' _
    simp [execOp, ho, SRep.int_inv hx, Op.unary, Op.intBits]
  · rename_i b e
    rw [e] at hx
    cases hr
    refine .mk' (v := .bool !b) ?_ (RepL.bool .nil)
    intro w' _
    simp [execOp, ho, SRep.bool_inv hx, Op.unary]
  · cases hr
end
end Go.Vm
end
section
/- Reads. -/
namespace Go.Vm
section
variable {C : Cfg} {n : Nat} {w0 : World} {F0 S0 F : Nat → Prop} {G : Value → AV → Prop} {μ : Nat → Option Nat} {fp : Nat → List Nat} {L : List Nat} {σ σ' : St} {a : Act} {w w' : World} {o : Oper}
theorem All2.drop {α β : Type} {R : α → β → Prop} : ∀ (k : Nat) {as : List α} {bs : List β}, All2 R as bs → All2 R (as.drop k) (bs.drop k)
  | 0, _, _, h => h
  | _ + 1, [], [], _ => trivial
  | k + 1, _ :: _, _ :: _, ⟨_, h⟩ => by simpa using All2.drop k h
  | _ + 1, [], _ :: _, h => h.elim
  | _ + 1, _ :: _, [], h => h.elim
theorem All2.take {α β : Type} {R : α → β → Prop} : ∀ (k : Nat) {as : List α} {bs : List β}, All2 R as bs → All2 R (as.take k) (bs.take k)
  | 0, _, _, _ => trivial
  | _ + 1, [], [], _ => trivial
  | k + 1, _ :: _, _ :: _, ⟨h1, h⟩ => ⟨h1, by simpa using All2.take k h⟩
  | _ + 1, [], _ :: _, h => h.elim
  | _ + 1, _ :: _, [], h => h.elim
theorem ensure_some {c : Prop} [Decidable c] {u : Unit} (h : ensure c = some u) : c := by
  unfold ensure at h; split at h <;> first | assumption | cases h
theorem TIok.size {t : TypeId} {T : TI} (h : TIok C.P t T) (w : World) : (sizeOf t).run C.P w = .ok T.sz w := by
  obtain ⟨i, z, hi, hs, _⟩ := h.info
  simp [sizeOf, typeInfo, hi, hs]
theorem TIok.isAgg {t : TypeId} {T : TI} (h : TIok C.P t T) (w : World) : (isAgg t).run C.P w = .ok T.desc.isStruct w := by
  have hd := h.desc
  unfold Go.isAgg
  cases ht : T.desc <;> rw [ht] at hd <;> simp only [descOk] at hd
  case struct fs => obtain ⟨fields, hd, _⟩ := hd; simp [run_underlying hd, TD.isStruct]
  case other => obtain ⟨d, hd, hr⟩ := hd; cases d <;> simp_all [run_underlying hd, TD.isStruct, TypeDesc.isRow]
  all_goals simp [run_underlying hd, TD.isStruct]
theorem SRep.mkV {s : Bool} {vs : List Value} {ls : List AV} (h : All2 (SLeaf F w σ.en μ fp) vs ls) (hs : s = false → ls ≠ []) :
    SRep F w σ.en μ fp (if s then .agg vs.toArray else vs.headD undef) (mkV s ls) := by
  cases s
  · cases ls with
    | nil => exact absurd rfl (hs rfl)
    | cons x xs =>
      cases vs with
      | nil => exact h.elim
      | cons v vs =>
        have h1 : SLeaf F w σ.en μ fp v x := h.1
        show SRep F w σ.en μ fp v x
        cases x <;> first | exact h1.elim | exact h1
  · exact ⟨vs.toArray, rfl, by simpa using h⟩
theorem SRep.leaf {v : Value} {x : AV} (h : SRep F w σ.en μ fp v x) (ha : ∀ fs, x ≠ .agg fs) (ht : ∀ vs, x ≠ .tup vs) (hp : ∀ a b c d, x ≠ .pt a b c d) : SLeaf F w σ.en μ fp v x := by
  cases x <;> first | exact absurd rfl (ha _) | exact absurd rfl (ht _) | exact absurd rfl (hp _ _ _ _) | exact h
theorem SRep.leaves {v : Value} {x : AV} (h : SRep F w σ.en μ fp v x) (ht : ∀ vs, x ≠ .tup vs) (hp : ∀ a b c d, x ≠ .pt a b c d) (hone : (∀ fs, x ≠ .agg fs) → v.cells = #[v]) : All2 (SLeaf F w σ.en μ fp) v.cells.toList (leaves x) := by
  cases x with
  | agg fs => obtain ⟨cs, rfl, hc⟩ := h; exact hc
  | tup vs => exact absurd rfl (ht _)
  | pt => exact absurd rfl (hp _ _ _ _)
  | _ =>
    rw [hone (by simp)]
    exact ⟨h.leaf (by simp) (by simp) (by simp), trivial⟩
theorem run_part {t : TypeId} {T : TI} (hT : TIok C.P t T) (cs : Array Value) (off : Nat) (h : off + T.sz ≤ cs.size) :
    (part t cs off).run C.P w = .ok (if T.desc.isStruct then .agg ((cs.toList.drop off).take T.sz).toArray else ((cs.toList.drop off).take T.sz).headD undef) w := by
  have hp := hT.pos.1
  unfold part
  rw [Sem.run_bind, hT.isAgg w]
  cases hs : T.desc.isStruct
  · have hlt : off < cs.size := by omega
    have e : ((cs.toList.drop off).take T.sz).headD undef = cs[off] := by
      rw [List.headD_eq_head?_getD, List.head?_take]
      rw [if_neg (by omega)]
      simp [hlt]
    simp only [Bool.false_eq_true, if_false, e, Result.andThen_ok]
    simp [hlt]
  · have e : cs.extract off (off + T.sz) = ((cs.toList.drop off).take T.sz).toArray := by
      apply Array.ext'
      simp [Array.toList_extract]
    simp [hT.size, e]
theorem op_field (hC : CfgOk C) (h : Rel n w0 F0 S0 G F μ fp [] σ a w) {s : TypeId} {x : Operand} {f : Nat} {r : AV} (ho : o.op = .field s x f) (hr : fieldF C s (σ.get x) f = some r) :
    OpPure C F μ fp σ o a w (σ.put o.dst r) := by
  simp only [fieldF, Option.bind_eq_bind, Option.bind_eq_some_iff] at hr
  obtain ⟨T, hT, hr⟩ := hr
  have hTd := (hC.tt s T hT).desc
  split at hr
  case h_2 => cases hr
  rename_i fs hfs
  rw [hfs] at hTd
  obtain ⟨fields, hu, hfl, hfd⟩ := hTd
  simp only [Option.bind_eq_some_iff] at hr
  obtain ⟨⟨off, ty⟩, hf, U, hU, hr⟩ := hr
  obtain ⟨fd, hfd1, rfl, rfl⟩ := hfd f off ty hf
  have hx := h.get x
  split at hr
  case h_2 => cases hr
  rename_i ls hls
  rw [hls] at hx
  obtain ⟨cs, hcs, hall⟩ := hx
  simp only [Option.bind_eq_some_iff] at hr
  obtain ⟨_, hen, hr⟩ := hr
  cases hr
  have hlen := ensure_some hen
  have hsz : cs.size = ls.length := by simpa using hall.length
  have hU' := hC.tt fd.type U hU
  refine .mk' (v := _) ?_ (SRep.mkV ((hall.drop fd.offset).take U.sz) (fun _ hx => ?_))
  · intro w' _
    simp only [execOp, ho, hcs, Instr.field, Sem.run_bind, run_underlying hu, Result.andThen_ok, hfd1, asAgg, Sem.run_pure, run_part hU' cs fd.offset (by omega)]
  · have := congrArg List.length hx
    have hp := hU'.pos.1
    simp at this; omega
theorem op_extract (h : Rel n w0 F0 S0 G F μ fp [] σ a w) {x : Operand} {i : Nat} {vs : List AV} {r : AV} (ho : o.op = .extract x i) (hx : σ.get x = .tup vs) (hr : vs[i]? = some r) :
    OpPure C F μ fp σ o a w (σ.put o.dst r) := by
  have hg := h.get x
  rw [hx] at hg
  obtain ⟨us, hus, hall⟩ := hg
  obtain ⟨u, hu, hru⟩ := hall.get hr
  refine .mk' (v := u) ?_ ?_
  · intro w' _
    have : us[i]? = some u := by simpa using hu
    simp only [execOp, ho, hus, Instr.extract, this, Sem.run_bind, Sem.run_pure, Result.andThen_ok]
  · cases r <;> first | exact hru.elim | exact hru
theorem cptr_valid {tg : Option (Nat × Nat)} {c : List AV} {v : Value} (h : SRep F w σ.en μ fp v (.cptr tg c)) (hv : σ.validC tg = some ()) : ∃ F', (∀ b, F b → F' b) ∧ RepL F' w [v] [.cptr none (if tg.isSome then c.map froize else c)] [] ∧
    ∀ b, F' b → F b ∨ ∃ e wv, tg = some (e, wv) ∧ b ∈ fp e := by
  cases tg with
  | none => exact ⟨F, fun _ h => h, h, fun _ h => .inl h⟩
  | some p =>
    obtain ⟨e, wv⟩ := p
    obtain ⟨hl, hw⟩ := ensure_some hv
    exact ⟨_, fun _ h => .inl h, h.2 hl hw, fun b hb => hb.imp id fun hb => ⟨e, wv, rfl, hb⟩⟩
theorem RepL.cptr_inv {v : Value} {c : List AV} {f : List Nat} (h : RepL F w [v] [.cptr none c] f) : ∃ b o us, v = .pointer (some ⟨b, o, none⟩) ∧ F b ∧ (∀ q, q < us.length → w.cell? ⟨b, o + q, none⟩ = us[q]?) ∧ RepL F w us c [] := by
  cases h with
  | cptr hF hcell hu t => exact ⟨_, _, _, rfl, hF, hcell, hu⟩
theorem RepL.clo_inv {v : Value} {fn : Nat} {c : List AV} {f : List Nat} (h : RepL F w [v] [.clo fn c] f) : ∃ us : List Value, v = .func (.func fn) #[] us.toArray ∧ RepL F w us c [] := by
  cases h with
  | clo hu t => exact ⟨_, rfl, hu⟩
theorem cur_some {e g : Nat} {E : Ent} (h : σ.cur e g = some E) : (σ.en e).live = true ∧ (σ.en e).gen = g ∧ E = σ.en e := by
  unfold St.cur at h
  split at h
  · rename_i hc; cases h; exact ⟨hc.1, hc.2, rfl⟩
  · cases h
theorem op_nilCheck (h : Rel n w0 F0 S0 G F μ fp [] σ a w) {x : Operand} (ho : o.op = .nilCheck x) (hr : opF C o σ = some σ') : OpPure C F μ fp σ o a w σ' := by
  have hg := h.get x
  simp only [opF, ho] at hr
  split at hr
  · rename_i e g i j hx
    rw [hx] at hg
    simp only [Option.bind_eq_bind, Option.bind_eq_some_iff] at hr
    obtain ⟨E, hE, hr⟩ := hr
    cases hr
    obtain ⟨hl, he, _⟩ := cur_some hE
    obtain ⟨b, _, hv⟩ := hg.2 hl he
    exact .mk' (v := a.eval x) (fun w' _ => by simp [execOp, ho, hv]) hg
  · rename_i tg c hx
    rw [hx] at hg
    simp only [Option.bind_eq_bind, Option.bind_eq_some_iff] at hr
    obtain ⟨_, hE, hr⟩ := hr
    cases hr
    obtain ⟨F', _, hv, _⟩ := cptr_valid hg hE
    obtain ⟨b, o', us, hv, _⟩ := hv.cptr_inv
    exact .mk' (v := a.eval x) (fun w' _ => by simp [execOp, ho, hv]) hg
  · rename_i f c hx
    rw [hx] at hg
    cases hr
    obtain ⟨us, hv, _⟩ := RepL.clo_inv hg
    exact .mk' (v := a.eval x) (fun w' _ => by simp [execOp, ho, hv]) hg
  · rename_i e wv i j k q hx
    rw [hx] at hg
    simp only [Option.bind_eq_bind, Option.bind_eq_some_iff] at hr
    obtain ⟨_, hv0, _, hf, hr⟩ := hr
    cases hr
    obtain ⟨hl, hw⟩ := ensure_some hv0
    have hf := ensure_some hf
    obtain ⟨v0, clip, l, g, o', n, c, sz, z, b, cur, et, fr, _, _, _, _, _, _, _, hv⟩ := hg.2 hl hw hf
    exact .mk' (v := a.eval x) (fun w' _ => by simp [execOp, ho, hv]) hg
  · cases hr
theorem RepL.cptr_drop {v : Value} {c : List AV} (k : Nat) (h : RepL F w [v] [.cptr none c] []) : ∃ b o, v = .pointer (some ⟨b, o, none⟩) ∧ RepL F w [.pointer (some ⟨b, o + k, none⟩)] [.cptr none (c.drop k)] [] := by
  obtain ⟨b, o, us, rfl, hF, hcell, hu⟩ := h.cptr_inv
  obtain ⟨f1, f2, hf, _, h2⟩ := hu.take k
  obtain ⟨rfl, rfl⟩ := List.append_eq_nil_iff.1 hf.symm
  refine ⟨b, o, rfl, .cptr hF (us := us.drop k) (fun q hq => ?_) h2 .nil⟩
  rw [List.length_drop] at hq
  have := hcell (k + q) (by omega)
  rw [show o + k + q = o + (k + q) by omega, this]
  simp
theorem op_fieldAddr (hC : CfgOk C) (h : Rel n w0 F0 S0 G F μ fp [] σ a w) {s : TypeId} {x : Operand} {f : Nat} {r : AV} (ho : o.op = .fieldAddr s x f) (hr : fieldAddrF C σ s (σ.get x) f = some r) :
    OpPure C F μ fp σ o a w (σ.put o.dst r) := by
  simp only [fieldAddrF, Option.bind_eq_bind, Option.bind_eq_some_iff] at hr
  obtain ⟨T, hT, hr⟩ := hr
  have hTd := (hC.tt s T hT).desc
  split at hr
  case h_2 => cases hr
  rename_i fs hfs
  rw [hfs] at hTd
  obtain ⟨fields, hu, hfl, hfd⟩ := hTd
  simp only [Option.bind_eq_some_iff] at hr
  obtain ⟨⟨off, ty⟩, hf, U, hU, hr⟩ := hr
  obtain ⟨fd, hfd1, rfl, rfl⟩ := hfd f off ty hf
  have hU' := hC.tt fd.type U hU
  have hp := hU'.pos.1
  have run : ∀ w' b o', a.eval x = .pointer (some ⟨b, o', none⟩) → (execOp a.eval o).run C.P w' = .ok (.value (.pointer (some ⟨b, o' + fd.offset, none⟩))) w' := by
    intro w' b o' hv
    simp only [execOp, ho, hv, Instr.fieldAt, Sem.run_bind, run_underlying hu, Result.andThen_ok, hfd1, Instr.sureAddr, Sem.run_pure, fieldPlace, hU'.size, if_neg (by omega : ¬ U.sz = 0), Addr.add_lit]
  have hx := h.get x
  split at hr
  · rename_i e g i j hls
    rw [hls] at hx
    simp only [Option.bind_eq_some_iff] at hr
    obtain ⟨E, hE, hr⟩ := hr
    cases hr
    obtain ⟨hl, he, _⟩ := cur_some hE
    obtain ⟨hg, hv⟩ := hx
    obtain ⟨b, hμ, hv', hcb⟩ := hv hl he
    refine .mk' (v := .pointer (some ⟨b, i * (σ.en e).sz + j + fd.offset, none⟩)) (fun w' hk => run w' _ _ hv') (x := .ptr e g i (j + fd.offset)) ⟨hg, fun _ _ => ⟨b, hμ, by rw [Nat.add_assoc], hcb⟩⟩
  · rename_i tg c hls
    rw [hls] at hx
    simp only [Option.bind_eq_some_iff] at hr
    obtain ⟨_, hv, _, hoff, hr⟩ := hr
    cases hr
    cases tg with
    | none =>
      obtain ⟨b, o', hv, h2⟩ := RepL.cptr_drop fd.offset (show RepL F w [a.eval x] [.cptr none c] [] from hx)
      exact .mk' (fun w' _ => run w' _ _ hv) h2
    | some p =>
      obtain ⟨e, wv⟩ := p
      obtain ⟨hl, hw⟩ := ensure_some hv
      obtain ⟨b, o', hv, h2⟩ := RepL.cptr_drop fd.offset (hx.2 hl hw)
      refine .mk' (fun w' hk => run w' _ _ hv) (x := .cptr (some (e, wv)) (c.drop fd.offset)) ⟨hx.1, fun _ _ => ?_⟩
      rw [List.map_drop]; exact h2
  · rename_i e wv i j k q hls
    rw [hls] at hx
    simp only [Option.bind_eq_some_iff] at hr
    obtain ⟨_, hv, _, hfz, hr⟩ := hr
    cases hr
    obtain ⟨hl, hw⟩ := ensure_some hv
    have hfz := ensure_some hfz
    obtain ⟨hg, hx⟩ := hx
    obtain ⟨v0, clip, l, g, o', m, c, sz, z, b, cur, et, fr, h1, h2, h3, h4, h5, h6, h7, h8⟩ := hx hl hw hfz
    refine .mk' (fun w' hk => run w' _ _ h8) (x := .np e wv i j k (q + fd.offset)) ⟨hg, fun _ _ _ => ⟨v0, clip, l, g, o', m, c, sz, z, b, cur, et, fr, h1, h2, h3, h4, h5, h6, h7, ?_⟩⟩
    rw [← Nat.add_assoc]
  · cases hr
theorem RepL.fro_inv {v : Value} {clip : Bool} {l : List AV} {f : List Nat} (h : RepL F w [v] [.fro none clip l] f) : f = [] ∧ ((l = [] ∧ ∃ A c, v = .slice A 0 c ∧ (clip = true → c = 0)) ∨
    ∃ b o c sz us, v = .slice (some ⟨b, o, none⟩) l.length c ∧ l.length ≤ c ∧ (clip = true → c = l.length) ∧ F b ∧ (∀ q, q < us.length → w.cell? ⟨b, o + q, none⟩ = us[q]?) ∧ (∀ a ∈ l, (leaves a).length = sz) ∧ RepL F w us (l.flatMap leaves) []) := by
  cases h with
  | fro0 hc t => cases t; exact ⟨rfl, .inl ⟨rfl, _, _, rfl, hc⟩⟩
  | fro hn hnc hc hF hcell hsz hu t => cases t; subst hn; exact ⟨rfl, .inr ⟨_, _, _, _, _, rfl, hnc, hc, hF, hcell, hsz, hu⟩⟩
theorem fro_valid {tg : Option (Nat × Nat × Option (Nat × Nat))} {clip : Bool} {l : List AV} {v : Value} (h : SRep F w σ.en μ fp v (.fro tg clip l)) (hv : σ.validT tg = some ()) :
    ∃ F', RepL F' w [v] [.fro none clip (if tg.isSome then l.map froize else l)] [] ∧ (∀ b, F b → F' b) ∧ (∀ b, F' b → F b ∨ ∃ e wv oo, tg = some (e, wv, oo) ∧ b ∈ fp e ∧ (σ.en e).live = true ∧ (σ.en e).wr = wv) := by
  cases tg with
  | none => exact ⟨F, h, fun _ h => h, fun _ h => .inl h⟩
  | some p =>
    obtain ⟨e, wv, oo⟩ := p
    obtain ⟨hl, hw⟩ := ensure_some hv
    exact ⟨_, (h.2 hl hw).1, fun _ h => .inl h, fun b hb => hb.imp id fun hb => ⟨e, wv, oo, rfl, hb, hl, hw⟩⟩
theorem fro_retag {tg : Option (Nat × Nat × Option (Nat × Nat))} {clip : Bool} {l : List AV} {v : Value} (h : SRep F w σ.en μ fp v (.fro tg clip l)) (hv : σ.validT tg = some ()) (v' : Value) (clip' : Bool) (l' : List AV)
    (hr : ∀ F', RepL F' w [v] [.fro none clip (if tg.isSome then l.map froize else l)] [] → RepL F' w [v'] [.fro none clip' (if tg.isSome then l'.map froize else l')] []) :
    SRep F w σ.en μ fp v' (.fro (tg.map fun p => (p.1, p.2.1, none)) clip' l') := by
  cases tg with
  | none => exact hr F h
  | some p =>
    obtain ⟨e, wv, oo⟩ := p
    obtain ⟨hl, hw⟩ := ensure_some hv
    exact ⟨h.1, fun h1 h2 => ⟨hr _ (h.2 h1 h2).1, fun _ i j hx => by cases hx⟩⟩
theorem fro_cptr {tg : Option (Nat × Nat × Option (Nat × Nat))} {clip : Bool} {l : List AV} {v : Value} (h : SRep F w σ.en μ fp v (.fro tg clip l)) (hv : σ.validT tg = some ()) (v' : Value) (c : List AV)
    (hr : ∀ F', RepL F' w [v] [.fro none clip (if tg.isSome then l.map froize else l)] [] → RepL F' w [v'] [.cptr none (if tg.isSome then c.map froize else c)] []) :
    SRep F w σ.en μ fp v' (.cptr (tg.map fun p => (p.1, p.2.1)) c) := by
  cases tg with
  | none => exact hr F h
  | some p =>
    obtain ⟨e, wv, oo⟩ := p
    obtain ⟨hl, hw⟩ := ensure_some hv
    exact ⟨h.1, fun h1 h2 => hr _ (h.2 h1 h2).1⟩
theorem run_indexAt {t el : TypeId} {U : TI} (ht : C.P.underlying t = some (.slice el)) (hU : TIok C.P el U) (b o' len cap : Nat) (k : IntKind) (i : Int) (h0 : 0 ≤ i) (h1 : i < len) :
    (Instr.indexAt t (.slice (some ⟨b, o', none⟩) len cap) (.int k i)).run C.P w = .ok (.pointer (some ⟨b, o' + i.toNat * U.sz, none⟩)) w := by
  simp [Instr.indexAt, run_underlying ht, asIntOf, h0, h1, hU.size, Addr.add_lit]
theorem RepL.fro_at {v : Value} {clip : Bool} {l : List AV} {i sz : Nat} {y : AV} (h : RepL F w [v] [.fro none clip l] []) (hy : l[i]? = some y) (hsz : (leaves y).length = sz) :
    ∃ b o c, v = .slice (some ⟨b, o, none⟩) l.length c ∧ RepL F w [.pointer (some ⟨b, o + i * sz, none⟩)] [.cptr none (leaves y)] [] := by
  obtain ⟨hi, rfl⟩ := List.getElem?_eq_some_iff.1 hy
  obtain ⟨_, ⟨rfl, _⟩ | ⟨b, o, c, sz', us, rfl, hlc, hc, hF, hcell, hs, hu⟩⟩ := h.fro_inv
  · simp at hi
  · obtain rfl : sz' = sz := by rw [← hsz]; exact (hs _ (List.getElem_mem hi)).symm
    refine ⟨b, o, c, rfl, ?_⟩
    obtain ⟨f1, f2, hf, _, h2⟩ := hu.take (i * sz')
    obtain ⟨rfl, rfl⟩ := List.append_eq_nil_iff.1 hf.symm
    obtain ⟨f1, f2, hf, h3, _⟩ := h2.take sz'
    obtain ⟨rfl, rfl⟩ := List.append_eq_nil_iff.1 hf.symm
    rw [flat_get hs hy] at h3
    refine .cptr hF (fun q hq => ?_) h3 .nil
    rw [List.length_take, List.length_drop] at hq
    have := hcell (i * sz' + q) (by omega)
    rw [Nat.add_assoc, this, List.getElem?_take, if_pos (by omega), List.getElem?_drop]
theorem op_indexAddr (hC : CfgOk C) (h : Rel n w0 F0 S0 G F μ fp [] σ a w) {t : TypeId} {x ix : Operand} {r : AV} (ho : o.op = .indexAddr t x ix) (hr : indexAddrF C σ t (σ.get x) (σ.get ix) = some r) :
    OpPure C F μ fp σ o a w (σ.put o.dst r) := by
  simp only [indexAddrF, Option.bind_eq_bind, Option.bind_eq_some_iff] at hr
  obtain ⟨T, hT, hr⟩ := hr
  have hTd := (hC.tt t T hT).desc
  split at hr
  case h_2 => cases hr
  rename_i el k i hel hix
  rw [hel] at hTd
  have hTd : C.P.underlying t = some (.slice el) := hTd
  simp only [Option.bind_eq_some_iff] at hr
  obtain ⟨U, hU, hr⟩ := hr
  have hU' := hC.tt el U hU
  have hi : a.eval ix = .int k i := SRep.int_inv (hix ▸ h.get ix)
  have hx := h.get x
  have run : ∀ w' b o' len cap, a.eval x = .slice (some ⟨b, o', none⟩) len cap → 0 ≤ i → i < len → (execOp a.eval o).run C.P w' = .ok (.value (.pointer (some ⟨b, o' + i.toNat * U.sz, none⟩))) w' := by
    intro w' b o' len cap hv h0 h1
    simp only [execOp, ho, hv, hi, Sem.run_bind, run_indexAt hTd hU' b o' len cap k i h0 h1, Result.andThen_ok, Sem.run_pure]
  split at hr
  · rename_i tg clip l hxe
    rw [hxe] at hx
    simp only [Option.bind_eq_some_iff] at hr
    obtain ⟨_, hv, _, hb, y, hy, _, hs, hr⟩ := hr
    cases hr
    obtain ⟨h0, h1⟩ := ensure_some hb
    have hs := ensure_some hs
    obtain ⟨F', hF', _⟩ := fro_valid hx hv
    have key : ∀ F', RepL F' w [a.eval x] [.fro none clip (if tg.isSome then l.map froize else l)] [] → ∃ b o' c, a.eval x = .slice (some ⟨b, o', none⟩) l.length c ∧ RepL F' w [.pointer (some ⟨b, o' + i.toNat * U.sz, none⟩)] [.cptr none (if tg.isSome then (leaves y).map froize else leaves y)] [] := by
      intro F' hF'
      cases tg with
      | none => simpa using hF'.fro_at (sz := U.sz) hy hs
      | some p => simpa [leaves_froize] using hF'.fro_at (sz := U.sz) (i := i.toNat) (y := froize y) (by simp [hy]) (by simp [leaves_froize, hs])
    obtain ⟨b, o', c, hv', _⟩ := key F' hF'
    refine .mk' (fun w' hk => run w' _ _ _ _ hv' h0 h1) (fro_cptr hx hv _ _ fun F'' hF'' => ?_)
    obtain ⟨b2, o2, c2, hv2, h2⟩ := key F'' hF''
    rw [hv'] at hv2
    cases hv2
    exact h2
  · rename_i e g off len clip hxe
    rw [hxe] at hx
    simp only [Option.bind_eq_some_iff] at hr
    obtain ⟨E, hE, _, hb, hr⟩ := hr
    cases hr
    obtain ⟨h0, h1, h2, h3⟩ := ensure_some hb
    obtain ⟨hl, he, rfl⟩ := cur_some hE
    obtain ⟨hg, hv⟩ := hx
    obtain ⟨A, c, hv, hlc, _, _, hblk⟩ := hv hl he
    obtain ⟨b, cur, et, fr, hμ, rfl, hcb, _⟩ := hblk (by omega)
    refine .mk' (fun w' hk => run w' _ _ _ _ hv h0 h1) (x := .ptr e g (off + i.toNat) 0) ⟨hg, fun _ _ => ⟨b, hμ, ?_, cur, et, fr, hcb⟩⟩
    rw [h3, Nat.add_mul, Nat.add_zero]
  · cases hr
theorem op_idxN (hC : CfgOk C) (h : Rel n w0 F0 S0 G F μ fp [] σ a w) {t : TypeId} {x ix : Operand} {r : AV} (ho : o.op = .indexAddr t x ix) (hr : idxNF C σ t (σ.get x) (σ.get ix) = some r) :
    OpPure C F μ fp σ o a w (σ.put o.dst r) := by
  simp only [idxNF, Option.bind_eq_bind, Option.bind_eq_some_iff] at hr
  obtain ⟨T, hT, hr⟩ := hr
  have hTd := (hC.tt t T hT).desc
  split at hr
  case h_2 => cases hr
  rename_i el k i hel hix
  rw [hel] at hTd
  have hTd : C.P.underlying t = some (.slice el) := hTd
  simp only [Option.bind_eq_some_iff] at hr
  obtain ⟨U, hU, hr⟩ := hr
  have hU' := hC.tt el U hU
  have hi : a.eval ix = .int k i := SRep.int_inv (hix ▸ h.get ix)
  have hx := h.get x
  split at hr
  case h_2 => cases hr
  rename_i e wv ai bi clip l hxe
  rw [hxe] at hx
  simp only [Option.bind_eq_some_iff] at hr
  obtain ⟨_, hv, _, hfz, _, hb, z, hz, own, hown, _, hs, hr⟩ := hr
  cases hr
  obtain ⟨hl, hw⟩ := ensure_some hv
  have hfz := ensure_some hfz
  obtain ⟨h0, h1⟩ := ensure_some hb
  have hs := ensure_some hs
  obtain ⟨hg, hx⟩ := hx
  obtain ⟨hrep, hpos⟩ := hx hl hw
  obtain ⟨z', b, cur, et, fr, sz, hz', hzj, hμ, hblk, hcur⟩ := hpos hfz ai bi rfl
  rw [hz] at hz'; cases hz'
  have hown : own = (sz, l) := by
    unfold ownAt at hown
    rw [hzj] at hown
    cases hown; rfl
  subst hown
  dsimp only at hs
  subst hs
  have hy : (l.map froize)[i.toNat]? = some (froize (l[i.toNat]'(by omega))) := by
    rw [List.getElem?_map, List.getElem?_eq_getElem (by omega)]; rfl
  obtain ⟨b0, o0, c0, hv0, _⟩ := hrep.fro_at (sz := (leaves (froize (l[i.toNat]'(by omega)))).length) hy rfl
  rw [List.length_map] at hv0
  have run : ∀ w', (execOp a.eval o).run C.P w' = .ok (.value (.pointer (some ⟨b0, o0 + i.toNat * U.sz, none⟩))) w' := by
    intro w'
    simp only [execOp, ho, hv0, hi, Sem.run_bind, run_indexAt hTd hU' b0 o0 _ _ k i h0 h1, Result.andThen_ok, Sem.run_pure]
  refine .mk' (fun w' hk => run w') (x := .np e wv ai bi i.toNat 0) ⟨hg, fun _ _ _ => ⟨_, clip, l, b0, o0, l.length, c0, U.sz, z, b, cur, et, fr, hrep, hz, hzj, hμ, hblk, hcur, hv0, rfl⟩⟩
theorem op_idxG (hC : CfgOk C) (h : Rel n w0 F0 S0 G F μ fp [] σ a w) {t : TypeId} {x ix : Operand} {r : AV} (ho : o.op = .indexAddr t x ix) (hr : idxG C σ o.dst t (σ.get x) (σ.get ix) = some r) :
    OpPure C F μ fp σ o a w (σ.put o.dst r) := by
  unfold idxG at hr
  split at hr
  · exact op_idxN hC h ho hr
  · exact op_indexAddr hC h ho hr
theorem op_index (hC : CfgOk C) (h : Rel n w0 F0 S0 G F μ fp [] σ a w) {t : TypeId} {x ix : Operand} (ho : o.op = .index t x ix) (hr : opF C o σ = some σ') : OpPure C F μ fp σ o a w σ' := by
  simp only [opF, ho, Option.bind_eq_bind, Option.bind_eq_some_iff] at hr
  obtain ⟨T, hT, hr⟩ := hr
  have hTd := (hC.tt t T hT).desc
  split at hr
  case h_2 => cases hr
  rename_i s k i hel hx hix
  rw [hel] at hTd
  have hTd : C.P.underlying t = some .string := hTd
  simp only [Option.bind_eq_some_iff] at hr
  obtain ⟨_, hb, hr⟩ := hr
  cases hr
  obtain ⟨h0, h1⟩ := ensure_some hb
  have hi : a.eval ix = .int k i := SRep.int_inv (hix ▸ h.get ix)
  have hs : a.eval x = .string s := SRep.str_inv (hx ▸ h.get x)
  have hlt : i.toNat < s.size := by omega
  have e : s[i.toNat]? = some s[i.toNat] := getElem?_pos s i.toNat hlt
  have e2 : s.data[i.toNat]? = some s[i.toNat] := by
    have : i.toNat < s.data.size := hlt
    rw [Array.getElem?_eq_getElem this]; rfl
  refine .mk' (v := .int .u8 (s[i.toNat]).toNat) ?_ ?_
  · intro w' _
    simp [execOp, ho, hi, hs, Instr.index, asIntOf, run_underlying hTd, h0, e]
  · rw [e2]; exact RepL.int .nil
end
end Go.Vm
end
section
/- Reads, continued: lengths, parts of slices and strings, what lies behind an address. -/
namespace Go.Vm
section
variable {C : Cfg} {n : Nat} {w0 : World} {F0 S0 F : Nat → Prop} {G : Value → AV → Prop} {μ : Nat → Option Nat} {fp : Nat → List Nat} {L : List Nat} {σ σ' : St} {a : Act} {w w' : World} {o : Oper}
theorem run_lenOp {v : Value} {m : Nat} {t : TypeId} {d : TD} {x : AV} (hd : descOk C.P t d) (hx : SRep F w σ.en μ fp v x) (hm : lenF σ d x = some m) (ty : TypeId) (w' : World) : (Builtin.len_ #[t] ty #[v]).run C.P w' = .ok (.int .i64 m) w' := by
  unfold lenF at hm
  split at hm
  · have hd : C.P.underlying t = some .string := hd
    obtain rfl := SRep.str_inv hx
    cases hm
    simp [Builtin.len_, run_underlying hd, goInt]
  · rename_i e tg clip l
    have hd : C.P.underlying t = some (.slice e) := hd
    simp only [Option.bind_eq_bind, Option.bind_eq_some_iff] at hm
    obtain ⟨_, hv, hm⟩ := hm
    cases hm
    obtain ⟨F', hF', _⟩ := fro_valid hx hv
    have hl : (if tg.isSome then l.map froize else l).length = l.length := by split <;> simp
    obtain ⟨_, ⟨he, A, c, rfl, _⟩ | ⟨b, o, c, sz, us, rfl, _⟩⟩ := hF'.fro_inv
    · rw [he] at hl
      simp [Builtin.len_, run_underlying hd, goInt, ← hl]
    · simp [Builtin.len_, run_underlying hd, goInt, hl]
  · rename_i e' e g off len clip
    have hd : C.P.underlying t = some (.slice e') := hd
    simp only [Option.bind_eq_bind, Option.bind_eq_some_iff] at hm
    obtain ⟨E, hE, hm⟩ := hm
    cases hm
    obtain ⟨hl, he, rfl⟩ := cur_some hE
    obtain ⟨A, c, rfl, _⟩ := hx.2 hl he
    simp [Builtin.len_, run_underlying hd, goInt]
  · cases hm
theorem run_capOp {v : Value} {m : Nat} {t : TypeId} {d : TD} {x : AV} (hd : descOk C.P t d) (hx : SRep F w σ.en μ fp v x) (hm : capF σ d x = some m) (ty : TypeId) (w' : World) : (Builtin.cap_ #[t] ty #[v]).run C.P w' = .ok (.int .i64 m) w' := by
  unfold capF at hm
  split at hm
  · rename_i e tg l
    have hd : C.P.underlying t = some (.slice e) := hd
    simp only [Option.bind_eq_bind, Option.bind_eq_some_iff] at hm
    obtain ⟨_, hv, hm⟩ := hm
    cases hm
    obtain ⟨F', hF', _⟩ := fro_valid hx hv
    have hl : (if tg.isSome then l.map froize else l).length = l.length := by split <;> simp
    obtain ⟨_, ⟨he, A, c, rfl, hc⟩ | ⟨b, o, c, sz, us, rfl, _, hc, _⟩⟩ := hF'.fro_inv
    · rw [he] at hl
      obtain rfl := hc rfl
      simp [Builtin.cap_, run_underlying hd, goInt, ← hl]
    · obtain rfl := hc rfl
      simp [Builtin.cap_, run_underlying hd, goInt, hl]
  · rename_i e' e g off len
    have hd : C.P.underlying t = some (.slice e') := hd
    simp only [Option.bind_eq_bind, Option.bind_eq_some_iff] at hm
    obtain ⟨E, hE, hm⟩ := hm
    cases hm
    obtain ⟨hl, he, rfl⟩ := cur_some hE
    obtain ⟨A, c, rfl, _, hc, _⟩ := hx.2 hl he
    obtain rfl := hc rfl
    simp [Builtin.cap_, run_underlying hd, goInt]
  · cases hm
theorem run_min : ∀ {xs : List AV} {vs : List Value} {x r : AV} {v : Value}, SRep F w σ.en μ fp v x → All2 (fun v x => SRep F w σ.en μ fp v x) vs xs → minF x xs = some r → ∃ u, (∀ w', (vs.foldlM Builtin.min2 v).run C.P w' = .ok u w') ∧ SRep F w σ.en μ fp u r
  | [], [], x, r, v, hx, _, hr => by cases hr; exact ⟨v, fun w' => by simp, hx⟩
  | y :: ys, u :: us, x, r, v, hx, ⟨h1, h2⟩, hr => by
    unfold minF at hr
    split at hr
    · rename_i heq; cases heq
    · rename_i k a' k' b rest heq
      cases heq
      split at hr
      · rename_i hk
        subst hk
        obtain rfl := SRep.int_inv hx
        obtain rfl := SRep.int_inv h1
        obtain ⟨u, hu, hur⟩ := run_min (x := .int k (if b < a' then b else a')) (v := .int k (if b < a' then b else a')) (RepL.int .nil) h2 hr
        exact ⟨u, fun w' => by simp only [List.foldlM_cons, Sem.run_bind, Builtin.min2, Sem.run_pure, Result.andThen_ok, hu], hur⟩
      · cases hr
    · cases hr
  | [], _ :: _, _, _, _, _, h, _ => h.elim
  | _ :: _, [], _, _, _, _, h, _ => h.elim
theorem run_max : ∀ {xs : List AV} {vs : List Value} {x r : AV} {v : Value}, SRep F w σ.en μ fp v x → All2 (fun v x => SRep F w σ.en μ fp v x) vs xs → maxF x xs = some r → ∃ u, (∀ w', (vs.foldlM Builtin.max2 v).run C.P w' = .ok u w') ∧ SRep F w σ.en μ fp u r
  | [], [], x, r, v, hx, _, hr => by cases hr; exact ⟨v, fun w' => by simp, hx⟩
  | y :: ys, u :: us, x, r, v, hx, ⟨h1, h2⟩, hr => by
    unfold maxF at hr
    split at hr
    · rename_i heq; cases heq
    · rename_i k a' k' b rest heq
      cases heq
      split at hr
      · rename_i hk
        subst hk
        obtain rfl := SRep.int_inv hx
        obtain rfl := SRep.int_inv h1
        obtain ⟨u, hu, hur⟩ := run_max (x := .int k (if a' < b then b else a')) (v := .int k (if a' < b then b else a')) (RepL.int .nil) h2 hr
        exact ⟨u, fun w' => by simp only [List.foldlM_cons, Sem.run_bind, Builtin.max2, Sem.run_pure, Result.andThen_ok, hu], hur⟩
      · cases hr
    · cases hr
  | [], _ :: _, _, _, _, _, h, _ => h.elim
  | _ :: _, [], _, _, _, _, h, _ => h.elim
theorem All2.of_map {α β γ : Type} {R : β → γ → Prop} {f : α → β} {g : α → γ} (h : ∀ x, R (f x) (g x)) : ∀ l : List α, All2 R (l.map f) (l.map g)
  | [] => trivial
  | x :: xs => ⟨h x, All2.of_map h xs⟩
theorem exec_builtin {b : Builtin} {args : Array Operand} {argTypes : Array TypeId} (ho : o.op = .call { callee := .builtin b, args, argTypes }) : (execOp a.eval o) = builtin b argTypes o.type (args.map fun | .const _ => true | _ => false) (args.map a.eval) := by
  simp only [execOp, ho, resolve, invoke, pure_bind]
  congr 1
theorem op_convert (hC : CfgOk C) (h : Rel n w0 F0 S0 G F μ fp [] σ a w) {s t : TypeId} {x : Operand} {r : AV} (ho : o.op = .convert s t x) (hr : convF C s t (σ.get x) = some r) :
    OpPure C F μ fp σ o a w (σ.put o.dst r) := by
  simp only [convF, Option.bind_eq_bind, Option.bind_eq_some_iff] at hr
  obtain ⟨T, hT, U, hU, hr⟩ := hr
  have hTd := (hC.tt s T hT).desc
  have hUd := (hC.tt t U hU).desc
  have hx := h.get x
  split at hr
  · rename_i k k' i j h1 h2 h3
    rw [h3] at hx
    rw [h1] at hTd
    rw [h2] at hUd
    have hTd : C.P.underlying s = some (.int k) := hTd
    have hUd : C.P.underlying t = some (.int k') := hUd
    cases hr
    refine .mk' (v := .int k' (k'.wrap j)) ?_ (RepL.int .nil)
    intro w' _
    simp only [execOp, ho, SRep.int_inv hx, Sem.run_bind, convert, run_underlying hTd, run_underlying hUd, Result.andThen_ok, Conv.intToInt, Sem.run_pure]
  · rename_i b h1 h2 h3
    rw [h3] at hx
    rw [h1] at hTd
    rw [h2] at hUd
    have hTd : C.P.underlying s = some .string := hTd
    have hUd : C.P.underlying t = some .string := hUd
    cases hr
    refine .mk' (v := .string b) ?_ (RepL.str .nil)
    intro w' _
    simp only [execOp, ho, SRep.str_inv hx, Sem.run_bind, convert, run_underlying hTd, run_underlying hUd, Result.andThen_ok, Sem.run_pure]
  · cases hr
/-! ### Slices of slices -/
theorem intO_some {x : Option AV} {r : Option Int} (h : intO x = some r) : (x = none ∧ r = none) ∨ ∃ k i, x = some (.int k i) ∧ r = some i := by
  unfold intO at h
  split at h
  · cases h; exact .inl ⟨rfl, rfl⟩
  · cases h; exact .inr ⟨_, _, rfl, rfl⟩
  · cases h
theorem intO_eval (h : Rel n w0 F0 S0 G F μ fp L σ a w) {x : Option Operand} {r : Option Int} (hx : intO (x.map σ.get) = some r) : (x.map a.eval = none ∧ r = none) ∨ ∃ k i, x.map a.eval = some (.int k i) ∧ r = some i := by
  rcases intO_some hx with ⟨h1, h2⟩ | ⟨k, i, h1, h2⟩
  · simp at h1; subst h1; exact .inl ⟨rfl, h2⟩
  · obtain ⟨y, rfl, hy⟩ := Option.map_eq_some_iff.1 h1
    refine .inr ⟨k, i, ?_, h2⟩
    simp [SRep.int_inv (hy ▸ h.get y)]
theorem run_sliceBounds_gen (isS : Bool) {len cap : Nat} {lo hi mx : Option Value} {l h : Option Int} {m : Option Int} (hlo : (lo = none ∧ l = none) ∨ ∃ k i, lo = some (.int k i) ∧ l = some i) (hhi : (hi = none ∧ h = none) ∨ ∃ k i, hi = some (.int k i) ∧ h = some i)
    (hmx : (mx = none ∧ m = none) ∨ ∃ k i, mx = some (.int k i) ∧ m = some i) (h0 : 0 ≤ l.getD 0) (h1 : l.getD 0 ≤ h.getD len) (h2 : h.getD len ≤ cap) (h3 : m = none ∨ (m = some (h.getD len) ∧ h = some (h.getD len))) :
    (Instr.sliceBounds isS len cap lo hi mx).run C.P w = .ok ((l.getD 0).toNat, (h.getD len).toNat, (m.getD cap).toNat) w := by
  have eh : ((h.getD len).toNat : Int) = h.getD len := Int.toNat_of_nonneg (by omega)
  rcases hlo with ⟨rfl, rfl⟩ | ⟨k1, i1, rfl, rfl⟩ <;> rcases hhi with ⟨rfl, rfl⟩ | ⟨k2, i2, rfl, rfl⟩ <;> rcases hmx with ⟨rfl, rfl⟩ | ⟨k3, i3, rfl, rfl⟩ <;> simp at h0 h1 h2 h3 eh
  all_goals first | (obtain ⟨h3, _⟩ := h3) | skip
  all_goals try subst h3
  all_goals first
    | (have h00 : 0 ≤ i2 := by omega
       simp [Instr.sliceBounds, run_sliceBound, *]; done)
    | (simp [Instr.sliceBounds, run_sliceBound, *]; done)
    | skip
theorem run_slice_slice {t el : TypeId} {U : TI} (ht : C.P.underlying t = some (.slice el)) (hU : TIok C.P el U) {A : Option Addr} {len cap : Nat} {lo hi mx : Option Value} {l h m : Nat}
    (hb : (Instr.sliceBounds true len cap lo hi mx).run C.P w = .ok (l, h, m) w) : (Instr.sliceAt t (.slice A len cap) lo hi mx).run C.P w = .ok (.slice (if m = l then A else A.map (·.add (l * U.sz))) (h - l) (m - l)) w := by
  have e : C.P.elem t = el := by simp [Program.elem, ht]
  have ht' : C.P.underlying t = some (.slice (C.P.elem t)) := by rw [e]; exact ht
  rw [run_sliceAt_slice w t _ lo hi mx ht', run_slice_any w t A len cap ht', hb]
  simp only [Result.andThen_ok, e, hU.size, sliced]
theorem RepL.fro_cut {v : Value} {clip : Bool} {xs : List AV} {l h sz : Nat} (hx : RepL F w [v] [.fro none clip xs] []) (hs : ∀ y ∈ xs, (leaves y).length = sz) (h1 : l ≤ h) (h2 : h ≤ xs.length) :
    ∃ A c, v = .slice A xs.length c ∧ xs.length ≤ c ∧ (clip = true → c = xs.length) ∧ ∀ (m : Nat) (clip' : Bool), h ≤ m → m ≤ c → (clip' = true → m = h) → RepL F w [.slice (if m = l then A else A.map (·.add (l * sz))) (h - l) (m - l)] [.fro none clip' ((xs.take h).drop l)] [] := by
  obtain ⟨_, ⟨rfl, A, c, rfl, hc⟩ | ⟨b, o, c, sz', us, rfl, hlc, hc, hF, hcell, hs', hu⟩⟩ := hx.fro_inv
  · simp at h2
    subst h2
    obtain rfl : l = 0 := by omega
    refine ⟨A, c, rfl, by simp, fun h => by simp [hc h], fun m _ _ _ hm => ?_⟩
    simp
    exact .fro0 (by simpa using hm) .nil
  · refine ⟨_, c, rfl, hlc, hc, fun m _ hm hmc hcl => ?_⟩
    by_cases hl : m = l
    · obtain rfl : h = l := by omega
      subst hl
      have e : (xs.take m).drop m = [] := by simp
      rw [e]
      simp
      exact .fro0 (by simp) .nil
    · by_cases hlh : h = l
      · subst hlh
        have e : (xs.take h).drop h = [] := by simp
        rw [e, Nat.sub_self]
        exact .fro0 (fun h => by have := hcl h; omega) .nil
      · obtain rfl : sz' = sz := by
          cases xs with
          | nil => simp at h2; omega
          | cons x xs => rw [← hs x (by simp), ← hs' x (by simp)]
        obtain ⟨f1, f2, f3, hf, h3⟩ := RepL.sub l (h - l) hs' hu
        have : f2 = [] := by
          have := congrArg List.length hf
          simp at this
          exact List.length_eq_zero_iff.1 (by omega)
        subst this
        rw [if_neg hl]
        have e : (xs.take h).drop l = (xs.drop l).take (h - l) := by rw [List.drop_take]
        rw [e]
        simp only [Option.map_some, Addr.add_lit]
        refine .fro (o := o + l * sz') (sz := sz') (us := (us.drop (l * sz')).take ((h - l) * sz')) ?_ (by omega) (fun h => by have := hcl h; omega) hF (fun q hq => ?_) (fun y hy => hs' y (List.mem_of_mem_drop (List.mem_of_mem_take hy))) h3 .nil
        · simp; omega
        · rw [List.length_take, List.length_drop] at hq
          have := hcell (l * sz' + q) (by omega)
          rw [Nat.add_assoc, this, List.getElem?_take, if_pos (by omega), List.getElem?_drop]
def OpPureX (C : Cfg) (F : Nat → Prop) (μ : Nat → Option Nat) (fp : Nat → List Nat) (σ : St) (o : Oper) (a : Act) (w : World) (σ' : St) : Prop :=
  ∃ v x, σ' = σ.put o.dst x ∧ SRep F w σ.en μ fp v x ∧ ∀ w', (execOp a.eval o).run C.P w' = .ok (.value v) w'
theorem OpPureX.mk' {v : Value} {x : AV} (hr : ∀ w', (execOp a.eval o).run C.P w' = .ok (.value v) w') (hx : SRep F w σ.en μ fp v x) : OpPureX C F μ fp σ o a w (σ.put o.dst x) := ⟨v, x, rfl, hx, hr⟩
theorem OpPureX.pure {σ' : St} (h : OpPureX C F μ fp σ o a w σ') : OpPure C F μ fp σ o a w σ' := by
  obtain ⟨v, x, h1, h2, h3⟩ := h
  exact ⟨v, x, h1, h2, fun w' _ => h3 w'⟩
theorem op_sliceX (hC : CfgOk C) (h : Rel n w0 F0 S0 G F μ fp [] σ a w) {t : TypeId} {x : Operand} {lo hi mx : Option Operand} {r : AV} (ho : o.op = .slice t x lo hi mx)
    (hr : sliceF C σ t (σ.get x) (lo.map σ.get) (hi.map σ.get) (mx.map σ.get) = some r) : OpPureX C F μ fp σ o a w (σ.put o.dst r) := by
  simp only [sliceF, Option.bind_eq_bind, Option.bind_eq_some_iff] at hr
  obtain ⟨T, hT, l, hl, u, hu, m, hm, hr⟩ := hr
  have el := intO_eval h hl
  have eu := intO_eval h hu
  have em := intO_eval h hm
  have hTd := (hC.tt t T hT).desc
  have hx := h.get x
  have run : ∀ v w', (Instr.sliceAt t (a.eval x) (lo.map a.eval) (hi.map a.eval) (mx.map a.eval)).run C.P w' = .ok v w' → (execOp a.eval o).run C.P w' = .ok (.value v) w' := by
    intro v w' hv
    simp only [execOp, ho, Sem.run_bind, hv, Result.andThen_ok, Sem.run_pure]
  split at hr
  · rename_i s hds hxe
    rw [hxe] at hx
    rw [hds] at hTd
    have hTd : C.P.underlying t = some .string := hTd
    simp only [Option.bind_eq_some_iff] at hr
    obtain ⟨_, hb, hr⟩ := hr
    cases hr
    obtain ⟨h0, h1, h2, rfl⟩ := ensure_some hb
    have hv := SRep.str_inv hx
    obtain ⟨hmx, _⟩ : mx.map a.eval = none ∧ True := by
      rcases em with ⟨h, _⟩ | ⟨_, _, _, h⟩
      · exact ⟨h, trivial⟩
      · cases h
    refine .mk' (fun w' => run _ w' ?_) (x := .str (s.extract (l.getD 0).toNat (u.getD s.size).toNat)) (RepL.str .nil)
    have hbb := fun w' => run_sliceBounds_gen (C := C) (w := w') false (len := s.size) (cap := s.size) el eu (.inl ⟨rfl, rfl⟩) h0 h1 h2 (.inl rfl)
    rw [run_sliceAt_string w' t _ _ _ _ hTd, hv, hmx]
    simp only [Instr.slice, Sem.run_bind, run_underlying hTd, Result.andThen_ok, Option.isSome_none, Bool.false_eq_true, if_false, hbb w', Sem.run_pure]
  · rename_i e tg clip xs hds hxe
    rw [hxe] at hx
    rw [hds] at hTd
    have hTd : C.P.underlying t = some (.slice e) := hTd
    simp only [Option.bind_eq_some_iff] at hr
    obtain ⟨U, hU, _, hv, _, hb, _, hs, hr⟩ := hr
    cases hr
    obtain ⟨h0, h1, h2, h3⟩ := ensure_some hb
    have hs := ensure_some hs
    have eh : ((u.getD xs.length).toNat : Int) = u.getD xs.length := Int.toNat_of_nonneg (by omega)
    have eqc : ∀ (F' : Nat → Prop), RepL F' w [a.eval x] [.fro none clip (if tg.isSome then xs.map froize else xs)] [] → ∃ A c, a.eval x = .slice A xs.length c ∧ xs.length ≤ c ∧ (clip = true → c = xs.length) ∧
        RepL F' w [.slice (if (m.getD c).toNat = (l.getD 0).toNat then A else A.map (·.add ((l.getD 0).toNat * U.sz))) ((u.getD xs.length).toNat - (l.getD 0).toNat) ((m.getD c).toNat - (l.getD 0).toNat)]
          [.fro none (if m = none then clip && (decide (u = none) || xs.isEmpty) else true) (if tg.isSome then ((xs.take (u.getD xs.length).toNat).drop (l.getD 0).toNat).map froize else (xs.take (u.getD xs.length).toNat).drop (l.getD 0).toNat)] [] := by
      intro F' hF'
      have hs' : ∀ y ∈ (if tg.isSome then xs.map froize else xs), (leaves y).length = U.sz := by
        split
        · intro y hy
          obtain ⟨z, hz, rfl⟩ := List.mem_map.1 hy
          rw [leaves_froize]; simpa using hs z hz
        · exact hs
      have hl' : (if tg.isSome then xs.map froize else xs).length = xs.length := by split <;> simp
      obtain ⟨A, c, hv, hlc, hc, key⟩ := RepL.fro_cut (l := (l.getD 0).toNat) (h := (u.getD xs.length).toNat) hF' hs' (by omega) (by rw [hl']; omega)
      rw [hl'] at hv hlc hc
      have key := key (m.getD c).toNat (if m = none then clip && (decide (u = none) || xs.isEmpty) else true) (by rcases h3 with rfl | ⟨rfl, _⟩ <;> simp; omega) (by rcases h3 with rfl | ⟨rfl, _⟩ <;> simp; omega) (by
        rcases h3 with rfl | ⟨rfl, hu⟩
        · simp
          intro h4 h5
          have h6 := hc h4
          rcases h5 with rfl | rfl
          · simp [h6]
          · simp at h2 h6 ⊢
            omega
        · simp)
      refine ⟨A, c, hv, hlc, hc, ?_⟩
      have e : ((if tg.isSome then xs.map froize else xs).take (u.getD xs.length).toNat).drop (l.getD 0).toNat = (if tg.isSome then ((xs.take (u.getD xs.length).toNat).drop (l.getD 0).toNat).map froize else (xs.take (u.getD xs.length).toNat).drop (l.getD 0).toNat) := by
        split <;> simp [List.map_take, List.map_drop]
      rw [e] at key
      exact key
    obtain ⟨F', hF', _⟩ := fro_valid hx hv
    obtain ⟨A, c, hav, hlc, hc, _⟩ := eqc F' hF'
    have hbb := fun w' => run_sliceBounds_gen (C := C) (w := w') true (len := xs.length) (cap := c) el eu em h0 h1 (by omega) h3
    refine .mk' (fun w' => run _ w' (by rw [hav]; exact run_slice_slice hTd (hC.tt e U hU) (hbb w'))) (fro_retag hx hv _ _ _ fun F'' hF'' => ?_)
    obtain ⟨A2, c2, hav2, _, _, h2⟩ := eqc F'' hF''
    rw [hav] at hav2
    cases hav2
    exact h2
  · rename_i e e0 g off len clip hds hxe
    rw [hxe] at hx
    rw [hds] at hTd
    have hTd : C.P.underlying t = some (.slice e) := hTd
    simp only [Option.bind_eq_some_iff] at hr
    obtain ⟨U, hU, E, hE, _, hb, hr⟩ := hr
    cases hr
    obtain ⟨h0, h1, h2, hcl, h3, hsz⟩ := ensure_some hb
    obtain ⟨hlv, he, rfl⟩ := cur_some hE
    obtain ⟨hg, hv⟩ := hx
    obtain ⟨A, c, hv, hlc, hc1, hc2, hblk⟩ := hv hlv he
    have hhc : u.getD len ≤ c := by
      cases clip with
      | true => have := (hcl rfl).1; clear hblk; omega
      | false => have := hc2 rfl; clear hblk; omega
    have hbb := fun w' => run_sliceBounds_gen (C := C) (w := w') true (len := len) (cap := c) el eu em h0 h1 hhc h3
    have hM : (u.getD len).toNat ≤ (m.getD c).toNat ∧ (m.getD c).toNat ≤ c := by clear hblk; rcases h3 with rfl | ⟨rfl, _⟩ <;> simp <;> omega
    have hM1 : m = none → (m.getD c).toNat = c := by rintro rfl; simp
    have hM2 : m ≠ none → (m.getD c).toNat = (u.getD len).toNat := by rcases h3 with rfl | ⟨rfl, _⟩ <;> simp
    have hcl' : clip = true → m = none → (u.getD len).toNat = len := fun h1 h2 => by have := (hcl h1).2 h2; clear hblk; omega
    have h0' : (l.getD 0).toNat ≤ (u.getD len).toNat := by clear hblk; omega
    refine .mk' (fun w' => run _ w' (by rw [hv]; exact run_slice_slice hTd (hC.tt e U hU) (hbb w'))) (v := .slice (if (m.getD (c : Int)).toNat = (l.getD 0).toNat then A else A.map (·.add ((l.getD 0).toNat * U.sz))) ((u.getD (len : Int)).toNat - (l.getD 0).toNat) ((m.getD (c : Int)).toNat - (l.getD 0).toNat)) (x := .hd e0 g (off + (l.getD 0).toNat) ((u.getD len).toNat - (l.getD 0).toNat) (if m = none then clip else true)) ⟨hg, fun _ _ => ?_⟩
    generalize (m.getD (c : Int)).toNat = M at *
    generalize (l.getD 0).toNat = l' at *
    generalize (u.getD (len : Int)).toNat = h' at *
    refine ⟨_, _, rfl, by clear hblk; omega, fun hk => ?_, fun hk => ?_, fun hpos => ?_⟩
    · by_cases hm : m = none
      · rw [if_pos hm] at hk
        have := hc1 hk
        have := hcl' hk hm
        have := hM1 hm
        clear hblk; omega
      · have := hM2 hm
        clear hblk; omega
    · by_cases hm : m = none
      · rw [if_pos hm] at hk
        have := hc2 hk
        have := hM1 hm
        clear hblk; omega
      · rw [if_neg hm] at hk; cases hk
    · have hne : ¬ M = l' := by clear hblk; omega
      have hle : off + l' + (M - l') ≤ off + c := by clear hblk; omega
      have hc0 : 0 < c := by clear hblk; omega
      obtain ⟨b, cur, et, fr, hμ, rfl, hb1, hb2⟩ := hblk hc0
      rw [if_neg hne]
      refine ⟨b, cur, et, fr, hμ, ?_, hb1, Nat.le_trans (Nat.mul_le_mul_right _ hle) hb2⟩
      simp only [Option.map_some, Addr.add_lit]
      rw [Nat.add_mul, hsz]
  · cases hr
theorem op_slice (hC : CfgOk C) (h : Rel n w0 F0 S0 G F μ fp [] σ a w) {t : TypeId} {x : Operand} {lo hi mx : Option Operand} {r : AV} (ho : o.op = .slice t x lo hi mx)
    (hr : sliceF C σ t (σ.get x) (lo.map σ.get) (hi.map σ.get) (mx.map σ.get) = some r) : OpPure C F μ fp σ o a w (σ.put o.dst r) :=
  (op_sliceX hC h ho hr).pure
end
end Go.Vm
end
section
/- What lies behind an address, read. -/
namespace Go.Vm
section
variable {C : Cfg} {n : Nat} {w0 : World} {F0 S0 F : Nat → Prop} {G : Value → AV → Prop} {μ : Nat → Option Nat} {fp : Nat → List Nat} {L : List Nat} {σ σ' : St} {a : Act} {w w' : World} {o : Oper}
theorem run_loadAt {t : TypeId} {T : TI} (hT : TIok C.P t T) {b o' : Nat} {vs : List Value} (hl : vs.length = T.sz) (hc : ∀ q, q < vs.length → w.cell? ⟨b, o' + q, none⟩ = vs[q]?) :
    (Instr.loadAt t (.pointer (some ⟨b, o', none⟩))).run C.P w = .ok (if T.desc.isStruct then .agg vs.toArray else vs.headD undef) w := by
  simp only [Instr.loadAt, Instr.sureAddr, Sem.run_bind, Sem.run_pure, Result.andThen_ok, loadVar, hT.isAgg w]
  cases hs : T.desc.isStruct
  · cases vs with
    | nil => have := hT.pos.1; simp at hl; omega
    | cons v vs =>
      have := hc 0 (by simp)
      simp at this
      simp [this]
  · have := run_loadCells_list (P := C.P) w ⟨b, o', none⟩ vs (fun j v hv => by
      obtain ⟨hj, _⟩ := List.getElem?_eq_some_iff.1 hv
      rw [Addr.add_lit, hc j hj, hv])
    simp [hT.size, ← hl, this]
theorem RepL.one {v : Value} {x : AV} {f : List Nat} (h : RepL F w [v] [x] f) : v.oneCell' = true := by
  cases h <;> first | rfl | assumption
theorem RepL.ones {vs : List Value} {xs : List AV} {f : List Nat} (h : RepL F w vs xs f) : ∀ v ∈ vs, v.oneCell' = true := by
  induction h with
  | nil => simp
  | und hv t ih => simp; exact ⟨hv, by simpa using ih⟩
  | _ => simp_all [Value.oneCell']
theorem RepL.flat {vs : List Value} {xs : List AV} {f : List Nat} (h : RepL F w vs xs f) : xs.flatMap leaves = xs := by
  induction h with
  | nil => rfl
  | _ => simp_all [List.flatMap_cons, leaves]
theorem RepL.leaf_nil {v : Value} {x : AV} {f : List Nat} (h : RepL F w [v] [x] f) (hx : ∀ sz l, x ≠ .own sz l) : f = [] := by
  cases h with
  | own => exact absurd rfl (hx _ _)
  | own0 => exact absurd rfl (hx _ _)
  | und hv t => cases t; rfl
  | int t => cases t; rfl
  | bool t => cases t; rfl
  | str t => cases t; rfl
  | fro0 hc t => cases t; rfl
  | fro hn hnc hc hF hcell hsz hu t => cases t; rfl
  | cptr hF hcell hu t => cases t; rfl
  | clo hu t => cases t; rfl
theorem RepL.sleaf {en : Nat → Ent} {v : Value} {x : AV} {f : List Nat} (h : RepL F w [v] [x] f) (hx : ∀ sz l, x ≠ .own sz l) : SLeaf F w en μ fp v x := by
  obtain rfl := h.leaf_nil hx
  cases x <;> first | exact h | exact absurd rfl (hx _ _) | (cases h; done) | skip
  · rename_i tg clip l
    cases tg with
    | none => exact h
    | some tg => cases h
  · rename_i tg c
    cases tg with
    | none => exact h
    | some tg => cases h
theorem seen_leaf {e i j b : Nat} {z x : AV} {v : Value} {f : List Nat} {cur : Array Value} {et : TypeId} {fr : Nat × Nat} (hz : (σ.en e).elems[i]? = some z) (hx : (leaves z)[j]? = some x) (hμ : μ e = some b)
    (hb : w.heap[b]? = some (.cells cur et fr)) (hv : cur[i * (σ.en e).sz + j]? = some v) (hr : RepL F w [v] [x] f) (hf : ∀ b ∈ f, b ∈ fp e) : SLeaf F w σ.en μ fp v (seen e (σ.en e).wr i j x) := by
  cases x with
  | own sz l =>
    refine ⟨Nat.le_refl _, fun _ _ => ⟨?_, fun _ i' j' hij => ?_⟩⟩
    · have := hr.froized
      simp only [List.map_cons, List.map_nil, froize, froizeL_eq] at this
      exact this.mono (fun b hb => hb.imp id (hf b)) (fun _ _ => rfl)
    · cases hij
      exact ⟨z, b, cur, et, fr, sz, hz, hx, hμ, hb, hv⟩
  | _ => exact hr.sleaf (by simp)
theorem seenL_get {e w' i : Nat} : ∀ {ls : List AV} {j q : Nat}, (seenL e w' i j ls)[q]? = (ls[q]?).map (seen e w' i (j + q))
  | [], j, q => by simp [seenL]
  | x :: xs, j, 0 => by simp [seenL]
  | x :: xs, j, q + 1 => by simp [seenL, seenL_get (ls := xs)]; congr 2; omega
theorem seenL_length {e w' i : Nat} : ∀ {ls : List AV} {j : Nat}, (seenL e w' i j ls).length = ls.length
  | [], _ => rfl
  | x :: xs, j => by simp [seenL, seenL_length (ls := xs)]
theorem RepL.at {vs : List Value} {xs : List AV} {f : List Nat} {q : Nat} {v : Value} {x : AV} (h : RepL F w vs xs f) (hv : vs[q]? = some v) (hx : xs[q]? = some x) : ∃ g, RepL F w [v] [x] g ∧ ∀ b ∈ g, b ∈ f := by
  obtain ⟨v', f1, f2, f3, hv', rfl, h2, _⟩ := h.get hx
  rw [hv] at hv'; cases hv'
  exact ⟨f2, h2, fun b hb => by simp [hb]⟩
theorem seenC_none_leaf {en : Nat → Ent} {v : Value} {x : AV} (h : RepL F w [v] [x] []) : SLeaf F w en μ fp v (seenC none x) := by
  cases x with
  | own sz l => cases h; exact RepL.fro0 (by simp) .nil
  | fro tg clip l =>
    cases tg with
    | none => exact h
    | some tg => cases h
  | _ => exact h.sleaf (by simp)
theorem RepL.fro_froize {v : Value} {clip : Bool} {l : List AV} (h : RepL F w [v] [.fro none clip l] []) : RepL F w [v] [.fro none clip (l.map froize)] [] := by
  obtain ⟨_, ⟨rfl, A, c, rfl, hc⟩ | ⟨b, o, c, sz, us, rfl, hlc, hc, hF, hcell, hs, hu⟩⟩ := h.fro_inv
  · exact h
  · have := hu.froized.mono (F' := F) (fun b hb => hb.elim id (by simp)) (fun _ _ => rfl)
    rw [← flat_froize] at this
    refine .fro (by simp) hlc hc hF hcell (sz := sz) (fun a ha => ?_) this .nil
    obtain ⟨z, hz, rfl⟩ := List.mem_map.1 ha
    rw [leaves_froize]; simpa using hs z hz
theorem seenC_some_leaf {e wv : Nat} {v : Value} {x : AV} (hg : wv ≤ (σ.en e).wr) (h : (σ.en e).live = true → (σ.en e).wr = wv → RepL (fun b => F b ∨ b ∈ fp e) w [v] [froize x] [])
    (hl : (σ.en e).live = true) (hw : (σ.en e).wr = wv) : SLeaf F w σ.en μ fp v (seenC (some (e, wv)) x) := by
  cases x with
  | own sz l =>
    refine ⟨hg, fun h1 h2 => ⟨?_, fun _ i j hij => by cases hij⟩⟩
    have := h h1 h2
    simpa only [froize, froizeL_eq] using this
  | fro tg clip l =>
    cases tg with
    | none => exact ⟨hg, fun h1 h2 => ⟨(h h1 h2).fro_froize, fun _ i j hij => by cases hij⟩⟩
    | some tg => exact RepL.und (h hl hw).one .nil
  | int k i => have := h hl hw; simp only [froize] at this; cases this; exact RepL.int .nil
  | bool b => have := h hl hw; simp only [froize] at this; cases this; exact RepL.bool .nil
  | str s => have := h hl hw; simp only [froize] at this; cases this; exact RepL.str .nil
  | _ => exact RepL.und (h hl hw).one .nil
theorem Rel.cells (h : Rel n w0 F0 S0 G F μ fp L σ a w) {e i : Nat} {z : AV} (hl : (σ.en e).live = true) (hz : (σ.en e).elems[i]? = some z) : ∃ b cur et fr us f1, μ e = some b ∧ w.heap[b]? = some (.cells cur et fr) ∧
    (∀ q, q < us.length → cur[i * (σ.en e).sz + q]? = us[q]?) ∧ RepL F w us (leaves z) f1 ∧ (∀ b ∈ f1, b ∈ fp e) ∧ ((σ.en e).frz = true → f1 = []) := by
  obtain ⟨hs, he⟩ := h.ent e hl
  obtain ⟨hi, rfl⟩ := List.getElem?_eq_some_iff.1 hz
  rcases he with ⟨_, h0, _⟩ | ⟨b, cur, et, fr, us, f1, e1, e2, e3, e4, e5⟩ | hm
  rotate_right 1
  · rw [hm.1] at hi; simp at hi
  · rw [h0] at hi; simp at hi
  · obtain ⟨fa, fb, rfl, _, h2⟩ := e4.take (i * (σ.en e).sz)
    obtain ⟨fc, fd, rfl, h3, _⟩ := h2.take (σ.en e).sz
    rw [flat_get hs hz] at h3
    refine ⟨b, cur, et, fr, _, fc, e1, e2, fun q hq => ?_, h3, fun b hb => ?_, fun hf => ?_⟩
    · rw [List.length_take, List.length_drop] at hq
      rw [e3 _ (by omega), List.getElem?_take, if_pos (by omega), List.getElem?_drop]
    · rcases e5 with ⟨_, _, e5, _⟩ | ⟨_, _, e5⟩
      · simp at e5; simp [e5] at hb
      · rw [e5]; simp [hb]
    · rcases e5 with ⟨_, _, e5, _⟩ | ⟨e5, _⟩
      · simp at e5; exact e5.2.1
      · rw [hf] at e5; cases e5
theorem op_load0 (hC : CfgOk C) (h : Rel n w0 F0 S0 G F μ fp [] σ a w) {t : TypeId} {x : Operand} {r : AV} (ho : o.op = .load t x) (hnp : ∀ e wv i j k q, σ.get x ≠ .np e wv i j k q) (hr : loadF C σ t (σ.get x) = some r) :
    OpPure C F μ fp σ o a w (σ.put o.dst r) := by
  have hx := h.get x
  have run : ∀ {T : TI} {b o' : Nat} {vs : List Value} (w' : World), KeptS w w' (fun _ => False) → TIok C.P t T → a.eval x = .pointer (some ⟨b, o', none⟩) → vs.length = T.sz → (∀ q, q < vs.length → w.cell? ⟨b, o' + q, none⟩ = vs[q]?) →
      (execOp a.eval o).run C.P w' = .ok (.value (if T.desc.isStruct then .agg vs.toArray else vs.headD undef)) w' := by
    intro T b o' vs w' hk hT hv hl hc
    have hc' : ∀ q, q < vs.length → w'.cell? ⟨b, o' + q, none⟩ = vs[q]? := fun q hq => by
      have h1 := hc q hq
      have hb := World.block_lt_of_cell? w ⟨b, o' + q, none⟩ (h1.trans (List.getElem?_eq_getElem hq))
      rw [cell?_congr (hk.block b hb (fun h => h)), h1]
    simp only [execOp, ho, hv, Sem.run_bind, run_loadAt hT hl hc', Result.andThen_ok, Sem.run_pure]
  unfold loadF at hr
  split at hr
  · rename_i e g i j hxe
    rw [hxe] at hx
    simp only [Option.bind_eq_bind, Option.bind_eq_some_iff] at hr
    obtain ⟨T, hT, E, hE, z, hz, _, hlen, hr⟩ := hr
    cases hr
    have hT' := hC.tt t T hT
    have hlen := ensure_some hlen
    obtain ⟨hl, he, rfl⟩ := cur_some hE
    obtain ⟨b, cur, et, fr, us, f1, hμ, hb, hcell, hrep, hf, hfz⟩ := h.cells hl hz
    obtain ⟨b', hμ', hv, _⟩ := hx.2 hl he
    rw [hμ] at hμ'; cases hμ'
    obtain ⟨fa, fb, rfl, _, h2⟩ := hrep.take j
    obtain ⟨fc, fd, rfl, h3, _⟩ := h2.take T.sz
    have hvl := h3.length
    rw [hlen] at hvl
    have hget : ∀ q u, ((us.drop j).take T.sz)[q]? = some u → cur[i * (σ.en e).sz + (j + q)]? = some u := by
      intro q u hu
      rw [List.getElem?_take] at hu
      split at hu
      · rw [List.getElem?_drop] at hu
        have hlt := (List.getElem?_eq_some_iff.1 hu).1
        rw [hcell _ hlt, hu]
      · cases hu
    refine .mk' (fun w' hk => run w' hk hT' hv hvl fun q hq => ?_) (SRep.mkV (All2.mk ?_ fun q v y hv hy => ?_) fun _ hx => ?_)
    · have hq' := List.getElem?_eq_getElem hq
      rw [hq', Nat.add_assoc, cell_of_row w b _ cur et fr hb, hget q _ hq']
    · split
      · rw [hvl, List.length_map, hlen]
      · rw [hvl, seenL_length, hlen]
    · split at hy
      · rename_i hfrz
        rw [List.getElem?_map] at hy
        obtain ⟨x', hx', rfl⟩ := Option.map_eq_some_iff.1 hy
        obtain ⟨g', hg', hsub⟩ := h3.at hv hx'
        have hnil := hfz hfrz
        obtain rfl : fc = [] := (List.append_eq_nil_iff.1 (List.append_eq_nil_iff.1 hnil).2).1
        obtain rfl : g' = [] := List.eq_nil_iff_forall_not_mem.2 fun b hb => by simpa using hsub b hb
        exact seenC_none_leaf hg'
      · rw [seenL_get] at hy
        obtain ⟨x', hx', rfl⟩ := Option.map_eq_some_iff.1 hy
        obtain ⟨g', hg', hsub⟩ := h3.at hv hx'
        refine seen_leaf hz ?_ hμ hb (hget q v hv) hg' (fun b hb => hf b ?_)
        · rw [List.getElem?_take] at hx'
          split at hx'
          · rwa [List.getElem?_drop] at hx'
          · cases hx'
        · simp [hsub b hb]
    · have := congrArg List.length hx
      have hp := hT'.pos.1
      split at this
      · rw [List.length_map, hlen, List.length_nil] at this; omega
      · rw [seenL_length, hlen, List.length_nil] at this; omega
  · rename_i tg c hxe
    rw [hxe] at hx
    simp only [Option.bind_eq_bind, Option.bind_eq_some_iff] at hr
    obtain ⟨T, hT, _, hv, _, hlen, hr⟩ := hr
    cases hr
    have hT' := hC.tt t T hT
    have hlen := ensure_some hlen
    have nn : T.desc.isStruct = false → (c.take T.sz).map (seenC tg) ≠ [] := fun _ hx => by
      have := congrArg List.length hx
      have hp := hT'.pos.1
      simp only [List.length_map, List.length_nil] at this; omega
    cases tg with
    | none =>
      obtain ⟨b, o', us, hv, hF, hcell, hu⟩ := RepL.cptr_inv (show RepL F w [a.eval x] [.cptr none c] [] from hx)
      obtain ⟨fa, fb, hf, h3, _⟩ := hu.take T.sz
      obtain ⟨rfl, rfl⟩ := List.append_eq_nil_iff.1 hf.symm
      have hvl := h3.length
      rw [hlen] at hvl
      refine .mk' (fun w' hk => run w' hk hT' hv hvl fun q hq => ?_) (SRep.mkV (All2.mk (by rw [hvl, List.length_map, hlen]) fun q v y hv hy => ?_) nn)
      · rw [List.length_take] at hq
        rw [hcell q (by omega), List.getElem?_take, if_pos (by omega)]
      · rw [List.getElem?_map] at hy
        obtain ⟨x', hx', rfl⟩ := Option.map_eq_some_iff.1 hy
        obtain ⟨g', hg', hsub⟩ := h3.at hv hx'
        obtain rfl : g' = [] := List.eq_nil_iff_forall_not_mem.2 fun b hb => by simpa using hsub b hb
        exact seenC_none_leaf hg'
    | some p =>
      obtain ⟨e, wv⟩ := p
      obtain ⟨hl, hw⟩ := ensure_some hv
      obtain ⟨b, o', us, hv, hF, hcell, hu⟩ := (hx.2 hl hw).cptr_inv
      obtain ⟨fa, fb, hf, h3, _⟩ := hu.take T.sz
      obtain ⟨rfl, rfl⟩ := List.append_eq_nil_iff.1 hf.symm
      have hvl := h3.length
      rw [← List.map_take, List.length_map, hlen] at hvl
      refine .mk' (fun w' hk => run w' hk hT' hv hvl fun q hq => ?_) (SRep.mkV (All2.mk (by rw [hvl, List.length_map, hlen]) fun q v y hv hy => ?_) nn)
      · rw [List.length_take] at hq
        rw [hcell q (by omega), List.getElem?_take, if_pos (by omega)]
      · rw [List.getElem?_map] at hy
        obtain ⟨x', hx', rfl⟩ := Option.map_eq_some_iff.1 hy
        obtain ⟨g', hg', hsub⟩ := h3.at hv (x := froize x') (by rw [← List.map_take, List.getElem?_map, hx']; rfl)
        obtain rfl : g' = [] := List.eq_nil_iff_forall_not_mem.2 fun b hb => by simpa using hsub b hb
        exact seenC_some_leaf hx.1 (fun _ _ => hg') hl hw
  · rename_i hxe
    exact (hnp _ _ _ _ _ _ hxe).elim
  · cases hr
end
end Go.Vm
end
section
/- Stores: cells of a block, and of an entry. -/
namespace Go.Vm
section
variable {C : Cfg} {n : Nat} {w0 : World} {F0 S0 F : Nat → Prop} {G : Value → AV → Prop} {μ : Nat → Option Nat} {fp : Nat → List Nat} {L : List Nat} {σ σ' : St} {a : Act} {w w' : World} {o : Oper}
def setRow (cur : Array Value) (o : Nat) : List Value → Array Value
  | [] => cur
  | v :: vs => setRow (cur.setIfInBounds o v) (o + 1) vs
theorem setRow_size : ∀ {vs : List Value} {cur : Array Value} {o : Nat}, (setRow cur o vs).size = cur.size
  | [], _, _ => rfl
  | v :: vs, cur, o => by simp [setRow, setRow_size (vs := vs)]
theorem setRow_get : ∀ {vs : List Value} {cur : Array Value} {o q : Nat}, o + vs.length ≤ cur.size → (setRow cur o vs)[q]? = if o ≤ q ∧ q < o + vs.length then vs[q - o]? else cur[q]?
  | [], cur, o, q, _ => by
    rw [setRow, if_neg (by simp)]
  | v :: vs, cur, o, q, h => by
    simp only [List.length_cons] at h
    rw [setRow, setRow_get (by simp; omega)]
    by_cases hq : q = o
    · subst hq
      rw [if_neg (by omega), if_pos (by simp), Array.getElem?_setIfInBounds_self_of_lt (by omega)]
      simp
    · by_cases h2 : o + 1 ≤ q ∧ q < o + 1 + vs.length
      · rw [if_pos h2, if_pos (by simp; omega)]
        obtain ⟨k, rfl⟩ : ∃ k, q = o + 1 + k := ⟨q - (o + 1), by omega⟩
        rw [show o + 1 + k - (o + 1) = k by omega, show o + 1 + k - o = k + 1 by omega]
        simp
      · rw [if_neg h2, if_neg (by simp; omega), Array.getElem?_setIfInBounds_ne (Ne.symm hq)]
theorem setCells_heap : ∀ {vs : List Value} {w : World} {b o : Nat} {cur : Array Value} {et : TypeId} {fr : Nat × Nat}, w.heap[b]? = some (.cells cur et fr) → o + vs.length ≤ cur.size →
    (w.setCells b o vs).heap[b]? = some (.cells (setRow cur o vs) et fr) ∧ (∀ b', b' ≠ b → (w.setCells b o vs).heap[b']? = w.heap[b']?) ∧ (w.setCells b o vs).heap.size = w.heap.size ∧
      (w.setCells b o vs).os = w.os ∧ (w.setCells b o vs).tape = w.tape ∧ (w.setCells b o vs).output = w.output
  | [], w, b, o, cur, et, fr, hb, _ => ⟨hb, fun _ _ => rfl, rfl, rfl, rfl, rfl⟩
  | v :: vs, w, b, o, cur, et, fr, hb, hl => by
    simp only [List.length_cons] at hl
    have hlt : b < w.heap.size := (Array.getElem?_eq_some_iff.1 hb).1
    have h1 : (w.setCell ⟨b, o, none⟩ v).heap[b]? = some (.cells (cur.setIfInBounds o v) et fr) := by
      simp [World.setCell, Array.getElem?_modify, hb]
    obtain ⟨h2, h3, h4, h5⟩ := setCells_heap (vs := vs) (o := o + 1) h1 (by simp; omega)
    refine ⟨h2, fun b' hb' => (h3 b' hb').trans ?_, h4.trans ?_, h5⟩
    · simp only [World.setCell, Array.getElem?_modify, if_neg (Ne.symm hb')]
    · simp [World.setCell]
theorem run_storeAt {t : TypeId} {T : TI} (hT : TIok C.P t T) {b o' : Nat} {cur : Array Value} {et : TypeId} (hb : w.heap[b]? = some (.cells cur et (0, 0))) {v : Value} (hl : v.cells.size = T.sz) (h1 : ∀ u ∈ v.cells.toList, u.oneCell' = true) (ho : o' + T.sz ≤ cur.size) :
    (Instr.storeAt t (.pointer (some ⟨b, o', none⟩)) v).run C.P w = .ok () (w.setCells b o' v.cells.toList) := by
  have := run_storeCells_cells (P := C.P) b o' v.cells.toList 0 w (fun j hj => by
      rw [Nat.add_zero, cell_of_row w b _ cur et (0, 0) hb]
      simp at hj ⊢; omega) (fun j hj => by simp [World.frozen?, hb]) h1
  simp only [Instr.storeAt, Instr.sureAddr, storeVar, Sem.run_bind, Sem.run_pure, Result.andThen_ok, hT.size, hl, ne_eq, not_true, if_false]
  simpa using this
/-! ### A range of an entry's cells -/
theorem flat_set {sz : Nat} {l : List AV} {i : Nat} {x : AV} (h : ∀ a ∈ l, (leaves a).length = sz) (hi : i < l.length) : (l.set i x).flatMap leaves = (l.flatMap leaves).take (i * sz) ++ leaves x ++ (l.flatMap leaves).drop ((i + 1) * sz) := by
  rw [List.set_eq_take_append_cons_drop, if_pos hi, List.flatMap_append, List.flatMap_cons, flat_take i h, flat_drop (i + 1) h, List.append_assoc]
theorem RepL.splice {us vs : List Value} {xs ls : List AV} {f1 f : List Nat} (hu : RepL F w us xs f1) (hv : RepL F w vs ls f) (off k : Nat) : ∃ fa fb fc, f1 = fa ++ fb ++ fc ∧ RepL F w (us.take off ++ vs ++ us.drop (off + k)) (xs.take off ++ ls ++ xs.drop (off + k)) (fa ++ f ++ fc) := by
  obtain ⟨fa, fd, rfl, h1, h2⟩ := hu.take off
  obtain ⟨fb, fc, rfl, _, h3⟩ := h2.take k
  refine ⟨fa, fb, fc, by simp, ?_⟩
  have := (h1.append hv).append h3
  simpa [List.drop_drop] using this
theorem Rel.writeRange {f : List Nat} (h : Rel n w0 F0 S0 G F μ fp (f ++ L) σ a w) {e b : Nat} (hl : (σ.en e).live = true) (hfz : (σ.en e).frz = false) {cur : Array Value} {et : TypeId} {vs : List Value} {ls : List AV} {off : Nat} {E' : Ent}
    (hμ : μ e = some b) (hblk : w.heap[b]? = some (.cells cur et (0, 0))) (hr : RepL F w vs ls f) (hoff : off ≤ ((σ.en e).elems.flatMap leaves).length) (hroom : off + ls.length ≤ cur.size)
    (hlv : E'.live = true) (hf' : E'.frz = false) (hsz' : E'.sz = (σ.en e).sz) (hgen : (σ.en e).gen ≤ E'.gen) (hwr : (σ.en e).wr < E'.wr) (hN : E'.gen = (σ.en e).gen → E'.elems.length ≤ (σ.en e).elems.length)
    (hel : ∀ x ∈ E'.elems, (leaves x).length = E'.sz) (hflat : E'.elems.flatMap leaves = ((σ.en e).elems.flatMap leaves).take off ++ ls ++ ((σ.en e).elems.flatMap leaves).drop (off + ls.length)) :
    ∃ fp', Rel n w0 F0 S0 G F μ fp' L (σ.ent e E') a (w.setCells b off vs) ∧ Step F w σ.en μ fp F (w.setCells b off vs) (σ.ent e E').en μ fp' ∧
      (w.setCells b off vs).heap[b]? = some (.cells (setRow cur off vs) et (0, 0)) := by
  have hvl := hr.length
  obtain ⟨h1, h2, h3, h4, h5, h6⟩ := setCells_heap (vs := vs) (o := off) hblk (by omega)
  obtain ⟨_, he⟩ := h.ent e hl
  rcases he with ⟨e0, _⟩ | ⟨b', cur', et', fr, us, f1, e1, e2, e3, e4, e5⟩ | hm
  rotate_right 1
  · exact (hm.noCells (by assumption) (by assumption)).elim
  · rw [hμ] at e0; cases e0
  rw [hμ] at e1; cases e1
  rw [hblk] at e2; cases e2
  rcases e5 with ⟨e5, _⟩ | ⟨_, _, e5⟩
  · rw [hfz] at e5; cases e5
  obtain ⟨fa, fb, fc, rfl, h7⟩ := e4.splice hr off ls.length
  have hul := e4.length
  have hnd := h.nodup e hl
  rw [e5] at hnd
  have hnd1 := (List.nodup_cons.1 hnd).2
  have hnL := h.looseNodup
  have hap : ∀ x ∈ f ++ L, x ∉ fa ++ fb ++ fc := fun x hx hx2 => (h.loose x hx).2.2.2 e hl (by rw [e5]; simp only [List.mem_cons]; exact .inr hx2)
  have nd : (fa ++ f ++ fc ++ L).Nodup := by
    have h8 : (fa ++ fc).Nodup := hnd1.sublist (by simp)
    have h9 : ((fa ++ fc) ++ (f ++ L)).Nodup := List.nodup_append.2 ⟨h8, hnL, fun x hx y hy hxy => by subst hxy; exact hap x hy (by simp at hx ⊢; rcases hx with hx | hx <;> simp [hx])⟩
    refine (List.Perm.nodup_iff ?_).1 h9
    simp only [List.append_assoc]
    refine List.Perm.append_left fa ?_
    rw [← List.append_assoc, ← List.append_assoc]
    exact List.perm_append_comm.append_right L
  have hw := h.write (E' := E') (f' := fa ++ f ++ fc) (L' := L) hl hfz hμ hblk e5 hlv hf' hsz' hgen hwr hN h1 setRow_size h2 h3 h4 h5 h6 hel (us' := us.take off ++ vs ++ us.drop (off + ls.length)) (fun q hq => ?_) (by rw [hflat]; exact h7) (fun x hx => ?_) nd
  · exact ⟨_, hw.1, hw.2, h1⟩
  · simp only [List.length_append, List.length_take, List.length_drop] at hq
    rw [setRow_get (by omega)]
    by_cases hq1 : q < off
    · rw [if_neg (by omega), e3 q (by omega), List.append_assoc, List.getElem?_append_left (by simp; omega), List.getElem?_take, if_pos hq1]
    · by_cases hq2 : q < off + vs.length
      · rw [if_pos (by omega), List.append_assoc, List.getElem?_append_right (by simp; omega), List.length_take, Nat.min_eq_left (by omega), List.getElem?_append_left (by omega)]
      · rw [if_neg (by omega), e3 q (by omega), List.getElem?_append_right (by simp; omega), List.length_append, List.length_take, Nat.min_eq_left (by omega), List.getElem?_drop]
        congr 1; omega
  · simp only [List.mem_append] at hx ⊢
    rcases hx with ((hx | hx) | hx) | hx <;> simp [hx]
end
end Go.Vm
end
section
/- What is lent to be written, and how it comes back; what an element owns. -/
namespace Go.Vm
section
variable {C : Cfg} {n : Nat} {w0 : World} {F0 S0 F : Nat → Prop} {G : Value → AV → Prop} {μ : Nat → Option Nat} {fp : Nat → List Nat} {L : List Nat} {σ σ' : St} {a : Act} {w w' : World} {o : Oper}
theorem RepL.own_inv {v : Value} {sz : Nat} {l : List AV} {f : List Nat} (h : RepL F w [v] [.own sz l] f) : (l = [] ∧ f = [] ∧ ∃ A, v = .slice A 0 0) ∨
    ∃ g c et cur us f1, v = .slice (some ⟨g, 0, none⟩) l.length c ∧ l.length ≤ c ∧ w.heap[g]? = some (.cells cur et (0, 0)) ∧ c * sz ≤ cur.size ∧ (∀ q, q < us.length → cur[q]? = us[q]?) ∧ (∀ a ∈ l, (leaves a).length = sz) ∧ RepL F w us (l.flatMap leaves) f1 ∧ f = g :: f1 := by
  cases h with
  | own0 t => cases t; exact .inl ⟨rfl, rfl, _, rfl⟩
  | own hn hnc hb hcap hcell hsz hu t => cases t; subst hn; exact .inr ⟨_, _, _, _, _, _, rfl, hnc, hb, hcap, hcell, hsz, hu, by simp⟩
theorem Rel.hdRange (h : Rel n w0 F0 S0 G F μ fp L σ a w) {v : Value} {e g off len : Nat} {clip : Bool} (hx : SLeaf F w σ.en μ fp v (.hd e g off len clip)) (hl : (σ.en e).live = true) (hg : (σ.en e).gen = g) (hb : off + len ≤ (σ.en e).elems.length) :
    ∃ A c us f, v = .slice A len c ∧ len ≤ c ∧ (clip = true → c = len) ∧ (clip = false → (σ.en e).elems.length ≤ off + c) ∧ us.length = len * (σ.en e).sz ∧
      (0 < us.length → ∃ b o', A = some ⟨b, o', none⟩ ∧ ∀ q, q < us.length → w.cell? ⟨b, o' + q, none⟩ = us[q]?) ∧ RepL F w us ((((σ.en e).elems.drop off).take len).flatMap leaves) f ∧ f.Sublist (fp e) ∧ ((σ.en e).frz = true → f = []) ∧
      (0 < c → ∃ b cur et fr, μ e = some b ∧ A = some ⟨b, off * (σ.en e).sz, none⟩ ∧ w.heap[b]? = some (.cells cur et fr) ∧ (off + c) * (σ.en e).sz ≤ cur.size) := by
  obtain ⟨_, hx⟩ := hx
  obtain ⟨A, c, rfl, hlc, hcl, hnc, hblk⟩ := hx hl hg
  obtain ⟨hs, he⟩ := h.ent e hl
  by_cases hlen : len = 0
  · subst hlen
    exact ⟨A, c, [], [], rfl, hlc, hcl, hnc, by simp, by simp, by simpa using RepL.nil, by simp, fun _ => rfl, hblk⟩
  · obtain ⟨b, cur, et, fr, hμ, rfl, hb1, hb2⟩ := hblk (by clear hblk; omega)
    rcases he with ⟨e1, _⟩ | ⟨b', cur', et', fr', us, f1, e1, e2, e3, e4, e5⟩ | hm
    rotate_right 1
    · exact (hm.noCells (by assumption) (by assumption)).elim
    · rw [hμ] at e1; cases e1
    rw [hμ] at e1; cases e1
    rw [hb1] at e2; cases e2
    obtain ⟨fa, fb, fc, rfl, h2⟩ := e4.sub off len hs
    have hul := e4.length
    rw [flat_length hs] at hul
    have hmul : (off + len) * (σ.en e).sz ≤ (σ.en e).elems.length * (σ.en e).sz := Nat.mul_le_mul_right _ hb
    rw [Nat.add_mul] at hmul
    have hlen' : ((us.drop (off * (σ.en e).sz)).take (len * (σ.en e).sz)).length = len * (σ.en e).sz := by simp; omega
    refine ⟨_, c, _, fb, rfl, hlc, hcl, hnc, hlen', fun _ => ⟨b, _, rfl, fun q hq => ?_⟩, h2, ?_, fun hfz => ?_, fun _ => ⟨b, cur, et, fr, hμ, rfl, hb1, hb2⟩⟩
    · rw [hlen'] at hq
      rw [cell_of_row w b _ cur et fr hb1, e3 _ (by omega), List.getElem?_take, if_pos hq, List.getElem?_drop]
    · rcases e5 with ⟨_, _, e5, _⟩ | ⟨_, _, e5⟩
      · simp at e5; simp [e5]
      · rw [e5, List.append_assoc]
        exact (((List.sublist_append_left fb fc).trans (List.sublist_append_right fa (fb ++ fc)))).trans (List.sublist_cons_self _ _)
    · rcases e5 with ⟨_, _, e5, _⟩ | ⟨e5, _⟩
      · simp at e5; exact e5.2.1
      · rw [hfz] at e5; cases e5
theorem leaves_reEl {x : AV} {ls : List AV} (h : (∀ fs, x ≠ .agg fs) → ∃ y, ls = [y] ∧ leaves y = [y]) : leaves (reEl x ls) = ls := by
  unfold reEl
  split
  · rfl
  · rename_i hx
    obtain ⟨y, rfl, hy⟩ := h hx
    simpa using hy
theorem leaves_length_of {x : AV} (h : ∀ fs, x ≠ .agg fs) : leaves x = [x] := by
  cases x <;> first | rfl | exact absurd rfl (h _)

theorem Rel.frz_fp (h : Rel n w0 F0 S0 G F μ fp L σ a w) {e : Nat} (hl : (σ.en e).live = true) (hf : (σ.en e).frz = true) : fp e = [] := by
  rcases (h.ent e hl).2 with ⟨_, _, e1⟩ | ⟨b, cur, et, fr, us, f1, _, _, _, _, e5⟩ | hm
  rotate_right 1
  · exact hm.frozen hf
  · exact e1
  · rcases e5 with ⟨_, e5, _⟩ | ⟨e5, _⟩
    · exact e5
    · rw [hf] at e5; cases e5
def lentF (F : Nat → Prop) (σ : St) (fp : Nat → List Nat) (es : List Nat) : Nat → Prop := fun b => F b ∨ ∃ e ∈ es, (σ.en e).live = true ∧ b ∈ fp e
theorem lent_of (h : Rel n w0 F0 S0 G F μ fp L σ a w) {e : Nat} (hl : (σ.en e).live = true) {vs : List Value} {xs : List AV} (hr : RepL (fun b => F b ∨ b ∈ fp e) w vs xs []) : RepL (lentF F σ fp (if (σ.en e).frz then [] else [e])) w vs xs [] := by
  refine hr.mono (fun b hb => ?_) (fun _ _ => rfl)
  rcases hb with hb | hb
  · exact .inl hb
  · cases hf : (σ.en e).frz
    · exact .inr ⟨e, by simp, hl, hb⟩
    · rw [h.frz_fp hl hf] at hb; cases hb
theorem lendLeaf_ok (h : Rel n w0 F0 S0 G F μ fp L σ a w) {v : Value} {x y : AV} (hx : SLeaf F w σ.en μ fp v x) (hy : lendLeaf σ x = some y) : RepL (lentF F σ fp (lentOf σ x)) w [v] [y] [] := by
  have plain : ∀ {z : AV} {es : List Nat}, RepL F w [v] [z] [] → RepL (lentF F σ fp es) w [v] [z] [] := fun hz => hz.mono (fun _ h => .inl h) (fun _ _ => rfl)
  unfold lendLeaf at hy
  split at hy
  · rename_i e g off len clip
    simp only [Option.bind_eq_bind, Option.bind_eq_some_iff] at hy
    obtain ⟨E, hE, _, hb, hy⟩ := hy
    cases hy
    obtain ⟨hl, hg, rfl⟩ := cur_some hE
    have hb := ensure_some hb
    obtain ⟨A, c, us, f, rfl, hlc, hcl, _, hul, hA, hu, hsub, hfz, hblk⟩ := h.hdRange hx hl hg hb
    refine lent_of h hl ?_
    have hlen : (((σ.en e).elems.drop off).take len).length = len := by simp; omega
    have hes := (h.ent e hl).1
    by_cases h0 : len = 0
    · subst h0
      simp only [List.take_zero, List.map_nil]
      exact .fro0 (fun hc => hcl hc) .nil
    · obtain ⟨b, cur, et, fr, hμ, rfl, hb1, hb2⟩ := hblk (by clear hblk; omega)
      have hent := (h.ent e hl).2
      have hF : F b ∨ b ∈ fp e := by
        rcases hent with ⟨e1, _⟩ | ⟨b', cur', et', fr', us', f1', e1, e2, e3, e4, e5⟩ | hm
        rotate_right 1
        · exact (hm.noCells (by assumption) (by assumption)).elim
        · rw [hμ] at e1; cases e1
        rw [hμ] at e1; cases e1
        rcases e5 with ⟨_, _, _, e6⟩ | ⟨_, _, e6⟩
        · exact .inl e6
        · exact .inr (by rw [e6]; simp)
      have hpos : 0 < us.length ∨ us.length = 0 := by omega
      have hr := hu.froized
      rw [← flat_froize] at hr
      refine .fro (sz := (σ.en e).sz) (us := us) (by rw [List.length_map, hlen]) hlc hcl hF (fun q hq => ?_) (fun z hz => ?_) (hr.mono (fun b hb => hb.imp id (fun hb => hsub.subset hb)) (fun _ _ => rfl)) .nil
      · obtain ⟨b2, o2, e1, e2⟩ := hA (by omega)
        cases e1
        exact e2 q hq
      · obtain ⟨z', hz', rfl⟩ := List.mem_map.1 hz
        rw [leaves_froize]; simpa using hes z' (List.mem_of_mem_drop (List.mem_of_mem_take hz'))
  · cases hy; exact plain hx
  · rename_i e wv oo clip l
    simp only [Option.bind_eq_bind, Option.bind_eq_some_iff] at hy
    obtain ⟨_, hv, hy⟩ := hy
    cases hy
    obtain ⟨hl, hw⟩ := ensure_some hv
    exact lent_of h hl (hx.2 hl hw).1
  · rename_i e g i j
    simp only [Option.bind_eq_bind, Option.bind_eq_some_iff] at hy
    obtain ⟨E, hE, z, hz, hy⟩ := hy
    cases hy
    obtain ⟨hl, hg, rfl⟩ := cur_some hE
    obtain ⟨b, cur, et, fr, us, f1, hμ, hb, hcell, hrep, hf, hfz⟩ := h.cells hl hz
    obtain ⟨b', hμ', hv, _⟩ := hx.2 hl hg
    rw [hμ] at hμ'; cases hμ'
    obtain ⟨fa, fb, rfl, _, h2⟩ := hrep.take j
    have hent := (h.ent e hl).2
    have hF : F b ∨ b ∈ fp e := by
      rcases hent with ⟨e1, _⟩ | ⟨b', cur', et', fr', us', f1', e1, e2, e3, e4, e5⟩ | hm
      rotate_right 1
      · exact (hm.noCells (by assumption) (by assumption)).elim
      · rw [hμ] at e1; cases e1
      rw [hμ] at e1; cases e1
      rcases e5 with ⟨_, _, _, e6⟩ | ⟨_, _, e6⟩
      · exact .inl e6
      · exact .inr (by rw [e6]; simp)
    refine lent_of h hl ?_
    rw [hv]
    refine .cptr hF (us := us.drop j) (fun q hq => ?_) ((h2.froized).mono (fun b hb => hb.imp id fun hb => hf b (by simp [hb])) (fun _ _ => rfl)) .nil
    rw [List.length_drop] at hq
    rw [cell_of_row w b _ cur et fr hb, Nat.add_assoc, hcell _ (by omega), List.getElem?_drop]
  · cases hy; exact plain hx
  · rename_i e wv c
    simp only [Option.bind_eq_bind, Option.bind_eq_some_iff] at hy
    obtain ⟨_, hv, hy⟩ := hy
    cases hy
    obtain ⟨hl, hw⟩ := ensure_some hv
    exact lent_of h hl (hx.2 hl hw)
  all_goals first | (cases hy; exact plain hx) | cases hy
theorem lentF_mono {es es' : List Nat} (hs : ∀ e ∈ es, e ∈ es') {b : Nat} (hb : lentF F σ fp es b) : lentF F σ fp es' b := hb.imp id fun ⟨e, h1, h2⟩ => ⟨e, hs e h1, h2⟩
theorem lendL_ok (h : Rel n w0 F0 S0 G F μ fp L σ a w) : ∀ {xs ys : List AV} {vs : List Value}, All2 (SLeaf F w σ.en μ fp) vs xs → lendL σ xs = some ys → RepL (lentF F σ fp (xs.flatMap (lentOf σ))) w vs ys []
  | [], ys, [], _, hy => by cases hy; exact .nil
  | x :: xs, ys, v :: vs, ⟨h1, h2⟩, hy => by
    simp only [lendL, Option.bind_eq_bind, Option.bind_eq_some_iff] at hy
    obtain ⟨y, hy1, ys', hy2, he⟩ := hy
    cases he
    have r1 := (lendLeaf_ok h h1 hy1).mono (F' := lentF F σ fp ((x :: xs).flatMap (lentOf σ))) (w' := w) (fun b hb => lentF_mono (by simp +contextual) hb) (fun _ _ => rfl)
    have r2 := (lendL_ok h h2 hy2).mono (F' := lentF F σ fp ((x :: xs).flatMap (lentOf σ))) (w' := w) (fun b hb => lentF_mono (by simp +contextual) hb) (fun _ _ => rfl)
    exact r1.cons r2
  | [], _, _ :: _, h, _ => h.elim
  | _ :: _, _, [], h, _ => h.elim
def ValRep (F : Nat → Prop) (w : World) (v : Value) (x : AV) (f : List Nat) : Prop :=
  match x with
  | .agg fs => ∃ cs : Array Value, v = .agg cs ∧ RepL F w cs.toList fs f
  | x => RepL F w [v] [x] f
inductive ValsRep (F : Nat → Prop) (w : World) : List Value → List AV → List Nat → Prop
  | nil : ValsRep F w [] [] []
  | cons {v : Value} {x : AV} {vs : List Value} {xs : List AV} {f1 f2 : List Nat} (h1 : ValRep F w v x f1) (h2 : ValsRep F w vs xs f2) : ValsRep F w (v :: vs) (x :: xs) (f1 ++ f2)
def PtRep (F : Nat → Prop) (w : World) (v : Value) (sz : Nat) (l : List AV) (i j : Nat) (f : List Nat) : Prop :=
  ∃ b cur et us f1, v = .pointer (some ⟨b, i * sz + j, none⟩) ∧ w.heap[b]? = some (.cells cur et (0, 0)) ∧ (∀ q, q < us.length → cur[q]? = us[q]?) ∧ (∀ a ∈ l, (leaves a).length = sz) ∧ RepL F w us (l.flatMap leaves) f1 ∧ f = b :: f1
theorem PtRep.mono {F' : Nat → Prop} {v : Value} {sz i j : Nat} {l : List AV} {f : List Nat} (h : PtRep F w v sz l i j f) (hF : ∀ b, F b → F' b) (hk : ∀ b, F b ∨ b ∈ f → w'.heap[b]? = w.heap[b]?) : PtRep F' w' v sz l i j f := by
  obtain ⟨b, cur, et, us, f1, h1, h2, h3, h4, h5, rfl⟩ := h
  exact ⟨b, cur, et, us, f1, h1, (hk b (.inr (by simp))).trans h2, h3, h4, h5.mono hF fun b hb => hk b (hb.imp id fun hb => by simp [hb]), rfl⟩
def ResRep (F : Nat → Prop) (w : World) (v : Value) (x : AV) (f : List Nat) : Prop :=
  match x with
  | .tup xs => ∃ us : Array Value, v = .tuple us ∧ ValsRep F w us.toList xs f
  | .pt sz l i j => PtRep F w v sz l i j f
  | x => ValRep F w v x f
theorem ValRep.mono {F' : Nat → Prop} {v : Value} {x : AV} {f : List Nat} (h : ValRep F w v x f) (hF : ∀ b, F b → F' b) (hk : ∀ b, F b ∨ b ∈ f → w'.heap[b]? = w.heap[b]?) : ValRep F' w' v x f := by
  cases x with
  | agg fs => obtain ⟨cs, e, h⟩ := h; exact ⟨cs, e, h.mono hF hk⟩
  | _ => exact RepL.mono (show RepL F w _ _ _ from h) hF hk
theorem ValsRep.mono {F' : Nat → Prop} {vs : List Value} {xs : List AV} {f : List Nat} (h : ValsRep F w vs xs f) (hF : ∀ b, F b → F' b) (hk : ∀ b, F b ∨ b ∈ f → w'.heap[b]? = w.heap[b]?) : ValsRep F' w' vs xs f := by
  induction h with
  | nil => exact .nil
  | cons h1 h2 ih => exact .cons (h1.mono hF fun b hb => hk b (hb.imp id fun h => by simp [h])) (ih fun b hb => hk b (hb.imp id fun h => by simp [h]))
theorem ResRep.mono {F' : Nat → Prop} {v : Value} {x : AV} {f : List Nat} (h : ResRep F w v x f) (hF : ∀ b, F b → F' b) (hk : ∀ b, F b ∨ b ∈ f → w'.heap[b]? = w.heap[b]?) : ResRep F' w' v x f := by
  cases x with
  | tup xs => obtain ⟨cs, e, h⟩ := h; exact ⟨cs, e, h.mono hF hk⟩
  | pt sz l i j => exact PtRep.mono h hF hk
  | _ => simp only [ResRep] at h ⊢; exact ValRep.mono h hF hk
theorem passArg_ok (h : Rel n w0 F0 S0 G F μ fp L σ a w) {v : Value} {x y : AV} (hx : SRep F w σ.en μ fp v x) (hy : passArg σ x = some y) : ValRep (lentF F σ fp ((leaves x).flatMap (lentOf σ))) w v y [] := by
  unfold passArg at hy
  have leaf : ∀ {y : AV}, lendLeaf σ x = some y → SLeaf F w σ.en μ fp v x → leaves x = [x] → ValRep (lentF F σ fp ((leaves x).flatMap (lentOf σ))) w v y [] := by
    intro y hy hs he
    have hr := lendLeaf_ok h hs hy
    rw [he]
    simp only [List.flatMap_cons, List.flatMap_nil, List.append_nil]
    cases y with
    | agg fs => cases hr
    | _ => exact hr
  cases x with
  | agg fs =>
    simp only [Option.bind_eq_bind, Option.bind_eq_some_iff] at hy
    obtain ⟨ls, hls, hy⟩ := hy
    cases hy
    obtain ⟨cs, rfl, hall⟩ := hx
    exact ⟨cs, rfl, lendL_ok h hall hls⟩
  | tup => simp [lendLeaf] at hy
  | pt => simp [lendLeaf] at hy
  | _ => exact leaf hy (hx.leaf (by simp) (by simp) (by simp)) rfl
def ArgRep (F : Nat → Prop) (w : World) (v : Value) (x : AV) (f : List Nat) : Prop :=
  match x with
  | .pt sz l i j => ∃ b cur et us f1, v = .pointer (some ⟨b, i * sz + j, none⟩) ∧ w.heap[b]? = some (.cells cur et (0, 0)) ∧ (∀ q, q < us.length → cur[q]? = us[q]?) ∧ (∀ a ∈ l, (leaves a).length = sz) ∧ RepL F w us (l.flatMap leaves) f1 ∧ f = b :: f1
  | x => ValRep F w v x f
inductive ArgsRep (F : Nat → Prop) (w : World) : List Value → List AV → List Nat → Prop
  | nil : ArgsRep F w [] [] []
  | cons {v : Value} {x : AV} {vs : List Value} {xs : List AV} {f1 f2 : List Nat} (h1 : ArgRep F w v x f1) (h2 : ArgsRep F w vs xs f2) : ArgsRep F w (v :: vs) (x :: xs) (f1 ++ f2)
theorem ArgRep.of_val {v : Value} {x : AV} {f : List Nat} (h : ValRep F w v x f) : ArgRep F w v x f := by
  cases x with
  | pt => cases (show RepL F w _ _ _ from h)
  | _ => exact h
theorem ArgRep.mono {F' : Nat → Prop} {v : Value} {x : AV} {f : List Nat} (h : ArgRep F w v x f) (hF : ∀ b, F b → F' b) (hk : ∀ b, F b ∨ b ∈ f → w'.heap[b]? = w.heap[b]?) : ArgRep F' w' v x f := by
  cases x with
  | pt sz l i j =>
    obtain ⟨b, cur, et, us, f1, h1, h2, h3, h4, h5, rfl⟩ := h
    exact ⟨b, cur, et, us, f1, h1, (hk b (.inr (by simp))).trans h2, h3, h4, h5.mono hF fun b hb => hk b (hb.imp id fun hb => by simp [hb]), rfl⟩
  | _ => simp only [ArgRep] at h ⊢; exact ValRep.mono h hF hk
theorem ArgsRep.mono {F' : Nat → Prop} {vs : List Value} {xs : List AV} {f : List Nat} (h : ArgsRep F w vs xs f) (hF : ∀ b, F b → F' b) (hk : ∀ b, F b ∨ b ∈ f → w'.heap[b]? = w.heap[b]?) : ArgsRep F' w' vs xs f := by
  induction h with
  | nil => exact .nil
  | cons h1 h2 ih => exact .cons (h1.mono hF fun b hb => hk b (hb.imp id fun h => by simp [h])) (ih fun b hb => hk b (hb.imp id fun h => by simp [h]))
theorem ArgsRep.of_vals {vs : List Value} {xs : List AV} {f : List Nat} (h : ValsRep F w vs xs f) : ArgsRep F w vs xs f := by
  induction h with
  | nil => exact .nil
  | cons h1 h2 ih => exact .cons (.of_val h1) ih
def sameShape : AV → AV → Prop
  | .own sz _, .own sz' _ => sz' = sz
  | .pt sz l i j, .pt sz' l' i' j' => sz' = sz ∧ i' = i ∧ j' = j ∧ l'.length = l.length
  | _, _ => False
structure Lent (F : Nat → Prop) (w : World) (σ : St) (μ : Nat → Option Nat) (fp : Nat → List Nat) (x : AV) (v : Value) (y : AV) (e : Nat) (gs rest : List Nat) : Prop where
  live : (σ.en e).live = true
  frz : (σ.en e).frz = false
  perm : (fp e).Perm (gs ++ rest)
  rep : ArgRep F w v y gs
  back : ∀ (F' : Nat → Prop) (w' : World) (y' : AV) (gs' : List Nat), (∀ b, F b → F' b) → (∀ b, F b ∨ b ∈ rest → w'.heap[b]? = w.heap[b]?) → ArgRep F' w' v y' gs' → sameShape y y' → (gs' ++ rest).Nodup →
    ∃ E' f', leftE (σ.en e) x y' = some E' ∧ E'.live = true ∧ E'.gen = (σ.en e).gen ∧ E'.wr = (σ.en e).wr + 1 ∧ E'.frz = false ∧ E'.sz = (σ.en e).sz ∧ E'.elems.length ≤ (σ.en e).elems.length ∧ EntRep F' w' E' (μ e) f' ∧ (∀ b ∈ f', b ∈ gs' ++ rest) ∧ f'.Nodup
theorem lendW_ok (h : Rel n w0 F0 S0 G F μ fp L σ a w) {v : Value} {x y : AV} (hx : SLeaf F w σ.en μ fp v x) (hy : lendW σ x = some y) : ∃ e gs rest, entW x = some e ∧ Lent F w σ μ fp x v y e gs rest := by
  unfold lendW at hy
  split at hy
  · rename_i e g off len clip
    simp only [Option.bind_eq_bind, Option.bind_eq_some_iff, Option.some.injEq] at hy
    obtain ⟨E, hE, _, hb, rfl⟩ := hy
    obtain ⟨hl, hg, rfl⟩ := cur_some hE
    obtain ⟨hfz, rfl, hlen⟩ := ensure_some hb
    obtain ⟨_, hx⟩ := hx
    obtain ⟨A, c, rfl, hlc, hcl, hnc, hblk⟩ := hx hl hg
    have hent := h.ent e hl
    by_cases hc : c = 0
    · subst hc
      have he : (σ.en e).elems = [] := List.eq_nil_of_length_eq_zero (by omega)
      have h0 : len = 0 := by omega
      subst h0
      refine ⟨e, [], fp e, rfl, hl, hfz, by simp, by rw [he]; exact RepL.own0 .nil, fun F' w' y' gs' hF hk hr hs hnd => ?_⟩
      cases y' with
      | own sz' l' =>
        simp only [sameShape] at hs
        have hl' : l' = [] := by
          rcases RepL.own_inv (show RepL F' w' [_] [.own sz' l'] gs' from hr) with ⟨e1, _⟩ | ⟨_, _, _, _, _, _, e1, _⟩
          · exact e1
          · simp only [Value.slice.injEq] at e1
            exact List.eq_nil_of_length_eq_zero (by omega)
        subst hl'
        rcases hent.2 with ⟨e1, _, _⟩ | ⟨b, cur, et, fr, us, f1, e1, e2, e3, e4, e5⟩ | hm
        rotate_right 1
        · obtain ⟨_, b, es, clock, k1, k2, k3⟩ := hm
          rcases k3 with ⟨k3, _⟩ | ⟨_, k3⟩
          · rw [hfz] at k3; cases k3
          · have hb : b ∈ fp e := by rw [k3]; simp
            exact ⟨_, [b], rfl, hl, rfl, rfl, hfz, rfl, by simp, ⟨by simp, .inr <| .inr ⟨rfl, b, es, clock, k1, (hk b (.inr hb)).trans k2, .inr ⟨hfz, rfl⟩⟩⟩, by simpa using .inr hb, by simp⟩
        · exact ⟨_, [], rfl, hl, rfl, rfl, hfz, rfl, by simp, ⟨by simp, .inl ⟨e1, rfl, rfl⟩⟩, by simp, List.nodup_nil⟩
        · rcases e5 with ⟨e5, _⟩ | ⟨_, e6, e7⟩
          · rw [hfz] at e5; cases e5
          · have hb : b ∈ fp e := by rw [e7]; simp
            exact ⟨_, [b], rfl, hl, rfl, rfl, hfz, rfl, by simp, ⟨by simp, .inr <| .inl ⟨b, cur, et, fr, [], [], e1, (hk b (.inr hb)).trans e2, by simp, .nil, .inr ⟨hfz, e6, rfl⟩⟩⟩, by simpa using .inr hb, by simp⟩
      | _ => exact hs.elim
    · obtain ⟨b, cur, et, fr, hμ, rfl, hb1, hb2⟩ := hblk (by omega)
      rcases hent.2 with ⟨e1, _⟩ | ⟨b', cur', et', fr', us, f1, e1, e2, e3, e4, e5⟩ | hm
      rotate_right 1
      · exact (hm.noCells (by assumption) (by assumption)).elim
      · rw [hμ] at e1; cases e1
      rw [hμ] at e1; cases e1
      rw [hb1] at e2; cases e2
      rcases e5 with ⟨e5, _⟩ | ⟨_, rfl, e7⟩
      · rw [hfz] at e5; cases e5
      refine ⟨e, b :: f1, [], rfl, hl, hfz, by rw [e7]; simp, ?_, fun F' w' y' gs' hF hk hr hs hnd => ?_⟩
      · have := RepL.own (F := F) (w := w) (g := b) (n := len) (c := c) (sz := (σ.en e).sz) (et := et) (cur := cur) (l := (σ.en e).elems) (us := us) (vs := []) (xs := []) (f1 := f1) (f := []) hlen.symm hlc hb1 (by simpa using hb2) e3 hent.1 e4 .nil
        simpa [ArgRep, ValRep] using this
      · cases y' with
        | own sz' l' =>
          simp only [sameShape] at hs
          subst hs
          rcases RepL.own_inv (show RepL F' w' [_] [.own _ l'] gs' from hr) with ⟨_, _, A, e1⟩ | ⟨g', c', et', cur', us', f1', e1, k1, k2, k3, k4, k5, k6, rfl⟩
          · simp only [Value.slice.injEq] at e1; omega
          · simp only [Value.slice.injEq, Option.some.injEq, Addr.mk.injEq] at e1
            obtain ⟨⟨rfl, _⟩, hll, _⟩ := e1
            exact ⟨_, b :: f1', rfl, hl, rfl, rfl, hfz, rfl, by show l'.length ≤ _; omega, ⟨k5, .inr <| .inl ⟨b, cur', et', (0, 0), us', f1', hμ, k2, k4, k6, .inr ⟨hfz, rfl, rfl⟩⟩⟩, by simp, by simpa using hnd⟩
        | _ => exact hs.elim
  · rename_i e g i j
    simp only [Option.bind_eq_bind, Option.bind_eq_some_iff, Option.some.injEq] at hy
    obtain ⟨E, hE, _, hb, rfl⟩ := hy
    obtain ⟨hl, hg, rfl⟩ := cur_some hE
    have hfz := ensure_some hb
    obtain ⟨_, hx⟩ := hx
    obtain ⟨b, hμ, rfl, _, _, _, hcb⟩ := hx hl hg
    have hent := h.ent e hl
    rcases hent.2 with ⟨e1, _⟩ | ⟨b', cur, et, fr, us, f1, e1, e2, e3, e4, e5⟩ | hm
    rotate_right 1
    · exact (hm.noCells (by assumption) (by assumption)).elim
    · rw [hμ] at e1; cases e1
    rw [hμ] at e1; cases e1
    rcases e5 with ⟨e5, _⟩ | ⟨_, rfl, e7⟩
    · rw [hfz] at e5; cases e5
    refine ⟨e, b :: f1, [], rfl, hl, hfz, by rw [e7]; simp, ⟨b, cur, et, us, f1, rfl, e2, e3, hent.1, e4, rfl⟩, fun F' w' y' gs' hF hk hr hs hnd => ?_⟩
    cases y' with
    | pt sz' l' i' j' =>
      simp only [sameShape] at hs
      obtain ⟨rfl, rfl, rfl, hll⟩ := hs
      obtain ⟨b', cur', et', us', f1', k1, k2, k3, k4, k5, rfl⟩ := hr
      simp only [Value.pointer.injEq, Option.some.injEq, Addr.mk.injEq] at k1
      obtain ⟨rfl, _⟩ := k1
      exact ⟨_, b :: f1', rfl, hl, rfl, rfl, hfz, rfl, Nat.le_of_eq hll, ⟨k4, .inr <| .inl ⟨b, cur', et', (0, 0), us', f1', hμ, k2, k3, k5, .inr ⟨hfz, rfl, rfl⟩⟩⟩, by simp, by simpa using hnd⟩
    | _ => exact hs.elim
  · rename_i e wv i j clip l0
    simp only [Option.bind_eq_bind, Option.bind_eq_some_iff] at hy
    obtain ⟨_, hv, _, hb, z, hz, hy⟩ := hy
    obtain ⟨hl, hw⟩ := ensure_some hv
    have hfz := ensure_some hb
    split at hy
    case h_2 => cases hy
    rename_i sz l hzj
    cases hy
    obtain ⟨z', b, cur, et, fr, sz', hz', hzj', hμ, hb1, hcur⟩ := (hx.2 hl hw).2 hfz i j rfl
    rw [hz] at hz'; cases hz'
    have hent := h.ent e hl
    rcases hent.2 with ⟨e1, _⟩ | ⟨b', cur', et', fr', us, f1, e1, e2, e3, e4, e5⟩ | hm
    rotate_right 1
    · exact (hm.noCells (by assumption) (by assumption)).elim
    · rw [hμ] at e1; cases e1
    rw [hμ] at e1; cases e1
    rw [hb1] at e2; cases e2
    rcases e5 with ⟨e5, _⟩ | ⟨_, rfl, e7⟩
    · rw [hfz] at e5; cases e5
    obtain ⟨hi, rfl⟩ := List.getElem?_eq_some_iff.1 hz
    have hel : (σ.en e).elems = (σ.en e).elems.take i ++ (σ.en e).elems[i] :: (σ.en e).elems.drop (i + 1) := by simp
    obtain ⟨hj, hzj2⟩ := List.getElem?_eq_some_iff.1 hzj
    have hlz : leaves (σ.en e).elems[i] = (leaves (σ.en e).elems[i]).take j ++ .own sz l :: (leaves (σ.en e).elems[i]).drop (j + 1) := by rw [← hzj2]; simp
    have hsz := hent.1 _ (List.getElem_mem hi)
    have hpre : (((σ.en e).elems.take i).flatMap leaves ++ (leaves (σ.en e).elems[i]).take j).length = i * (σ.en e).sz + j := by
      rw [List.length_append, flat_length (fun a ha => hent.1 a (List.mem_of_mem_take ha)), List.length_take, List.length_take, Nat.min_eq_left (by omega), Nat.min_eq_left (by omega)]
    have hflat : (σ.en e).elems.flatMap leaves = (((σ.en e).elems.take i).flatMap leaves ++ (leaves (σ.en e).elems[i]).take j) ++ (.own sz l :: ((leaves (σ.en e).elems[i]).drop (j + 1) ++ ((σ.en e).elems.drop (i + 1)).flatMap leaves)) := by
      conv => lhs; rw [hel]
      rw [List.flatMap_append, List.flatMap_cons]
      conv => lhs; rw [hlz]
      simp
    rw [hflat] at e4
    obtain ⟨v1, v2, g1, g2, rfl, rfl, r1, r2⟩ := RepL.split e4
    have hv1 : v1.length = i * (σ.en e).sz + j := by rw [r1.length, hpre]
    cases v2 with
    | nil => cases r2
    | cons u v2 =>
    obtain ⟨ga, gb, rfl, ra, rb⟩ := r2.cons_inv
    have huv : u = v := by
      have := e3 v1.length (by simp)
      rw [hv1, hcur] at this
      simp [← hv1] at this
      exact this.symm
    subst huv
    refine ⟨e, ga, b :: (g1 ++ gb), rfl, hl, hfz, ?_, ra, fun F' w' y' gs' hF hk hr hs hnd => ?_⟩
    · rw [e7]
      refine (List.Perm.cons b ?_).trans (List.perm_middle.symm)
      exact (List.perm_append_comm_assoc g1 ga gb)
    · cases y' with
      | own sz' l' =>
        have hr : RepL F' w' [u] [.own sz' l'] gs' := hr
        have r1' := r1.mono (w' := w') hF fun b' hb' => hk b' (hb'.imp id fun hb' => by simp [hb'])
        have rb' := rb.mono (w' := w') hF fun b' hb' => hk b' (hb'.imp id fun hb' => by simp [hb'])
        have hb' : w'.heap[b]? = w.heap[b]? := hk b (.inr (by simp))
        have hre : leaves (reEl (σ.en e).elems[i] ((leaves (σ.en e).elems[i]).set j (.own sz' l'))) = (leaves (σ.en e).elems[i]).set j (.own sz' l') := by
          apply leaves_reEl
          intro hna
          have hone := leaves_length_of (fun fs hx => hna fs hx)
          rw [hone] at hj ⊢
          have : j = 0 := by simpa using hj
          subst this
          exact ⟨.own sz' l', rfl, rfl⟩
        have hset : (leaves (σ.en e).elems[i]).set j (.own sz' l') = (leaves (σ.en e).elems[i]).take j ++ .own sz' l' :: (leaves (σ.en e).elems[i]).drop (j + 1) := by
          rw [List.set_eq_take_append_cons_drop]; simp [hj]
        have hmod : ((σ.en e).elems.modify i fun x => reEl x ((leaves x).set j (.own sz' l'))) = (σ.en e).elems.take i ++ reEl (σ.en e).elems[i] ((leaves (σ.en e).elems[i]).set j (.own sz' l')) :: (σ.en e).elems.drop (i + 1) := by
          rw [List.modify_eq_take_cons_drop hi]
        refine ⟨_, b :: (g1 ++ (gs' ++ gb)), rfl, hl, rfl, rfl, hfz, rfl, by simp, ⟨fun a ha => ?_, .inr <| .inl ⟨b, cur, et, (0, 0), v1 ++ u :: v2, g1 ++ (gs' ++ gb), hμ, hb'.trans hb1, e3, ?_, .inr ⟨hfz, rfl, rfl⟩⟩⟩, fun b' hb' => ?_, ?_⟩
        · rw [hmod] at ha
          rcases List.mem_append.1 ha with ha | ha
          · exact hent.1 a (List.mem_of_mem_take ha)
          · rcases List.mem_cons.1 ha with rfl | ha
            · rw [hre]; simpa using hsz
            · exact hent.1 a (List.mem_of_mem_drop ha)
        · rw [hmod, List.flatMap_append, List.flatMap_cons, hre, hset]
          have := r1'.append (hr.append rb')
          simpa using this
        · simp only [List.mem_cons, List.mem_append] at hb' ⊢
          rcases hb' with rfl | hb' | hb' | hb'
          · exact .inr (.inl rfl)
          · exact .inr (.inr (.inl hb'))
          · exact .inl hb'
          · exact .inr (.inr (.inr hb'))
        · have hp : (gs' ++ b :: (g1 ++ gb)).Perm (b :: (g1 ++ (gs' ++ gb))) := List.perm_middle.trans (List.Perm.cons b (List.perm_append_comm_assoc gs' g1 gb))
          exact hp.nodup_iff.1 hnd
      | _ => exact hs.elim
  · cases hy
theorem Rel.extendW {F' : Nat → Prop} {g f' gs rest : List Nat} {e : Nat} {E' : Ent} (h : Rel n w0 F0 S0 G F μ fp [] σ a w) (hl : (σ.en e).live = true) (hfz : (σ.en e).frz = false) (hp : (fp e).Perm (gs ++ rest)) (hk : KeptS w w' (fun b => b ∈ gs))
    (hF : ∀ b, F b → F' b) (hF' : ∀ b, F' b → F b ∨ b ∈ gs ∨ (w.heap.size ≤ b ∧ b < w'.heap.size)) (heg : E'.gen = (σ.en e).gen) (hew : E'.wr = (σ.en e).wr + 1) (hez : E'.sz = (σ.en e).sz)
    (hen : E'.elems.length ≤ (σ.en e).elems.length) (hent : E'.live = true → EntRep F' w' E' (μ e) f') (hf' : ∀ b ∈ g ++ f', ¬ F' b ∧ (b ∈ gs ++ rest ∨ w.heap.size ≤ b) ∧ b < w'.heap.size) (hnd : (g ++ f').Nodup) :
    Rel n w0 F0 S0 G F' μ (upd fp e f') g (σ.ent e E') a w' := by
  have inE : ∀ b, b ∈ gs ++ rest → b ∈ fp e := fun b hb => hp.mem_iff.2 hb
  have ingE : ∀ b, b ∈ gs → b ∈ fp e := fun b hb => inE b (List.mem_append.2 (.inl hb))
  have old : ∀ b, b < w.heap.size → b ∉ gs → w'.heap[b]? = w.heap[b]? := fun b hb hn => hk.block b hb hn
  have hFo : ∀ b, F b → w'.heap[b]? = w.heap[b]? := fun b hb => old b (h.free b hb).1 fun hg => (h.own e hl b (ingE b hg)).1 hb
  have base := h.kept.size
  have en' : ∀ e', e' ≠ e → (σ.ent e E').en e' = σ.en e' := fun e' he => by simp [St.ent, upd, he]
  have ene : (σ.ent e E').en e = E' := by simp [St.ent, upd]
  have oth : ∀ e', e' ≠ e → (σ.en e').live = true → ∀ b ∈ fp e', w'.heap[b]? = w.heap[b]? := fun e' he hl' b hb => old b (h.own e' hl' b hb).2.1 fun hg => h.apart e' e hl' hl he b hb (ingE b hg)
  have st : Step F w σ.en μ fp F' w' (σ.ent e E').en μ (upd fp e f') := by
    refine ⟨hF, hFo, fun e' => ?_, fun e' => ?_, fun e' h' hge => ?_, fun e' h' hwe => ?_⟩
    · by_cases he : e' = e
      · subst he; rw [ene, heg]; exact Nat.le_refl _
      · rw [en' e' he]; exact Nat.le_refl _
    · by_cases he : e' = e
      · subst he; rw [ene, hew]; omega
      · rw [en' e' he]; exact Nat.le_refl _
    · by_cases he : e' = e
      · subst he; rw [ene]; exact ⟨hl, rfl, hez, hen, fun b _ => hk.same b⟩
      · rw [en' e' he] at h' ⊢; exact ⟨h', rfl, rfl, Nat.le_refl _, fun b _ => hk.same b⟩
    · by_cases he : e' = e
      · subst he; rw [ene, hew] at hwe; omega
      · rw [en' e' he] at h' ⊢
        refine ⟨h', fun b hb => ⟨oth e' he h' b hb, .inl (by rw [upd_ne _ _ _ _ he]; exact hb)⟩, fun hf => ⟨hf, rfl, rfl, rfl, fun b hm => ?_⟩⟩
        rcases (h.ent e' h').2 with ⟨e1, _⟩ | ⟨b', cur, et, fr, us, f1, e1, e2, e3, e4, e5⟩ | ⟨_, b', es, clock, e1, e2, e5⟩
        rotate_right 1
        · rw [hm] at e1; cases e1
          rcases e5 with ⟨e5, _⟩ | ⟨_, e7⟩
          · rw [hf] at e5; cases e5
          · exact oth e' he h' b (by rw [e7]; simp)
        · rw [hm] at e1; cases e1
        · rw [hm] at e1; cases e1
          rcases e5 with ⟨e5, _⟩ | ⟨_, _, e7⟩
          · rw [hf] at e5; cases e5
          · exact oth e' he h' b (by rw [e7]; simp)
  have own' : ∀ b ∈ g ++ f', ¬ F' b ∧ b < w'.heap.size ∧ (S0 b ∨ w0.heap.size ≤ b) := fun b hb => by
    obtain ⟨h1, h2, h3⟩ := hf' b hb
    refine ⟨h1, h3, ?_⟩
    rcases h2 with h2 | h2
    · exact (h.own e hl b (inE b h2)).2.2
    · exact .inr (by omega)
  have out : ∀ b ∈ g ++ f', ∀ e', e' ≠ e → (σ.en e').live = true → b ∉ fp e' := fun b hb e' he hl' hx => by
    rcases (hf' b hb).2.1 with h2 | h2
    · exact h.apart e' e hl' hl he b hx (inE b h2)
    · have := (h.own e' hl' b hx).2.1; omega
  refine h.move (en' := (σ.ent e E').en) st ⟨hk.os, hk.tape, hk.output, hk.size, fun b hb hns => old b hb fun hg => hns (h.own e hl b (ingE b hg)).2.2, hk.same⟩ (fun b hb => ?_) (fun e' h' => ?_) (fun e' h' b hb => ?_) (fun e' h' => ?_) (fun e' e2 h' h2 hne b hb => ?_) (fun b hb => ?_) (List.nodup_append.1 hnd).1
  · rcases hF' b hb with hb | hb | hb
    · exact ⟨Nat.lt_of_lt_of_le (h.free b hb).1 hk.size, (h.free b hb).2⟩
    · obtain ⟨_, h2, h3⟩ := h.own e hl b (ingE b hb)
      exact ⟨Nat.lt_of_lt_of_le h2 hk.size, .inr h3⟩
    · exact ⟨hb.2, .inr (.inr (by omega))⟩
  · by_cases he : e' = e
    · subst he; rw [ene] at h'; rw [ene, upd_same]; exact hent h'
    · rw [en' e' he] at h' ⊢
      rw [upd_ne _ _ _ _ he]
      exact (h.ent e' h').mono hF (fun b hb => hb.elim (hFo b) (oth e' he h' b))
  · by_cases he : e' = e
    · subst he; rw [upd_same] at hb; exact own' b (List.mem_append.2 (.inr hb))
    · rw [en' e' he] at h'
      rw [upd_ne _ _ _ _ he] at hb
      obtain ⟨h1, h2, h3⟩ := h.own e' h' b hb
      refine ⟨fun hx => ?_, Nat.lt_of_lt_of_le h2 hk.size, h3⟩
      rcases hF' b hx with hx | hx | hx
      · exact h1 hx
      · exact h.apart e' e h' hl he b hb (ingE b hx)
      · omega
  · by_cases he : e' = e
    · subst he; rw [upd_same]; exact (List.nodup_append.1 hnd).2.1
    · rw [en' e' he] at h'; rw [upd_ne _ _ _ _ he]; exact h.nodup e' h'
  · by_cases he : e' = e
    · subst he
      rw [upd_same] at hb
      rw [en' e2 (Ne.symm hne)] at h2
      rw [upd_ne _ _ _ _ (Ne.symm hne)]
      exact out b (List.mem_append.2 (.inr hb)) e2 (Ne.symm hne) h2
    · rw [en' e' he] at h'
      rw [upd_ne _ _ _ _ he] at hb
      by_cases he2 : e2 = e
      · subst he2
        rw [upd_same]
        intro hx
        exact out b (List.mem_append.2 (.inr hx)) e' he h' hb
      · rw [en' e2 he2] at h2
        rw [upd_ne _ _ _ _ he2]
        exact h.apart e' e2 h' h2 hne b hb
  · obtain ⟨h1, h2, h3⟩ := own' b (List.mem_append.2 (.inl hb))
    refine ⟨h1, h2, h3, fun e' h' => ?_⟩
    by_cases he : e' = e
    · subst he
      rw [upd_same]
      exact fun hx => (List.nodup_append.1 hnd).2.2 b hb b hx rfl
    · rw [en' e' he] at h'
      rw [upd_ne _ _ _ _ he]
      exact out b (List.mem_append.2 (.inl hb)) e' he h'

theorem splice_flat0 {l x ls : List AV} {k sz j : Nat} (hx : (l.drop k).take sz = x) (hj : j + ls.length ≤ sz) :
    l.take k ++ setRange x j ls ++ l.drop (k + sz) = l.take (k + j) ++ ls ++ l.drop (k + j + ls.length) := by
  subst hx
  simp only [setRange]
  have e1 : l.take (k + j) = l.take k ++ ((l.drop k).take sz).take j := by
    rw [List.take_add, List.take_take, Nat.min_eq_left (by omega)]
  have e2 : l.drop (k + j + ls.length) = ((l.drop k).take sz).drop (j + ls.length) ++ l.drop (k + sz) := by
    rw [List.drop_take, List.drop_drop, Nat.add_assoc k j]
    have : l.drop (k + sz) = (l.drop (k + (j + ls.length))).drop (sz - (j + ls.length)) := by rw [List.drop_drop]; congr 1; omega
    rw [this, List.take_append_drop]
  rw [e1, e2]
  simp only [List.append_assoc]
theorem RepL.noOwn_nil0 {vs : List Value} {xs : List AV} {f : List Nat} (h : RepL F w vs xs f) (hx : xs.all noOwn = true) : f = [] := by
  induction h with
  | nil => rfl
  | own0 => simp [noOwn] at hx
  | own => simp [noOwn] at hx
  | _ => simp_all
theorem load_in (h : Rel n w0 F0 S0 G F μ fp L σ a w) {v : Value} {e wv i j k q : Nat} (hp : SLeaf F w σ.en μ fp v (.np e wv i j k q)) (hl : (σ.en e).live = true) (hw : (σ.en e).wr = wv) (hfz : (σ.en e).frz = false)
    {z : AV} (hz : (σ.en e).elems[i]? = some z) {sz : Nat} {l : List AV} (hown : ownAt (leaves z) j = some (sz, l)) {y : AV} (hy : l[k]? = some y) :
    (leaves y).length = sz ∧ ∃ b o cur et us f, v = .pointer (some ⟨b, o + q, none⟩) ∧ w.heap[b]? = some (.cells cur et (0, 0)) ∧ (∀ p, p < us.length → cur[o + p]? = us[p]?) ∧ RepL F w us (leaves y) f := by
  obtain ⟨hg, hp⟩ := hp
  obtain ⟨v0, clip, l0, g, o', m, c, sz0, z0, b, cur, et, fr, hrep, e1, e2, e3, e4, e5, hv0, rfl⟩ := hp hl hw hfz
  rw [hz] at e1; cases e1
  have hown2 : (leaves z)[j]? = some (.own sz l) := by
    unfold ownAt at hown
    split at hown
    · rename_i s q hq; cases hown; exact hq
    · cases hown
  rw [hown2] at e2; cases e2
  have hx : SLeaf F w σ.en μ fp v0 (.fro (some (e, wv, some (i, j))) clip l) := ⟨hg, fun _ _ => ⟨hrep, fun _ i' j' hij => by cases hij; exact ⟨z, b, cur, et, fr, sz, hz, hown2, e3, e4, e5⟩⟩⟩
  have hlw : lendW σ (.fro (some (e, wv, some (i, j))) clip l) = some (.own sz l) := by
    simp only [lendW, Option.bind_eq_bind, St.valid, ensure, hl, hw, hfz, hz, hown2, and_self, if_true, Option.bind_some]
  obtain ⟨e', gs, rest, he', lt⟩ := lendW_ok h hx hlw
  cases he'
  have hrp : RepL F w [v0] [.own sz l] gs := lt.rep
  subst hv0
  obtain ⟨hk, rfl⟩ := List.getElem?_eq_some_iff.1 hy
  cases hrp with
  | own0 => simp at hk
  | @own _ _ _ _ et' cur' _ us' _ _ f1 f hn hnc hb hcap hcell hsz hu t =>
  cases t
  obtain ⟨fa, fb, rfl, _, h2⟩ := hu.take (k * sz)
  obtain ⟨fc, fd, rfl, h3, _⟩ := h2.take sz
  rw [flat_get hsz hy] at h3
  refine ⟨hsz _ (List.getElem_mem hk), g, k * sz, cur', et', _, fc, by simp, hb, fun p hp => ?_, h3⟩
  rw [List.length_take, List.length_drop] at hp
  rw [hcell _ (by omega), List.getElem?_take, if_pos (by omega), List.getElem?_drop]
theorem store_in (h : Rel n w0 F0 S0 G F μ fp [] σ a w) {v : Value} {e wv i j k q : Nat} (hp : SLeaf F w σ.en μ fp v (.np e wv i j k q)) {us : List Value} {ls : List AV} (hr : RepL F w us ls []) (hl : (σ.en e).live = true) (hw : (σ.en e).wr = wv) (hfz : (σ.en e).frz = false)
    {z : AV} (hz : (σ.en e).elems[i]? = some z) {sz : Nat} {l : List AV} (hown : ownAt (leaves z) j = some (sz, l)) (hlen : q + ls.length ≤ sz) {y : AV} (hy : l[k]? = some y)
    (hone : leaves (reEl y (setRange (leaves y) q ls)) = setRange (leaves y) q ls) :
    ∃ b o cur et fp', v = .pointer (some ⟨b, o, none⟩) ∧ w.heap[b]? = some (.cells cur et (0, 0)) ∧ o + ls.length ≤ cur.size ∧
      Rel n w0 F0 S0 G F μ fp' [] (σ.ent e { (σ.en e) with wr := (σ.en e).wr + 1, elems := (σ.en e).elems.modify i fun x => reEl x ((leaves x).set j (.own sz (l.set k (reEl y (setRange (leaves y) q ls))))) }) a (w.setCells b o us) := by
  obtain ⟨hg, hp⟩ := hp
  obtain ⟨v0, clip, l0, g, o', m, c, sz0, z0, b, cur, et, fr, hrep, e1, e2, e3, e4, e5, hv0, rfl⟩ := hp hl hw hfz
  rw [hz] at e1; cases e1
  have hown2 : (leaves z)[j]? = some (.own sz l) := by
    unfold ownAt at hown
    split at hown
    · rename_i s q hq; cases hown; exact hq
    · cases hown
  rw [hown2] at e2; cases e2
  have hx : SLeaf F w σ.en μ fp v0 (.fro (some (e, wv, some (i, j))) clip l) := ⟨hg, fun _ _ => ⟨hrep, fun _ i' j' hij => by cases hij; exact ⟨z, b, cur, et, fr, sz, hz, hown2, e3, e4, e5⟩⟩⟩
  have hlw : lendW σ (.fro (some (e, wv, some (i, j))) clip l) = some (.own sz l) := by
    simp only [lendW, Option.bind_eq_bind, St.valid, ensure, hl, hw, hfz, hz, hown2, and_self, if_true, Option.bind_some]
  obtain ⟨e', gs, rest, he', lt⟩ := lendW_ok h hx hlw
  cases he'
  have hrp : RepL F w [v0] [.own sz l] gs := lt.rep
  subst hv0
  obtain ⟨hk, rfl⟩ := List.getElem?_eq_some_iff.1 hy
  cases hrp with
  | own0 => simp at hk
  | @own _ _ _ _ et' cur' _ us' _ _ f1 f hn hnc hb hcap hcell hsz hu t =>
  cases t
  simp only [List.append_nil] at *
  have hfl := flat_length hsz
  have hul := hu.length
  have hkm : (k + 1) * sz ≤ l.length * sz := Nat.mul_le_mul_right _ hk
  have hkm2 : (k + 1) * sz = k * sz + sz := by rw [Nat.add_mul, Nat.one_mul]
  have hcc : l.length * sz ≤ c * sz := Nat.mul_le_mul_right _ (by omega)
  have hroom : k * sz + q + us.length ≤ cur'.size := by rw [hr.length]; omega
  obtain ⟨h1, h2, h3, h4, h5, h6⟩ := setCells_heap (vs := us) (o := k * sz + q) hb hroom
  have hgE : g ∈ fp e := lt.perm.mem_iff.2 (by simp)
  obtain ⟨hgF, hgs, hg0⟩ := h.own e hl g hgE
  have hndE : (g :: f1 ++ rest).Nodup := lt.perm.nodup_iff.1 (h.nodup e hl)
  have hgf1 : g ∉ f1 := fun hx => by
    have := (List.nodup_cons.1 hndE).1
    exact this (by simp [hx])
  obtain ⟨fa, fb, fc, rfl, hsp⟩ := hu.splice hr (k * sz + q) ls.length
  have hle : leaves (reEl l[k] (setRange (leaves l[k]) q ls)) = setRange (leaves l[k]) q ls := hone
  have hFk : ∀ b', F b' → (w.setCells g (k * sz + q) us).heap[b']? = w.heap[b']? := fun b' hb' => h2 b' (fun hx => hgF (hx ▸ hb'))
  have hflat : (l.set k (reEl l[k] (setRange (leaves l[k]) q ls))).flatMap leaves = (l.flatMap leaves).take (k * sz + q) ++ ls ++ (l.flatMap leaves).drop (k * sz + q + ls.length) := by
    rw [flat_set hsz hk, hle, hkm2]
    exact splice_flat0 (flat_get hsz hy) hlen
  have hrep' : ArgRep F (w.setCells g (k * sz + q) us) (.slice (some ⟨g, 0, none⟩) m c) (.own sz (l.set k (reEl l[k] (setRange (leaves l[k]) q ls)))) (g :: (fa ++ fc)) := by
    show RepL F _ [_] [_] _
    have := RepL.own (F := F) (w := w.setCells g (k * sz + q) us) (g := g) (n := m) (c := c) (sz := sz) (et := et') (cur := setRow cur' (k * sz + q) us) (l := l.set k (reEl l[k] (setRange (leaves l[k]) q ls))) (us := us'.take (k * sz + q) ++ us ++ us'.drop (k * sz + q + ls.length)) (vs := []) (xs := []) (f1 := fa ++ fc) (f := []) (by simpa using hn) hnc h1 (by rw [setRow_size]; exact hcap) (fun p hq => ?_) (fun x hx => ?_) (by
        rw [hflat]
        exact (by simpa using hsp : RepL F w _ _ (fa ++ fc)).mono (fun _ h => h) (fun b' hb' => hb'.elim (hFk b') (fun hb' => h2 b' (fun hx => hgf1 (by subst hx; simp at hb' ⊢; rcases hb' with hb' | hb' <;> simp [hb']))))) .nil
    · simpa using this
    · have hrl := hr.length
      simp only [List.length_append, List.length_take, List.length_drop] at hq
      rw [setRow_get (by omega)]
      by_cases hq1 : p < k * sz + q
      · rw [if_neg (by omega), hcell p (by omega), List.append_assoc, List.getElem?_append_left (by simp; omega), List.getElem?_take, if_pos hq1]
      · by_cases hq2 : p < k * sz + q + us.length
        · rw [if_pos (by omega), List.append_assoc, List.getElem?_append_right (by simp; omega), List.length_take, Nat.min_eq_left (by omega), List.getElem?_append_left (by omega)]
        · rw [if_neg (by omega), hcell p (by omega), List.getElem?_append_right (by simp; omega), List.length_append, List.length_take, Nat.min_eq_left (by omega), List.getElem?_drop]
          congr 1; omega
    · rcases List.mem_or_eq_of_mem_set hx with hx | rfl
      · exact hsz x hx
      · rw [hle]
        have := hsz l[k] (List.getElem_mem hk)
        simp only [setRange, List.length_append, List.length_take, List.length_drop]
        omega
  have hsub : ∀ x ∈ fa ++ fc, x ∈ fa ++ fb ++ fc := fun x hx => by simp at hx ⊢; rcases hx with hx | hx <;> simp [hx]
  have hnd2 : (g :: (fa ++ fc) ++ rest).Nodup := by
    refine hndE.sublist ?_
    simp only [List.cons_append, List.append_assoc]
    refine List.Sublist.cons_cons g ?_
    refine List.Sublist.append_left ?_ fa
    exact (List.sublist_append_right fb _)
  have hrestk : ∀ b', F b' ∨ b' ∈ rest → (w.setCells g (k * sz + q) us).heap[b']? = w.heap[b']? := fun b' hb' => hb'.elim (hFk b') fun hb' => h2 b' fun hx => by
    subst hx
    exact (List.nodup_cons.1 hndE).1 (by simp [hb'])
  obtain ⟨E', f', q1, q2, q3, q4, q5, q6, q7, q8, q9, q10⟩ := lt.back F (w.setCells g (k * sz + q) us) (.own sz (l.set k (reEl l[k] (setRange (leaves l[k]) q ls)))) (g :: (fa ++ fc)) (fun _ h => h) hrestk hrep' rfl hnd2
  have hE' : E' = { (σ.en e) with wr := (σ.en e).wr + 1, elems := (σ.en e).elems.modify i fun x => reEl x ((leaves x).set j (.own sz (l.set k (reEl l[k] (setRange (leaves l[k]) q ls))))) } := by
    simp only [leftE, Option.some.injEq] at q1
    exact q1.symm
  have hkp : KeptS w (w.setCells g (k * sz + q) us) (fun b' => b' ∈ g :: (fa ++ fb ++ fc)) := ⟨h4, h5, h6, by rw [h3]; exact Nat.le_refl _, fun b' _ hn => h2 b' (fun hx => hn (by simp [hx])), fun b' cu et2 fr2 hb' => by
    by_cases hbg : b' = g
    · subst hbg
      rw [hb] at hb'; cases hb'
      exact ⟨_, h1, setRow_size⟩
    · exact ⟨cu, by rw [h2 b' hbg]; exact hb', rfl⟩⟩
  have := h.extendW (F' := F) (g := []) (f' := f') (gs := g :: (fa ++ fb ++ fc)) (rest := rest) (e := e) (E' := E') hl hfz lt.perm hkp (fun _ h => h) (fun _ h => .inl h) q3 q4 q6 q7 (fun _ => q8) (fun b' hb' => ?_) (by simpa using q10)
  · rw [hE'] at this
    exact ⟨g, k * sz + q, cur', et', _, by simp, hb, by rw [← hr.length]; exact hroom, this⟩
  · have hb'' : b' ∈ fp e := lt.perm.mem_iff.2 (by
      have := q9 b' (by simpa using hb')
      simp only [List.cons_append, List.mem_cons, List.mem_append] at this ⊢
      rcases this with h1 | (h1 | h1) | h1 <;> simp [h1])
    obtain ⟨k1, k2, k3⟩ := h.own e hl b' hb''
    exact ⟨k1, .inl (by simpa using lt.perm.mem_iff.1 hb''), by rw [h3]; exact k2⟩
end
end Go.Vm
end
