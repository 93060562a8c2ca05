/- One operation at a time: how the rules are walked by simp. -/
import Derived.Test.YtfimolakepbdbaaWRules
namespace Go.Vm

section
variable {C : Cfg} {D : Vm.Spec} {q : Bool} {ops : Array Oper} {K : St → Prop} {σ : St} {d : Option Tmp} {ty : TypeId} {pos : String} {af : Array Edge} {rest : List Oper}

@[congr] theorem exP_congr {α : Type} {o o' : Option α} {K : α → Prop} (h : o = o') : exP o K = exP o' K := by rw [h]
@[congr] theorem opsW_congr {l : List Oper} {σ σ' : St} (h : σ = σ') : opsW C D q ops K l σ = opsW C D q ops K l σ' := by rw [h]
@[congr] theorem W_congr {c : Code} {Q : Ex → St → Prop} {σ σ' : St} (h : σ = σ') : W C D c Q σ = W C D c Q σ' := by rw [h]
@[congr] theorem callW_congr {q : Bool} {f f' : Nat} {as as' : List AV} {K : AV → AV → Prop} (hf : f = f') (h : as = as') : callW D q f as K = callW D q f' as' K := by rw [hf, h]

/-- A test on a slot. -/
def testV (x : AV) (d : Tmp) (want : Bool) (σ : St) (yes no : St → Prop) : Prop :=
  match x with
  | .bool b => (b = true → (if want then yes else no) (σ.put (some d) (.bool true))) ∧ (b = false → (if want then no else yes) (σ.put (some d) (.bool false)))
  | .tup [] => no σ
  | _ => False

@[congr] theorem testV_congr {x x' : AV} {d : Tmp} {want : Bool} {σ : St} {yes no : St → Prop} (h : x = x') : testV x d want σ yes no = testV x' d want σ yes no := by rw [h]

theorem testV_true (d : Tmp) (σ : St) (yes no : St → Prop) : testV (.bool true) d true σ yes no = yes (σ.put (some d) (.bool true)) := by simp [testV]
theorem testV_true' (d : Tmp) (σ : St) (yes no : St → Prop) : testV (.bool true) d false σ yes no = no (σ.put (some d) (.bool true)) := by simp [testV]
theorem testV_false (d : Tmp) (σ : St) (yes no : St → Prop) : testV (.bool false) d true σ yes no = no (σ.put (some d) (.bool false)) := by simp [testV]
theorem testV_false' (d : Tmp) (σ : St) (yes no : St → Prop) : testV (.bool false) d false σ yes no = yes (σ.put (some d) (.bool false)) := by simp [testV]
theorem testV_tup (d : Tmp) (w : Bool) (σ : St) (yes no : St → Prop) : testV (.tup []) d w σ yes no = no σ := rfl
theorem testV_bool (b : Bool) (d : Tmp) (σ : St) (yes no : St → Prop) : testV (.bool b) d true σ yes no = ((b = true → yes (σ.put (some d) (.bool true))) ∧ (b = false → no (σ.put (some d) (.bool false)))) := rfl
theorem testV_bool' (b : Bool) (d : Tmp) (σ : St) (yes no : St → Prop) : testV (.bool b) d false σ yes no = ((b = true → no (σ.put (some d) (.bool true))) ∧ (b = false → yes (σ.put (some d) (.bool false)))) := rfl

def condV (x : AV) (d : Tmp) (σ : St) (yes no : St → Prop) : Prop :=
  match x with
  | .bool b => (b = true → yes (σ.put (some d) (.bool true))) ∧ (b = false → no (σ.put (some d) (.bool false)))
  | _ => False

@[congr] theorem condV_congr {x x' : AV} {d : Tmp} {σ : St} {yes no : St → Prop} (h : x = x') : condV x d σ yes no = condV x' d σ yes no := by rw [h]
theorem condV_true (d : Tmp) (σ : St) (yes no : St → Prop) : condV (.bool true) d σ yes no = yes (σ.put (some d) (.bool true)) := by simp [condV]
theorem condV_false (d : Tmp) (σ : St) (yes no : St → Prop) : condV (.bool false) d σ yes no = no (σ.put (some d) (.bool false)) := by simp [condV]
theorem condV_bool (b : Bool) (d : Tmp) (σ : St) (yes no : St → Prop) : condV (.bool b) d σ yes no = ((b = true → yes (σ.put (some d) (.bool true))) ∧ (b = false → no (σ.put (some d) (.bool false)))) := rfl

theorem W_if {c : Tmp} {a b : Code} {Q : Ex → St → Prop} : W C D (.cond (.tmp c) a b) Q σ = condV (σ.sl c) c σ (fun σ => W C D a Q σ) (fun σ => W C D b Q σ) := rfl

theorem s_nil : opsW C D q ops K [] σ = K σ := rfl
/-- A test on the slot of a region's operation. -/
def guardS (g : Option Tmp) (want : Bool) (σ : St) (yes no : St → Prop) : Prop :=
  match g with
  | some d => testV (σ.sl d) d want σ yes no
  | none => no σ
@[congr] theorem guardS_congr {g g' : Option Tmp} {want : Bool} {σ : St} {yes no : St → Prop} (h : g = g') : guardS g want σ yes no = guardS g' want σ yes no := by rw [h]
theorem guardS_some (d : Tmp) (want : Bool) (σ : St) (yes no : St → Prop) : guardS (some d) want σ yes no = testV (σ.sl d) d want σ yes no := rfl
theorem s_guard {op : Op} {j : Nat} {want : Bool} : opsW C D q ops K (⟨d, op, ty, pos, af, some (j, want)⟩ :: rest) σ =
    guardS ((ops[j]?).bind (·.dst)) want σ (fun σ => opsW C D q ops K (⟨d, op, ty, pos, af, none⟩ :: rest) σ) (fun σ => opsW C D q ops K rest (σ.put d (.tup []))) := by
  unfold guardS
  simp only [opsW, guardOf, Option.map_some, guardW, testV, Option.map_none]
  cases (ops[j]?).bind (·.dst) <;> rfl

/-- A choice without a branch. -/
def pickF (c x y : AV) : Option AV :=
  match c with
  | .bool t => some (if t then x else y)
  | _ => none

theorem pickF_true (x y : AV) : pickF (.bool true) x y = some x := rfl
theorem pickF_false (x y : AV) : pickF (.bool false) x y = some y := rfl
theorem pickF_bools (t b c : Bool) : pickF (.bool t) (.bool b) (.bool c) = some (.bool (if t then b else c)) := by cases t <;> rfl
theorem pickF_bool (t : Bool) (x y : AV) : pickF (.bool t) x y = some (if t then x else y) := rfl

theorem s_move {x : Operand} : opsW C D q ops K (⟨d, .move x, ty, pos, af, none⟩ :: rest) σ = opsW C D q ops K rest (σ.put d (σ.get x)) := by simp [opsW, guardW, guardOf, opW, opG, opF, exP_some, looks]
theorem s_assign {x : Operand} : opsW C D q ops K (⟨d, .assign x, ty, pos, af, none⟩ :: rest) σ = opsW C D q ops K rest (σ.put d (σ.get x)) := by simp [opsW, guardW, guardOf, opW, opG, opF, exP_some, looks]
theorem s_pick {c x y : Operand} : opsW C D q ops K (⟨d, .pick c x y, ty, pos, af, none⟩ :: rest) σ = exP (pickF (σ.get c) (σ.get x) (σ.get y)) fun v => opsW C D q ops K rest (σ.put d v) := by
  simp only [opsW, guardW, guardOf, opW, opG, opF, looks, Option.map_none, implies_true, true_and, pickF]
  cases σ.get c <;> simp [exP_some, exP_none]
theorem s_load {t : TypeId} {x : Operand} (hs : stlD C d = false) : opsW C D q ops K (⟨d, .load t x, ty, pos, af, none⟩ :: rest) σ = exP (loadF C σ t (σ.get x)) fun v => opsW C D q ops K rest (σ.put d v) := by
  simp [hs, opsW, guardW, guardOf, opW, opG, opF, exP_some, looks, exP_bind]
def nilF (σ : St) : AV → Option AV
  | .ptr e g i j => do let _ ← σ.cur e g; some (.ptr e g i j)
  | .cptr tg c => do σ.validC tg; some (.cptr tg c)
  | .clo f c => some (.clo f c)
  | _ => none
theorem s_loadS {t : TypeId} {x : Operand} (hs : stlD C d = true) : opsW C D q ops K (⟨d, .load t x, ty, pos, af, none⟩ :: rest) σ = exP (loadSD C σ d t (σ.get x)) fun σ' => opsW C D q ops K rest σ' := by
  simp [hs, opsW, guardW, guardOf, opW]
theorem s_nilCheck {x : Operand} : opsW C D q ops K (⟨d, .nilCheck x, ty, pos, af, none⟩ :: rest) σ = exP (nilF σ (σ.get x)) fun v => opsW C D q ops K rest (σ.put d v) := by
  have hl : looks C ⟨d, .nilCheck x, ty, pos, af, none⟩ = true := rfl
  simp only [opsW, guardW, guardOf, opW, opG, opF, Option.map_none, nilF, hl, implies_true, true_and]
  cases σ.get x <;> simp [exP_bind, exP_some, exP_none]
theorem s_nilCheck_ptr {x : Operand} {e g i j : Nat} (h : σ.get x = .ptr e g i j) : opsW C D q ops K (⟨d, .nilCheck x, ty, pos, af, none⟩ :: rest) σ = exP (σ.cur e g) fun _ => opsW C D q ops K rest (σ.put d (.ptr e g i j)) := by
  simp [opsW, guardW, guardOf, opW, opG, opF, exP_some, looks, exP_bind, h]
theorem s_nilCheck_cptr {x : Operand} {c : List AV} (h : σ.get x = .cptr none c) : opsW C D q ops K (⟨d, .nilCheck x, ty, pos, af, none⟩ :: rest) σ = opsW C D q ops K rest (σ.put d (.cptr none c)) := by
  simp [opsW, guardW, guardOf, opW, opG, opF, exP_some, looks, h, St.validC]
theorem s_bin {op : BinOp} {t t' : TypeId} {x y : Operand} : opsW C D q ops K (⟨d, .binOp op t x y t', ty, pos, af, none⟩ :: rest) σ = exP (binF C op t (σ.get x) (σ.get y)) fun v => opsW C D q ops K rest (σ.put d v) := by
  simp [opsW, guardW, guardOf, opW, opG, opF, exP_some, looks, exP_bind]
theorem s_un {op : UnOp} {t : TypeId} {x : Operand} : opsW C D q ops K (⟨d, .unOp op t x, ty, pos, af, none⟩ :: rest) σ = exP (unF op (σ.get x)) fun v => opsW C D q ops K rest (σ.put d v) := by
  simp [opsW, guardW, guardOf, opW, opG, opF, exP_some, looks, exP_bind]
theorem s_convert {s t : TypeId} {x : Operand} {v : AV} (h : convF C s t (σ.get x) = some v) (hq : q = true → looks C ⟨d, .convert s t x, ty, pos, af, none⟩ = true) : opsW C D q ops K (⟨d, .convert s t x, ty, pos, af, none⟩ :: rest) σ = opsW C D q ops K rest (σ.put d v) := by
  have hq' : (q = true → looks C ⟨d, .convert s t x, ty, pos, af, none⟩ = true) = True := by simpa using hq
  simp only [opsW, guardW, guardOf, opW, opG, opF, exP_some, Option.map_none, h, hq', true_and]
theorem s_slice {t : TypeId} {x : Operand} {lo hi mx : Option Operand} : opsW C D q ops K (⟨d, .slice t x lo hi mx, ty, pos, af, none⟩ :: rest) σ = exP (sliceF C σ t (σ.get x) (lo.map σ.get) (hi.map σ.get) (mx.map σ.get)) fun v => opsW C D q ops K rest (σ.put d v) := by
  simp [opsW, guardW, guardOf, opW, opG, opF, exP_some, looks, exP_bind]
theorem s_fieldAddr {s : TypeId} {x : Operand} {f : Nat} : opsW C D q ops K (⟨d, .fieldAddr s x f, ty, pos, af, none⟩ :: rest) σ = exP (fieldAddrF C σ s (σ.get x) f) fun v => opsW C D q ops K rest (σ.put d v) := by
  simp [opsW, guardW, guardOf, opW, opG, opF, exP_some, looks, exP_bind]
theorem s_field {s : TypeId} {x : Operand} {f : Nat} : opsW C D q ops K (⟨d, .field s x f, ty, pos, af, none⟩ :: rest) σ = exP (fieldF C s (σ.get x) f) fun v => opsW C D q ops K rest (σ.put d v) := by
  simp [opsW, guardW, guardOf, opW, opG, opF, exP_some, looks, exP_bind]
theorem s_indexAddr {t : TypeId} {x i : Operand} : opsW C D q ops K (⟨d, .indexAddr t x i, ty, pos, af, none⟩ :: rest) σ = exP (indexAddrF C σ t (σ.get x) (σ.get i)) fun v => opsW C D q ops K rest (σ.put d v) := by
  simp [opsW, guardW, guardOf, opW, opG, opF, exP_some, looks, exP_bind]

def indexF (C : Cfg) (t : Nat) (x i : AV) : Option AV := do
  let T ← C.tt t
  match T.desc, x, i with
  | .string, .str s, .int _ n => do
    ensure (0 ≤ n ∧ n < s.size)
    some (.int .u8 ((s.data[n.toNat]?).getD 0).toNat)
  | _, _, _ => none
theorem s_index {t : TypeId} {x i : Operand} : opsW C D q ops K (⟨d, .index t x i, ty, pos, af, none⟩ :: rest) σ = exP (indexF C t (σ.get x) (σ.get i)) fun v => opsW C D q ops K rest (σ.put d v) := by
  simp only [opsW, guardW, guardOf, opW, opG, opF, looks, Option.map_none, implies_true, true_and, indexF, Option.bind_eq_bind, exP_bind]
  congr 1
  funext T
  split <;> rename_i h1 h2 <;> simp [*, exP_bind, exP_some, exP_none]

def extractF (x : AV) (i : Nat) : Option AV :=
  match x with
  | .tup vs => vs[i]?
  | _ => none
theorem s_extract {x : Operand} {i : Nat} : opsW C D q ops K (⟨d, .extract x i, ty, pos, af, none⟩ :: rest) σ = exP (extractF (σ.get x) i) fun v => opsW C D q ops K rest (σ.put d v) := by
  simp only [opsW, guardW, guardOf, opW, opG, opF, looks, Option.map_none, implies_true, true_and, extractF]
  split <;> simp [*, exP_bind, exP_some, exP_none]
theorem s_len {x : Operand} {t : TypeId} : opsW C D q ops K (⟨d, .call { callee := .builtin .len, args := #[x], argTypes := #[t] }, ty, pos, af, none⟩ :: rest) σ =
    exP (C.tt t) fun T => exP (lenF σ T.desc (σ.get x)) fun n => opsW C D q ops K rest (σ.put d (.int .i64 n)) := by
  simp [opsW, guardW, guardOf, opW, opG, opF, exP_some, looks, exP_bind]
theorem s_append {x y : Operand} {t t2 : TypeId} : opsW C D false ops K (⟨d, .call { callee := .builtin .append, args := #[x, y], argTypes := #[t, t2] }, ty, pos, af, none⟩ :: rest) σ =
    exP (appendF C σ d t t2 (σ.get x) (σ.get y)) fun σ => opsW C D false ops K rest σ := by
  simp [opsW, guardW, guardOf, opW, opG, opF]
theorem s_copy {x y : Operand} {t t2 : TypeId} : opsW C D false ops K (⟨d, .call { callee := .builtin .copy, args := #[x, y], argTypes := #[t, t2] }, ty, pos, af, none⟩ :: rest) σ =
    exP (copyF C σ d t t2 (σ.get x) (σ.get y)) fun σ => opsW C D false ops K rest σ := by
  simp [opsW, guardW, guardOf, opW, opG, opF]
theorem s_store {t : TypeId} {p x : Operand} : opsW C D false ops K (⟨d, .store t p x, ty, pos, af, none⟩ :: rest) σ = exP (storeF C σ t (σ.get p) (σ.get x)) fun σ1 => opsW C D false ops K rest (σ1.put d (.tup [])) := by
  simp [opsW, guardW, guardOf, opW, opG, opF, exP_some, exP_bind]
theorem s_alloc {t : TypeId} : opsW C D false ops K (⟨d, .alloc t, ty, pos, af, none⟩ :: rest) σ = exP (C.tt t) fun T => exP (newVar σ d T.sz (mkV T.desc.isStruct T.zero)) fun σ => opsW C D false ops K rest σ := by
  simp [opsW, guardW, guardOf, opW, opG, opF, exP_bind]
theorem s_box {t : TypeId} {x : Operand} : opsW C D false ops K (⟨d, .box t x, ty, pos, af, none⟩ :: rest) σ =
    exP (C.tt t) fun T => exP (σ.closeL (leaves (σ.get x))) fun p => p.1.length = T.sz ∧ exP (newVar p.2 d T.sz (mkV T.desc.isStruct p.1)) fun σ => opsW C D false ops K rest σ := by
  simp [opsW, guardW, guardOf, opW, opG, opF, exP_bind, exP_ensure]
def buildStF (C : Cfg) (σ : St) (t : Nat) (parts : List (Nat × Operand)) : Option AV := do
  let T ← C.tt t
  match T.desc with
  | .struct fs => do
    ensure (fs.all (fun p => (C.tt p.2).isSome) = true)
    let ls ← buildF C fs σ parts T.zero
    some (.agg ls)
  | _ => none
theorem s_build {t : TypeId} {parts : Array (Nat × Operand)} : opsW C D q ops K (⟨d, .build t parts, ty, pos, af, none⟩ :: rest) σ = exP (buildStF C σ t parts.toList) fun v => opsW C D q ops K rest (σ.put d v) := by
  simp only [opsW, guardW, guardOf, opW, opG, opF, looks, Option.map_none, implies_true, true_and, buildStF, Option.bind_eq_bind, exP_bind]
  congr 1
  funext T
  split <;> simp [*, exP_bind, exP_some, exP_none]
def buildSlF (C : Cfg) (σ : St) (d : Option Tmp) (t n : Nat) (parts : List (Nat × Operand)) : Option St := do
  let T ← C.tt t
  match T.desc with
  | .slice el => do
    let U ← C.tt el
    ensure (n * U.sz ≤ 16777216)
    let (l, σ) ← buildSliceF C.mv U parts (List.replicate n (mkV U.desc.isStruct U.zero)) σ
    newArr σ d U.sz l n true
  | _ => none
theorem s_buildSlice {t n : Nat} {parts : Array (Nat × Operand)} : opsW C D false ops K (⟨d, .buildSlice t n parts, ty, pos, af, none⟩ :: rest) σ = exP (buildSlF C σ d t n parts.toList) fun σ => opsW C D false ops K rest σ := by
  simp only [opsW, guardW, guardOf, opW, opG, opF, Option.map_none, buildSlF, Bool.false_eq_true, false_imp_iff, true_and]
  rfl
def makeF (C : Cfg) (σ : St) (d : Option Tmp) (t : Nat) (l c : AV) : Option St := do
  let T ← C.tt t
  match T.desc, l, c with
  | .slice el, .int .i64 l, .int .i64 c => do
    let U ← C.tt el
    ensure (0 ≤ l ∧ l ≤ c ∧ c * U.bytes ≤ 140737488355328 ∧ c ≤ 140737488355328)
    newArr σ d U.sz (List.replicate c.toNat (mkV U.desc.isStruct U.zero)) l.toNat (decide (l = c))
  | _, _, _ => none
theorem s_makeSlice {t : TypeId} {l c : Operand} : opsW C D false ops K (⟨d, .makeSlice t l c, ty, pos, af, none⟩ :: rest) σ = exP (makeF C σ d t (σ.get l) (σ.get c)) fun σ => opsW C D false ops K rest σ := by
  simp only [opsW, guardW, guardOf, opW, opG, opF, Option.map_none, makeF, Bool.false_eq_true, false_imp_iff, true_and]
  rfl
theorem s_makeFunc {f : Nat} {cap : Array Operand} : opsW C D false ops K (⟨d, .makeFunc (.func f) #[] cap, ty, pos, af, none⟩ :: rest) σ = exP (captureL cap.toList σ) fun p => opsW C D false ops K rest (p.2.put d (.clo f p.1)) := by
  simp [opsW, guardW, guardOf, opW, opG, opF, exP_bind, exP_ensure, exP_some]

/-- What the callee left, put back. -/
def leftO (σ : St) (left : AV) : Option AV → St
  | some x => putLeft σ x left
  | none => σ
def leftM (σ : St) (as : List AV) (left : AV) : Option Nat → St
  | none => σ
  | some k => leftO σ left as[k]?
theorem leftS_eq (f : Nat) (as : List AV) (left : AV) : leftS C σ f as left = leftM σ as left (C.wrt f) := by
  unfold leftS leftM
  cases C.wrt f with
  | none => rfl
  | some k => cases as[k]? <;> rfl
/-- What the call goes on with. -/
def behind (C : Cfg) (σ : St) (f : Nat) (as : List AV) (d : Option Tmp) (res left : AV) : St := takeRes d (leftS C (if hasFro res || hasFro left then freezeL σ (lentL C σ f 0 as) else σ) f as left) res

/-- May the call be made so? -/
def okQ (C : Cfg) (σ : St) (q : Bool) (f : Nat) (as : List AV) : Prop := okCW C σ f as ∧ (q = true → C.wrt f = none)
def okEnt (lent : List Nat) : Option AV → Prop
  | some x => match entW x with
    | some e => e ∉ lent
    | none => False
  | none => False
def okM (q : Bool) (as : List AV) (lent : List Nat) : Option Nat → Prop
  | none => True
  | some k => q = false ∧ okEnt lent as[k]?
theorem okQ_eq (q : Bool) (f : Nat) (as : List AV) : okQ C σ q f as = okM q as (lentL C σ f 0 as) (C.wrt f) := by
  unfold okQ okCW okM
  cases C.wrt f with
  | none => simp
  | some k =>
    have key : (∃ x e, as[k]? = some x ∧ entW x = some e ∧ e ∉ lentL C σ f 0 as) ↔ okEnt (lentL C σ f 0 as) as[k]? := by
      constructor
      · rintro ⟨x, e, h1, h2, h3⟩
        rw [h1]; simp only [okEnt, h2]; exact h3
      · intro h
        unfold okEnt at h
        split at h
        · rename_i x hx
          split at h
          · rename_i e he; exact ⟨x, e, hx, he, h⟩
          · exact h.elim
        · exact h.elim
    dsimp only
    rw [key]
    cases q <;> simp
theorem okM_none (q : Bool) (as : List AV) (lent : List Nat) : okM q as lent none = True := rfl
theorem okM_some (as : List AV) (lent : List Nat) (k : Nat) : okM false as lent (some k) = okEnt lent as[k]? := by simp [okM]
theorem okE_ptr (lent : List Nat) (e g i j : Nat) : okEnt lent (some (.ptr e g i j)) = (e ∉ lent) := rfl
theorem okE_hd (lent : List Nat) (e g off len : Nat) (c : Bool) : okEnt lent (some (.hd e g off len c)) = (e ∉ lent) := rfl
theorem okE_fro (lent : List Nat) (e v i j : Nat) (c : Bool) (l : List AV) : okEnt lent (some (.fro (some (e, v, some (i, j))) c l)) = (e ∉ lent) := rfl

theorem s_call {f : Nat} {args : Array Operand} {ts : Array TypeId} : opsW C D q ops K (⟨d, .call { callee := .value (.func f), args, argTypes := ts }, ty, pos, af, none⟩ :: rest) σ =
    exP (passL C σ f 0 (args.toList.map σ.get)) fun as => okQ C σ q f (args.toList.map σ.get) ∧ callW D q f as fun res left => opsW C D q ops K rest (behind C σ f (args.toList.map σ.get) d res left) := by
  simp only [opsW, guardW, guardOf, opW, callP, target, St.get, exP_some, Option.map_none, List.append_nil, behind, okQ]

/-! ### Slots -/
theorem put_sl (σ : St) (d : Tmp) (v : AV) (k : Nat) : (σ.put (some d) v).sl k = if k = d then v else σ.sl k := rfl
theorem put_en (σ : St) (d : Option Tmp) (v : AV) : (σ.put d v).en = σ.en := by cases d <;> rfl
theorem put_none (σ : St) (v : AV) : σ.put none v = σ := rfl
theorem get_tmp (σ : St) (t : Tmp) : σ.get (.tmp t) = σ.sl t := rfl
theorem get_func (σ : St) (f : Nat) : σ.get (.func f) = .clo f [] := rfl
theorem get_const (σ : St) (v : Value) : σ.get (.const v) = ofC v := rfl

theorem init_sl (args : List AV) (k : Nat) : (St.init args).sl k = args.getD k (.tup []) := rfl
theorem lenF_str (s : ByteArray) : lenF σ .string (.str s) = some s.size := rfl
theorem lenF_fro (e : Nat) (clip : Bool) (l : List AV) : lenF σ (.slice e) (.fro none clip l) = some l.length := rfl
theorem lenF_hd (t e g off len : Nat) (clip : Bool) : lenF σ (.slice t) (.hd e g off len clip) = (σ.cur e g).bind fun _ => some len := rfl
theorem exP_cur (e g : Nat) (K : Ent → Prop) : exP (σ.cur e g) K = (((σ.en e).live = true ∧ (σ.en e).gen = g) ∧ K (σ.en e)) := by
  unfold St.cur
  split
  · rename_i h; rw [exP_some]; simp [h]
  · rename_i h; rw [exP_none]; simp [h]
theorem exP_tt {t : Nat} {T : TI} (h : C.tt t = some T) (K : TI → Prop) : exP (C.tt t) K = K T := by rw [h, exP_some]

theorem init_en (args : List AV) (e : Nat) : (St.init args).en e = { live := false, gen := 0, wr := 0, frz := false, sz := 0, elems := [] } := rfl
theorem fresh_sl (σ : St) (e sz : Nat) (l : List AV) : (σ.fresh e sz l).sl = σ.sl := rfl
theorem fresh_en (σ : St) (e sz : Nat) (l : List AV) (k : Nat) : (σ.fresh e sz l).en k = if k = e then { live := true, gen := (σ.en e).gen + 1, wr := (σ.en e).wr + 1, frz := false, sz, elems := l } else σ.en k := rfl
theorem ent_sl (σ : St) (e : Nat) (E : Ent) : (σ.ent e E).sl = σ.sl := rfl
theorem ent_en (σ : St) (e : Nat) (E : Ent) (k : Nat) : (σ.ent e E).en k = if k = e then E else σ.en k := rfl
theorem upd_eq {α : Type} (f : Nat → α) (a : Nat) (v : α) (b : Nat) : upd f a v b = if b = a then v else f b := rfl
theorem exP_true {α : Type} (a : α) : exP (some a) (fun _ => True) = True := by simp [exP]
theorem eid_eq (d j : Nat) : eid d j = 64 * d + j := rfl
theorem seen_u {e w i j : Nat} {x : AV} (h : noOwn x = true) : seen e w i j x = x := by cases x <;> first | rfl | cases h
theorem leftE_und (E : Ent) (x : AV) : leftE E x .und = none := by unfold leftE; split <;> simp_all
theorem putLeft_und (σ : St) (x : AV) : putLeft σ x .und = σ := by
  unfold putLeft
  split
  · rw [leftE_und]
  · rfl
theorem leftS_und (σ : St) (f : Nat) (as : List AV) : leftS C σ f as .und = σ := by
  rw [leftS_eq]
  unfold leftM
  split
  · rfl
  · unfold leftO
    split
    · exact putLeft_und σ _
    · rfl
theorem behind_int {f : Nat} {as : List AV} {dd : Option Tmp} {k : IntKind} {n : Int} : behind C σ f as dd (.int k n) .und = σ.put dd (.int k n) := by unfold behind; rw [leftS_und]; cases dd <;> rfl
theorem behind_bool {f : Nat} {as : List AV} {dd : Option Tmp} {b : Bool} : behind C σ f as dd (.bool b) .und = σ.put dd (.bool b) := by unfold behind; rw [leftS_und]; cases dd <;> rfl
theorem behind_str {f : Nat} {as : List AV} {dd : Option Tmp} {s : ByteArray} : behind C σ f as dd (.str s) .und = σ.put dd (.str s) := by unfold behind; rw [leftS_und]; cases dd <;> rfl

theorem testV_dec (p : Prop) [Decidable p] (d : Tmp) (σ : St) (yes no : St → Prop) : testV (.bool (decide p)) d true σ yes no = ((p → yes (σ.put (some d) (.bool true))) ∧ (¬ p → no (σ.put (some d) (.bool false)))) := by
  simp only [testV_bool, decide_eq_true_eq, decide_eq_false_iff_not]
theorem testV_dec' (p : Prop) [Decidable p] (d : Tmp) (σ : St) (yes no : St → Prop) : testV (.bool (decide p)) d false σ yes no = ((p → no (σ.put (some d) (.bool true))) ∧ (¬ p → yes (σ.put (some d) (.bool false)))) := by
  simp only [testV_bool', decide_eq_true_eq, decide_eq_false_iff_not]
theorem condV_dec (p : Prop) [Decidable p] (d : Tmp) (σ : St) (yes no : St → Prop) : condV (.bool (decide p)) d σ yes no = ((p → yes (σ.put (some d) (.bool true))) ∧ (¬ p → no (σ.put (some d) (.bool false)))) := by
  simp only [condV_bool, decide_eq_true_eq, decide_eq_false_iff_not]
theorem bool_eq (a b : Int) : AV.bool (a == b) = AV.bool (decide (a = b)) := by congr 1
theorem bool_ne (a b : Int) : AV.bool (a != b) = AV.bool (decide (¬ a = b)) := by
  congr 1
  by_cases h : a = b <;> simp [h]
theorem bool_not (p : Prop) [Decidable p] : AV.bool (!decide p) = AV.bool (decide (¬ p)) := by
  congr 1
  by_cases h : p <;> simp [h]
theorem bool_not_true : AV.bool (!true) = AV.bool false := rfl
theorem bool_not_false : AV.bool (!false) = AV.bool true := rfl

/-! ### Behind a call -/
theorem freeze_none (c : Bool) (σ : St) : (if c then freezeL σ [] else σ) = σ := by split <;> rfl
theorem behind_gen {f : Nat} {as : List AV} {dd : Option Tmp} {res left : AV} (h : lentL C σ f 0 as = []) : behind C σ f as dd res left = takeRes dd (leftM σ as left (C.wrt f)) res := by
  unfold behind
  rw [h, freeze_none, leftS_eq]
theorem takeL_same (k : Tmp) : ∀ (l : List AV) (j : Nat) (σ : St), l.all noOwn = true → takeL k j l σ = (l, σ) := by
  intro l
  induction l with
  | nil => intros; rfl
  | cons x xs ih =>
    intro j σ hx
    simp only [List.all_cons, Bool.and_eq_true] at hx
    have h1 : takeLeaf k j σ x = (x, σ) := by cases x <;> first | rfl | cases hx.1
    simp only [takeL, h1, ih (j + 1) σ hx.2]
theorem behind_agg {f : Nat} {as : List AV} {k : Tmp} {fs : List AV} (h : lentL C σ f 0 as = []) (hn : fs.all noOwn = true) : behind C σ f as (some k) (.agg fs) .und = σ.put (some k) (.agg fs) := by
  unfold behind
  rw [h, freeze_none, leftS_und]
  simp only [takeRes, takeV, takeL_same k fs 0 σ hn]
theorem behind_own {f : Nat} {as : List AV} {k : Tmp} {sz : Nat} {l : List AV} (h : lentL C σ f 0 as = []) : behind C σ f as (some k) (.own sz l) .und = (σ.fresh (eid k 0) sz l).put (some k) (.hd (eid k 0) ((σ.en (eid k 0)).gen + 1) 0 l.length false) := by
  unfold behind
  rw [h, freeze_none, leftS_und]
  rfl
theorem behind_fro {f : Nat} {as : List AV} {k : Tmp} {c : Bool} {l : List AV} (h : lentL C σ f 0 as = []) : behind C σ f as (some k) (.fro none c l) .und = σ.put (some k) (.fro none c l) := by
  unfold behind
  rw [h, freeze_none, leftS_und]
  rfl
theorem behind_tup {f : Nat} {as : List AV} {k : Tmp} {vs : List AV} (h : lentL C σ f 0 as = []) : behind C σ f as (some k) (.tup vs) .und = takeRes (some k) σ (.tup vs) := by
  unfold behind
  rw [h, freeze_none, leftS_und]
theorem behind_rpt {f : Nat} {as : List AV} {k : Tmp} {sz i j : Nat} {l : List AV} (h : lentL C σ f 0 as = []) : behind C σ f as (some k) (.pt sz l i j) .und = (σ.fresh (eid k 0) sz l).put (some k) (.ptr (eid k 0) ((σ.en (eid k 0)).gen + 1) i j) := by
  unfold behind
  rw [h, freeze_none, leftS_und]
  rfl
theorem behind_pt {f : Nat} {as : List AV} {dd : Option Tmp} {res : AV} {sz i j : Nat} {l : List AV} (h : lentL C σ f 0 as = []) : behind C σ f as dd res (.pt sz l i j) = takeRes dd (leftM σ as (.pt sz l i j) (C.wrt f)) res := behind_gen h
theorem behind_gone {f : Nat} {as : List AV} {dd : Option Tmp} {res : AV} (h : lentL C σ f 0 as = []) : behind C σ f as dd res (.tup []) = takeRes dd (leftM σ as (.tup []) (C.wrt f)) res := behind_gen h
theorem putLeft_gone (σ : St) (e g off len : Nat) (c : Bool) : putLeft σ (.hd e g off len c) (.tup []) = σ.ent e { σ.en e with live := false, wr := (σ.en e).wr + 1 } := rfl
theorem behind_lo {f : Nat} {as : List AV} {dd : Option Tmp} {res : AV} {sz : Nat} {l : List AV} (h : lentL C σ f 0 as = []) : behind C σ f as dd res (.own sz l) = takeRes dd (leftM σ as (.own sz l) (C.wrt f)) res := behind_gen h
theorem leftM_none (σ : St) (as : List AV) (left : AV) : leftM σ as left none = σ := rfl
theorem leftM_some (σ : St) (as : List AV) (left : AV) (k : Nat) : leftM σ as left (some k) = leftO σ left as[k]? := rfl
theorem leftO_some (σ : St) (left x : AV) : leftO σ left (some x) = putLeft σ x left := rfl
theorem putLeft_ptr (σ : St) (e g i j sz i' j' : Nat) (l : List AV) : putLeft σ (.ptr e g i j) (.pt sz l i' j') = σ.ent e { σ.en e with wr := (σ.en e).wr + 1, elems := l } := rfl
theorem putLeft_hd (σ : St) (e g off len sz : Nat) (c : Bool) (l : List AV) : putLeft σ (.hd e g off len c) (.own sz l) = σ.ent e { σ.en e with wr := (σ.en e).wr + 1, elems := l } := rfl
theorem putLeft_fro (σ : St) (e v i j sz : Nat) (c : Bool) (l l' : List AV) : putLeft σ (.fro (some (e, v, some (i, j))) c l) (.own sz l') = σ.ent e { σ.en e with wr := (σ.en e).wr + 1, elems := (σ.en e).elems.modify i fun x => reEl x ((leaves x).set j (.own sz l')) } := rfl
theorem takeRes_int (dd : Option Tmp) (σ : St) (k : IntKind) (n : Int) : takeRes dd σ (.int k n) = σ.put dd (.int k n) := by cases dd <;> rfl
theorem takeRes_bool (dd : Option Tmp) (σ : St) (b : Bool) : takeRes dd σ (.bool b) = σ.put dd (.bool b) := by cases dd <;> rfl
theorem takeRes_str (dd : Option Tmp) (σ : St) (s : ByteArray) : takeRes dd σ (.str s) = σ.put dd (.str s) := by cases dd <;> rfl
theorem takeRes_own (k : Tmp) (σ : St) (sz : Nat) (l : List AV) : takeRes (some k) σ (.own sz l) = (σ.fresh (eid k 0) sz l).put (some k) (.hd (eid k 0) ((σ.en (eid k 0)).gen + 1) 0 l.length false) := rfl
theorem takeRes_fro (dd : Option Tmp) (σ : St) (c : Bool) (l : List AV) : takeRes dd σ (.fro none c l) = σ.put dd (.fro none c l) := by cases dd <;> rfl
theorem takeRes_agg (k : Tmp) (σ : St) (fs : List AV) (hn : fs.all noOwn = true) : takeRes (some k) σ (.agg fs) = σ.put (some k) (.agg fs) := by simp only [takeRes, takeV, takeL_same k fs 0 σ hn]
theorem lentS_own (σ : St) (k sz : Nat) (l : List AV) : σ.lentS k (.own sz l) = (σ.fresh (eid k 0) sz l).put (some k) (.hd (eid k 0) 1 0 l.length false) := rfl
theorem lentS_pt (σ : St) (k sz i j : Nat) (l : List AV) : σ.lentS k (.pt sz l i j) = (σ.fresh (eid k 0) sz l).put (some k) (.ptr (eid k 0) 1 i j) := rfl
theorem lentOf_fro {c : Bool} {l : List AV} : lentOf σ (.fro none c l) = [] := rfl
theorem lentOf_int {k : IntKind} {n : Int} : lentOf σ (.int k n) = [] := rfl
theorem lentOf_bool {b : Bool} : lentOf σ (.bool b) = [] := rfl
theorem lentOf_str {s : ByteArray} : lentOf σ (.str s) = [] := rfl
theorem lentL_nil {f p : Nat} : lentL C σ f p [] = [] := rfl
theorem lentL_cons {f p : Nat} {x : AV} {xs : List AV} : lentL C σ f p (x :: xs) = (if C.wrt f = some p then [] else (leaves x).flatMap (lentOf σ)) ++ lentL C σ f (p + 1) xs := rfl

theorem kill_sl (σ : St) (e : Nat) : (σ.kill e).sl = σ.sl := rfl
theorem kill_en (σ : St) (e k : Nat) : (σ.kill e).en k = if k = e then { σ.en e with live := false } else σ.en k := rfl
theorem freeze_sl (σ : St) (e : Nat) : (σ.freeze e).sl = σ.sl := rfl
theorem freeze_en (σ : St) (e k : Nat) : (σ.freeze e).en k = if k = e then { σ.en e with frz := true, elems := (σ.en e).elems.map froize } else σ.en k := rfl
theorem take_map_len {α β : Type} (f : α → β) (l : List α) : (l.map f).take l.length = l.map f := List.take_of_length_le (by simp)
theorem exP_valid (e v : Nat) (K : Unit → Prop) : exP (σ.valid e v) K = (((σ.en e).live = true ∧ (σ.en e).wr = v) ∧ K ()) := exP_ensure _ _

def convA (C : Cfg) (σ : St) (s t : Nat) (x : AV) : Option AV :=
  match convF C s t x with
  | some v => some v
  | none => match convS C σ s t x with
    | some v => some v
    | none => convB C s t x
theorem convE (C : Cfg) (o : Option Tmp) (σ : St) (s t : Nat) (x : AV) (K : St → Prop) : exP (match convF C s t x with
    | some v => some (σ.put o v)
    | none => match convS C σ s t x with
      | some v => some (σ.put o v)
      | none => do let v ← convB C s t x; some (σ.put o v)) K = exP (convA C σ s t x) fun v => K (σ.put o v) := by
  unfold convA
  cases convF C s t x with
  | some v => simp [exP_some]
  | none =>
    cases convS C σ s t x with
    | some v => simp [exP_some]
    | none => simp [exP_bind, exP_some]
theorem s_conv {s t : TypeId} {x : Operand} : opsW C D false ops K (⟨d, .convert s t x, ty, pos, af, none⟩ :: rest) σ = exP (convA C σ s t (σ.get x)) fun v => opsW C D false ops K rest (σ.put d v) := by
  rw [← convE]
  simp only [opsW, guardW, guardOf, opW, opG, opF, Option.map_none, Bool.false_eq_true, false_imp_iff, true_and]
  rfl

def lookT (C : Cfg) (t : Nat) : Bool :=
  match C.tt t with
  | some T => match T.desc with
    | .slice _ => false
    | _ => true
  | none => true
theorem s_convQ {s t : TypeId} {x : Operand} : opsW C D true ops K (⟨d, .convert s t x, ty, pos, af, none⟩ :: rest) σ = (lookT C t = true ∧ exP (convA C σ s t (σ.get x)) fun v => opsW C D true ops K rest (σ.put d v)) := by
  have hl : looks C ⟨d, .convert s t x, ty, pos, af, none⟩ = lookT C t := rfl
  rw [← convE]
  simp only [opsW, guardW, guardOf, opW, opG, opF, Option.map_none, hl, true_imp_iff]
  rfl
def cloV : AV → Option (Nat × List AV)
  | .clo f caps => some (f, caps)
  | _ => none
theorem cloV_clo (f : Nat) (caps : List AV) : cloV (.clo f caps) = some (f, caps) := rfl
theorem s_callT {t : Tmp} {args : Array Operand} {ts : Array TypeId} : opsW C D q ops K (⟨d, .call { callee := .value (.tmp t), args, argTypes := ts }, ty, pos, af, none⟩ :: rest) σ =
    exP (cloV (σ.sl t)) fun p => exP (passL C σ p.1 0 (args.toList.map σ.get ++ p.2)) fun as => okQ C σ q p.1 (args.toList.map σ.get) ∧ callW D q p.1 as fun res left => opsW C D q ops K rest (behind C σ p.1 (args.toList.map σ.get) d res left) := by
  have e : target σ (.tmp t) = cloV (σ.sl t) := by
    simp only [target, St.get]
    cases σ.sl t <;> rfl
  simp only [opsW, guardW, guardOf, opW, callP, e, Option.map_none, behind, okQ]

theorem exP_atm {α β : Type} [Inhabited α] (f : α → β) (l : List α) (i : Nat) (K : β → Prop) : exP (l[i]?.map f) K = (i < l.length ∧ K (f l[i]!)) := by rw [exP_map, exP_at]

end
end Go.Vm
