/- The logic of the evaluator. -/
import Derived.Test.YtfimolakepbdbaaWDefs
namespace Go.Vm

/-- Something comes out, and it is so. -/
def exP {α : Type} (o : Option α) (K : α → Prop) : Prop := ∃ a, o = some a ∧ K a

theorem exP_some {α : Type} (a : α) (K : α → Prop) : exP (some a) K = K a := by simp [exP]
theorem exP_none {α : Type} (K : α → Prop) : exP none K = False := by simp [exP]
theorem exP_bind {α β : Type} (o : Option α) (f : α → Option β) (K : β → Prop) : exP (o.bind f) K = exP o fun a => exP (f a) K := by
  cases o <;> simp [exP]
theorem exP_bind' {α β : Type} (o : Option α) (f : α → Option β) (K : β → Prop) : exP (o >>= f) K = exP o fun a => exP (f a) K := exP_bind o f K
theorem exP_ensure (c : Prop) [Decidable c] (K : Unit → Prop) : exP (ensure c) K = (c ∧ K ()) := by
  unfold ensure exP
  by_cases h : c
  · simp only [h, if_true, true_and, eq_iff_iff]
    exact ⟨fun ⟨_, hk⟩ => hk, fun hk => ⟨(), hk⟩⟩
  · simp [h]
theorem exP_ite {α : Type} (c : Prop) [Decidable c] (x y : Option α) (K : α → Prop) : exP (if c then x else y) K = ((c → exP x K) ∧ (¬ c → exP y K)) := by
  by_cases h : c <;> simp [h]

inductive Ex where
  | normal
  | exit (id : Nat)
  | ret

/-- What a function may return, and leave in the array that it was lent to be written. -/
abbrev Spec := Nat → List AV → (AV → AV → Prop) → Prop

def scalR : AV → Bool
  | .int _ _ => true
  | .bool _ => true
  | .str _ => true
  | _ => false

/-- A call of function f. In a region whose order is drawn ('q') the result is a whole number, a bool or a text, and one alone. -/
def callW (D : Spec) (q : Bool) (f : Nat) (args : List AV) (K : AV → AV → Prop) : Prop :=
  ∃ R, D f args R ∧ (q = true → ∃ r0, scalR r0 = true ∧ R r0 .und ∧ ∀ r l, R r l → r = r0) ∧ ∀ r l, R r l → K r l

def target (σ : St) (x : Operand) : Option (Nat × List AV) :=
  match σ.get x with
  | .clo f caps => some (f, caps)
  | _ => none

/-- A call: it asks for a result, and goes on behind it. -/
def callP (C : Cfg) (D : Spec) (q : Bool) (x : Operand) (args : Array Operand) (dst : Option Tmp) (K : St → Prop) (σ : St) : Prop :=
  exP (target σ x) fun p =>
  exP (passL C σ p.1 0 (args.toList.map σ.get ++ p.2)) fun as =>
  (okCW C σ p.1 (args.toList.map σ.get) ∧ (q = true → C.wrt p.1 = none)) ∧
  callW D q p.1 as fun res left =>
    K (takeRes dst (leftS C (if hasFro res || hasFro left then freezeL σ (lentL C σ p.1 0 (args.toList.map σ.get)) else σ) p.1 (args.toList.map σ.get) left) res)

/-- Operations that look, and make nothing. -/
def looks (C : Cfg) (o : Oper) : Bool :=
  match o.op with
  | .convert _ d _ => match C.tt d with
    | some T => match T.desc with
      | .slice _ => false
      | _ => true
    | none => true
  | .move _ | .assign _ | .pick _ _ _ | .load _ _ | .fieldAddr _ _ _ | .field _ _ _ | .indexAddr _ _ _ | .index _ _ _ | .nilCheck _ | .binOp _ _ _ _ _ | .unOp _ _ _ | .extract _ _ | .build _ _ | .slice _ _ _ _ _ => true
  | .call { callee := .builtin .len, .. } => true
  | .call { callee := .builtin .cap, .. } => true
  | .call { callee := .builtin .min, .. } => true
  | .call { callee := .builtin .max, .. } => true
  | _ => false

def opG (C : Cfg) (q : Bool) (o : Oper) (K : St → Prop) (σ : St) : Prop := (q = true → looks C o = true) ∧ exP (opF C o σ) K
def opW (C : Cfg) (D : Spec) (q : Bool) (o : Oper) (K : St → Prop) (σ : St) : Prop :=
  match o.op with
  | .call { callee := .value x, args, argTypes := _ } => callP C D q x args o.dst K σ
  | .load t x => if stlD C o.dst = true then exP (loadSD C σ o.dst t (σ.get x)) K else opG C q o K σ
  | _ => opG C q o K σ
theorem opW_cases {C : Cfg} {D : Spec} {q : Bool} {o : Oper} {K : St → Prop} {σ : St} (h : opW C D q o K σ) : (∃ x args ts, o.op = .call { callee := .value x, args, argTypes := ts } ∧ callP C D q x args o.dst K σ) ∨
    (∃ t x, o.op = .load t x ∧ stlD C o.dst = true ∧ exP (loadSD C σ o.dst t (σ.get x)) K) ∨ ((∀ x args ts, o.op ≠ .call { callee := .value x, args, argTypes := ts }) ∧ opG C q o K σ) := by
  unfold opW at h
  split at h
  · rename_i x args ts ho; exact .inl ⟨x, args, ts, ho, h⟩
  · rename_i t x ho
    split at h
    · rename_i hs; exact .inr (.inl ⟨t, x, ho, hs, h⟩)
    · exact .inr (.inr ⟨fun x args ts he => (by rw [ho] at he; cases he), h⟩)
  · rename_i hno _; exact .inr (.inr ⟨hno, h⟩)

/-- The temporary that an operation's guard looks at, and what it wants there. -/
def guardOf (ops : Array Oper) (o : Oper) : Option (Option Tmp × Bool) := o.guard.map fun g => ((ops[g.1]?).bind (·.dst), g.2)

/-- Is an operation carried out? Behind a test both ways are told apart, and the test's value is known. -/
def guardW (g : Option (Option Tmp × Bool)) (σ : St) (yes no : St → Prop) : Prop :=
  match g with
  | none => yes σ
  | some (none, _) => no σ
  | some (some d, want) => match σ.sl d with
    | .bool b => (b = true → (if want then yes else no) (σ.put (some d) (.bool true))) ∧ (b = false → (if want then no else yes) (σ.put (some d) (.bool false)))
    | .tup [] => no σ
    | _ => False

def opsW (C : Cfg) (D : Spec) (q : Bool) (ops : Array Oper) (K : St → Prop) : List Oper → St → Prop
  | [], σ => K σ
  | o :: rest, σ => guardW (guardOf ops o) σ (opW C D q o (opsW C D q ops K rest)) (fun σ => opsW C D q ops K rest (σ.put o.dst (.tup [])))

def condW (σ : St) (c : Operand) (yes no : St → Prop) : Prop :=
  match c with
  | .tmp d => match σ.sl d with
    | .bool b => (b = true → yes (σ.put (some d) (.bool true))) ∧ (b = false → no (σ.put (some d) (.bool false)))
    | _ => False
  | .const (.bool b) => if b then yes σ else no σ
  | _ => False

/-- A slice may be told anew: as owned by the temporary that holds it. -/
def told (σ σ' : St) : Prop := σ' = σ ∨ (∃ s sz, σ.sl s = .fro none true [] ∧ σ' = takeRes (some s) σ (.own sz [])) ∨
  ∃ s e g off len clip sz l σ1, σ.sl s = .hd e g off len clip ∧ σ.close (.hd e g off len clip) = some (.own sz l, σ1) ∧ σ' = takeRes (some s) σ1 (.own sz l)
def reown (σ : St) (s : Nat) (K : St → Prop) : Prop := match σ.sl s with
  | .hd e g off len _ => ((σ.en e).live = true ∧ (σ.en e).gen = g) ∧ (σ.en e).frz = false ∧ (off = 0 ∧ len ≤ (σ.en e).elems.length) ∧ K (takeRes (some s) (σ.kill e) (.own (σ.en e).sz ((σ.en e).elems.take len)))
  | _ => False
theorem reown_told {σ : St} {s : Nat} {K : St → Prop} (h : reown σ s K) : ∃ σ0, told σ σ0 ∧ K σ0 := by
  unfold reown at h
  split at h
  · rename_i e g off len clip hs
    obtain ⟨⟨h1, h2⟩, h3, h4, h5⟩ := h
    refine ⟨_, .inr (.inr ⟨s, e, g, off, len, clip, _, _, _, hs, ?_, rfl⟩), h5⟩
    simp only [St.close, St.cur, h1, h2, Option.bind_eq_bind]
    simp [h4, h3, ensure]
  · cases h

def W (C : Cfg) (D : Spec) : Code → (Ex → St → Prop) → St → Prop
  | .skip, Q, σ => Q .normal σ
  | .seq a b, Q, σ => W C D a (fun e σ' => match e with | .normal => W C D b Q σ' | e => Q e σ') σ
  | .cond c a b, Q, σ => condW σ c (W C D a Q) (W C D b Q)
  | .block id c, Q, σ => W C D c (fun e σ' => match e with | .exit i => if i = id then Q .normal σ' else Q (.exit i) σ' | e => Q e σ') σ
  | .loop c, Q, σ => ∃ (I : St → Prop) (μ : St → Nat), (∃ σ0, told σ σ0 ∧ I σ0) ∧ ∀ σ, I σ → W C D c (fun e σ' => match e with | .normal => ∃ σ0, told σ' σ0 ∧ I σ0 ∧ μ σ0 < μ σ | e => Q e σ') σ
  | .exit id, Q, σ => Q (.exit id) σ
  | .ret, Q, σ => Q .ret σ
  | .region _ ops q, Q, σ => opsW C D q ops (Q .normal) ops.toList σ
  | _, _, _ => False

/-- The state that a function begins in. -/
def St.init (args : List AV) : St :=
  { sl := fun s => args.getD s (.tup [])
    en := fun _ => { live := false, gen := 0, wr := 0, frz := false, sz := 0, elems := [] } }

/-- A value leaves the activation. -/
def St.closeV (σ : St) : AV → Option (AV × St)
  | .agg fs => do
    let (ls, σ1) ← σ.closeL fs
    some (.agg ls, σ1)
  | x => σ.close x

def St.closeVs (σ : St) : List AV → Option (List AV × St)
  | [] => some ([], σ)
  | x :: xs => do
    let (y, σ1) ← σ.closeV x
    let (ys, σ2) ← σ1.closeVs xs
    some (y :: ys, σ2)

/-- The values of a function's results. -/
def resL (C : Cfg) (σ : St) : List ResultVar → Option (List AV)
  | [] => some []
  | .tmp t :: r => do let xs ← resL C σ r; some (σ.sl t :: xs)
  | .cell a t :: r => do let x ← loadF C σ t (σ.sl a); let xs ← resL C σ r; some (x :: xs)

/-- The function's result. -/
def retF (C : Cfg) (σ : St) (rs : List ResultVar) : Option AV := do
  let xs ← resL C σ rs
  match xs with
  | [x] => do let (y, _) ← σ.closeV x; some y
  | xs => do let (ys, _) ← σ.closeVs xs; some (.tup ys)

def retQ (C : Cfg) (rs : List ResultVar) (K : AV → Prop) : Ex → St → Prop
  | .exit _, _ => False
  | _, σ => exP (retF C σ rs) K

end Go.Vm
