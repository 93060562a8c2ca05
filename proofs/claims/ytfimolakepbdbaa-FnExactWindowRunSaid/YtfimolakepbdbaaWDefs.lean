/- The evaluator: what each operation does to the abstract state. -/
import Derived.Test.YtfimolakepbdbaaWRep
namespace Go.Vm

inductive TD where
  | int (k : IntKind)
  | bool
  | string
  | slice (e : Nat)
  | struct (fs : List (Nat × Nat))
  | pointer (e : Nat)
  | other

/-- What is asked of a type. -/
structure TI where
  desc : TD
  sz : Nat
  bytes : Nat
  zero : List AV

def TD.isStruct : TD → Bool
  | .struct _ => true
  | _ => false

structure Cfg where
  P : Program
  tt : Nat → Option TI
  /-- Structs of whole numbers, bools and texts that are compared: the kinds of their cells. -/
  eqs : Nat → Option (List TD)
  /-- The parameter that a function writes through. -/
  wrt : Nat → Option Nat
  /-- Is what a struct owns taken along, where the struct is stored or returned whole? -/
  mv : Bool
  /-- The temporaries in which a load lands that takes what it reads along. -/
  stl : List Nat

structure Ent where
  live : Bool
  gen : Nat
  wr : Nat
  frz : Bool
  sz : Nat
  elems : List AV

structure St where
  sl : Nat → AV
  en : Nat → Ent

def upd {α : Type} (f : Nat → α) (a : Nat) (v : α) : Nat → α := fun b => if b = a then v else f b

def St.put (σ : St) (d : Option Tmp) (v : AV) : St :=
  match d with
  | some d => { σ with sl := upd σ.sl d v }
  | none => σ

def St.ent (σ : St) (e : Nat) (E : Ent) : St := { σ with en := upd σ.en e E }
def St.kill (σ : St) (e : Nat) : St := σ.ent e { σ.en e with live := false }
def St.freeze (σ : St) (e : Nat) : St := σ.ent e { σ.en e with frz := true, elems := (σ.en e).elems.map froize }
/-- A new array (or variable), in the entry of this number. -/
def St.fresh (σ : St) (e sz : Nat) (l : List AV) : St := σ.ent e { live := true, gen := (σ.en e).gen + 1, wr := (σ.en e).wr + 1, frz := false, sz, elems := l }

def eid (d j : Nat) : Nat := 64 * d + j

/-- If the test holds. -/
def ensure (c : Prop) [Decidable c] : Option Unit := if c then some () else none

def ofC1 : Value → AV
  | .int k n => .int k n
  | .bool b => .bool b
  | .string s => .str s
  | .slice none 0 0 => .fro none true []
  | _ => .und

def ofC (v : Value) : AV :=
  match v with
  | .agg cs => if cs.all (·.oneCell') then .agg (cs.toList.map ofC1) else .pt 0 [] 0 0
  | .tuple cs => if cs.all (·.oneCell') then .tup (cs.toList.map ofC1) else .pt 0 [] 0 0
  | v => ofC1 v

def St.get (σ : St) : Operand → AV
  | .tmp t => σ.sl t
  | .const v => ofC v
  | .func f => .clo f []
  | .global _ => .pt 0 [] 0 0

def St.cur (σ : St) (e g : Nat) : Option Ent := if (σ.en e).live = true ∧ (σ.en e).gen = g then some (σ.en e) else none

def St.valid (σ : St) (e w : Nat) : Option Unit := ensure ((σ.en e).live = true ∧ (σ.en e).wr = w)

def St.validT (σ : St) : Option (Nat × Nat × Option (Nat × Nat)) → Option Unit
  | none => some ()
  | some (e, w, _) => σ.valid e w

def St.validC (σ : St) : Option (Nat × Nat) → Option Unit
  | none => some ()
  | some (e, w) => σ.valid e w

/-- Is a temporary's cell told still? -/
def St.ok (σ : St) : AV → Option Unit
  | .hd e g _ _ _ => do let _ ← σ.cur e g; some ()
  | .ptr e g _ _ => do let _ ← σ.cur e g; some ()
  | .fro tg _ _ => σ.validT tg
  | .cptr tg _ => σ.validC tg
  | .tup _ => none
  | .pt _ _ _ _ => none
  | _ => some ()

def St.okL (σ : St) : List AV → Option Unit
  | [] => some ()
  | x :: xs => do σ.ok x; σ.okL xs

/-- The elements of a slice, as they may be read. -/
def St.content (σ : St) : AV → Option (List AV)
  | .fro tg _ l => do σ.validT tg; some l
  | .hd e g off len _ => do
    let E ← σ.cur e g
    ensure (off + len ≤ E.elems.length)
    some ((E.elems.drop off).take len)
  | _ => none

/-- A value that goes into memory, or out of the activation: what it owns goes with it. -/
def St.close (σ : St) : AV → Option (AV × St)
  | .hd e g off len clip => do
    let E ← σ.cur e g
    if E.frz then do
      ensure (off + len ≤ E.elems.length)
      some (.fro none clip ((E.elems.drop off).take len), σ)
    else do
      ensure (off = 0 ∧ len ≤ E.elems.length)
      some (.own E.sz (E.elems.take len), σ.kill e)
  | .fro (some (e, w, _)) clip l => do
    σ.valid e w
    some (.fro none clip (l.map froize), if (σ.en e).frz then σ else σ.freeze e)
  | .fro none clip l => some (.fro none clip l, σ)
  | .int k n => some (.int k n, σ)
  | .bool b => some (.bool b, σ)
  | .str s => some (.str s, σ)
  | .clo f c => some (.clo f c, σ)
  | .cptr none c => some (.cptr none c, σ)
  | .und => some (.und, σ)
  | _ => none

def St.closeL (σ : St) : List AV → Option (List AV × St)
  | [] => some ([], σ)
  | x :: xs => do
    let (y, σ1) ← σ.close x
    let (ys, σ2) ← σ1.closeL xs
    some (y :: ys, σ2)

/-- A cell of a struct that is moved whole: what it owns is taken out of the entry. -/
def stealLeaf (e w j : Nat) (x z : AV) : Option AV :=
  match x, z with
  | .fro (some (e', w', some (i', j'))) _ _, .own sz l => if e' = e ∧ w' = w ∧ i' = 0 ∧ j' = j then some (.own sz l) else none
  | .int k n, _ => some (.int k n)
  | .bool b, _ => some (.bool b)
  | .str s, _ => some (.str s)
  | .fro none c l, _ => some (.fro none c l)
  | _, _ => none

def stealL (e w : Nat) : Nat → List AV → List AV → Option (List AV)
  | _, [], [] => some []
  | j, x :: xs, z :: zs => do
    let y ← stealLeaf e w j x z
    let ys ← stealL e w (j + 1) xs zs
    some (y :: ys)
  | _, _, _ => none

def tagOf : List AV → Option Nat
  | [] => none
  | .fro (some (e, _, some _)) _ _ :: _ => some e
  | _ :: xs => tagOf xs

def steal1 (σ : St) (e : Nat) (xs : List AV) : List AV → Option (List AV × St)
  | [z] => do
    let ys ← stealL e (σ.en e).wr 0 xs (leaves z)
    some (ys, σ.kill e)
  | _ => none

def St.steal (σ : St) (xs : List AV) : Option (List AV × St) := do
  let e ← tagOf xs
  ensure ((σ.en e).live = true ∧ (σ.en e).frz = false)
  steal1 σ e xs (σ.en e).elems

def orElse (x y : Option (List AV × St)) : Option (List AV × St) :=
  match x with
  | some r => some r
  | none => y

/-- Values that go into memory, or out; with what a struct owns, if that is asked. -/
def St.closeM (σ : St) (m : Bool) (xs : List AV) : Option (List AV × St) :=
  match m with
  | true => orElse (σ.steal xs) (σ.closeL xs)
  | false => σ.closeL xs

/-- A cell of an entry, read. -/
def seen (e w i j : Nat) : AV → AV
  | .own _ l => .fro (some (e, w, some (i, j))) false l
  | x => x

def seenL (e w i : Nat) : Nat → List AV → List AV
  | _, [] => []
  | j, x :: xs => seen e w i j x :: seenL e w i (j + 1) xs

/-- A cell behind an address of what is read, read. -/
def seenC (tg : Option (Nat × Nat)) : AV → AV
  | .own _ l => .fro (tg.map fun p => (p.1, p.2, none)) false l
  | .fro none clip l => .fro (tg.map fun p => (p.1, p.2, none)) clip l
  | .int k n => .int k n
  | .bool b => .bool b
  | .str s => .str s
  | x => match tg with
    | none => x
    | some _ => .und

def mkV (struct : Bool) (ls : List AV) : AV := if struct then .agg ls else ls.headD .und

def setRange (ls : List AV) (j : Nat) (new : List AV) : List AV := ls.take j ++ new ++ ls.drop (j + new.length)

def reEl (old : AV) (ls : List AV) : AV :=
  match old with
  | .agg _ => .agg ls
  | _ => ls.headD .und

end Go.Vm
namespace Go.Vm

def newArr (σ : St) (d : Option Tmp) (sz : Nat) (l : List AV) (len : Nat) (clip : Bool) : Option St :=
  match d with
  | some d => some ((σ.fresh (eid d 0) sz l).put (some d) (.hd (eid d 0) ((σ.en (eid d 0)).gen + 1) 0 len clip))
  | none => none

def newVar (σ : St) (d : Option Tmp) (sz : Nat) (x : AV) : Option St :=
  match d with
  | some d => some ((σ.fresh (eid d 0) sz [x]).put (some d) (.ptr (eid d 0) ((σ.en (eid d 0)).gen + 1) 0 0))
  | none => none

def loadF (C : Cfg) (σ : St) (t : Nat) : AV → Option AV
  | .ptr e g i j => do
    let T ← C.tt t
    let E ← σ.cur e g
    let x ← E.elems[i]?
    let ls := ((leaves x).drop j).take T.sz
    ensure (ls.length = T.sz)
    some (mkV T.desc.isStruct (if E.frz then ls.map (seenC none) else seenL e E.wr i j ls))
  | .cptr tg c => do
    let T ← C.tt t
    σ.validC tg
    let ls := c.take T.sz
    ensure (ls.length = T.sz)
    some (mkV T.desc.isStruct (ls.map (seenC tg)))
  | _ => none

def storeF (C : Cfg) (σ : St) (t : Nat) (p v : AV) : Option St :=
  match p with
  | .ptr e g i j => do
    let T ← C.tt t
    let _ ← σ.cur e g
    let (ls, σ1) ← σ.closeM C.mv (leaves v)
    ensure (ls.length = T.sz)
    let E ← σ1.cur e g
    ensure (E.frz = false)
    let x ← E.elems[i]?
    ensure (j + T.sz ≤ (leaves x).length)
    some (σ1.ent e { E with wr := E.wr + 1, elems := E.elems.set i (reEl x (setRange (leaves x) j ls)) })
  | _ => none

def fieldAddrF (C : Cfg) (σ : St) (s : Nat) (x : AV) (f : Nat) : Option AV := do
  let T ← C.tt s
  match T.desc with
  | .struct fs => do
    let (off, ty) ← fs[f]?
    let _ ← C.tt ty
    match x with
    | .ptr e g i j => do
      let _ ← σ.cur e g
      some (.ptr e g i (j + off))
    | .cptr tg c => do
      σ.validC tg
      ensure (off < c.length)
      some (.cptr tg (c.drop off))
    | _ => none
  | _ => none

def fieldF (C : Cfg) (s : Nat) (x : AV) (f : Nat) : Option AV := do
  let T ← C.tt s
  match T.desc with
  | .struct fs => do
    let (off, ty) ← fs[f]?
    let U ← C.tt ty
    match x with
    | .agg ls => do
      ensure (off + U.sz ≤ ls.length)
      some (mkV U.desc.isStruct ((ls.drop off).take U.sz))
    | _ => none
  | _ => none

def indexAddrF (C : Cfg) (σ : St) (t : Nat) (x ix : AV) : Option AV := do
  let T ← C.tt t
  match T.desc, ix with
  | .slice el, .int _ i => do
    let U ← C.tt el
    match x with
    | .fro tg _ l => do
      σ.validT tg
      ensure (0 ≤ i ∧ i < l.length)
      let y ← l[i.toNat]?
      ensure ((leaves y).length = U.sz)
      some (.cptr (tg.map fun p => (p.1, p.2.1)) (leaves y))
    | .hd e g off len _ => do
      let E ← σ.cur e g
      ensure (0 ≤ i ∧ i < len ∧ off + len ≤ E.elems.length ∧ E.sz = U.sz)
      some (.ptr e g (off + i.toNat) 0)
    | _ => none
  | _, _ => none

def intO : Option AV → Option (Option Int)
  | none => some none
  | some (.int _ n) => some (some n)
  | _ => none

/-- Bounds lo, hi, max of a slice expression over something of length n whose capacity is at least c (and is c if 'clip'). -/
def sliceF (C : Cfg) (σ : St) (t : Nat) (x : AV) (lo hi mx : Option AV) : Option AV := do
  let T ← C.tt t
  let lo ← intO lo
  let hi ← intO hi
  let mx ← intO mx
  match T.desc, x with
  | .string, .str s => do
    let l := lo.getD 0
    let h := hi.getD s.size
    ensure (0 ≤ l ∧ l ≤ h ∧ h ≤ s.size ∧ mx = none)
    some (.str (s.extract l.toNat h.toNat))
  | .slice el, .fro tg clip xs => do
    let U ← C.tt el
    σ.validT tg
    let l := lo.getD 0
    let h := hi.getD xs.length
    ensure (0 ≤ l ∧ l ≤ h ∧ h ≤ xs.length ∧ (mx = none ∨ (mx = some h ∧ hi = some h)))
    ensure (∀ y ∈ xs, (leaves y).length = U.sz)
    some (.fro (tg.map fun p => (p.1, p.2.1, none)) (if mx = none then clip && decide (hi = none) else true) ((xs.take h.toNat).drop l.toNat))
  | .slice el, .hd e g off len clip => do
    let U ← C.tt el
    let E ← σ.cur e g
    let l := lo.getD 0
    let h := hi.getD len
    ensure (0 ≤ l ∧ l ≤ h ∧ off + h.toNat ≤ E.elems.length ∧ (clip = true → h ≤ len ∧ (mx = none → h = len)) ∧ (mx = none ∨ (mx = some h ∧ hi = some h)) ∧ E.sz = U.sz)
    some (.hd e g (off + l.toNat) (h.toNat - l.toNat) (if mx = none then clip else true))
  | _, _ => none

def binInt (op : BinOp) (k : IntKind) (a b : Int) : Option AV :=
  match op with
  | .add => some (.int k (k.wrap (a + b)))
  | .sub => some (.int k (k.wrap (a - b)))
  | .mul => some (.int k (k.wrap (a * b)))
  | .quo => if b = 0 then none else some (.int k (k.wrap (a.tdiv b)))
  | .rem => if b = 0 then none else some (.int k (a.tmod b))
  | .and => some (.int k (k.wrap (BitVec.ofInt k.bits a &&& BitVec.ofInt k.bits b).toNat))
  | .or => some (.int k (k.wrap (BitVec.ofInt k.bits a ||| BitVec.ofInt k.bits b).toNat))
  | .xor => some (.int k (k.wrap (BitVec.ofInt k.bits a ^^^ BitVec.ofInt k.bits b).toNat))
  | .andNot => some (.int k (k.wrap (BitVec.ofInt k.bits a &&& ~~~BitVec.ofInt k.bits b).toNat))
  | .eql => some (.bool (a == b))
  | .neq => some (.bool (a != b))
  | .lss => some (.bool (decide (a < b)))
  | .leq => some (.bool (decide (a ≤ b)))
  | .gtr => some (.bool (decide (a > b)))
  | .geq => some (.bool (decide (a ≥ b)))
  | _ => none

def binStr (op : BinOp) (a b : ByteArray) : Option AV :=
  match op with
  | .add => if ((a.size + b.size : Nat) : Int) > 9223372036854775807 then none else some (.str (a ++ b))
  | .eql => some (.bool (a.toList == b.toList))
  | .neq => some (.bool !(a.toList == b.toList))
  | .lss => some (.bool (Op.bytesLess a.toList b.toList))
  | .leq => some (.bool (Op.bytesLess a.toList b.toList || a.toList == b.toList))
  | .gtr => some (.bool !(Op.bytesLess a.toList b.toList || a.toList == b.toList))
  | .geq => some (.bool !(Op.bytesLess a.toList b.toList))
  | _ => none

/-- Are two cells the same (whole numbers, bools, texts)? -/
def eqCell : AV → AV → Option Bool
  | .int k a, .int k' b => if k = k' then some (a == b) else none
  | .bool a, .bool b => some (a == b)
  | .str a, .str b => some (a == b)
  | _, _ => none

def eqCells : List AV → List AV → Option Bool
  | [], [] => some true
  | x :: xs, y :: ys => do
    let a ← eqCell x y
    let b ← eqCells xs ys
    some (a && b)
  | _, _ => none

/-- Is a cell of this kind? -/
def kindOk : TD → AV → Bool
  | .int k, .int k' _ => k = k'
  | .bool, .bool _ => true
  | .string, .str _ => true
  | _, _ => false

def kindsOk : List TD → List AV → Bool
  | [], [] => true
  | k :: ks, x :: xs => kindOk k x && kindsOk ks xs
  | _, _ => false

def binF (C : Cfg) (op : BinOp) (t : Nat) (x y : AV) : Option AV :=
  match x, y with
  | .int k a, .int k' b =>
    match op with
    | .shl => if b < 0 then none else some (.int k (k.wrap (a * 2 ^ (min b.toNat k.bits))))
    | .shr => if b < 0 then none else some (.int k (a.fdiv (2 ^ (min b.toNat k.bits))))
    | _ => if k = k' then binInt op k a b else none
  | .str a, .str b => binStr op a b
  | .bool a, .bool b => do
    let T ← C.tt t
    match T.desc, op with
    | .bool, .eql => some (.bool (a == b))
    | .bool, .neq => some (.bool !(a == b))
    | _, _ => none
  | .agg a, .agg b => do
    let ks ← C.eqs t
    ensure (kindsOk ks a = true ∧ kindsOk ks b = true)
    let r ← eqCells a b
    match op with
    | .eql => some (.bool r)
    | .neq => some (.bool !r)
    | _ => none
  | _, _ => none

def unF (op : UnOp) (x : AV) : Option AV :=
  match op, x with
  | .neg, .int k n => some (.int k (k.wrap (0 - n)))
  | .xor, .int k n => some (.int k (k.wrap (BitVec.ofInt k.bits (if k.signed then -1 else k.max) ^^^ BitVec.ofInt k.bits n).toNat))
  | .not, .bool b => some (.bool !b)
  | _, _ => none

end Go.Vm
namespace Go.Vm

def noOwn : AV → Bool
  | .own _ _ => false
  | _ => true

def noOwnE (x : AV) : Bool := (leaves x).all noOwn

def buildF (C : Cfg) (fs : List (Nat × Nat)) (σ : St) : List (Nat × Operand) → List AV → Option (List AV)
  | [], acc => some acc
  | (i, x) :: rest, acc => do
    let (off, ty) ← fs[i]?
    let U ← C.tt ty
    let ls := leaves (σ.get x)
    σ.okL ls
    ensure (ls.length = U.sz ∧ off + U.sz ≤ acc.length)
    buildF C fs σ rest (setRange acc off ls)

def buildSliceF (m : Bool) (U : TI) : List (Nat × Operand) → List AV → St → Option (List AV × St)
  | [], acc, σ => some (acc, σ)
  | (i, x) :: rest, acc, σ => do
    let (ls, σ1) ← σ.closeM m (leaves (σ.get x))
    ensure (ls.length = U.sz ∧ i < acc.length)
    buildSliceF m U rest (acc.set i (mkV U.desc.isStruct ls)) σ1

def scal : AV → Bool
  | .int _ _ => true
  | .bool _ => true
  | .str _ => true
  | _ => false

def scalE (x : AV) : Bool := (leaves x).all scal

def stlD (C : Cfg) (d : Option Tmp) : Bool := match d with
  | some k => C.stl.contains k
  | none => false
/-- What is left of what was taken along. -/
def hole : AV → AV
  | .own _ _ => .und
  | x => x
def holeE (x : AV) : AV := reEl x ((leaves x).map hole)
/-- What is appended: elements that go into an array. -/
def srcF (m : Bool) (σ : St) : AV → Option (List AV × St)
  | .str s => some (s.data.toList.map fun b => .int .u8 b.toNat, σ)
  | .fro none _ l => some (l, σ)
  | .fro (some (e, w, _)) _ l => do
    σ.valid e w
    if l.all scalE then some (l, σ) else some (l.map froize, if (σ.en e).frz then σ else σ.freeze e)
  | .hd e g off len _ => do
    let E ← σ.cur e g
    ensure (off + len ≤ E.elems.length)
    let c := (E.elems.drop off).take len
    if m = true ∧ E.frz = false ∧ 0 < len then some (c, σ.ent e { E with wr := E.wr + 1, elems := E.elems.take off ++ c.map holeE ++ E.elems.drop (off + len) }) else
    if E.frz || c.all noOwnE then some (c, σ) else do
      ensure (off = 0 ∧ len = E.elems.length)
      some (c, σ.kill e)
  | _ => none

/-- A cell of an entry, written by another. -/
def St.setLeaf (σ : St) (e i j : Nat) (y : AV) : St :=
  let E := σ.en e
  σ.ent e { E with wr := E.wr + 1, elems := E.elems.modify i fun x => reEl x ((leaves x).set j y) }

/-- Does the second argument of an append fit its type? -/
def srcOk (sz : Nat) : TD → AV → Bool
  | .string, .str _ => sz == 1
  | .slice _, .fro _ _ _ => true
  | .slice _, .hd _ _ _ _ _ => true
  | _, _ => false

/-- What is copied. -/
def cSrc (σ : St) : AV → Option (List AV)
  | .fro none _ l => some l
  | .hd e g off len _ => do
    let E ← σ.cur e g
    ensure (off + len ≤ E.elems.length)
    ensure (((E.elems.drop off).take len).all noOwnE = true)
    some ((E.elems.drop off).take len)
  | _ => none
def copyF (C : Cfg) (σ : St) (d : Option Tmp) (t _t2 : Nat) (x y : AV) : Option St := do
  let T ← C.tt t
  match T.desc, x with
  | .slice el, .hd e g off len _ => do
    let U ← C.tt el
    let l ← cSrc σ y
    ensure (∀ z ∈ l, (leaves z).length = U.sz)
    let E ← σ.cur e g
    ensure (E.frz = false ∧ E.sz = U.sz ∧ off + len ≤ E.elems.length)
    some ((σ.ent e { E with wr := E.wr + 1, elems := E.elems.take off ++ l.take (min l.length len) ++ E.elems.drop (off + min l.length len) }).put d (.int .i64 ((min l.length len : Nat) : Int)))
  | _, _ => none

def appendF (C : Cfg) (σ : St) (d : Option Tmp) (t t2 : Nat) (x y : AV) : Option St := do
  let T ← C.tt t
  let T2 ← C.tt t2
  match T.desc with
  | .slice el => do
    let U ← C.tt el
    ensure (srcOk U.sz T2.desc y = true)
    let (news, σ) ← srcF (stlD C d) σ y
    ensure (∀ z ∈ news, (leaves z).length = U.sz)
    match x with
    | .fro none true l => do
      ensure (l = [] ∨ news ≠ [])
      ensure (∀ z ∈ l, (leaves z).length = U.sz)
      ensure ((l.length + news.length) * U.bytes ≤ 140737488355328 ∧ l.length + news.length ≤ 140737488355328)
      newArr σ d U.sz (l ++ news) (l.length + news.length) false
    | .hd e g off len clip => do
      let E ← σ.cur e g
      ensure (E.frz = false ∧ E.sz = U.sz ∧ off + len ≤ E.elems.length)
      ensure ((len + news.length) * U.bytes ≤ 140737488355328 ∧ len + news.length ≤ 140737488355328)
      if clip then if news = [] then some (σ.put d (.hd e g off len true)) else do
        let c := (E.elems.drop off).take len
        ensure (news ≠ [] ∧ c.all noOwnE = true)
        newArr σ d U.sz (c ++ news) (len + news.length) false
      else if off + len = E.elems.length then do
        ensure (off = 0)
        some ((σ.ent e { E with gen := E.gen + 1, wr := E.wr + 1, elems := E.elems ++ news }).put d (.hd e (E.gen + 1) 0 (len + news.length) false))
      else do
        ensure (off + len + news.length ≤ E.elems.length)
        some ((σ.ent e { E with wr := E.wr + 1, elems := E.elems.take (off + len) ++ news ++ E.elems.drop (off + len + news.length) }).put d (.hd e g off (len + news.length) false))
    | _ => none
  | _ => none

def lenF (σ : St) : TD → AV → Option Nat
  | .string, .str s => some s.size
  | .slice _, .fro tg _ l => do σ.validT tg; some l.length
  | .slice _, .hd e g _ len _ => do let _ ← σ.cur e g; some len
  | _, _ => none

def capF (σ : St) : TD → AV → Option Nat
  | .slice _, .fro tg true l => do σ.validT tg; some l.length
  | .slice _, .hd e g _ len true => do let _ ← σ.cur e g; some len
  | _, _ => none

def minF : AV → List AV → Option AV
  | x, [] => some x
  | .int k x, .int k' y :: rest => if k = k' then minF (.int k (if y < x then y else x)) rest else none
  | _, _ => none

def maxF : AV → List AV → Option AV
  | x, [] => some x
  | .int k x, .int k' y :: rest => if k = k' then maxF (.int k (if x < y then y else x)) rest else none
  | _, _ => none

def convF (C : Cfg) (src dst : Nat) (x : AV) : Option AV := do
  let S ← C.tt src
  let D ← C.tt dst
  match S.desc, D.desc, x with
  | .int _, .int k, .int _ n => some (.int k (k.wrap n))
  | .string, .string, .str s => some (.str s)
  | _, _, _ => none

/-- The bytes of a text, in a new array that nobody writes. -/
def convB (C : Cfg) (src dst : Nat) (x : AV) : Option AV := do
  let S ← C.tt src
  let D ← C.tt dst
  match S.desc, D.desc, x with
  | .string, .slice el, .str s => do
    let U ← C.tt el
    match U.desc with
    | .int .u8 => some (.fro none false (s.data.toList.map fun b => .int .u8 b.toNat))
    | _ => none
  | _, _, _ => none

def intsOf : List AV → Option (List Int)
  | [] => some []
  | .int .u8 n :: l => (intsOf l).map (n :: ·)
  | _ :: _ => none

def bytesL (σ : St) : AV → Option (List AV)
  | .hd e g off len _ => do
    let E ← σ.cur e g
    ensure (off + len ≤ E.elems.length ∧ E.sz = 1)
    some ((E.elems.drop off).take len)
  | .fro none _ l => some l
  | _ => none

/-- The text of bytes. -/
def textOf (ns : List Int) : ByteArray := ns.foldl (fun r n => r.push (UInt8.ofNat n.toNat)) ByteArray.empty

def convS (C : Cfg) (σ : St) (src dst : Nat) (x : AV) : Option AV := do
  let S ← C.tt src
  let D ← C.tt dst
  match S.desc, D.desc with
  | .slice el, .string => do
    let U ← C.tt el
    match U.desc with
    | .int .u8 => do
      let l ← bytesL σ x
      let ns ← intsOf l
      some (.str (textOf ns))
    | _ => none
  | _, _ => none

def capture (σ : St) (x : Operand) : Option (AV × St) :=
  match σ.get x with
    | .ptr e g i j => do
      let E ← σ.cur e g
      let y ← E.elems[i]?
      let σ := if E.frz then σ else σ.freeze e
      some (.cptr none (((leaves y).drop j).map froize), σ)
    | .cptr none c => some (.cptr none c, σ)
    | _ => none

def captureL : List Operand → St → Option (List AV × St)
  | [], σ => some ([], σ)
  | x :: xs, σ => do
    let (y, σ) ← capture σ x
    let (ys, σ) ← captureL xs σ
    some (y :: ys, σ)

/-- An operation that is no call of a function. -/
def opF (C : Cfg) (o : Oper) (σ : St) : Option St :=
  match o.op with
  | .move x | .assign x => some (σ.put o.dst (σ.get x))
  | .pick c a b => match σ.get c with
    | .bool t => some (σ.put o.dst (if t then σ.get a else σ.get b))
    | _ => none
  | .alloc t => do let T ← C.tt t; newVar σ o.dst T.sz (mkV T.desc.isStruct T.zero)
  | .box t x => do
    let T ← C.tt t
    let (ls, σ) ← σ.closeL (leaves (σ.get x))
    ensure (ls.length = T.sz)
    newVar σ o.dst T.sz (mkV T.desc.isStruct ls)
  | .build t parts => do
    let T ← C.tt t
    match T.desc with
    | .struct fs => do
      ensure (fs.all (fun p => (C.tt p.2).isSome) = true)
      let ls ← buildF C fs σ parts.toList T.zero
      some (σ.put o.dst (.agg ls))
    | _ => none
  | .buildSlice t n parts => do
    let T ← C.tt t
    match T.desc with
    | .slice el => do
      let U ← C.tt el
      ensure (n * U.sz ≤ 16777216)
      let (l, σ) ← buildSliceF C.mv U parts.toList (List.replicate n (mkV U.desc.isStruct U.zero)) σ
      newArr σ o.dst U.sz l n true
    | _ => none
  | .load t x => do let v ← loadF C σ t (σ.get x); some (σ.put o.dst v)
  | .store t p x => do let σ1 ← storeF C σ t (σ.get p) (σ.get x); some (σ1.put o.dst (.tup []))
  | .nilCheck x => match σ.get x with
    | .ptr e g i j => do let _ ← σ.cur e g; some (σ.put o.dst (.ptr e g i j))
    | .cptr tg c => do σ.validC tg; some (σ.put o.dst (.cptr tg c))
    | .clo f c => some (σ.put o.dst (.clo f c))
    | _ => none
  | .binOp op t x y _ => do let v ← binF C op t (σ.get x) (σ.get y); some (σ.put o.dst v)
  | .unOp op _ x => do let v ← unF op (σ.get x); some (σ.put o.dst v)
  | .convert s d x => match convF C s d (σ.get x) with
    | some v => some (σ.put o.dst v)
    | none => match convS C σ s d (σ.get x) with
      | some v => some (σ.put o.dst v)
      | none => do let v ← convB C s d (σ.get x); some (σ.put o.dst v)
  | .makeFunc (.func f) first cap => do
    ensure (first = #[])
    let (cs, σ) ← captureL cap.toList σ
    some (σ.put o.dst (.clo f cs))
  | .makeSlice t l c => do
    let T ← C.tt t
    match T.desc, σ.get l, σ.get c with
    | .slice el, .int .i64 l, .int .i64 c => do
      let U ← C.tt el
      ensure (0 ≤ l ∧ l ≤ c ∧ c * U.bytes ≤ 140737488355328 ∧ c ≤ 140737488355328)
      newArr σ o.dst U.sz (List.replicate c.toNat (mkV U.desc.isStruct U.zero)) l.toNat (decide (l = c))
    | _, _, _ => none
  | .slice t x lo hi mx => do let v ← sliceF C σ t (σ.get x) (lo.map σ.get) (hi.map σ.get) (mx.map σ.get); some (σ.put o.dst v)
  | .fieldAddr s x f => do let v ← fieldAddrF C σ s (σ.get x) f; some (σ.put o.dst v)
  | .field s x f => do let v ← fieldF C s (σ.get x) f; some (σ.put o.dst v)
  | .indexAddr t x i => do let v ← indexAddrF C σ t (σ.get x) (σ.get i); some (σ.put o.dst v)
  | .index t x i => do
    let T ← C.tt t
    match T.desc, σ.get x, σ.get i with
    | .string, .str s, .int _ n => do
      ensure (0 ≤ n ∧ n < s.size)
      some (σ.put o.dst (.int .u8 ((s.data[n.toNat]?).getD 0).toNat))
    | _, _, _ => none
  | .extract x i => match σ.get x with
    | .tup vs => do let v ← vs[i]?; some (σ.put o.dst v)
    | _ => none
  | .call { callee := .builtin b, args, argTypes } =>
    match b, args.toList, argTypes.toList with
    | .len, [x], [t] => do let T ← C.tt t; let n ← lenF σ T.desc (σ.get x); some (σ.put o.dst (.int .i64 n))
    | .cap, [x], [t] => do let T ← C.tt t; let n ← capF σ T.desc (σ.get x); some (σ.put o.dst (.int .i64 n))
    | .append, [x, y], [t, t2] => appendF C σ o.dst t t2 (σ.get x) (σ.get y)
    | .copy, [x, y], [t, t2] => copyF C σ o.dst t t2 (σ.get x) (σ.get y)
    | .min, x :: xs, _ => do let v ← minF (σ.get x) (xs.map σ.get); some (σ.put o.dst v)
    | .max, x :: xs, _ => do let v ← maxF (σ.get x) (xs.map σ.get); some (σ.put o.dst v)
    | _, _, _ => none
  | _ => none

end Go.Vm

namespace Go.Vm

/-! ### Calls -/
def lendLeaf (σ : St) : AV → Option AV
  | .hd e g off len clip => do
    let E ← σ.cur e g
    ensure (off + len ≤ E.elems.length)
    some (.fro none clip (((E.elems.drop off).take len).map froize))
  | .fro none clip l => some (.fro none clip l)
  | .fro (some (e, w, _)) clip l => do σ.valid e w; some (.fro none clip (l.map froize))
  | .ptr e g i j => do
    let E ← σ.cur e g
    let y ← E.elems[i]?
    some (.cptr none (((leaves y).drop j).map froize))
  | .cptr none c => some (.cptr none c)
  | .cptr (some (e, w)) c => do σ.valid e w; some (.cptr none (c.map froize))
  | .int k n => some (.int k n)
  | .bool b => some (.bool b)
  | .str s => some (.str s)
  | .clo f c => some (.clo f c)
  | .und => some .und
  | _ => none

def lendL (σ : St) : List AV → Option (List AV)
  | [] => some []
  | x :: xs => do
    let y ← lendLeaf σ x
    let ys ← lendL σ xs
    some (y :: ys)

/-- The entry that an argument lends. -/
def lentOf (σ : St) : AV → List Nat
  | .hd e _ _ _ _ => if (σ.en e).frz then [] else [e]
  | .fro (some (e, _, _)) _ _ => if (σ.en e).frz then [] else [e]
  | .ptr e _ _ _ => if (σ.en e).frz then [] else [e]
  | .cptr (some (e, _)) _ => if (σ.en e).frz then [] else [e]
  | _ => []

def passArg (σ : St) (x : AV) : Option AV :=
    match x with
    | .agg fs => do let ls ← lendL σ fs; some (.agg ls)
    | x => lendLeaf σ x

/-- What is lent to be written: an array that is owned, whole. -/
def lendW (σ : St) : AV → Option AV
  | .hd e g off len _ => do
    let E ← σ.cur e g
    ensure (E.frz = false ∧ off = 0 ∧ len = E.elems.length)
    some (.own E.sz E.elems)
  | .ptr e g i j => do
    let E ← σ.cur e g
    ensure (E.frz = false)
    some (.pt E.sz E.elems i j)
  | .fro (some (e, wv, some (i, j))) _ _ => do
    σ.valid e wv
    ensure ((σ.en e).frz = false)
    let z ← (σ.en e).elems[i]?
    match (leaves z)[j]? with
    | some (.own sz l) => some (.own sz l)
    | _ => none
  | _ => none

/-- An argument, as it is passed. -/
def pass1 (C : Cfg) (σ : St) (f p : Nat) (x : AV) : Option AV := if C.wrt f = some p then lendW σ x else passArg σ x

/-- The entry that an argument lends to be written. -/
def entW : AV → Option Nat
  | .hd e _ _ _ _ => some e
  | .ptr e _ _ _ => some e
  | .fro (some (e, _, some _)) _ _ => some e
  | _ => none

/-- The entry with what the callee left in it. -/
def leftE (E : Ent) (x left : AV) : Option Ent :=
  match x, left with
  | .hd _ _ _ _ _, .own _ l => some { E with wr := E.wr + 1, elems := l }
  | .ptr _ _ _ _, .pt _ l _ _ => some { E with wr := E.wr + 1, elems := l }
  | .fro (some (_, _, some (i, j))) _ _, .own sz l => some { E with wr := E.wr + 1, elems := E.elems.modify i fun x => reEl x ((leaves x).set j (.own sz l)) }
  | _, .tup [] => some { E with live := false, wr := E.wr + 1 }
  | _, _ => none

theorem leftE_gone (E : Ent) (x : AV) : leftE E x (.tup []) = some { E with live := false, wr := E.wr + 1 } := by
  cases x with
  | fro tg c l =>
    cases tg with
    | none => rfl
    | some t =>
      obtain ⟨e, w, o⟩ := t
      cases o <;> rfl
  | _ => rfl

def putLeft (σ : St) (x left : AV) : St :=
  match entW x with
  | some e => match leftE (σ.en e) x left with
    | some E => σ.ent e E
    | none => σ
  | none => σ

def passL (C : Cfg) (σ : St) (f : Nat) : Nat → List AV → Option (List AV)
  | _, [] => some []
  | p, x :: xs => do
    let y ← pass1 C σ f p x
    let ys ← passL C σ f (p + 1) xs
    some (y :: ys)

/-- The entries that are lent. -/
def lentL (C : Cfg) (σ : St) (f : Nat) : Nat → List AV → List Nat
  | _, [] => []
  | p, x :: xs => (if C.wrt f = some p then [] else (leaves x).flatMap (lentOf σ)) ++ lentL C σ f (p + 1) xs

/-- Is what is lent to be written lent once alone? -/
def okCW (C : Cfg) (σ : St) (f : Nat) (as : List AV) : Prop :=
  match C.wrt f with
  | none => True
  | some k => ∃ x e, as[k]? = some x ∧ entW x = some e ∧ e ∉ lentL C σ f 0 as

/-- The state with what the callee left. -/
def leftS (C : Cfg) (σ : St) (f : Nat) (as : List AV) (left : AV) : St :=
  match C.wrt f with
  | none => σ
  | some k => match as[k]? with
    | some x => putLeft σ x left
    | none => σ

def hasFro : AV → Bool
  | .fro _ _ [] => false
  | .fro _ _ _ => true
  | .own _ l => hasFroL l
  | .agg l => hasFroL l
  | .tup l => hasFroL l
  | .pt _ l _ _ => hasFroL l
  | .cptr _ _ => true
  | .clo _ _ => true
  | _ => false
  where hasFroL : List AV → Bool
  | [] => false
  | x :: xs => hasFro x || hasFroL xs

def freezeL (σ : St) : List Nat → St
  | [] => σ
  | e :: es => freezeL (if (σ.en e).frz then σ else σ.freeze e) es

/-- A result's cell becomes an entry of the activation if it is owned. -/
def takeLeaf (d j : Nat) (σ : St) : AV → AV × St
  | .own sz l => (.hd (eid d j) ((σ.en (eid d j)).gen + 1) 0 l.length false, σ.fresh (eid d j) sz l)
  | x => (x, σ)

def takeL (d : Nat) : Nat → List AV → St → List AV × St
  | _, [], σ => ([], σ)
  | j, x :: xs, σ =>
    let (y, σ) := takeLeaf d j σ x
    let (ys, σ) := takeL d (j + 1) xs σ
    (y :: ys, σ)

def takeV (d j : Nat) (σ : St) : AV → AV × St
  | .agg fs => let (ls, σ) := takeL d j fs σ; (.agg ls, σ)
  | x => takeLeaf d j σ x

def takeTup (d : Nat) : Nat → List AV → St → List AV × St
  | _, [], σ => ([], σ)
  | j, x :: xs, σ =>
    let (y, σ) := takeV d j σ x
    let (ys, σ) := takeTup d (j + (leaves x).length) xs σ
    (y :: ys, σ)

/-- The result of a call. -/
def takeRes (d : Option Nat) (σ : St) (r : AV) : St :=
  match d with
  | none => σ
  | some d =>
    match r with
    | .tup vs => let (ys, σ) := takeTup d 0 vs σ; σ.put (some d) (.tup ys)
    | .pt sz l i j => (σ.fresh (eid d 0) sz l).put (some d) (.ptr (eid d 0) ((σ.en (eid d 0)).gen + 1) i j)
    | r => let (y, σ) := takeV d 0 σ r; σ.put (some d) y

/-- A load that takes what the element owns along. -/
def loadSF (C : Cfg) (σ : St) (d : Nat) (t : Nat) (p : AV) : Option (AV × St) :=
  match p with
  | .ptr e g i j => do
    let T ← C.tt t
    let E ← σ.cur e g
    ensure (E.frz = false)
    let x ← E.elems[i]?
    let ls := ((leaves x).drop j).take T.sz
    ensure (ls.length = T.sz)
    some (takeV d 0 (σ.ent e { E with wr := E.wr + 1, elems := E.elems.set i (reEl x (setRange (leaves x) j (ls.map hole))) }) (mkV T.desc.isStruct ls))
  | _ => none
def loadSD (C : Cfg) (σ : St) (d : Option Tmp) (t : Nat) (p : AV) : Option St := match d with
  | some k => do
    let r ← loadSF C σ k t p
    some (r.2.put (some k) r.1)
  | none => none

end Go.Vm
