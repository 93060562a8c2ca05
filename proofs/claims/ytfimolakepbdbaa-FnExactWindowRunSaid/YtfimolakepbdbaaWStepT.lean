/- The same steps, what comes behind held fixed: simp does not enter it. -/
import Derived.Test.YtfimolakepbdbaaWEqs
namespace Go.Vm

structure Tag {α : Type} (a : α) : Type where

def exT {α : Type} (o : Option α) (K : α → Prop) (_ : Tag K) : Prop := exP o K
def opsT (C : Cfg) (D : Vm.Spec) (q : Bool) (ops : Array Oper) (K : St → Prop) (l : List Oper) (σ : St) (_ : Tag K) : Prop := opsW C D q ops K l σ
def WT (C : Cfg) (D : Vm.Spec) (c : Code) (Q : Ex → St → Prop) (σ : St) (_ : Tag Q) : Prop := W C D c Q σ
def callT (D : Vm.Spec) (q : Bool) (f : Nat) (as : List AV) (K : AV → AV → Prop) (_ : Tag K) : Prop := callW D q f as K
def testT (x : AV) (d : Tmp) (want : Bool) (σ : St) (yes no : St → Prop) (_ : Tag yes) (_ : Tag no) : Prop := testV x d want σ yes no
def condT (x : AV) (d : Tmp) (σ : St) (yes no : St → Prop) (_ : Tag yes) (_ : Tag no) : Prop := condV x d σ yes no
def guardT (g : Option Tmp) (want : Bool) (σ : St) (yes no : St → Prop) (_ : Tag yes) (_ : Tag no) : Prop := guardS g want σ yes no

section
variable {C : Cfg} {D : Vm.Spec} {Q : Ex → St → Prop} {σ : St} {tq : Tag Q}
theorem WT_skip : WT C D .skip Q σ tq = Q .normal σ := by unfold WT; rfl
theorem WT_exit (i : Nat) : WT C D (.exit i) Q σ tq = Q (.exit i) σ := by unfold WT; rfl
theorem WT_ret : WT C D .ret Q σ tq = Q .ret σ := by unfold WT; rfl
theorem WT_seq (a b : Code) : WT C D (.seq a b) Q σ tq = WT C D a (fun e σ' => match e with | .normal => WT C D b Q σ' tq | e => Q e σ') σ ⟨⟩ := by unfold WT; rfl
theorem WT_block (i : Nat) (c : Code) : WT C D (.block i c) Q σ tq = WT C D c (fun e σ' => match e with | .exit j => if j = i then Q .normal σ' else Q (.exit j) σ' | e => Q e σ') σ ⟨⟩ := by unfold WT; rfl
theorem WT_region (i : Nat) (ops : Array Oper) (q : Bool) : WT C D (.region i ops q) Q σ tq = opsT C D q ops (Q .normal) ops.toList σ ⟨⟩ := by unfold WT; rfl
theorem WT_if {c : Tmp} {a b : Code} : WT C D (.cond (.tmp c) a b) Q σ tq = condT (σ.sl c) c σ (fun σ => WT C D a Q σ tq) (fun σ => WT C D b Q σ tq) ⟨⟩ ⟨⟩ := by unfold WT; rfl
theorem WT_loop {α : Type} (R : α → St → Prop) (m : α → Nat) {c : Code} (x : α) (h : R x σ) (hs : ∀ x σ, R x σ → WT C D c (fun e σ' => match e with | .normal => ∃ y, R y σ' ∧ m y < m x | e => Q e σ') σ ⟨⟩) : WT C D (.loop c) Q σ tq := W_loop R m x h hs
theorem WT_loopR {α : Type} (R : α → St → Prop) (m : α → Nat) {c : Code} (s : Nat) (h : reown σ s fun σ0 => ∃ x, R x σ0) (hs : ∀ x σ, R x σ → WT C D c (fun e σ' => match e with | .normal => reown σ' s (fun σ0 => ∃ y, R y σ0 ∧ m y < m x) | e => Q e σ') σ ⟨⟩) : WT C D (.loop c) Q σ tq := W_loopR R m s h hs
theorem WT_loopN {α : Type} (R : α → St → Prop) (m : α → Nat) {c : Code} (x : α) (s sz : Nat) (h0 : σ.sl s = .fro none true []) (h : R x (takeRes (some s) σ (.own sz []))) (hs : ∀ x σ, R x σ → WT C D c (fun e σ' => match e with | .normal => ∃ y, R y σ' ∧ m y < m x | e => Q e σ') σ ⟨⟩) : WT C D (.loop c) Q σ tq := W_loopN R m x s sz h0 h hs
end

section
variable {α β : Type} {K : α → Prop} {t : Tag K}
theorem exT_some (a : α) : exT (some a) K t = K a := exP_some a K
theorem exT_none : exT none K t = False := exP_none K
theorem exT_bind {β : Type} {K : β → Prop} {t : Tag K} (o : Option α) (f : α → Option β) : exT (o.bind f) K t = exT o (fun a => exT (f a) K t) ⟨⟩ := exP_bind o f K
theorem exT_bind' {β : Type} {K : β → Prop} {t : Tag K} (o : Option α) (f : α → Option β) : exT (o >>= f) K t = exT o (fun a => exT (f a) K t) ⟨⟩ := exP_bind o f K
theorem exT_ensure (c : Prop) [Decidable c] {K : Unit → Prop} {t : Tag K} : exT (ensure c) K t = (c ∧ K ()) := exP_ensure c K
theorem exT_atm {γ : Type} [Inhabited γ] (f : γ → α) (l : List γ) (i : Nat) : exT (l[i]?.map f) K t = (i < l.length ∧ K (f l[i]!)) := exP_atm f l i K
theorem exT_cur {σ : St} (e g : Nat) {K : Ent → Prop} {t : Tag K} : exT (σ.cur e g) K t = (((σ.en e).live = true ∧ (σ.en e).gen = g) ∧ K (σ.en e)) := exP_cur e g K
theorem exT_valid {σ : St} (e v : Nat) {K : Unit → Prop} {t : Tag K} : exT (σ.valid e v) K t = (((σ.en e).live = true ∧ (σ.en e).wr = v) ∧ K ()) := exP_valid e v K
end

section
variable {d : Tmp} {σ : St} {yes no : St → Prop} {ty : Tag yes} {tn : Tag no}
theorem testT_true : testT (.bool true) d true σ yes no ty tn = yes (σ.put (some d) (.bool true)) := testV_true d σ yes no
theorem testT_true' : testT (.bool true) d false σ yes no ty tn = no (σ.put (some d) (.bool true)) := testV_true' d σ yes no
theorem testT_false : testT (.bool false) d true σ yes no ty tn = no (σ.put (some d) (.bool false)) := testV_false d σ yes no
theorem testT_false' : testT (.bool false) d false σ yes no ty tn = yes (σ.put (some d) (.bool false)) := testV_false' d σ yes no
theorem testT_tup (w : Bool) : testT (.tup []) d w σ yes no ty tn = no σ := by unfold testT; rfl
theorem testT_dec (p : Prop) [Decidable p] : testT (.bool (decide p)) d true σ yes no ty tn = ((p → yes (σ.put (some d) (.bool true))) ∧ (¬ p → no (σ.put (some d) (.bool false)))) := testV_dec p d σ yes no
theorem testT_dec' (p : Prop) [Decidable p] : testT (.bool (decide p)) d false σ yes no ty tn = ((p → no (σ.put (some d) (.bool true))) ∧ (¬ p → yes (σ.put (some d) (.bool false)))) := testV_dec' p d σ yes no
theorem condT_true : condT (.bool true) d σ yes no ty tn = yes (σ.put (some d) (.bool true)) := condV_true d σ yes no
theorem condT_false : condT (.bool false) d σ yes no ty tn = no (σ.put (some d) (.bool false)) := condV_false d σ yes no
theorem condT_dec (p : Prop) [Decidable p] : condT (.bool (decide p)) d σ yes no ty tn = ((p → yes (σ.put (some d) (.bool true))) ∧ (¬ p → no (σ.put (some d) (.bool false)))) := condV_dec p d σ yes no
theorem guardT_some (want : Bool) : guardT (some d) want σ yes no ty tn = testT (σ.sl d) d want σ yes no ty tn := by unfold guardT; rfl
end

section
variable {C : Cfg} {D : Vm.Spec} {q : Bool} {ops : Array Oper} {K : St → Prop} {σ : St} {d : Option Tmp} {ty : TypeId} {pos : String} {af : Array Edge} {rest : List Oper}
theorem t_nil {tg : Tag K} : opsT C D q ops K [] σ tg = K σ := by unfold opsT; rfl
theorem t_guard {op : Op} {j : Nat} {want : Bool} {tg : Tag K} : opsT C D q ops K (⟨d, op, ty, pos, af, some (j, want)⟩ :: rest) σ tg = guardT ((ops[j]?).bind (·.dst)) want σ (fun σ => opsT C D q ops K (⟨d, op, ty, pos, af, none⟩ :: rest) σ tg) (fun σ => opsT C D q ops K rest (σ.put d (.tup [])) tg) ⟨⟩ ⟨⟩ := s_guard
theorem t_move {x : Operand} {tg : Tag K} : opsT C D q ops K (⟨d, .move x, ty, pos, af, none⟩ :: rest) σ tg = opsT C D q ops K rest (σ.put d (σ.get x)) tg := s_move
theorem t_assign {x : Operand} {tg : Tag K} : opsT C D q ops K (⟨d, .assign x, ty, pos, af, none⟩ :: rest) σ tg = opsT C D q ops K rest (σ.put d (σ.get x)) tg := s_assign
theorem t_pick {c x y : Operand} {tg : Tag K} : opsT C D q ops K (⟨d, .pick c x y, ty, pos, af, none⟩ :: rest) σ tg = exT (pickF (σ.get c) (σ.get x) (σ.get y)) (fun v => opsT C D q ops K rest (σ.put d v) tg) ⟨⟩ := s_pick
theorem t_load {t : TypeId} {x : Operand} {tg : Tag K} (hs : stlD C d = false) : opsT C D q ops K (⟨d, .load t x, ty, pos, af, none⟩ :: rest) σ tg = exT (loadF C σ t (σ.get x)) (fun v => opsT C D q ops K rest (σ.put d v) tg) ⟨⟩ := s_load hs
theorem t_loadS {t : TypeId} {x : Operand} {tg : Tag K} (hs : stlD C d = true) : opsT C D q ops K (⟨d, .load t x, ty, pos, af, none⟩ :: rest) σ tg = exT (loadSD C σ d t (σ.get x)) (fun σ' => opsT C D q ops K rest σ' tg) ⟨⟩ := s_loadS hs
theorem stlD_some {C : Cfg} (k : Tmp) : stlD C (some k) = C.stl.contains k := by unfold stlD; rfl
theorem stlD_none {C : Cfg} : stlD C none = false := by unfold stlD; rfl
theorem t_nilCheck {x : Operand} {tg : Tag K} : opsT C D q ops K (⟨d, .nilCheck x, ty, pos, af, none⟩ :: rest) σ tg = exT (nilF σ (σ.get x)) (fun v => opsT C D q ops K rest (σ.put d v) tg) ⟨⟩ := s_nilCheck
theorem t_nilCheck_ptr {x : Operand} {e g i j : Nat} (h : σ.get x = .ptr e g i j) {tg : Tag K} : opsT C D q ops K (⟨d, .nilCheck x, ty, pos, af, none⟩ :: rest) σ tg = exT (σ.cur e g) (fun _ => opsT C D q ops K rest (σ.put d (.ptr e g i j)) tg) ⟨⟩ := s_nilCheck_ptr h
theorem t_nilCheck_cptr {x : Operand} {c : List AV} (h : σ.get x = .cptr none c) {tg : Tag K} : opsT C D q ops K (⟨d, .nilCheck x, ty, pos, af, none⟩ :: rest) σ tg = opsT C D q ops K rest (σ.put d (.cptr none c)) tg := s_nilCheck_cptr h
theorem t_bin {op : BinOp} {t t' : TypeId} {x y : Operand} {tg : Tag K} : opsT C D q ops K (⟨d, .binOp op t x y t', ty, pos, af, none⟩ :: rest) σ tg = exT (binF C op t (σ.get x) (σ.get y)) (fun v => opsT C D q ops K rest (σ.put d v) tg) ⟨⟩ := s_bin
theorem t_un {op : UnOp} {t : TypeId} {x : Operand} {tg : Tag K} : opsT C D q ops K (⟨d, .unOp op t x, ty, pos, af, none⟩ :: rest) σ tg = exT (unF op (σ.get x)) (fun v => opsT C D q ops K rest (σ.put d v) tg) ⟨⟩ := s_un
theorem t_slice {t : TypeId} {x : Operand} {lo hi mx : Option Operand} {tg : Tag K} : opsT C D q ops K (⟨d, .slice t x lo hi mx, ty, pos, af, none⟩ :: rest) σ tg = exT (sliceF C σ t (σ.get x) (lo.map σ.get) (hi.map σ.get) (mx.map σ.get)) (fun v => opsT C D q ops K rest (σ.put d v) tg) ⟨⟩ := s_slice
theorem t_fieldAddr {s : TypeId} {x : Operand} {f : Nat} {tg : Tag K} : opsT C D q ops K (⟨d, .fieldAddr s x f, ty, pos, af, none⟩ :: rest) σ tg = exT (fieldAddrF C σ s (σ.get x) f) (fun v => opsT C D q ops K rest (σ.put d v) tg) ⟨⟩ := s_fieldAddr
theorem t_field {s : TypeId} {x : Operand} {f : Nat} {tg : Tag K} : opsT C D q ops K (⟨d, .field s x f, ty, pos, af, none⟩ :: rest) σ tg = exT (fieldF C s (σ.get x) f) (fun v => opsT C D q ops K rest (σ.put d v) tg) ⟨⟩ := s_field
theorem t_indexAddr {t : TypeId} {x i : Operand} {tg : Tag K} : opsT C D q ops K (⟨d, .indexAddr t x i, ty, pos, af, none⟩ :: rest) σ tg = exT (indexAddrF C σ t (σ.get x) (σ.get i)) (fun v => opsT C D q ops K rest (σ.put d v) tg) ⟨⟩ := s_indexAddr
theorem t_index {t : TypeId} {x i : Operand} {tg : Tag K} : opsT C D q ops K (⟨d, .index t x i, ty, pos, af, none⟩ :: rest) σ tg = exT (indexF C t (σ.get x) (σ.get i)) (fun v => opsT C D q ops K rest (σ.put d v) tg) ⟨⟩ := s_index
theorem t_extract {x : Operand} {i : Nat} {tg : Tag K} : opsT C D q ops K (⟨d, .extract x i, ty, pos, af, none⟩ :: rest) σ tg = exT (extractF (σ.get x) i) (fun v => opsT C D q ops K rest (σ.put d v) tg) ⟨⟩ := s_extract
theorem t_len {x : Operand} {t : TypeId} {tg : Tag K} : opsT C D q ops K (⟨d, .call { callee := .builtin .len, args := #[x], argTypes := #[t] }, ty, pos, af, none⟩ :: rest) σ tg = exT (C.tt t) (fun T => exT (lenF σ T.desc (σ.get x)) (fun n => opsT C D q ops K rest (σ.put d (.int .i64 n)) tg) ⟨⟩) ⟨⟩ := s_len
theorem t_append {x y : Operand} {t t2 : TypeId} {tg : Tag K} : opsT C D false ops K (⟨d, .call { callee := .builtin .append, args := #[x, y], argTypes := #[t, t2] }, ty, pos, af, none⟩ :: rest) σ tg = exT (appendF C σ d t t2 (σ.get x) (σ.get y)) (fun σ => opsT C D false ops K rest σ tg) ⟨⟩ := s_append
theorem t_copy {x y : Operand} {t t2 : TypeId} {tg : Tag K} : opsT C D false ops K (⟨d, .call { callee := .builtin .copy, args := #[x, y], argTypes := #[t, t2] }, ty, pos, af, none⟩ :: rest) σ tg = exT (copyF C σ d t t2 (σ.get x) (σ.get y)) (fun σ => opsT C D false ops K rest σ tg) ⟨⟩ := s_copy
theorem WT_ifc {b : Bool} {c : Code} {e : Code} {Q : Ex → St → Prop} {tq : Tag Q} : WT C D (.cond (.const (.bool b)) c e) Q σ tq = if b = true then WT C D c Q σ tq else WT C D e Q σ tq := by
  unfold WT
  cases b <;> rfl
theorem t_store {t : TypeId} {p x : Operand} {tg : Tag K} : opsT C D false ops K (⟨d, .store t p x, ty, pos, af, none⟩ :: rest) σ tg = exT (storeF C σ t (σ.get p) (σ.get x)) (fun σ1 => opsT C D false ops K rest (σ1.put d (.tup [])) tg) ⟨⟩ := s_store
theorem t_alloc {t : TypeId} {tg : Tag K} : opsT C D false ops K (⟨d, .alloc t, ty, pos, af, none⟩ :: rest) σ tg = exT (C.tt t) (fun T => exT (newVar σ d T.sz (mkV T.desc.isStruct T.zero)) (fun σ => opsT C D false ops K rest σ tg) ⟨⟩) ⟨⟩ := s_alloc
theorem t_box {t : TypeId} {x : Operand} {tg : Tag K} : opsT C D false ops K (⟨d, .box t x, ty, pos, af, none⟩ :: rest) σ tg = exT (C.tt t) (fun T => exT (σ.closeL (leaves (σ.get x))) (fun p => (p.1.length = T.sz ∧ exT (newVar p.2 d T.sz (mkV T.desc.isStruct p.1)) (fun σ => opsT C D false ops K rest σ tg) ⟨⟩)) ⟨⟩) ⟨⟩ := s_box
theorem t_build {t : TypeId} {parts : Array (Nat × Operand)} {tg : Tag K} : opsT C D q ops K (⟨d, .build t parts, ty, pos, af, none⟩ :: rest) σ tg = exT (buildStF C σ t parts.toList) (fun v => opsT C D q ops K rest (σ.put d v) tg) ⟨⟩ := s_build
theorem t_buildSlice {t n : Nat} {parts : Array (Nat × Operand)} {tg : Tag K} : opsT C D false ops K (⟨d, .buildSlice t n parts, ty, pos, af, none⟩ :: rest) σ tg = exT (buildSlF C σ d t n parts.toList) (fun σ => opsT C D false ops K rest σ tg) ⟨⟩ := s_buildSlice
theorem t_makeSlice {t : TypeId} {l c : Operand} {tg : Tag K} : opsT C D false ops K (⟨d, .makeSlice t l c, ty, pos, af, none⟩ :: rest) σ tg = exT (makeF C σ d t (σ.get l) (σ.get c)) (fun σ => opsT C D false ops K rest σ tg) ⟨⟩ := s_makeSlice
theorem t_makeFunc {f : Nat} {cap : Array Operand} {tg : Tag K} : opsT C D false ops K (⟨d, .makeFunc (.func f) #[] cap, ty, pos, af, none⟩ :: rest) σ tg = exT (captureL cap.toList σ) (fun p => opsT C D false ops K rest (p.2.put d (.clo f p.1)) tg) ⟨⟩ := s_makeFunc
theorem t_call {f : Nat} {args : Array Operand} {ts : Array TypeId} {tg : Tag K} : opsT C D q ops K (⟨d, .call { callee := .value (.func f), args, argTypes := ts }, ty, pos, af, none⟩ :: rest) σ tg = exT (passL C σ f 0 (args.toList.map σ.get)) (fun as => (okQ C σ q f (args.toList.map σ.get) ∧ callT D q f as (fun res left => opsT C D q ops K rest (behind C σ f (args.toList.map σ.get) d res left) tg) ⟨⟩)) ⟨⟩ := s_call
theorem t_conv {s t : TypeId} {x : Operand} {tg : Tag K} : opsT C D false ops K (⟨d, .convert s t x, ty, pos, af, none⟩ :: rest) σ tg = exT (convA C σ s t (σ.get x)) (fun v => opsT C D false ops K rest (σ.put d v) tg) ⟨⟩ := s_conv
theorem t_convQ {s t : TypeId} {x : Operand} {tg : Tag K} : opsT C D true ops K (⟨d, .convert s t x, ty, pos, af, none⟩ :: rest) σ tg = (lookT C t = true ∧ exT (convA C σ s t (σ.get x)) (fun v => opsT C D true ops K rest (σ.put d v) tg) ⟨⟩) := s_convQ
theorem t_callT {t : Tmp} {args : Array Operand} {ts : Array TypeId} {tg : Tag K} : opsT C D q ops K (⟨d, .call { callee := .value (.tmp t), args, argTypes := ts }, ty, pos, af, none⟩ :: rest) σ tg = exT (cloV (σ.sl t)) (fun p => exT (passL C σ p.1 0 (args.toList.map σ.get ++ p.2)) (fun as => (okQ C σ q p.1 (args.toList.map σ.get) ∧ callT D q p.1 as (fun res left => opsT C D q ops K rest (behind C σ p.1 (args.toList.map σ.get) d res left) tg) ⟨⟩)) ⟨⟩) ⟨⟩ := s_callT
end
end Go.Vm
