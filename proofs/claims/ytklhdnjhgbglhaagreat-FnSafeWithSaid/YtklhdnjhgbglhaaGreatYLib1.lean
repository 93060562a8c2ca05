/- A part of the evaluator of the walks. Conditions: none but those ahead of each theorem. -/
import Derived.Calls
import Derived.Orders
import Derived.Laws.Entries
import Derived.Laws.NewBlocks
import Derived.Laws.IdiomCopy
section
/- The abstract values of the evaluator, and how the machine's values stand for them. -/
namespace Go.Vm
inductive AV where
  | und
  | int (k : IntKind) (n : Int)
  | bool (b : Bool)
  | str (s : ByteArray)
  | agg (fs : List AV)
  | tup (vs : List AV)
  | fro (tg : Option (Nat × Nat × Option (Nat × Nat))) (clip : Bool) (l : List AV)
  | own (sz : Nat) (l : List AV)
  | hd (e g off len : Nat) (clip : Bool)
  | ptr (e g i j : Nat)
  | cptr (tg : Option (Nat × Nat)) (c : List AV)
  | clo (f : Nat) (caps : List AV)
  | pt (sz : Nat) (elems : List AV) (i j : Nat)
  | np (e w i j k q : Nat)
  | mp (e w : Nat) (l : List (Int × Bool))
instance : Inhabited AV := ⟨.und⟩
def leaves : AV → List AV
  | .agg fs => fs
  | x => [x]
mutual
def froize : AV → AV
  | .own _ l => .fro none false (froizeL l)
  | .agg fs => .agg (froizeL fs)
  | x => x
def froizeL : List AV → List AV
  | [] => []
  | a :: as => froize a :: froizeL as
end
theorem froizeL_eq (l : List AV) : froizeL l = l.map froize := by
  induction l with
  | nil => simp [froizeL]
  | cons a as ih => simp [froizeL, ih]
theorem leaves_froize (a : AV) : leaves (froize a) = (leaves a).map froize := by
  cases a <;> simp [froize, leaves, froizeL_eq]
theorem flat_froize (l : List AV) : (l.map froize).flatMap leaves = (l.flatMap leaves).map froize := by
  induction l with
  | nil => rfl
  | cons a as ih => simp [List.flatMap_cons, leaves_froize, ih]
inductive RepL (F : Nat → Prop) (w : World) : List Value → List AV → List Nat → Prop
  | nil : RepL F w [] [] []
  | und {v : Value} {vs : List Value} {xs : List AV} {f : List Nat} (hv : v.oneCell' = true) (t : RepL F w vs xs f) : RepL F w (v :: vs) (.und :: xs) f
  | int {k : IntKind} {n : Int} {vs : List Value} {xs : List AV} {f : List Nat} (t : RepL F w vs xs f) : RepL F w (.int k n :: vs) (.int k n :: xs) f
  | bool {b : Bool} {vs : List Value} {xs : List AV} {f : List Nat} (t : RepL F w vs xs f) : RepL F w (.bool b :: vs) (.bool b :: xs) f
  | str {s : ByteArray} {vs : List Value} {xs : List AV} {f : List Nat} (t : RepL F w vs xs f) : RepL F w (.string s :: vs) (.str s :: xs) f
  | fro0 {A : Option Addr} {c : Nat} {clip : Bool} {vs : List Value} {xs : List AV} {f : List Nat} (hc : clip = true → c = 0) (t : RepL F w vs xs f) :
      RepL F w (.slice A 0 c :: vs) (.fro none clip [] :: xs) f
  | fro {b o n c sz : Nat} {clip : Bool} {l : List AV} {us vs : List Value} {xs : List AV} {f : List Nat} (hn : l.length = n) (hnc : n ≤ c) (hc : clip = true → c = n) (hF : F b)
      (hcell : ∀ q, q < us.length → w.cell? ⟨b, o + q, none⟩ = us[q]?) (hsz : ∀ a ∈ l, (leaves a).length = sz) (hu : RepL F w us (l.flatMap leaves) []) (t : RepL F w vs xs f) :
      RepL F w (.slice (some ⟨b, o, none⟩) n c :: vs) (.fro none clip l :: xs) f
  | own0 {A : Option Addr} {sz : Nat} {vs : List Value} {xs : List AV} {f : List Nat} (t : RepL F w vs xs f) : RepL F w (.slice A 0 0 :: vs) (.own sz [] :: xs) f
  | own {g n c sz et : Nat} {cur : Array Value} {l : List AV} {us vs : List Value} {xs : List AV} {f1 f : List Nat} (hn : l.length = n) (hnc : n ≤ c)
      (hb : w.heap[g]? = some (.cells cur et (0, 0))) (hcap : c * sz ≤ cur.size) (hcell : ∀ q, q < us.length → cur[q]? = us[q]?) (hsz : ∀ a ∈ l, (leaves a).length = sz)
      (hu : RepL F w us (l.flatMap leaves) f1) (t : RepL F w vs xs f) : RepL F w (.slice (some ⟨g, 0, none⟩) n c :: vs) (.own sz l :: xs) (g :: f1 ++ f)
  | cptr {b o : Nat} {c : List AV} {us vs : List Value} {xs : List AV} {f : List Nat} (hF : F b) (hcell : ∀ q, q < us.length → w.cell? ⟨b, o + q, none⟩ = us[q]?)
      (hu : RepL F w us c []) (t : RepL F w vs xs f) : RepL F w (.pointer (some ⟨b, o, none⟩) :: vs) (.cptr none c :: xs) f
  | clo {fn : Nat} {caps : List AV} {us vs : List Value} {xs : List AV} {f : List Nat} (hu : RepL F w us caps []) (t : RepL F w vs xs f) :
      RepL F w (.func (.func fn) #[] us.toArray :: vs) (.clo fn caps :: xs) f
section
variable {F F' : Nat → Prop} {w w' : World} {vs us : List Value} {xs ys : List AV} {f g : List Nat}
theorem RepL.length (h : RepL F w vs xs f) : vs.length = xs.length := by
  induction h <;> simp_all
theorem cell?_congr {w w' : World} {b o : Nat} (h : w'.heap[b]? = w.heap[b]?) : w'.cell? ⟨b, o, none⟩ = w.cell? ⟨b, o, none⟩ := by
  simp only [World.cell?, h]
theorem RepL.mono (h : RepL F w vs xs f) (hF : ∀ b, F b → F' b) (hk : ∀ b, F b ∨ b ∈ f → w'.heap[b]? = w.heap[b]?) : RepL F' w' vs xs f := by
  induction h with
  | nil => exact .nil
  | und hv t ih => exact .und hv (ih hk)
  | int t ih => exact .int (ih hk)
  | bool t ih => exact .bool (ih hk)
  | str t ih => exact .str (ih hk)
  | fro0 hc t ih => exact .fro0 hc (ih hk)
  | fro hn hnc hc hb hcell hsz hu t ihu ih =>
    refine .fro hn hnc hc (hF _ hb) (fun q hq => ?_) hsz (ihu fun b hb => hk b (.inl (by simpa using hb))) (ih hk)
    rw [cell?_congr (hk _ (.inl hb))]; exact hcell q hq
  | own0 t ih => exact .own0 (ih hk)
  | @own g n c sz et cur l us vs xs f1 f hn hnc hb hcap hcell hsz hu t ihu ih =>
    have hb' : w'.heap[g]? = some (.cells cur et (0, 0)) := by rw [hk _ (.inr (by simp))]; exact hb
    refine .own hn hnc hb' hcap hcell hsz (ihu fun b hb => hk b ?_) (ih fun b hb => hk b ?_)
    · rcases hb with hb | hb
      · exact .inl hb
      · exact .inr (by simp [hb])
    · rcases hb with hb | hb
      · exact .inl hb
      · exact .inr (by simp [hb])
  | cptr hb hcell hu t ihu ih =>
    refine .cptr (hF _ hb) (fun q hq => ?_) (ihu fun b hb => hk b (.inl (by simpa using hb))) (ih hk)
    rw [cell?_congr (hk _ (.inl hb))]; exact hcell q hq
  | clo hu t ihu ih => exact .clo (ihu fun b hb => hk b (.inl (by simpa using hb))) (ih hk)
theorem RepL.append (h : RepL F w vs xs f) (h2 : RepL F w us ys g) : RepL F w (vs ++ us) (xs ++ ys) (f ++ g) := by
  induction h with
  | nil => exact h2
  | und hv t ih => exact .und hv ih
  | int t ih => exact .int ih
  | bool t ih => exact .bool ih
  | str t ih => exact .str ih
  | fro0 hc t ih => exact .fro0 hc ih
  | fro hn hnc hc hb hcell hsz hu t _ ih => exact .fro hn hnc hc hb hcell hsz hu ih
  | own0 t ih => exact .own0 ih
  | own hn hnc hb hcap hcell hsz hu t _ ih => simpa using RepL.own hn hnc hb hcap hcell hsz hu ih
  | cptr hb hcell hu t _ ih => exact .cptr hb hcell hu ih
  | clo hu t _ ih => exact .clo hu ih
theorem RepL.cons_inv {v : Value} {x : AV} (h : RepL F w (v :: vs) (x :: xs) f) : ∃ f1 f2, f = f1 ++ f2 ∧ RepL F w [v] [x] f1 ∧ RepL F w vs xs f2 := by
  cases h with
  | und hv t => exact ⟨[], _, rfl, .und hv .nil, t⟩
  | int t => exact ⟨[], _, rfl, .int .nil, t⟩
  | bool t => exact ⟨[], _, rfl, .bool .nil, t⟩
  | str t => exact ⟨[], _, rfl, .str .nil, t⟩
  | fro0 hc t => exact ⟨[], _, rfl, .fro0 hc .nil, t⟩
  | fro hn hnc hc hb hcell hsz hu t => exact ⟨[], _, rfl, .fro hn hnc hc hb hcell hsz hu .nil, t⟩
  | own0 t => exact ⟨[], _, rfl, .own0 .nil, t⟩
  | own hn hnc hb hcap hcell hsz hu t => exact ⟨_, _, rfl, by simpa using RepL.own hn hnc hb hcap hcell hsz hu .nil, t⟩
  | cptr hb hcell hu t => exact ⟨[], _, rfl, .cptr hb hcell hu .nil, t⟩
  | clo hu t => exact ⟨[], _, rfl, .clo hu .nil, t⟩
theorem RepL.cons {v : Value} {x : AV} {f1 f2 : List Nat} (h : RepL F w [v] [x] f1) (h2 : RepL F w vs xs f2) : RepL F w (v :: vs) (x :: xs) (f1 ++ f2) := h.append h2
theorem RepL.split : ∀ {xs : List AV} {vs : List Value} {f : List Nat}, RepL F w vs (xs ++ ys) f → ∃ v1 v2 f1 f2, vs = v1 ++ v2 ∧ f = f1 ++ f2 ∧ RepL F w v1 xs f1 ∧ RepL F w v2 ys f2
  | [], vs, f, h => ⟨[], vs, [], f, rfl, rfl, .nil, h⟩
  | x :: xs, vs, f, h => by
    cases vs with
    | nil => have := h.length; simp at this
    | cons v vs =>
      obtain ⟨fa, fb, rfl, ha, hb⟩ := RepL.cons_inv (by simpa using h)
      obtain ⟨v1, v2, f1, f2, rfl, rfl, h1, h2⟩ := RepL.split hb
      exact ⟨v :: v1, v2, fa ++ f1, f2, rfl, by simp, ha.cons h1, h2⟩
theorem RepL.get {i : Nat} {x : AV} (h : RepL F w vs xs f) (hx : xs[i]? = some x) : ∃ v f1 f2 f3, vs[i]? = some v ∧ f = f1 ++ f2 ++ f3 ∧ RepL F w [v] [x] f2 ∧
    ∀ v' x' f', RepL F w [v'] [x'] f' → RepL F w (vs.set i v') (xs.set i x') (f1 ++ f' ++ f3) := by
  obtain ⟨hi, rfl⟩ := List.getElem?_eq_some_iff.1 hx
  have e : xs = xs.take i ++ xs[i] :: xs.drop (i + 1) := by simp
  rw [e] at h
  obtain ⟨v1, v2, f1, f2, rfl, rfl, h1, h2⟩ := RepL.split h
  have hl : v1.length = i := by rw [h1.length]; simp; omega
  cases v2 with
  | nil => have := h2.length; simp at this; omega
  | cons v v2 =>
    obtain ⟨fa, fb, rfl, ha, hb⟩ := h2.cons_inv
    refine ⟨v, f1, fa, fb, by simp [← hl], by simp, ha, fun v' x' f' h' => ?_⟩
    have := h1.append (h'.cons hb)
    have e1 : (v1 ++ v :: v2).set i v' = v1 ++ v' :: v2 := by rw [← hl]; simp
    have e2 : xs.set i x' = xs.take i ++ x' :: xs.drop (i + 1) := by rw [List.set_eq_take_append_cons_drop]; simp [hi]
    rw [e1, e2]; simpa using this
theorem RepL.take (n : Nat) (h : RepL F w vs xs f) : ∃ f1 f2, f = f1 ++ f2 ∧ RepL F w (vs.take n) (xs.take n) f1 ∧ RepL F w (vs.drop n) (xs.drop n) f2 := by
  rcases Nat.le_total xs.length n with hn | hn
  · have hl := h.length
    rw [List.take_of_length_le (by omega), List.take_of_length_le hn, List.drop_of_length_le (by omega), List.drop_of_length_le hn]
    exact ⟨f, [], by simp, h, .nil⟩
  · have e : xs = xs.take n ++ xs.drop n := by simp
    rw [e] at h
    obtain ⟨v1, v2, f1, f2, rfl, rfl, h1, h2⟩ := RepL.split h
    have hl1 : v1.length = n := by rw [h1.length]; simp; omega
    refine ⟨f1, f2, rfl, ?_, ?_⟩
    · rw [← hl1]; simpa [hl1] using h1
    · rw [← hl1]; simpa [hl1] using h2
/-! ### Elements and cells -/
theorem flat_length {sz : Nat} : ∀ {l : List AV}, (∀ a ∈ l, (leaves a).length = sz) → (l.flatMap leaves).length = l.length * sz
  | [], _ => by simp
  | a :: l, h => by
    rw [List.flatMap_cons, List.length_append, flat_length (fun x hx => h x (by simp [hx])), h a (by simp)]
    simp [Nat.add_mul]; omega
theorem flat_drop {sz : Nat} : ∀ {l : List AV} (k : Nat), (∀ a ∈ l, (leaves a).length = sz) → (l.drop k).flatMap leaves = (l.flatMap leaves).drop (k * sz)
  | l, 0, _ => by simp
  | [], k + 1, _ => by simp
  | a :: l, k + 1, h => by
    rw [List.drop_succ_cons, flat_drop k (fun x hx => h x (by simp [hx])), List.flatMap_cons, List.drop_append]
    have := h a (by simp)
    have e : (k + 1) * sz = k * sz + sz := by rw [Nat.add_mul]; omega
    rw [List.drop_of_length_le (l := leaves a) (by omega), List.nil_append, this, e, Nat.add_sub_cancel]
theorem flat_take {sz : Nat} : ∀ {l : List AV} (k : Nat), (∀ a ∈ l, (leaves a).length = sz) → (l.take k).flatMap leaves = (l.flatMap leaves).take (k * sz)
  | l, 0, _ => by simp
  | [], k + 1, _ => by simp
  | a :: l, k + 1, h => by
    rw [List.take_succ_cons, List.flatMap_cons, flat_take k (fun x hx => h x (by simp [hx])), List.flatMap_cons, List.take_append]
    have := h a (by simp)
    have e : (k + 1) * sz = k * sz + sz := by rw [Nat.add_mul]; omega
    rw [List.take_of_length_le (l := leaves a) (by omega), this, e, Nat.add_sub_cancel]
theorem flat_get {sz : Nat} {l : List AV} {i : Nat} {z : AV} (h : ∀ a ∈ l, (leaves a).length = sz) (hz : l[i]? = some z) : ((l.flatMap leaves).drop (i * sz)).take sz = leaves z := by
  obtain ⟨hi, rfl⟩ := List.getElem?_eq_some_iff.1 hz
  have e : l.drop i = l[i] :: l.drop (i + 1) := by simp
  rw [← flat_drop i h, e, List.flatMap_cons, ← h _ (List.getElem_mem hi), List.take_left]
theorem RepL.sub {sz : Nat} {l : List AV} (off len : Nat) (hsz : ∀ a ∈ l, (leaves a).length = sz) (h : RepL F w us (l.flatMap leaves) f) :
    ∃ f1 f2 f3, f = f1 ++ f2 ++ f3 ∧ RepL F w ((us.drop (off * sz)).take (len * sz)) (((l.drop off).take len).flatMap leaves) f2 := by
  obtain ⟨f1, f2, rfl, _, h2⟩ := h.take (off * sz)
  obtain ⟨f3, f4, rfl, h3, _⟩ := h2.take (len * sz)
  refine ⟨f1, f3, f4, by simp, ?_⟩
  rw [flat_take len (fun a ha => hsz a (List.mem_of_mem_drop ha)), flat_drop off hsz]
  exact h3
theorem RepL.froized (h : RepL F w vs xs f) : RepL (fun b => F b ∨ b ∈ f) w vs (xs.map froize) [] := by
  induction h with
  | nil => exact .nil
  | und hv t ih => exact .und hv ih
  | int t ih => exact .int ih
  | bool t ih => exact .bool ih
  | str t ih => exact .str ih
  | fro0 hc t ih => exact .fro0 hc ih
  | fro hn hnc hc hb hcell hsz hu t ihu ih => exact .fro hn hnc hc (.inl hb) hcell hsz (hu.mono (fun _ h => .inl h) (fun _ _ => rfl)) ih
  | own0 t ih => exact .fro0 (by simp) ih
  | @own g n c sz et cur l us vs xs f1 f hn hnc hb hcap hcell hsz hu t ihu ih =>
    refine .fro (o := 0) (sz := sz) (us := us) (by simpa [froizeL_eq] using hn) hnc (by simp) (.inr (by simp)) (fun q hq => ?_) ?_ ?_ (ih.mono (fun b h => h.imp id (fun h => by simp [h])) (fun _ _ => rfl))
    · simp only [World.cell?, hb, Nat.zero_add]; exact hcell q hq
    · intro a ha
      rw [froizeL_eq] at ha
      obtain ⟨a', ha', rfl⟩ := List.mem_map.1 ha
      rw [leaves_froize]; simpa using hsz a' ha'
    · rw [froizeL_eq, flat_froize]
      exact ihu.mono (fun b h => h.imp id (fun h => by simp [h])) (fun _ _ => rfl)
  | cptr hb hcell hu t _ ih => exact .cptr (.inl hb) hcell (hu.mono (fun _ h => .inl h) (fun _ _ => rfl)) ih
  | clo hu t _ ih => exact .clo (hu.mono (fun _ h => .inl h) (fun _ _ => rfl)) ih
end
end Go.Vm
end
section
/- The evaluator: what each operation does to the abstract state. -/
namespace Go.Vm
inductive TD where
  | int (k : IntKind)
  | bool
  | string
  | slice (e : Nat)
  | struct (fs : List (Nat × Nat))
  | pointer (e : Nat)
  | map (k e : Nat)
  | other
structure TI where
  desc : TD
  sz : Nat
  bytes : Nat
  zero : List AV
def TD.isStruct : TD → Bool
  | .struct _ => true
  | _ => false
structure Cfg where
  P : Program
  tt : Nat → Option TI
  eqs : Nat → Option (List TD)
  wrt : Nat → Option Nat
  mv : Bool
  stl : List Nat
structure Ent where
  live : Bool
  gen : Nat
  wr : Nat
  frz : Bool
  sz : Nat
  elems : List AV
structure St where
  sl : Nat → AV
  en : Nat → Ent
def upd {α : Type} (f : Nat → α) (a : Nat) (v : α) : Nat → α := fun b => if b = a then v else f b
def St.put (σ : St) (d : Option Tmp) (v : AV) : St :=
  match d with
  | some d => { σ with sl := upd σ.sl d v }
  | none => σ
def St.ent (σ : St) (e : Nat) (E : Ent) : St := { σ with en := upd σ.en e E }
def St.kill (σ : St) (e : Nat) : St := σ.ent e { σ.en e with live := false }
def St.freeze (σ : St) (e : Nat) : St := σ.ent e { σ.en e with frz := true, elems := (σ.en e).elems.map froize }
def St.fresh (σ : St) (e sz : Nat) (l : List AV) : St := σ.ent e { live := true, gen := (σ.en e).gen + 1, wr := (σ.en e).wr + 1, frz := false, sz, elems := l }
def eid (d j : Nat) : Nat := 64 * d + j
def ensure (c : Prop) [Decidable c] : Option Unit := if c then some () else none
def ofC1 : Value → AV
  | .int k n => .int k n
  | .bool b => .bool b
  | .string s => .str s
  | .slice none 0 0 => .fro none true []
  | _ => .und
def ofC (v : Value) : AV :=
  match v with
  | .agg cs => if cs.all (·.oneCell') then .agg (cs.toList.map ofC1) else .pt 0 [] 0 0
  | .tuple cs => if cs.all (·.oneCell') then .tup (cs.toList.map ofC1) else .pt 0 [] 0 0
  | v => ofC1 v
def St.get (σ : St) : Operand → AV
  | .tmp t => σ.sl t
  | .const v => ofC v
  | .func f => .clo f []
  | .global _ => .pt 0 [] 0 0
def St.cur (σ : St) (e g : Nat) : Option Ent := if (σ.en e).live = true ∧ (σ.en e).gen = g then some (σ.en e) else none
def St.valid (σ : St) (e w : Nat) : Option Unit := ensure ((σ.en e).live = true ∧ (σ.en e).wr = w)
def St.validT (σ : St) : Option (Nat × Nat × Option (Nat × Nat)) → Option Unit
  | none => some ()
  | some (e, w, _) => σ.valid e w
def St.validC (σ : St) : Option (Nat × Nat) → Option Unit
  | none => some ()
  | some (e, w) => σ.valid e w
def St.ok (σ : St) : AV → Option Unit
  | .hd e g _ _ _ => do let _ ← σ.cur e g; some ()
  | .ptr e g _ _ => do let _ ← σ.cur e g; some ()
  | .fro tg _ _ => σ.validT tg
  | .cptr tg _ => σ.validC tg
  | .tup _ => none
  | .pt _ _ _ _ => none
  | .np _ _ _ _ _ _ => none
  | .mp _ _ _ => none
  | _ => some ()
def St.okL (σ : St) : List AV → Option Unit
  | [] => some ()
  | x :: xs => do σ.ok x; σ.okL xs
def St.content (σ : St) : AV → Option (List AV)
  | .fro tg _ l => do σ.validT tg; some l
  | .hd e g off len _ => do
    let E ← σ.cur e g
    ensure (off + len ≤ E.elems.length)
    some ((E.elems.drop off).take len)
  | _ => none
def St.close (σ : St) : AV → Option (AV × St)
  | .hd e g off len clip => do
    let E ← σ.cur e g
    if E.frz then do
      ensure (off + len ≤ E.elems.length)
      some (.fro none clip ((E.elems.drop off).take len), σ)
    else do
      ensure (off = 0 ∧ len ≤ E.elems.length)
      some (.own E.sz (E.elems.take len), σ.kill e)
  | .fro (some (e, w, _)) clip l => do
    σ.valid e w
    some (.fro none clip (l.map froize), if (σ.en e).frz then σ else σ.freeze e)
  | .fro none clip l => some (.fro none clip l, σ)
  | .int k n => some (.int k n, σ)
  | .bool b => some (.bool b, σ)
  | .str s => some (.str s, σ)
  | .clo f c => some (.clo f c, σ)
  | .cptr none c => some (.cptr none c, σ)
  | .und => some (.und, σ)
  | _ => none
def St.closeL (σ : St) : List AV → Option (List AV × St)
  | [] => some ([], σ)
  | x :: xs => do
    let (y, σ1) ← σ.close x
    let (ys, σ2) ← σ1.closeL xs
    some (y :: ys, σ2)
def stealLeaf (e w j : Nat) (x z : AV) : Option AV :=
  match x, z with
  | .fro (some (e', w', some (i', j'))) _ _, .own sz l => if e' = e ∧ w' = w ∧ i' = 0 ∧ j' = j then some (.own sz l) else none
  | .int k n, _ => some (.int k n)
  | .bool b, _ => some (.bool b)
  | .str s, _ => some (.str s)
  | .fro none c l, _ => some (.fro none c l)
  | _, _ => none
def stealL (e w : Nat) : Nat → List AV → List AV → Option (List AV)
  | _, [], [] => some []
  | j, x :: xs, z :: zs => do
    let y ← stealLeaf e w j x z
    let ys ← stealL e w (j + 1) xs zs
    some (y :: ys)
  | _, _, _ => none
def tagOf : List AV → Option Nat
  | [] => none
  | .fro (some (e, _, some _)) _ _ :: _ => some e
  | _ :: xs => tagOf xs
def steal1 (σ : St) (e : Nat) (xs : List AV) : List AV → Option (List AV × St)
  | [z] => do
    let ys ← stealL e (σ.en e).wr 0 xs (leaves z)
    some (ys, σ.kill e)
  | _ => none
def St.steal (σ : St) (xs : List AV) : Option (List AV × St) := do
  let e ← tagOf xs
  ensure ((σ.en e).live = true ∧ (σ.en e).frz = false)
  steal1 σ e xs (σ.en e).elems
def orElse (x y : Option (List AV × St)) : Option (List AV × St) :=
  match x with
  | some r => some r
  | none => y
def St.closeM (σ : St) (m : Bool) (xs : List AV) : Option (List AV × St) :=
  match m with
  | true => orElse (σ.steal xs) (σ.closeL xs)
  | false => σ.closeL xs
def seen (e w i j : Nat) : AV → AV
  | .own _ l => .fro (some (e, w, some (i, j))) false l
  | x => x
def seenL (e w i : Nat) : Nat → List AV → List AV
  | _, [] => []
  | j, x :: xs => seen e w i j x :: seenL e w i (j + 1) xs
def seenC (tg : Option (Nat × Nat)) : AV → AV
  | .own _ l => .fro (tg.map fun p => (p.1, p.2, none)) false l
  | .fro none clip l => .fro (tg.map fun p => (p.1, p.2, none)) clip l
  | .int k n => .int k n
  | .bool b => .bool b
  | .str s => .str s
  | x => match tg with
    | none => x
    | some _ => .und
def mkV (struct : Bool) (ls : List AV) : AV := if struct then .agg ls else ls.headD .und
def setRange (ls : List AV) (j : Nat) (new : List AV) : List AV := ls.take j ++ new ++ ls.drop (j + new.length)
def reEl (old : AV) (ls : List AV) : AV :=
  match old with
  | .agg _ => .agg ls
  | _ => ls.headD .und
end Go.Vm
namespace Go.Vm
def newArr (σ : St) (d : Option Tmp) (sz : Nat) (l : List AV) (len : Nat) (clip : Bool) : Option St :=
  match d with
  | some d => some ((σ.fresh (eid d 0) sz l).put (some d) (.hd (eid d 0) ((σ.en (eid d 0)).gen + 1) 0 len clip))
  | none => none
def newVar (σ : St) (d : Option Tmp) (sz : Nat) (x : AV) : Option St :=
  match d with
  | some d => some ((σ.fresh (eid d 0) sz [x]).put (some d) (.ptr (eid d 0) ((σ.en (eid d 0)).gen + 1) 0 0))
  | none => none
def scal : AV → Bool
  | .int _ _ => true
  | .bool _ => true
  | .str _ => true
  | _ => false
def ownAt (ls : List AV) (j : Nat) : Option (Nat × List AV) :=
  match ls[j]? with
  | some (.own sz l) => some (sz, l)
  | _ => none
def noOwn : AV → Bool
  | .own _ _ => false
  | _ => true
def loadF (C : Cfg) (σ : St) (t : Nat) : AV → Option AV
  | .ptr e g i j => do
    let T ← C.tt t
    let E ← σ.cur e g
    let x ← E.elems[i]?
    let ls := ((leaves x).drop j).take T.sz
    ensure (ls.length = T.sz)
    some (mkV T.desc.isStruct (if E.frz then ls.map (seenC none) else seenL e E.wr i j ls))
  | .cptr tg c => do
    let T ← C.tt t
    σ.validC tg
    let ls := c.take T.sz
    ensure (ls.length = T.sz)
    some (mkV T.desc.isStruct (ls.map (seenC tg)))
  | .np e wv i j k q => do
    let T ← C.tt t
    σ.valid e wv
    ensure ((σ.en e).frz = false)
    let z ← (σ.en e).elems[i]?
    let own ← ownAt (leaves z) j
    let y ← own.2[k]?
    let ls := ((leaves y).drop q).take T.sz
    ensure (ls.length = T.sz)
    ensure (ls.all noOwn = true)
    some (mkV T.desc.isStruct ls)
  | _ => none
def nstD (C : Cfg) (d : Option Tmp) : Bool := match d with
  | some k => C.stl.contains (k + 100000)
  | none => false
def St.frzHd (σ : St) : List AV → Option St
  | [] => some σ
  | .hd e g _ _ _ :: xs => do
    let E ← σ.cur e g
    (if E.frz then σ else σ.freeze e).frzHd xs
  | _ :: xs => σ.frzHd xs
def storeF (C : Cfg) (σ : St) (t : Nat) (p v : AV) : Option St :=
  match p with
  | .ptr e g i j => do
    let T ← C.tt t
    let _ ← σ.cur e g
    let (ls, σ1) ← σ.closeM C.mv (leaves v)
    ensure (ls.length = T.sz)
    let E ← σ1.cur e g
    ensure (E.frz = false)
    let x ← E.elems[i]?
    ensure (j + T.sz ≤ (leaves x).length)
    some (σ1.ent e { E with wr := E.wr + 1, elems := E.elems.set i (reEl x (setRange (leaves x) j ls)) })
  | .np e wv i j k q => do
    let T ← C.tt t
    let σ0 ← σ.frzHd (leaves v)
    let (ls, σ1) ← σ0.closeL (leaves v)
    σ1.valid e wv
    ensure ((σ1.en e).frz = false)
    ensure (ls.length = T.sz ∧ ls.all noOwn = true)
    let z ← (σ1.en e).elems[i]?
    let own ← ownAt (leaves z) j
    ensure (q + T.sz ≤ own.1)
    let y ← own.2[k]?
    some (σ1.ent e { (σ1.en e) with wr := (σ1.en e).wr + 1, elems := (σ1.en e).elems.modify i fun x => reEl x ((leaves x).set j (.own own.1 (own.2.set k (reEl y (setRange (leaves y) q ls))))) })
  | _ => none
def rnD (C : Cfg) : Bool := C.stl.contains 300000
def rnI : List Nat → List Nat
  | [] => []
  | k :: ks => if 300000 < k then (k - 300000) :: rnI ks else rnI ks
def renewC (x p : AV) (n : Nat) : Bool :=
  match x, p with
  | .np e _ i j _ _, .ptr e' _ i' j' => decide (e' = e ∧ i' = i ∧ (j < j' ∨ j' + n ≤ j))
  | .np e _ i j _ _, .np e' _ i' j' _ _ => decide (e' = e ∧ i' = i ∧ j' = j)
  | _, _ => false
def renewV (σ1 : St) (x p : AV) (n : Nat) : AV :=
  match x with
  | .np e wv i j k q => if renewC (.np e wv i j k q) p n = true ∧ (σ1.en e).wr = wv + 1 then .np e (σ1.en e).wr i j k q else .np e wv i j k q
  | x => x
def renewL (σ1 : St) (p : AV) (n : Nat) : List Nat → St
  | [] => σ1
  | k :: ks => renewL (σ1.put (some k) (renewV σ1 (σ1.sl k) p n)) p n ks
def storeR (C : Cfg) (σ : St) (t : Nat) (p v : AV) : Option St :=
  if rnD C = true then do let T ← C.tt t; let σ1 ← storeF C σ t p v; some (renewL σ1 p T.sz (rnI C.stl)) else storeF C σ t p v
def fieldAddrF (C : Cfg) (σ : St) (s : Nat) (x : AV) (f : Nat) : Option AV := do
  let T ← C.tt s
  match T.desc with
  | .struct fs => do
    let (off, ty) ← fs[f]?
    let _ ← C.tt ty
    match x with
    | .ptr e g i j => do
      let _ ← σ.cur e g
      some (.ptr e g i (j + off))
    | .cptr tg c => do
      σ.validC tg
      ensure (off < c.length)
      some (.cptr tg (c.drop off))
    | .np e wv i j k q => do
      σ.valid e wv
      ensure ((σ.en e).frz = false)
      some (.np e wv i j k (q + off))
    | _ => none
  | _ => none
def fieldF (C : Cfg) (s : Nat) (x : AV) (f : Nat) : Option AV := do
  let T ← C.tt s
  match T.desc with
  | .struct fs => do
    let (off, ty) ← fs[f]?
    let U ← C.tt ty
    match x with
    | .agg ls => do
      ensure (off + U.sz ≤ ls.length)
      some (mkV U.desc.isStruct ((ls.drop off).take U.sz))
    | _ => none
  | _ => none
def indexAddrF (C : Cfg) (σ : St) (t : Nat) (x ix : AV) : Option AV := do
  let T ← C.tt t
  match T.desc, ix with
  | .slice el, .int _ i => do
    let U ← C.tt el
    match x with
    | .fro tg _ l => do
      σ.validT tg
      ensure (0 ≤ i ∧ i < l.length)
      let y ← l[i.toNat]?
      ensure ((leaves y).length = U.sz)
      some (.cptr (tg.map fun p => (p.1, p.2.1)) (leaves y))
    | .hd e g off len _ => do
      let E ← σ.cur e g
      ensure (0 ≤ i ∧ i < len ∧ off + len ≤ E.elems.length ∧ E.sz = U.sz)
      some (.ptr e g (off + i.toNat) 0)
    | _ => none
  | _, _ => none
def idxNF (C : Cfg) (σ : St) (t : Nat) (x ix : AV) : Option AV := do
  let T ← C.tt t
  match T.desc, ix with
  | .slice el, .int _ i => do
    let U ← C.tt el
    match x with
    | .fro (some (e, wv, some (a, b))) _ l => do
      σ.valid e wv
      ensure ((σ.en e).frz = false)
      ensure (0 ≤ i ∧ i < l.length)
      let z ← (σ.en e).elems[a]?
      let own ← ownAt (leaves z) b
      ensure (own.1 = U.sz)
      some (.np e wv a b i.toNat 0)
    | _ => none
  | _, _ => none
def idxG (C : Cfg) (σ : St) (d : Option Tmp) (t : Nat) (x ix : AV) : Option AV := if nstD C d = true then idxNF C σ t x ix else indexAddrF C σ t x ix
def intO : Option AV → Option (Option Int)
  | none => some none
  | some (.int _ n) => some (some n)
  | _ => none
def sliceF (C : Cfg) (σ : St) (t : Nat) (x : AV) (lo hi mx : Option AV) : Option AV := do
  let T ← C.tt t
  let lo ← intO lo
  let hi ← intO hi
  let mx ← intO mx
  match T.desc, x with
  | .string, .str s => do
    let l := lo.getD 0
    let h := hi.getD s.size
    ensure (0 ≤ l ∧ l ≤ h ∧ h ≤ s.size ∧ mx = none)
    some (.str (s.extract l.toNat h.toNat))
  | .slice el, .fro tg clip xs => do
    let U ← C.tt el
    σ.validT tg
    let l := lo.getD 0
    let h := hi.getD xs.length
    ensure (0 ≤ l ∧ l ≤ h ∧ h ≤ xs.length ∧ (mx = none ∨ (mx = some h ∧ hi = some h)))
    ensure (∀ y ∈ xs, (leaves y).length = U.sz)
    some (.fro (tg.map fun p => (p.1, p.2.1, none)) (if mx = none then clip && (decide (hi = none) || xs.isEmpty) else true) ((xs.take h.toNat).drop l.toNat))
  | .slice el, .hd e g off len clip => do
    let U ← C.tt el
    let E ← σ.cur e g
    let l := lo.getD 0
    let h := hi.getD len
    ensure (0 ≤ l ∧ l ≤ h ∧ off + h.toNat ≤ E.elems.length ∧ (clip = true → h ≤ len ∧ (mx = none → h = len)) ∧ (mx = none ∨ (mx = some h ∧ hi = some h)) ∧ E.sz = U.sz)
    some (.hd e g (off + l.toNat) (h.toNat - l.toNat) (if mx = none then clip else true))
  | _, _ => none
def binInt (op : BinOp) (k : IntKind) (a b : Int) : Option AV :=
  match op with
  | .add => some (.int k (k.wrap (a + b)))
  | .sub => some (.int k (k.wrap (a - b)))
  | .mul => some (.int k (k.wrap (a * b)))
  | .quo => if b = 0 then none else some (.int k (k.wrap (a.tdiv b)))
  | .rem => if b = 0 then none else some (.int k (a.tmod b))
  | .and => some (.int k (k.wrap (BitVec.ofInt k.bits a &&& BitVec.ofInt k.bits b).toNat))
  | .or => some (.int k (k.wrap (BitVec.ofInt k.bits a ||| BitVec.ofInt k.bits b).toNat))
  | .xor => some (.int k (k.wrap (BitVec.ofInt k.bits a ^^^ BitVec.ofInt k.bits b).toNat))
  | .andNot => some (.int k (k.wrap (BitVec.ofInt k.bits a &&& ~~~BitVec.ofInt k.bits b).toNat))
  | .eql => some (.bool (a == b))
  | .neq => some (.bool (a != b))
  | .lss => some (.bool (decide (a < b)))
  | .leq => some (.bool (decide (a ≤ b)))
  | .gtr => some (.bool (decide (a > b)))
  | .geq => some (.bool (decide (a ≥ b)))
  | _ => none
def binStr (op : BinOp) (a b : ByteArray) : Option AV :=
  match op with
  | .add => if ((a.size + b.size : Nat) : Int) > 9223372036854775807 then none else some (.str (a ++ b))
  | .eql => some (.bool (a.toList == b.toList))
  | .neq => some (.bool !(a.toList == b.toList))
  | .lss => some (.bool (Op.bytesLess a.toList b.toList))
  | .leq => some (.bool (Op.bytesLess a.toList b.toList || a.toList == b.toList))
  | .gtr => some (.bool !(Op.bytesLess a.toList b.toList || a.toList == b.toList))
  | .geq => some (.bool !(Op.bytesLess a.toList b.toList))
  | _ => none
def eqCell : AV → AV → Option Bool
  | .int k a, .int k' b => if k = k' then some (a == b) else none
  | .bool a, .bool b => some (a == b)
  | .str a, .str b => some (a == b)
  | _, _ => none
def eqCells : List AV → List AV → Option Bool
  | [], [] => some true
  | x :: xs, y :: ys => do
    let a ← eqCell x y
    let b ← eqCells xs ys
    some (a && b)
  | _, _ => none
def kindOk : TD → AV → Bool
  | .int k, .int k' _ => k = k'
  | .bool, .bool _ => true
  | .string, .str _ => true
  | _, _ => false
def kindsOk : List TD → List AV → Bool
  | [], [] => true
  | k :: ks, x :: xs => kindOk k x && kindsOk ks xs
  | _, _ => false
def binF (C : Cfg) (op : BinOp) (t : Nat) (x y : AV) : Option AV :=
  match x, y with
  | .int k a, .int k' b =>
    match op with
    | .shl => if b < 0 then none else some (.int k (k.wrap (a * 2 ^ (min b.toNat k.bits))))
    | .shr => if b < 0 then none else some (.int k (a.fdiv (2 ^ (min b.toNat k.bits))))
    | _ => if k = k' then binInt op k a b else none
  | .str a, .str b => binStr op a b
  | .bool a, .bool b => do
    let T ← C.tt t
    match T.desc, op with
    | .bool, .eql => some (.bool (a == b))
    | .bool, .neq => some (.bool !(a == b))
    | _, _ => none
  | .agg a, .agg b => do
    let ks ← C.eqs t
    ensure (kindsOk ks a = true ∧ kindsOk ks b = true)
    let r ← eqCells a b
    match op with
    | .eql => some (.bool r)
    | .neq => some (.bool !r)
    | _ => none
  | _, _ => none
def unF (op : UnOp) (x : AV) : Option AV :=
  match op, x with
  | .neg, .int k n => some (.int k (k.wrap (0 - n)))
  | .xor, .int k n => some (.int k (k.wrap (BitVec.ofInt k.bits (if k.signed then -1 else k.max) ^^^ BitVec.ofInt k.bits n).toNat))
  | .not, .bool b => some (.bool !b)
  | _, _ => none
end Go.Vm
namespace Go.Vm
def noOwnE (x : AV) : Bool := (leaves x).all noOwn
def buildF (C : Cfg) (fs : List (Nat × Nat)) (σ : St) : List (Nat × Operand) → List AV → Option (List AV)
  | [], acc => some acc
  | (i, x) :: rest, acc => do
    let (off, ty) ← fs[i]?
    let U ← C.tt ty
    let ls := leaves (σ.get x)
    σ.okL ls
    ensure (ls.length = U.sz ∧ off + U.sz ≤ acc.length)
    buildF C fs σ rest (setRange acc off ls)
def buildSliceF (m : Bool) (U : TI) : List (Nat × Operand) → List AV → St → Option (List AV × St)
  | [], acc, σ => some (acc, σ)
  | (i, x) :: rest, acc, σ => do
    let (ls, σ1) ← σ.closeM m (leaves (σ.get x))
    ensure (ls.length = U.sz ∧ i < acc.length)
    buildSliceF m U rest (acc.set i (mkV U.desc.isStruct ls)) σ1

def scalE (x : AV) : Bool := (leaves x).all scal
def stlD (C : Cfg) (d : Option Tmp) : Bool := match d with
  | some k => C.stl.contains k
  | none => false
def hole : AV → AV
  | .own _ _ => .und
  | x => x
def holeE (x : AV) : AV := reEl x ((leaves x).map hole)
def srcF (m : Bool) (σ : St) : AV → Option (List AV × St)
  | .str s => some (s.data.toList.map fun b => .int .u8 b.toNat, σ)
  | .fro none _ l => some (l, σ)
  | .fro (some (e, w, _)) _ l => do
    σ.valid e w
    if l.all scalE then some (l, σ) else some (l.map froize, if (σ.en e).frz then σ else σ.freeze e)
  | .hd e g off len _ => do
    let E ← σ.cur e g
    ensure (off + len ≤ E.elems.length)
    let c := (E.elems.drop off).take len
    if m = true ∧ E.frz = false ∧ 0 < len then some (c, σ.ent e { E with wr := E.wr + 1, elems := E.elems.take off ++ c.map holeE ++ E.elems.drop (off + len) }) else
    if E.frz || c.all noOwnE then some (c, σ) else do
      ensure (off = 0 ∧ len = E.elems.length)
      some (c, σ.kill e)
  | _ => none
def St.setLeaf (σ : St) (e i j : Nat) (y : AV) : St :=
  let E := σ.en e
  σ.ent e { E with wr := E.wr + 1, elems := E.elems.modify i fun x => reEl x ((leaves x).set j y) }
def srcOk (sz : Nat) : TD → AV → Bool
  | .string, .str _ => sz == 1
  | .slice _, .fro _ _ _ => true
  | .slice _, .hd _ _ _ _ _ => true
  | _, _ => false
def cSrc (σ : St) : AV → Option (List AV)
  | .fro none _ l => some l
  | .hd e g off len _ => do
    let E ← σ.cur e g
    ensure (off + len ≤ E.elems.length)
    ensure (((E.elems.drop off).take len).all noOwnE = true)
    some ((E.elems.drop off).take len)
  | _ => none
def copyF (C : Cfg) (σ : St) (d : Option Tmp) (t _t2 : Nat) (x y : AV) : Option St := do
  let T ← C.tt t
  match T.desc, x with
  | .slice el, .hd e g off len _ => do
    let U ← C.tt el
    let l ← cSrc σ y
    ensure (∀ z ∈ l, (leaves z).length = U.sz)
    let E ← σ.cur e g
    ensure (E.frz = false ∧ E.sz = U.sz ∧ off + len ≤ E.elems.length)
    some ((σ.ent e { E with wr := E.wr + 1, elems := E.elems.take off ++ l.take (min l.length len) ++ E.elems.drop (off + min l.length len) }).put d (.int .i64 ((min l.length len : Nat) : Int)))
  | _, _ => none
def clearF (C : Cfg) (σ : St) (t : Nat) (x : AV) : Option St := do
  let T ← C.tt t
  match T.desc, x with
  | .slice el, .hd e g off len _ => do
    let U ← C.tt el
    let E ← σ.cur e g
    ensure (E.frz = false ∧ E.sz = U.sz ∧ off + len ≤ E.elems.length)
    some (σ.ent e { E with wr := E.wr + 1, elems := E.elems.take off ++ List.replicate len (mkV U.desc.isStruct U.zero) ++ E.elems.drop (off + len) })
  | _, _ => none
def appendF0 (C : Cfg) (σ : St) (d : Option Tmp) (t t2 : Nat) (x y : AV) : Option St := do
  let T ← C.tt t
  let T2 ← C.tt t2
  match T.desc with
  | .slice el => do
    let U ← C.tt el
    ensure (srcOk U.sz T2.desc y = true)
    let (news, σ) ← srcF (stlD C d) σ y
    ensure (∀ z ∈ news, (leaves z).length = U.sz)
    match x with
    | .fro none true l => do
      ensure (l = [] ∨ news ≠ [])
      ensure (∀ z ∈ l, (leaves z).length = U.sz)
      ensure ((l.length + news.length) * U.bytes ≤ 140737488355328 ∧ l.length + news.length ≤ 140737488355328)
      newArr σ d U.sz (l ++ news) (l.length + news.length) false
    | .hd e g off len clip => do
      let E ← σ.cur e g
      ensure (E.frz = false ∧ E.sz = U.sz ∧ off + len ≤ E.elems.length)
      ensure ((len + news.length) * U.bytes ≤ 140737488355328 ∧ len + news.length ≤ 140737488355328)
      if clip then if news = [] then some (σ.put d (.hd e g off len true)) else do
        let c := (E.elems.drop off).take len
        ensure (news ≠ [] ∧ c.all noOwnE = true)
        newArr σ d U.sz (c ++ news) (len + news.length) false
      else if off + len = E.elems.length then do
        ensure (off = 0)
        some ((σ.ent e { E with gen := E.gen + 1, wr := E.wr + 1, elems := E.elems ++ news }).put d (.hd e (E.gen + 1) 0 (len + news.length) false))
      else do
        ensure (off + len + news.length ≤ E.elems.length)
        some ((σ.ent e { E with wr := E.wr + 1, elems := E.elems.take (off + len) ++ news ++ E.elems.drop (off + len + news.length) }).put d (.hd e g off (len + news.length) false))
    | _ => none
  | _ => none
def TD.isInt : TD → Bool
  | .int _ => true
  | _ => false
def appendZ (C : Cfg) (σ : St) (d : Option Tmp) (t : Nat) (x y : AV) : Option St := do
  let T ← C.tt t
  match T.desc, x, y with
  | .slice el, .fro none true [], .int .i64 n => do
    let U ← C.tt el
    ensure (0 < n ∧ n * U.bytes ≤ 140737488355328 ∧ n ≤ 140737488355328)
    newArr σ d U.sz (List.replicate n.toNat (mkV U.desc.isStruct U.zero)) n.toNat false
  | _, _, _ => none
def appendF (C : Cfg) (σ : St) (d : Option Tmp) (t t2 : Nat) (x y : AV) : Option St := do
  let T2 ← C.tt t2
  match T2.desc.isInt with
  | true => appendZ C σ d t x y
  | false => appendF0 C σ d t t2 x y
def lenF (σ : St) : TD → AV → Option Nat
  | .string, .str s => some s.size
  | .slice _, .fro tg _ l => do σ.validT tg; some l.length
  | .slice _, .hd e g _ len _ => do let _ ← σ.cur e g; some len
  | _, _ => none
def capF (σ : St) : TD → AV → Option Nat
  | .slice _, .fro tg true l => do σ.validT tg; some l.length
  | .slice _, .hd e g _ len true => do let _ ← σ.cur e g; some len
  | _, _ => none
def minF : AV → List AV → Option AV
  | x, [] => some x
  | .int k x, .int k' y :: rest => if k = k' then minF (.int k (if y < x then y else x)) rest else none
  | _, _ => none
def maxF : AV → List AV → Option AV
  | x, [] => some x
  | .int k x, .int k' y :: rest => if k = k' then maxF (.int k (if x < y then y else x)) rest else none
  | _, _ => none
def convF (C : Cfg) (src dst : Nat) (x : AV) : Option AV := do
  let S ← C.tt src
  let D ← C.tt dst
  match S.desc, D.desc, x with
  | .int _, .int k, .int _ n => some (.int k (k.wrap n))
  | .string, .string, .str s => some (.str s)
  | _, _, _ => none
def convB (C : Cfg) (src dst : Nat) (x : AV) : Option AV := do
  let S ← C.tt src
  let D ← C.tt dst
  match S.desc, D.desc, x with
  | .string, .slice el, .str s => do
    let U ← C.tt el
    match U.desc with
    | .int .u8 => some (.fro none false (s.data.toList.map fun b => .int .u8 b.toNat))
    | _ => none
  | _, _, _ => none
def intsOf : List AV → Option (List Int)
  | [] => some []
  | .int .u8 n :: l => (intsOf l).map (n :: ·)
  | _ :: _ => none
def bytesL (σ : St) : AV → Option (List AV)
  | .hd e g off len _ => do
    let E ← σ.cur e g
    ensure (off + len ≤ E.elems.length ∧ E.sz = 1)
    some ((E.elems.drop off).take len)
  | .fro none _ l => some l
  | _ => none
def textOf (ns : List Int) : ByteArray := ns.foldl (fun r n => r.push (UInt8.ofNat n.toNat)) ByteArray.empty
def convS (C : Cfg) (σ : St) (src dst : Nat) (x : AV) : Option AV := do
  let S ← C.tt src
  let D ← C.tt dst
  match S.desc, D.desc with
  | .slice el, .string => do
    let U ← C.tt el
    match U.desc with
    | .int .u8 => do
      let l ← bytesL σ x
      let ns ← intsOf l
      some (.str (textOf ns))
    | _ => none
  | _, _ => none
def capture (σ : St) (x : Operand) : Option (AV × St) :=
  match σ.get x with
    | .ptr e g i j => do
      let E ← σ.cur e g
      let y ← E.elems[i]?
      let σ := if E.frz then σ else σ.freeze e
      some (.cptr none (((leaves y).drop j).map froize), σ)
    | .cptr none c => some (.cptr none c, σ)
    | _ => none
def captureL : List Operand → St → Option (List AV × St)
  | [], σ => some ([], σ)
  | x :: xs, σ => do
    let (y, σ) ← capture σ x
    let (ys, σ) ← captureL xs σ
    some (y :: ys, σ)
def idxM : List (Int × Bool) → Int → Option (Nat × Bool)
  | [], _ => none
  | (k', v) :: l, k => if k' = k then some (0, v) else (idxM l k).map fun p => (p.1 + 1, p.2)
def getM (l : List (Int × Bool)) (k : Int) : Bool := match idxM l k with
  | some p => p.2
  | none => false
def setM (l : List (Int × Bool)) (k : Int) (v : Bool) : List (Int × Bool) := match idxM l k with
  | some p => l.set p.1 (k, v)
  | none => l ++ [(k, v)]
def mapT (C : Cfg) (t : Nat) : Option Unit := do
  let T ← C.tt t
  match T.desc with
  | .map k e => do
    let K ← C.tt k
    let E ← C.tt e
    match K.desc, E.desc, E.zero with
    | .int .i64, .bool, [.bool false] => some ()
    | _, _, _ => none
  | _ => none
def reM (e w : Nat) (l' : List (Int × Bool)) : AV → AV
  | .mp e' w' l => if e' = e ∧ w' = w then .mp e (w + 1) l' else .mp e' w' l
  | x => x
def St.remap (σ : St) (e w : Nat) (l' : List (Int × Bool)) : St := { σ with sl := fun s => reM e w l' (σ.sl s) }
def makeMapF (C : Cfg) (σ : St) (d : Option Tmp) (t : Nat) : Option St := do
  mapT C t
  match d with
  | some d => some ((σ.fresh (eid d 0) 0 []).put (some d) (.mp (eid d 0) ((σ.en (eid d 0)).wr + 1) []))
  | none => none
def lookupF (C : Cfg) (σ : St) (t : Nat) (m x : AV) : Option AV := do
  mapT C t
  match m, x with
  | .mp e w l, .int .i64 k => do
    σ.valid e w
    some (.bool (getM l k))
  | _, _ => none
def mapUpdateF (C : Cfg) (σ : St) (t : Nat) (m x v : AV) : Option St := do
  mapT C t
  match m, x, v with
  | .mp e w l, .int .i64 k, .bool b => do
    σ.valid e w
    ensure ((σ.en e).frz = false)
    some ((σ.ent e { σ.en e with wr := (σ.en e).wr + 1 }).remap e w (setM l k b))
  | _, _, _ => none
def opF (C : Cfg) (o : Oper) (σ : St) : Option St :=
  match o.op with
  | .move x | .assign x => some (σ.put o.dst (σ.get x))
  | .pick c a b => match σ.get c with
    | .bool t => some (σ.put o.dst (if t then σ.get a else σ.get b))
    | _ => none
  | .alloc t => do let T ← C.tt t; newVar σ o.dst T.sz (mkV T.desc.isStruct T.zero)
  | .box t x => do
    let T ← C.tt t
    let (ls, σ) ← σ.closeL (leaves (σ.get x))
    ensure (ls.length = T.sz)
    newVar σ o.dst T.sz (mkV T.desc.isStruct ls)
  | .build t parts => do
    let T ← C.tt t
    match T.desc with
    | .struct fs => do
      ensure (fs.all (fun p => (C.tt p.2).isSome) = true)
      let ls ← buildF C fs σ parts.toList T.zero
      some (σ.put o.dst (.agg ls))
    | _ => none
  | .buildSlice t n parts => do
    let T ← C.tt t
    match T.desc with
    | .slice el => do
      let U ← C.tt el
      ensure (n * U.sz ≤ 16777216)
      let (l, σ) ← buildSliceF C.mv U parts.toList (List.replicate n (mkV U.desc.isStruct U.zero)) σ
      newArr σ o.dst U.sz l n true
    | _ => none
  | .load t x => do let v ← loadF C σ t (σ.get x); some (σ.put o.dst v)
  | .store t p x => do let σ1 ← storeR C σ t (σ.get p) (σ.get x); some (σ1.put o.dst (.tup []))
  | .nilCheck x => match σ.get x with
    | .ptr e g i j => do let _ ← σ.cur e g; some (σ.put o.dst (.ptr e g i j))
    | .cptr tg c => do σ.validC tg; some (σ.put o.dst (.cptr tg c))
    | .clo f c => some (σ.put o.dst (.clo f c))
    | .np e wv i j k q => do σ.valid e wv; ensure ((σ.en e).frz = false); some (σ.put o.dst (.np e wv i j k q))
    | _ => none
  | .binOp op t x y _ => do let v ← binF C op t (σ.get x) (σ.get y); some (σ.put o.dst v)
  | .unOp op _ x => do let v ← unF op (σ.get x); some (σ.put o.dst v)
  | .convert s d x => match convF C s d (σ.get x) with
    | some v => some (σ.put o.dst v)
    | none => match convS C σ s d (σ.get x) with
      | some v => some (σ.put o.dst v)
      | none => do let v ← convB C s d (σ.get x); some (σ.put o.dst v)
  | .makeFunc (.func f) first cap => do
    ensure (first = #[])
    let (cs, σ) ← captureL cap.toList σ
    some (σ.put o.dst (.clo f cs))
  | .makeSlice t l c => do
    let T ← C.tt t
    match T.desc, σ.get l, σ.get c with
    | .slice el, .int .i64 l, .int .i64 c => do
      let U ← C.tt el
      ensure (0 ≤ l ∧ l ≤ c ∧ c * U.bytes ≤ 140737488355328 ∧ c ≤ 140737488355328)
      newArr σ o.dst U.sz (List.replicate c.toNat (mkV U.desc.isStruct U.zero)) l.toNat (decide (l = c))
    | _, _, _ => none
  | .slice t x lo hi mx => do let v ← sliceF C σ t (σ.get x) (lo.map σ.get) (hi.map σ.get) (mx.map σ.get); some (σ.put o.dst v)
  | .fieldAddr s x f => do let v ← fieldAddrF C σ s (σ.get x) f; some (σ.put o.dst v)
  | .field s x f => do let v ← fieldF C s (σ.get x) f; some (σ.put o.dst v)
  | .indexAddr t x i => do let v ← idxG C σ o.dst t (σ.get x) (σ.get i); some (σ.put o.dst v)
  | .index t x i => do
    let T ← C.tt t
    match T.desc, σ.get x, σ.get i with
    | .string, .str s, .int _ n => do
      ensure (0 ≤ n ∧ n < s.size)
      some (σ.put o.dst (.int .u8 ((s.data[n.toNat]?).getD 0).toNat))
    | _, _, _ => none
  | .extract x i => match σ.get x with
    | .tup vs => do let v ← vs[i]?; some (σ.put o.dst v)
    | _ => none
  | .call { callee := .builtin b, args, argTypes } =>
    match b, args.toList, argTypes.toList with
    | .len, [x], [t] => do let T ← C.tt t; let n ← lenF σ T.desc (σ.get x); some (σ.put o.dst (.int .i64 n))
    | .cap, [x], [t] => do let T ← C.tt t; let n ← capF σ T.desc (σ.get x); some (σ.put o.dst (.int .i64 n))
    | .append, [x, y], [t, t2] => appendF C σ o.dst t t2 (σ.get x) (σ.get y)
    | .copy, [x, y], [t, t2] => copyF C σ o.dst t t2 (σ.get x) (σ.get y)
    | .clear, [x], [t] => do let σ1 ← clearF C σ t (σ.get x); some (σ1.put o.dst (.tup []))
    | .min, x :: xs, _ => do let v ← minF (σ.get x) (xs.map σ.get); some (σ.put o.dst v)
    | .max, x :: xs, _ => do let v ← maxF (σ.get x) (xs.map σ.get); some (σ.put o.dst v)
    | _, _, _ => none
  | .makeMap t none => makeMapF C σ o.dst t
  | .lookup t m x false => do let v ← lookupF C σ t (σ.get m) (σ.get x); some (σ.put o.dst v)
  | .mapUpdate t m x v => do let σ1 ← mapUpdateF C σ t (σ.get m) (σ.get x) (σ.get v); some (σ1.put o.dst (.tup []))
  | _ => none
end Go.Vm
namespace Go.Vm
/-! ### Calls -/
def lendLeaf (σ : St) : AV → Option AV
  | .hd e g off len clip => do
    let E ← σ.cur e g
    ensure (off + len ≤ E.elems.length)
    some (.fro none clip (((E.elems.drop off).take len).map froize))
  | .fro none clip l => some (.fro none clip l)
  | .fro (some (e, w, _)) clip l => do σ.valid e w; some (.fro none clip (l.map froize))
  | .ptr e g i j => do
    let E ← σ.cur e g
    let y ← E.elems[i]?
    some (.cptr none (((leaves y).drop j).map froize))
  | .cptr none c => some (.cptr none c)
  | .cptr (some (e, w)) c => do σ.valid e w; some (.cptr none (c.map froize))
  | .int k n => some (.int k n)
  | .bool b => some (.bool b)
  | .str s => some (.str s)
  | .clo f c => some (.clo f c)
  | .und => some .und
  | _ => none
def lendL (σ : St) : List AV → Option (List AV)
  | [] => some []
  | x :: xs => do
    let y ← lendLeaf σ x
    let ys ← lendL σ xs
    some (y :: ys)
def lentOf (σ : St) : AV → List Nat
  | .hd e _ _ _ _ => if (σ.en e).frz then [] else [e]
  | .fro (some (e, _, _)) _ _ => if (σ.en e).frz then [] else [e]
  | .ptr e _ _ _ => if (σ.en e).frz then [] else [e]
  | .cptr (some (e, _)) _ => if (σ.en e).frz then [] else [e]
  | _ => []
def passArg (σ : St) (x : AV) : Option AV :=
    match x with
    | .agg fs => do let ls ← lendL σ fs; some (.agg ls)
    | x => lendLeaf σ x
def lendW (σ : St) : AV → Option AV
  | .hd e g off len _ => do
    let E ← σ.cur e g
    ensure (E.frz = false ∧ off = 0 ∧ len = E.elems.length)
    some (.own E.sz E.elems)
  | .ptr e g i j => do
    let E ← σ.cur e g
    ensure (E.frz = false)
    some (.pt E.sz E.elems i j)
  | .fro (some (e, wv, some (i, j))) _ _ => do
    σ.valid e wv
    ensure ((σ.en e).frz = false)
    let z ← (σ.en e).elems[i]?
    match (leaves z)[j]? with
    | some (.own sz l) => some (.own sz l)
    | _ => none
  | _ => none
def pass1 (C : Cfg) (σ : St) (f p : Nat) (x : AV) : Option AV := if C.wrt f = some p then lendW σ x else passArg σ x
def entW : AV → Option Nat
  | .hd e _ _ _ _ => some e
  | .ptr e _ _ _ => some e
  | .fro (some (e, _, some _)) _ _ => some e
  | _ => none
def leftE (E : Ent) (x left : AV) : Option Ent :=
  match x, left with
  | .hd _ _ _ _ _, .own _ l => some { E with wr := E.wr + 1, elems := l }
  | .ptr _ _ _ _, .pt _ l _ _ => some { E with wr := E.wr + 1, elems := l }
  | .fro (some (_, _, some (i, j))) _ _, .own sz l => some { E with wr := E.wr + 1, elems := E.elems.modify i fun x => reEl x ((leaves x).set j (.own sz l)) }
  | _, .tup [] => some { E with live := false, wr := E.wr + 1 }
  | _, _ => none
theorem leftE_gone (E : Ent) (x : AV) : leftE E x (.tup []) = some { E with live := false, wr := E.wr + 1 } := by
  cases x with
  | fro tg c l =>
    cases tg with
    | none => rfl
    | some t =>
      obtain ⟨e, w, o⟩ := t
      cases o <;> rfl
  | _ => rfl
def putLeft (σ : St) (x left : AV) : St :=
  match entW x with
  | some e => match leftE (σ.en e) x left with
    | some E => σ.ent e E
    | none => σ
  | none => σ
def passL (C : Cfg) (σ : St) (f : Nat) : Nat → List AV → Option (List AV)
  | _, [] => some []
  | p, x :: xs => do
    let y ← pass1 C σ f p x
    let ys ← passL C σ f (p + 1) xs
    some (y :: ys)
def lentL (C : Cfg) (σ : St) (f : Nat) : Nat → List AV → List Nat
  | _, [] => []
  | p, x :: xs => (if C.wrt f = some p then [] else (leaves x).flatMap (lentOf σ)) ++ lentL C σ f (p + 1) xs
def okCW (C : Cfg) (σ : St) (f : Nat) (as : List AV) : Prop :=
  match C.wrt f with
  | none => True
  | some k => ∃ x e, as[k]? = some x ∧ entW x = some e ∧ e ∉ lentL C σ f 0 as
def leftS (C : Cfg) (σ : St) (f : Nat) (as : List AV) (left : AV) : St :=
  match C.wrt f with
  | none => σ
  | some k => match as[k]? with
    | some x => putLeft σ x left
    | none => σ
def hasFro : AV → Bool
  | .fro _ _ [] => false
  | .fro _ _ _ => true
  | .own _ l => hasFroL l
  | .agg l => hasFroL l
  | .tup l => hasFroL l
  | .pt _ l _ _ => hasFroL l
  | .cptr _ _ => true
  | .clo _ _ => true
  | _ => false
  where hasFroL : List AV → Bool
  | [] => false
  | x :: xs => hasFro x || hasFroL xs
def freezeL (σ : St) : List Nat → St
  | [] => σ
  | e :: es => freezeL (if (σ.en e).frz then σ else σ.freeze e) es
def takeLeaf (d j : Nat) (σ : St) : AV → AV × St
  | .own sz l => (.hd (eid d j) ((σ.en (eid d j)).gen + 1) 0 l.length false, σ.fresh (eid d j) sz l)
  | x => (x, σ)
def takeL (d : Nat) : Nat → List AV → St → List AV × St
  | _, [], σ => ([], σ)
  | j, x :: xs, σ =>
    let (y, σ) := takeLeaf d j σ x
    let (ys, σ) := takeL d (j + 1) xs σ
    (y :: ys, σ)
def takeV (d j : Nat) (σ : St) : AV → AV × St
  | .agg fs => let (ls, σ) := takeL d j fs σ; (.agg ls, σ)
  | x => takeLeaf d j σ x
def takeTup (d : Nat) : Nat → List AV → St → List AV × St
  | _, [], σ => ([], σ)
  | j, x :: xs, σ =>
    let (y, σ) := takeV d j σ x
    let (ys, σ) := takeTup d (j + (leaves x).length) xs σ
    (y :: ys, σ)
def takeRes (d : Option Nat) (σ : St) (r : AV) : St :=
  match d with
  | none => σ
  | some d =>
    match r with
    | .tup vs => let (ys, σ) := takeTup d 0 vs σ; σ.put (some d) (.tup ys)
    | .pt sz l i j => (σ.fresh (eid d 0) sz l).put (some d) (.ptr (eid d 0) ((σ.en (eid d 0)).gen + 1) i j)
    | r => let (y, σ) := takeV d 0 σ r; σ.put (some d) y
def loadSF (C : Cfg) (σ : St) (d : Nat) (t : Nat) (p : AV) : Option (AV × St) :=
  match p with
  | .ptr e g i j => do
    let T ← C.tt t
    let E ← σ.cur e g
    ensure (E.frz = false)
    let x ← E.elems[i]?
    let ls := ((leaves x).drop j).take T.sz
    ensure (ls.length = T.sz)
    some (takeV d 0 (σ.ent e { E with wr := E.wr + 1, elems := E.elems.set i (reEl x (setRange (leaves x) j (ls.map hole))) }) (mkV T.desc.isStruct ls))
  | _ => none
def loadSD (C : Cfg) (σ : St) (d : Option Tmp) (t : Nat) (p : AV) : Option St := match d with
  | some k => do
    let r ← loadSF C σ k t p
    some (r.2.put (some k) r.1)
  | none => none
end Go.Vm
end
section
/- The logic of the evaluator. -/
namespace Go.Vm
def exP {α : Type} (o : Option α) (K : α → Prop) : Prop := ∃ a, o = some a ∧ K a
theorem exP_some {α : Type} (a : α) (K : α → Prop) : exP (some a) K = K a := by simp [exP]
theorem exP_none {α : Type} (K : α → Prop) : exP none K = False := by simp [exP]
theorem exP_bind {α β : Type} (o : Option α) (f : α → Option β) (K : β → Prop) : exP (o.bind f) K = exP o fun a => exP (f a) K := by
  cases o <;> simp [exP]
theorem exP_bind' {α β : Type} (o : Option α) (f : α → Option β) (K : β → Prop) : exP (o >>= f) K = exP o fun a => exP (f a) K := exP_bind o f K
theorem exP_ensure (c : Prop) [Decidable c] (K : Unit → Prop) : exP (ensure c) K = (c ∧ K ()) := by
  unfold ensure exP
  by_cases h : c
  · simp only [h, if_true, true_and, eq_iff_iff]
    exact ⟨fun ⟨_, hk⟩ => hk, fun hk => ⟨(), hk⟩⟩
  · simp [h]
inductive Ex where
  | normal
  | exit (id : Nat)
  | ret
abbrev Spec := Nat → List AV → (AV → AV → Prop) → Prop
def scalR : AV → Bool
  | .int _ _ => true
  | .bool _ => true
  | .str _ => true
  | _ => false
def callW (D : Spec) (q : Bool) (f : Nat) (args : List AV) (K : AV → AV → Prop) : Prop :=
  ∃ R, D f args R ∧ (q = true → ∃ r0, scalR r0 = true ∧ R r0 .und ∧ ∀ r l, R r l → r = r0) ∧ ∀ r l, R r l → K r l
def target (σ : St) (x : Operand) : Option (Nat × List AV) :=
  match σ.get x with
  | .clo f caps => some (f, caps)
  | _ => none
def callP0 (C : Cfg) (D : Spec) (q : Bool) (x : Operand) (args : Array Operand) (dst : Option Tmp) (K : St → Prop) (σ : St) : Prop :=
  exP (target σ x) fun p =>
  exP (passL C σ p.1 0 (args.toList.map σ.get ++ p.2)) fun as =>
  (okCW C σ p.1 (args.toList.map σ.get) ∧ (q = true → C.wrt p.1 = none)) ∧
  callW D q p.1 as fun res left =>
    K (takeRes dst (leftS C (if hasFro res || hasFro left then freezeL σ (lentL C σ p.1 0 (args.toList.map σ.get)) else σ) p.1 (args.toList.map σ.get) left) res)
def cstD (C : Cfg) (d : Option Tmp) : Bool := match d with
  | some k => C.stl.contains (k + 200000)
  | none => false
def callC (C : Cfg) (D : Spec) (q : Bool) (x : Operand) (args : Array Operand) (dst : Option Tmp) (K : St → Prop) (σ : St) : Prop :=
  q = false ∧ match x, args.toList.map σ.get with
  | .func f, .agg fs :: rest => C.wrt f = some 1000 ∧ rest.length ≤ 900 ∧ exP (σ.closeL fs) fun r => exP (passL C r.2 f 1 rest) fun as =>
      callW D false f (.agg r.1 :: as) fun res _ => scalR res = true ∧ K (takeRes dst r.2 res)
  | _, _ => False
def callP (C : Cfg) (D : Spec) (q : Bool) (x : Operand) (args : Array Operand) (dst : Option Tmp) (K : St → Prop) (σ : St) : Prop :=
  if cstD C dst = true then callC C D q x args dst K σ else callP0 C D q x args dst K σ
def looks (C : Cfg) (o : Oper) : Bool :=
  match o.op with
  | .convert _ d _ => match C.tt d with
    | some T => match T.desc with
      | .slice _ => false
      | _ => true
    | none => true
  | .move _ | .assign _ | .pick _ _ _ | .load _ _ | .fieldAddr _ _ _ | .field _ _ _ | .indexAddr _ _ _ | .index _ _ _ | .nilCheck _ | .binOp _ _ _ _ _ | .unOp _ _ _ | .extract _ _ | .build _ _ | .slice _ _ _ _ _ => true
  | .lookup _ _ _ false => true
  | .call { callee := .builtin .len, .. } => true
  | .call { callee := .builtin .cap, .. } => true
  | .call { callee := .builtin .min, .. } => true
  | .call { callee := .builtin .max, .. } => true
  | _ => false
def opG (C : Cfg) (q : Bool) (o : Oper) (K : St → Prop) (σ : St) : Prop := (q = true → looks C o = true) ∧ exP (opF C o σ) K
def opW (C : Cfg) (D : Spec) (q : Bool) (o : Oper) (K : St → Prop) (σ : St) : Prop :=
  match o.op with
  | .call { callee := .value x, args, argTypes := _ } => callP C D q x args o.dst K σ
  | .load t x => if stlD C o.dst = true then exP (loadSD C σ o.dst t (σ.get x)) K else opG C q o K σ
  | .makeFunc (.func _) _ _ => exP (opF C o σ) K
  | _ => opG C q o K σ
theorem opW_cases {C : Cfg} {D : Spec} {q : Bool} {o : Oper} {K : St → Prop} {σ : St} (h : opW C D q o K σ) : (∃ x args ts, o.op = .call { callee := .value x, args, argTypes := ts } ∧ callP C D q x args o.dst K σ) ∨
    (∃ t x, o.op = .load t x ∧ stlD C o.dst = true ∧ exP (loadSD C σ o.dst t (σ.get x)) K) ∨ (∃ f first cap, o.op = .makeFunc (.func f) first cap ∧ exP (opF C o σ) K) ∨ ((∀ x args ts, o.op ≠ .call { callee := .value x, args, argTypes := ts }) ∧ opG C q o K σ) := by
  unfold opW at h
  split at h
  · rename_i x args ts ho; exact .inl ⟨x, args, ts, ho, h⟩
  · rename_i t x ho
    split at h
    · rename_i hs; exact .inr (.inl ⟨t, x, ho, hs, h⟩)
    · exact .inr (.inr (.inr ⟨fun x args ts he => (by rw [ho] at he; cases he), h⟩))
  · rename_i f first cap ho; exact .inr (.inr (.inl ⟨f, first, cap, ho, h⟩))
  · rename_i hno _ _; exact .inr (.inr (.inr ⟨hno, h⟩))
def guardOf (ops : Array Oper) (o : Oper) : Option (Option Tmp × Bool) := o.guard.map fun g => ((ops[g.1]?).bind (·.dst), g.2)
def guardW (g : Option (Option Tmp × Bool)) (σ : St) (yes no : St → Prop) : Prop :=
  match g with
  | none => yes σ
  | some (none, _) => no σ
  | some (some d, want) => match σ.sl d with
    | .bool b => (b = true → (if want then yes else no) (σ.put (some d) (.bool true))) ∧ (b = false → (if want then no else yes) (σ.put (some d) (.bool false)))
    | .tup [] => no σ
    | _ => False
def opsW (C : Cfg) (D : Spec) (q : Bool) (ops : Array Oper) (K : St → Prop) : List Oper → St → Prop
  | [], σ => K σ
  | o :: rest, σ => guardW (guardOf ops o) σ (opW C D q o (opsW C D q ops K rest)) (fun σ => opsW C D q ops K rest (σ.put o.dst (.tup [])))
def condW (σ : St) (c : Operand) (yes no : St → Prop) : Prop :=
  match c with
  | .tmp d => match σ.sl d with
    | .bool b => (b = true → yes (σ.put (some d) (.bool true))) ∧ (b = false → no (σ.put (some d) (.bool false)))
    | _ => False
  | .const (.bool b) => if b then yes σ else no σ
  | _ => False
def told (σ σ' : St) : Prop := σ' = σ ∨ (∃ s sz, σ.sl s = .fro none true [] ∧ σ' = takeRes (some s) σ (.own sz [])) ∨
  ∃ s e g off len clip sz l σ1, σ.sl s = .hd e g off len clip ∧ σ.close (.hd e g off len clip) = some (.own sz l, σ1) ∧ σ' = takeRes (some s) σ1 (.own sz l)
def reown (σ : St) (s : Nat) (K : St → Prop) : Prop := match σ.sl s with
  | .hd e g off len _ => ((σ.en e).live = true ∧ (σ.en e).gen = g) ∧ (σ.en e).frz = false ∧ (off = 0 ∧ len ≤ (σ.en e).elems.length) ∧ K (takeRes (some s) (σ.kill e) (.own (σ.en e).sz ((σ.en e).elems.take len)))
  | _ => False
theorem reown_told {σ : St} {s : Nat} {K : St → Prop} (h : reown σ s K) : ∃ σ0, told σ σ0 ∧ K σ0 := by
  unfold reown at h
  split at h
  · rename_i e g off len clip hs
    obtain ⟨⟨h1, h2⟩, h3, h4, h5⟩ := h
    refine ⟨_, .inr (.inr ⟨s, e, g, off, len, clip, _, _, _, hs, ?_, rfl⟩), h5⟩
    simp only [St.close, St.cur, h1, h2, Option.bind_eq_bind]
    simp [h4, h3, ensure]
  · cases h
def sameD (o : Oper) (σ σ' : St) : Prop := match o.dst with
  | some d => σ'.sl d = σ.sl d
  | none => True
def stabW (C : Cfg) (D : Spec) : List Oper → St → Prop
  | [], _ => True
  | o :: l, σ => (stlD C o.dst = false ∧ opsW C D true #[] (sameD o σ) [o] σ) ∧ stabW C D l σ
def noStl (C : Cfg) : List Oper → Prop
  | [] => True
  | o :: l => stlD C o.dst = false ∧ noStl C l
def markW (C : Cfg) (D : Spec) (k : Nat) (ops : Array Oper) (K : St → Prop) (σ : St) : Prop :=
  if k = 0 then stabW C D ops.toList σ ∧ K σ else noStl C ops.toList ∧ opsW C D true ops K ops.toList σ
def W (C : Cfg) (D : Spec) : Code → (Ex → St → Prop) → St → Prop
  | .skip, Q, σ => Q .normal σ
  | .seq a b, Q, σ => W C D a (fun e σ' => match e with | .normal => W C D b Q σ' | e => Q e σ') σ
  | .cond c a b, Q, σ => condW σ c (W C D a Q) (W C D b Q)
  | .block id c, Q, σ => W C D c (fun e σ' => match e with | .exit i => if i = id then Q .normal σ' else Q (.exit i) σ' | e => Q e σ') σ
  | .loop c, Q, σ => ∃ (I : St → Prop) (μ : St → Nat), (∃ σ0, told σ σ0 ∧ I σ0) ∧ ∀ σ, I σ → W C D c (fun e σ' => match e with | .normal => ∃ σ0, told σ' σ0 ∧ I σ0 ∧ μ σ0 < μ σ | e => Q e σ') σ
  | .exit id, Q, σ => Q (.exit id) σ
  | .ret, Q, σ => Q .ret σ
  | .region _ ops q, Q, σ => opsW C D q ops (Q .normal) ops.toList σ
  | .scope (.region k ops _), Q, σ => markW C D k ops (Q .normal) σ
  | .scope (.seq a b), Q, σ => W C D a Q σ ∧ W C D b Q σ
  | _, _, _ => False
def St.init (args : List AV) : St :=
  { sl := fun s => args.getD s (.tup [])
    en := fun _ => { live := false, gen := 0, wr := 0, frz := false, sz := 0, elems := [] } }
def St.closeV (σ : St) : AV → Option (AV × St)
  | .agg fs => do
    let (ls, σ1) ← σ.closeL fs
    some (.agg ls, σ1)
  | x => σ.close x
def St.closeVs (σ : St) : List AV → Option (List AV × St)
  | [] => some ([], σ)
  | x :: xs => do
    let (y, σ1) ← σ.closeV x
    let (ys, σ2) ← σ1.closeVs xs
    some (y :: ys, σ2)
def resL (C : Cfg) (σ : St) : List ResultVar → Option (List AV)
  | [] => some []
  | .tmp t :: r => do let xs ← resL C σ r; some (σ.sl t :: xs)
  | .cell a t :: r => do let x ← loadF C σ t (σ.sl a); let xs ← resL C σ r; some (x :: xs)
def retF (C : Cfg) (σ : St) (rs : List ResultVar) : Option AV := do
  let xs ← resL C σ rs
  match xs with
  | [x] => do let (y, _) ← σ.closeV x; some y
  | xs => do let (ys, _) ← σ.closeVs xs; some (.tup ys)
def retQ (C : Cfg) (rs : List ResultVar) (K : AV → Prop) : Ex → St → Prop
  | .exit _, _ => False
  | _, σ => exP (retF C σ rs) K
end Go.Vm
end
section
/- How the abstract state stands for the machine's. -/
namespace Go.Vm
def All2 {α β : Type} (R : α → β → Prop) : List α → List β → Prop
  | [], [] => True
  | a :: as, b :: bs => R a b ∧ All2 R as bs
  | _, _ => False
theorem All2.imp {α β : Type} {R R' : α → β → Prop} (h : ∀ a b, R a b → R' a b) : ∀ {as : List α} {bs : List β}, All2 R as bs → All2 R' as bs
  | [], [], _ => trivial
  | _ :: _, _ :: _, ⟨h1, h2⟩ => ⟨h _ _ h1, All2.imp h h2⟩
  | [], _ :: _, h => h.elim
  | _ :: _, [], h => h.elim
theorem All2.length {α β : Type} {R : α → β → Prop} : ∀ {as : List α} {bs : List β}, All2 R as bs → as.length = bs.length
  | [], [], _ => rfl
  | _ :: _, _ :: _, ⟨_, h2⟩ => by simp [All2.length h2]
  | [], _ :: _, h => h.elim
  | _ :: _, [], h => h.elim
theorem All2.get {α β : Type} {R : α → β → Prop} : ∀ {as : List α} {bs : List β} {i : Nat} {b : β}, All2 R as bs → bs[i]? = some b → ∃ a, as[i]? = some a ∧ R a b
  | _ :: _, _ :: _, 0, _, ⟨h1, _⟩, h => by simp at h; subst h; exact ⟨_, rfl, h1⟩
  | _ :: _, _ :: _, i + 1, _, ⟨_, h2⟩, h => by simpa using All2.get h2 (by simpa using h)
  | [], [], _, _, _, h => by simp at h
  | [], _ :: _, _, _, h, _ => h.elim
  | _ :: _, [], _, _, h, _ => h.elim
theorem All2.mk {α β : Type} {R : α → β → Prop} : ∀ {as : List α} {bs : List β}, as.length = bs.length → (∀ (i : Nat) (a : α) (b : β), as[i]? = some a → bs[i]? = some b → R a b) → All2 R as bs
  | [], [], _, _ => trivial
  | a :: as, b :: bs, hl, h => ⟨h 0 a b rfl rfl, All2.mk (by simpa using hl) fun i x y hx hy => h (i + 1) x y (by simpa using hx) (by simpa using hy)⟩
  | [], _ :: _, hl, _ => by simp at hl
  | _ :: _, [], hl, _ => by simp at hl
def sameSize (w w' : World) (b : Nat) : Prop := ∀ cur et fr, w.heap[b]? = some (.cells cur et fr) → ∃ cur', w'.heap[b]? = some (.cells cur' et fr) ∧ cur'.size = cur.size
structure KeptS (w w' : World) (S : Nat → Prop) : Prop where
  os : w'.os = w.os
  tape : w'.tape = w.tape
  output : w'.output = w.output
  size : w.heap.size ≤ w'.heap.size
  block : ∀ b, b < w.heap.size → ¬ S b → w'.heap[b]? = w.heap[b]?
  same : ∀ b, sameSize w w' b
theorem KeptS.refl (w : World) (S : Nat → Prop) : KeptS w w S := ⟨rfl, rfl, rfl, Nat.le_refl _, fun _ _ _ => rfl, fun _ cur _ _ h => ⟨cur, h, rfl⟩⟩
theorem KeptS.trans {w w1 w2 : World} {S T : Nat → Prop} (h : KeptS w w1 S) (k : KeptS w1 w2 T) (hT : ∀ b, b < w.heap.size → T b → S b) : KeptS w w2 S :=
  ⟨k.os.trans h.os, k.tape.trans h.tape, k.output.trans h.output, Nat.le_trans h.size k.size, fun b hb hs => (k.block b (Nat.lt_of_lt_of_le hb h.size) (fun ht => hs (hT b hb ht))).trans (h.block b hb hs),
    fun b cur et fr hb => let ⟨cur1, h1, e1⟩ := h.same b cur et fr hb; let ⟨cur2, h2, e2⟩ := k.same b cur1 et fr h1; ⟨cur2, h2, e2.trans e1⟩⟩
def MapRep (es : Array MapEntry) (l : List (Int × Bool)) : Prop := es.toList.map (fun e => (e.key, e.val)) = l.map fun p => (Value.int .i64 p.1, Value.bool p.2)
def MapEnt (F : Nat → Prop) (w : World) (E : Ent) (m : Option Nat) (f : List Nat) : Prop :=
  E.elems = [] ∧ ∃ b es clock, m = some b ∧ w.heap[b]? = some (.map es clock) ∧ ((E.frz = true ∧ f = [] ∧ F b) ∨ (E.frz = false ∧ f = [b]))
theorem MapEnt.noCells {F : Nat → Prop} {w : World} {E : Ent} {m : Option Nat} {f : List Nat} (h : MapEnt F w E m f) {b : Nat} {cur : Array Value} {et : TypeId} {fr : Nat × Nat} (hm : m = some b) (hb : w.heap[b]? = some (.cells cur et fr)) : False := by
  obtain ⟨_, b', es, clock, h1, h2, _⟩ := h
  rw [h1] at hm; cases hm
  rw [hb] at h2; cases h2
theorem MapEnt.mono {F F' : Nat → Prop} {w w' : World} {E : Ent} {m : Option Nat} {f : List Nat} (h : MapEnt F w E m f) (hF : ∀ b, F b → F' b) (hk : ∀ b, F b ∨ b ∈ f → w'.heap[b]? = w.heap[b]?) : MapEnt F' w' E m f := by
  obtain ⟨h0, b, es, clock, h1, h2, h3⟩ := h
  refine ⟨h0, b, es, clock, h1, ?_, h3.imp (fun ⟨a, b, c⟩ => ⟨a, b, hF _ c⟩) id⟩
  rw [hk b (h3.elim (fun h => .inl h.2.2) (fun h => .inr (by rw [h.2]; simp)))]
  exact h2
theorem MapEnt.frozen {F : Nat → Prop} {w : World} {E : Ent} {m : Option Nat} {f : List Nat} (h : MapEnt F w E m f) (hf : E.frz = true) : f = [] := by
  obtain ⟨_, _, _, _, _, _, h | h⟩ := h
  · exact h.2.1
  · rw [hf] at h; cases h.1
def EntRep (F : Nat → Prop) (w : World) (E : Ent) (m : Option Nat) (f : List Nat) : Prop :=
  (∀ a ∈ E.elems, (leaves a).length = E.sz) ∧
  ((m = none ∧ E.elems = [] ∧ f = []) ∨
   (∃ b cur et fr us f1, m = some b ∧ w.heap[b]? = some (.cells cur et fr) ∧ (∀ q, q < us.length → cur[q]? = us[q]?) ∧ RepL F w us (E.elems.flatMap leaves) f1 ∧
     ((E.frz = true ∧ f = [] ∧ f1 = [] ∧ F b) ∨ (E.frz = false ∧ fr = (0, 0) ∧ f = b :: f1))) ∨
   MapEnt F w E m f)
def isCells (w : World) (b : Nat) : Prop := ∃ cur et fr, w.heap[b]? = some (.cells cur et fr)
def SLeaf (F : Nat → Prop) (w : World) (en : Nat → Ent) (μ : Nat → Option Nat) (fp : Nat → List Nat) (v : Value) : AV → Prop
  | .hd e g off len clip => g ≤ (en e).gen ∧ ((en e).live = true → (en e).gen = g → ∃ A c, v = .slice A len c ∧ len ≤ c ∧ (clip = true → c = len) ∧ (clip = false → (en e).elems.length ≤ off + c) ∧
      (0 < c → ∃ b cur et fr, μ e = some b ∧ A = some ⟨b, off * (en e).sz, none⟩ ∧ w.heap[b]? = some (.cells cur et fr) ∧ (off + c) * (en e).sz ≤ cur.size))
  | .ptr e g i j => g ≤ (en e).gen ∧ ((en e).live = true → (en e).gen = g → ∃ b, μ e = some b ∧ v = .pointer (some ⟨b, i * (en e).sz + j, none⟩) ∧ isCells w b)
  | .fro (some (e, wv, o)) clip l => wv ≤ (en e).wr ∧ ((en e).live = true → (en e).wr = wv → RepL (fun b => F b ∨ b ∈ fp e) w [v] [.fro none clip (l.map froize)] [] ∧
      ((en e).frz = false → ∀ i j, o = some (i, j) → ∃ z b cur et fr sz, (en e).elems[i]? = some z ∧ (leaves z)[j]? = some (.own sz l) ∧ μ e = some b ∧ w.heap[b]? = some (.cells cur et fr) ∧ cur[i * (en e).sz + j]? = some v))
  | .cptr (some (e, wv)) c => wv ≤ (en e).wr ∧ ((en e).live = true → (en e).wr = wv → RepL (fun b => F b ∨ b ∈ fp e) w [v] [.cptr none (c.map froize)] [])
  | .np e wv i j k q => wv ≤ (en e).wr ∧ ((en e).live = true → (en e).wr = wv → (en e).frz = false → ∃ v0 clip l g o' n c sz z b cur et fr, RepL (fun b => F b ∨ b ∈ fp e) w [v0] [.fro none clip (l.map froize)] [] ∧
      (en e).elems[i]? = some z ∧ (leaves z)[j]? = some (.own sz l) ∧ μ e = some b ∧ w.heap[b]? = some (.cells cur et fr) ∧ cur[i * (en e).sz + j]? = some v0 ∧ v0 = .slice (some ⟨g, o', none⟩) n c ∧ v = .pointer (some ⟨g, o' + k * sz + q, none⟩))
  | .mp e wv l => wv ≤ (en e).wr ∧ ((en e).live = true → (en e).wr = wv → ∃ b es clock, v = .map (some b) ∧ w.heap[b]? = some (.map es clock) ∧ MapRep es l ∧ ((en e).frz = false → μ e = some b) ∧ (b ∈ fp e ∨ F b))
  | .agg _ => False
  | .tup _ => False
  | .own _ _ => False
  | .pt _ _ _ _ => False
  | x => RepL F w [v] [x] []
def SAgg (F : Nat → Prop) (w : World) (en : Nat → Ent) (μ : Nat → Option Nat) (fp : Nat → List Nat) (v : Value) : AV → Prop
  | .agg fs => ∃ cs : Array Value, v = .agg cs ∧ All2 (SLeaf F w en μ fp) cs.toList fs
  | x => SLeaf F w en μ fp v x
def SRep (F : Nat → Prop) (w : World) (en : Nat → Ent) (μ : Nat → Option Nat) (fp : Nat → List Nat) (v : Value) : AV → Prop
  | .tup vs => ∃ us : Array Value, v = .tuple us ∧ All2 (SAgg F w en μ fp) us.toList vs
  | .pt _ _ _ _ => True
  | x => SAgg F w en μ fp v x
structure Step (F : Nat → Prop) (w : World) (en : Nat → Ent) (μ : Nat → Option Nat) (fp : Nat → List Nat) (F' : Nat → Prop) (w' : World) (en' : Nat → Ent) (μ' : Nat → Option Nat) (fp' : Nat → List Nat) : Prop where
  hF : ∀ b, F b → F' b
  hw : ∀ b, F b → w'.heap[b]? = w.heap[b]?
  gen : ∀ e, (en e).gen ≤ (en' e).gen
  wr : ∀ e, (en e).wr ≤ (en' e).wr
  same : ∀ e, (en' e).live = true → (en' e).gen = (en e).gen → (en e).live = true ∧ μ' e = μ e ∧ (en' e).sz = (en e).sz ∧ (en' e).elems.length ≤ (en e).elems.length ∧ ∀ b, μ e = some b → sameSize w w' b
  seen : ∀ e, (en' e).live = true → (en' e).wr = (en e).wr → (en e).live = true ∧ (∀ b ∈ fp e, w'.heap[b]? = w.heap[b]? ∧ (b ∈ fp' e ∨ F' b)) ∧
    ((en' e).frz = false → (en e).frz = false ∧ (en' e).elems = (en e).elems ∧ (en' e).sz = (en e).sz ∧ μ' e = μ e ∧ ∀ b, μ e = some b → w'.heap[b]? = w.heap[b]?)
theorem Step.refl (F : Nat → Prop) (w : World) (en : Nat → Ent) (μ : Nat → Option Nat) (fp : Nat → List Nat) : Step F w en μ fp F w en μ fp :=
  ⟨fun _ h => h, fun _ _ => rfl, fun _ => Nat.le_refl _, fun _ => Nat.le_refl _, fun _ h _ => ⟨h, rfl, rfl, Nat.le_refl _, fun _ _ cur _ _ h => ⟨cur, h, rfl⟩⟩,
    fun _ h _ => ⟨h, fun _ hb => ⟨rfl, .inl hb⟩, fun h => ⟨h, rfl, rfl, rfl, fun _ _ => rfl⟩⟩⟩
section
variable {F F' : Nat → Prop} {w w' : World} {en en' : Nat → Ent} {μ μ' : Nat → Option Nat} {fp fp' : Nat → List Nat}
theorem SLeaf.step (st : Step F w en μ fp F' w' en' μ' fp') {v : Value} {x : AV} (h : SLeaf F w en μ fp v x) : SLeaf F' w' en' μ' fp' v x := by
  have plain : ∀ x, RepL F w [v] [x] [] → RepL F' w' [v] [x] [] := fun x h => h.mono st.hF fun b hb => st.hw b (by simpa using hb)
  cases x with
  | hd e g off len clip =>
    obtain ⟨hg, h⟩ := h
    refine ⟨Nat.le_trans hg (st.gen e), fun hl he => ?_⟩
    have hge : (en' e).gen = (en e).gen := by have := st.gen e; omega
    obtain ⟨hl0, hμ, hsz, hN, hb⟩ := st.same e hl hge
    obtain ⟨A, c, rfl, hlc, hcl, hnc, hc⟩ := h hl0 (by omega)
    refine ⟨A, c, rfl, hlc, hcl, fun h => by have := hnc h; omega, fun hc0 => ?_⟩
    obtain ⟨b, cur, et, fr, hμe, rfl, hblk, hcap⟩ := hc hc0
    obtain ⟨cur', hblk', hcs⟩ := hb b hμe cur et fr hblk
    exact ⟨b, cur', et, fr, by rw [hμ, hμe], by rw [hsz], hblk', by rw [hsz, hcs]; exact hcap⟩
  | ptr e g i j =>
    obtain ⟨hg, h⟩ := h
    refine ⟨Nat.le_trans hg (st.gen e), fun hl he => ?_⟩
    have hge : (en' e).gen = (en e).gen := by have := st.gen e; omega
    obtain ⟨hl0, hμ, hsz, _, hsame⟩ := st.same e hl hge
    obtain ⟨b, hμe, rfl, cur, et, fr, hc⟩ := h hl0 (by omega)
    obtain ⟨cur', hc', _⟩ := hsame b hμe cur et fr hc
    exact ⟨b, by rw [hμ, hμe], by rw [hsz], cur', et, fr, hc'⟩
  | fro tg clip l =>
    cases tg with
    | none => exact plain _ h
    | some tg =>
      obtain ⟨e, wv, o⟩ := tg
      obtain ⟨hg, h⟩ := h
      refine ⟨Nat.le_trans hg (st.wr e), fun hl he => ?_⟩
      have hwe : (en' e).wr = (en e).wr := by have := st.wr e; omega
      obtain ⟨hl0, hfp, ho⟩ := st.seen e hl hwe
      obtain ⟨h1, h2⟩ := h hl0 (by omega)
      refine ⟨h1.mono (fun b hb => ?_) (fun b hb => ?_), fun hfz i j hij => ?_⟩
      · rcases hb with hb | hb
        · exact .inl (st.hF b hb)
        · exact (hfp b hb).2.symm
      · rcases hb with (hb | hb) | hb
        · exact st.hw b hb
        · exact (hfp b hb).1
        · simp at hb
      · obtain ⟨hfz0, hel, hsz, hμ, hb⟩ := ho hfz
        obtain ⟨z, b, cur, et, fr, sz, e1, e2, e3, e4, e5⟩ := h2 hfz0 i j hij
        exact ⟨z, b, cur, et, fr, sz, by rw [hel]; exact e1, e2, by rw [hμ, e3], by rw [hb b e3]; exact e4, by rw [hsz]; exact e5⟩
  | cptr tg c =>
    cases tg with
    | none => exact plain _ h
    | some tg =>
      obtain ⟨e, wv⟩ := tg
      obtain ⟨hg, h⟩ := h
      refine ⟨Nat.le_trans hg (st.wr e), fun hl he => ?_⟩
      have hwe : (en' e).wr = (en e).wr := by have := st.wr e; omega
      obtain ⟨hl0, hfp, _⟩ := st.seen e hl hwe
      refine (h hl0 (by omega)).mono (fun b hb => ?_) (fun b hb => ?_)
      · rcases hb with hb | hb
        · exact .inl (st.hF b hb)
        · exact (hfp b hb).2.symm
      · rcases hb with (hb | hb) | hb
        · exact st.hw b hb
        · exact (hfp b hb).1
        · simp at hb
  | np e wv i j k =>
    obtain ⟨hg, h⟩ := h
    refine ⟨Nat.le_trans hg (st.wr e), fun hl he hfz => ?_⟩
    have hwe : (en' e).wr = (en e).wr := by have := st.wr e; omega
    obtain ⟨hl0, hfp, ho⟩ := st.seen e hl hwe
    obtain ⟨hfz0, hel, hsz, hμ, hb⟩ := ho hfz
    obtain ⟨v0, clip, l, g, o', n, c, sz, z, b, cur, et, fr, h1, e1, e2, e3, e4, e5, e6, e7⟩ := h hl0 (by omega) hfz0
    refine ⟨v0, clip, l, g, o', n, c, sz, z, b, cur, et, fr, h1.mono (fun b hb => ?_) (fun b hb => ?_), by rw [hel]; exact e1, e2, by rw [hμ, e3], by rw [hb b e3]; exact e4, by rw [hsz]; exact e5, e6, e7⟩
    · rcases hb with hb | hb
      · exact .inl (st.hF b hb)
      · exact (hfp b hb).2.symm
    · rcases hb with (hb | hb) | hb
      · exact st.hw b hb
      · exact (hfp b hb).1
      · simp at hb
  | mp e wv l =>
    obtain ⟨hg, h⟩ := h
    refine ⟨Nat.le_trans hg (st.wr e), fun hl he => ?_⟩
    have hwe : (en' e).wr = (en e).wr := by have := st.wr e; omega
    obtain ⟨hl0, hfp, ho⟩ := st.seen e hl hwe
    obtain ⟨b, es, clock, h1, h2, h3, h4, h5⟩ := h hl0 (by omega)
    refine ⟨b, es, clock, h1, ?_, h3, fun hfz => ?_, ?_⟩
    · rcases h5 with h5 | h5
      · rw [(hfp b h5).1]; exact h2
      · rw [st.hw b h5]; exact h2
    · obtain ⟨hfz0, _, _, hμ, _⟩ := ho hfz
      rw [hμ]; exact h4 hfz0
    · rcases h5 with h5 | h5
      · exact (hfp b h5).2
      · exact .inr (st.hF b h5)
  | und => exact plain _ h
  | int => exact plain _ h
  | bool => exact plain _ h
  | str => exact plain _ h
  | clo => exact plain _ h
  | agg => exact h
  | tup => exact h
  | own => exact h
  | pt => exact h
theorem SAgg.step (st : Step F w en μ fp F' w' en' μ' fp') {v : Value} {x : AV} (h : SAgg F w en μ fp v x) : SAgg F' w' en' μ' fp' v x := by
  cases x with
  | agg fs => exact let ⟨cs, e, h⟩ := h; ⟨cs, e, h.imp fun _ _ => SLeaf.step st⟩
  | _ => simp only [SAgg] at h ⊢; exact SLeaf.step st h
theorem SRep.step (st : Step F w en μ fp F' w' en' μ' fp') {v : Value} {x : AV} (h : SRep F w en μ fp v x) : SRep F' w' en' μ' fp' v x := by
  cases x with
  | tup vs => exact let ⟨us, e, h⟩ := h; ⟨us, e, h.imp fun _ _ => SAgg.step st⟩
  | pt => trivial
  | _ => simp only [SRep] at h ⊢; exact SAgg.step st h
end
structure Rel (n : Nat) (w0 : World) (F0 S0 : Nat → Prop) (G : Value → AV → Prop) (F : Nat → Prop) (μ : Nat → Option Nat) (fp : Nat → List Nat) (L : List Nat) (σ : St) (a : Act) (w : World) : Prop where
  defers : a.defers = []
  size : a.tmps.size = n
  kept : KeptS w0 w S0
  base : ∀ b, F0 b → F b
  free : ∀ b, F b → b < w.heap.size ∧ (F0 b ∨ S0 b ∨ w0.heap.size ≤ b)
  ent : ∀ e, (σ.en e).live = true → EntRep F w (σ.en e) (μ e) (fp e)
  own : ∀ e, (σ.en e).live = true → ∀ b ∈ fp e, ¬ F b ∧ b < w.heap.size ∧ (S0 b ∨ w0.heap.size ≤ b)
  nodup : ∀ e, (σ.en e).live = true → (fp e).Nodup
  apart : ∀ e e', (σ.en e).live = true → (σ.en e').live = true → e ≠ e' → ∀ b ∈ fp e, b ∉ fp e'
  loose : ∀ b ∈ L, ¬ F b ∧ b < w.heap.size ∧ (S0 b ∨ w0.heap.size ≤ b) ∧ ∀ e, (σ.en e).live = true → b ∉ fp e
  looseNodup : L.Nodup
  slots : ∀ s, SRep F w σ.en μ fp (a.tmps.getD s undef) (σ.sl s)
  ghost : ∀ v x, G v x → SLeaf F w σ.en μ fp v x
end Go.Vm
end
section
/- Steps of the abstract state and the machine's, side by side. -/
namespace Go.Vm
section
variable {n : Nat} {w0 : World} {F0 S0 F : Nat → Prop} {G : Value → AV → Prop} {μ : Nat → Option Nat} {fp : Nat → List Nat} {L : List Nat} {σ : St} {a : Act} {w : World}
theorem upd_same {α : Type} (f : Nat → α) (i : Nat) (v : α) : upd f i v i = v := by simp [upd]
theorem upd_ne {α : Type} (f : Nat → α) (i j : Nat) (v : α) (h : j ≠ i) : upd f i v j = f j := by simp [upd, h]

theorem Rel.put (h : Rel n w0 F0 S0 G F μ fp L σ a w) {d : Nat} (hd : d < n) {v : Value} {x : AV} (hx : SRep F w σ.en μ fp v x) :
    Rel n w0 F0 S0 G F μ fp L (σ.put (some d) x) (a.put (some d) v) w := by
  refine ⟨h.defers, by simp [Act.put, h.size], h.kept, h.base, h.free, h.ent, h.own, h.nodup, h.apart, h.loose, h.looseNodup, fun s => ?_, h.ghost⟩
  by_cases hs : s = d
  · subst hs
    have : (a.put (some s) v).tmps.getD s undef = v := by
      have hlt : s < a.tmps.size := by rw [h.size]; exact hd
      simp [Act.put, hlt]
    rw [this]
    simpa [St.put, upd] using hx
  · have : (a.put (some d) v).tmps.getD s undef = a.tmps.getD s undef := by
      simp only [Act.put, Array.getD_eq_getD_getElem?]
      rw [Array.getElem?_setIfInBounds_ne (Ne.symm hs)]
    rw [this]
    simpa [St.put, upd, hs] using h.slots s
theorem Rel.move (h : Rel n w0 F0 S0 G F μ fp L σ a w) {F' : Nat → Prop} {w' : World} {en' : Nat → Ent} {μ' : Nat → Option Nat} {fp' : Nat → List Nat} {L' : List Nat}
    (st : Step F w σ.en μ fp F' w' en' μ' fp') (kept : KeptS w w' (fun b => S0 b ∨ w0.heap.size ≤ b))
    (free : ∀ b, F' b → b < w'.heap.size ∧ (F0 b ∨ S0 b ∨ w0.heap.size ≤ b))
    (ent : ∀ e, (en' e).live = true → EntRep F' w' (en' e) (μ' e) (fp' e))
    (own : ∀ e, (en' e).live = true → ∀ b ∈ fp' e, ¬ F' b ∧ b < w'.heap.size ∧ (S0 b ∨ w0.heap.size ≤ b))
    (nodup : ∀ e, (en' e).live = true → (fp' e).Nodup)
    (apart : ∀ e e', (en' e).live = true → (en' e').live = true → e ≠ e' → ∀ b ∈ fp' e, b ∉ fp' e')
    (loose : ∀ b ∈ L', ¬ F' b ∧ b < w'.heap.size ∧ (S0 b ∨ w0.heap.size ≤ b) ∧ ∀ e, (en' e).live = true → b ∉ fp' e)
    (looseNodup : L'.Nodup) : Rel n w0 F0 S0 G F' μ' fp' L' { σ with en := en' } a w' :=
  ⟨h.defers, h.size, h.kept.trans kept (fun b hb hT => hT.resolve_right (by omega)), fun b hb => st.hF b (h.base b hb), free, ent, own, nodup, apart, loose, looseNodup, fun s => (h.slots s).step st, fun v x hg => (h.ghost v x hg).step st⟩
theorem Rel.drop (h : Rel n w0 F0 S0 G F μ fp L σ a w) {L' : List Nat} (hs : L'.Sublist L) : Rel n w0 F0 S0 G F μ fp L' σ a w :=
  ⟨h.defers, h.size, h.kept, h.base, h.free, h.ent, h.own, h.nodup, h.apart, fun b hb => h.loose b (hs.subset hb), h.looseNodup.sublist hs, h.slots, h.ghost⟩
theorem Rel.perm (h : Rel n w0 F0 S0 G F μ fp L σ a w) {L' : List Nat} (hs : L'.Perm L) : Rel n w0 F0 S0 G F μ fp L' σ a w :=
  ⟨h.defers, h.size, h.kept, h.base, h.free, h.ent, h.own, h.nodup, h.apart, fun b hb => h.loose b (hs.subset hb), hs.nodup_iff.2 h.looseNodup, h.slots, h.ghost⟩
theorem Rel.world (h : Rel n w0 F0 S0 G F μ fp L σ a w) {w' : World} (hh : w'.heap = w.heap) (ho : w'.os = w.os) (ht : w'.tape = w.tape) (hp : w'.output = w.output) : Rel n w0 F0 S0 G F μ fp L σ a w' := by
  have e : ∀ b : Nat, w'.heap[b]? = w.heap[b]? := fun b => by rw [hh]
  have st : Step F w σ.en μ fp F w' σ.en μ fp := ⟨fun _ h => h, fun _ _ => e _, fun _ => Nat.le_refl _, fun _ => Nat.le_refl _,
    fun _ h _ => ⟨h, rfl, rfl, Nat.le_refl _, fun b _ cur _ _ h => ⟨cur, (e b).trans h, rfl⟩⟩, fun _ h _ => ⟨h, fun _ hb => ⟨e _, .inl hb⟩, fun h => ⟨h, rfl, rfl, rfl, fun _ _ => e _⟩⟩⟩
  have := h.move (L' := L) st ⟨ho, ht, hp, by rw [hh]; exact Nat.le_refl _, fun b _ _ => e b, fun b cur _ _ h => ⟨cur, (e b).trans h, rfl⟩⟩ (by rw [hh]; exact h.free)
    (fun e' hl => by
      obtain ⟨h1, h2⟩ := h.ent e' hl
      refine ⟨h1, h2.imp id ?_⟩
      rintro (⟨b, cur, et, fr, us, f1, e1, e2, e3, e4, e5⟩ | hm)
      · exact .inl ⟨b, cur, et, fr, us, f1, e1, (e b).trans e2, e3, e4.mono (fun _ h => h) (fun b _ => e b), e5⟩
      · exact .inr (hm.mono (fun _ h => h) (fun b _ => e b)))
    (by rw [hh]; exact h.own) h.nodup h.apart (by rw [hh]; exact h.loose) h.looseNodup
  exact this
theorem Rel.kill (h : Rel n w0 F0 S0 G F μ fp L σ a w) (e : Nat) (hl : (σ.en e).live = true) : Rel n w0 F0 S0 G F μ fp (fp e ++ L) (σ.kill e) a w ∧ Step F w σ.en μ fp F w (σ.kill e).en μ fp := by
  have live' : ∀ e', ((upd σ.en e { σ.en e with live := false }) e').live = true → e' ≠ e ∧ (σ.en e').live = true ∧ (upd σ.en e { σ.en e with live := false }) e' = σ.en e' := by
    intro e' h'
    by_cases he : e' = e
    · subst he; simp [upd] at h'
    · simp [upd, he] at h' ⊢; exact h'
  have st : Step F w σ.en μ fp F w (σ.kill e).en μ fp := by
    refine ⟨fun _ h => h, fun _ _ => rfl, fun e' => ?_, fun e' => ?_, fun e' h' _ => ?_, fun e' h' _ => ?_⟩
    · by_cases he : e' = e
      · subst he; simp [St.kill, St.ent, upd]
      · simp [St.kill, St.ent, upd, he]
    · by_cases he : e' = e
      · subst he; simp [St.kill, St.ent, upd]
      · simp [St.kill, St.ent, upd, he]
    · obtain ⟨_, h1, h2⟩ := live' e' h'
      exact ⟨h1, rfl, congrArg Ent.sz h2, by have := congrArg (fun E => E.elems.length) h2; exact Nat.le_of_eq this, fun _ _ cur _ _ h => ⟨cur, h, rfl⟩⟩
    · obtain ⟨_, h1, h2⟩ := live' e' h'
      refine ⟨h1, fun _ hb => ⟨rfl, .inl hb⟩, fun hf => ?_⟩
      have h2' : (σ.kill e).en e' = σ.en e' := h2
      rw [h2'] at hf ⊢
      exact ⟨hf, rfl, rfl, rfl, fun _ _ => rfl⟩
  refine ⟨h.move st (KeptS.refl _ _) h.free (fun e' h' => ?_) (fun e' h' => ?_) (fun e' h' => ?_) (fun e' e2 h' h2 hne => ?_) (fun b hb => ?_) ?_, st⟩
  · obtain ⟨_, h1, h2⟩ := live' e' h'
    have h2' : (σ.kill e).en e' = σ.en e' := h2
    show EntRep F w ((σ.kill e).en e') _ _
    rw [h2']; exact h.ent e' h1
  · exact h.own e' (live' e' h').2.1
  · exact h.nodup e' (live' e' h').2.1
  · exact h.apart e' e2 (live' e' h').2.1 (live' e2 h2).2.1 hne
  · rcases List.mem_append.1 hb with hb | hb
    · obtain ⟨h1, h2, h3⟩ := h.own e hl b hb
      exact ⟨h1, h2, h3, fun e' h' => h.apart e e' hl (live' e' h').2.1 (Ne.symm (live' e' h').1) b hb⟩
    · obtain ⟨h1, h2, h3, h4⟩ := h.loose b hb
      exact ⟨h1, h2, h3, fun e' h' => h4 e' (live' e' h').2.1⟩
  · exact List.nodup_append.2 ⟨h.nodup e hl, h.looseNodup, fun x hx y hy hxy => (h.loose y hy).2.2.2 e hl (hxy ▸ hx)⟩
theorem Rel.freeze (h : Rel n w0 F0 S0 G F μ fp L σ a w) (e : Nat) (hl : (σ.en e).live = true) (hf : (σ.en e).frz = false) :
    Rel n w0 F0 S0 G (fun b => F b ∨ b ∈ fp e) μ (upd fp e []) L (σ.freeze e) a w ∧ Step F w σ.en μ fp (fun b => F b ∨ b ∈ fp e) w (σ.freeze e).en μ (upd fp e []) := by
  have en' : ∀ e', e' ≠ e → (σ.freeze e).en e' = σ.en e' := fun e' he => by simp [St.freeze, St.ent, upd, he]
  have ene : (σ.freeze e).en e = { σ.en e with frz := true, elems := (σ.en e).elems.map froize } := by simp [St.freeze, St.ent, upd]
  have fpn : ∀ e', e' ≠ e → upd fp e [] e' = fp e' := fun e' he => by simp [upd, he]
  have fpe : upd fp e [] e = [] := by simp [upd]
  have live' : ∀ e', ((σ.freeze e).en e').live = (σ.en e').live := fun e' => by
    by_cases he : e' = e
    · subst he; rw [ene]
    · rw [en' e' he]
  have st : Step F w σ.en μ fp (fun b => F b ∨ b ∈ fp e) w (σ.freeze e).en μ (upd fp e []) := by
    refine ⟨fun _ h => .inl h, fun _ _ => rfl, fun e' => ?_, fun e' => ?_, fun e' h' _ => ?_, fun e' h' _ => ?_⟩
    · by_cases he : e' = e
      · subst he; rw [ene]; exact Nat.le_refl _
      · rw [en' e' he]; exact Nat.le_refl _
    · by_cases he : e' = e
      · subst he; rw [ene]; exact Nat.le_refl _
      · rw [en' e' he]; exact Nat.le_refl _
    · rw [live'] at h'
      by_cases he : e' = e
      · subst he; rw [ene]; exact ⟨h', rfl, rfl, by simp, fun _ _ cur _ _ h => ⟨cur, h, rfl⟩⟩
      · rw [en' e' he]; exact ⟨h', rfl, rfl, Nat.le_refl _, fun _ _ cur _ _ h => ⟨cur, h, rfl⟩⟩
    · rw [live'] at h'
      by_cases he : e' = e
      · subst he; exact ⟨h', fun b hb => ⟨rfl, .inr (.inr hb)⟩, fun hx => by rw [ene] at hx; simp at hx⟩
      · exact ⟨h', fun b hb => ⟨rfl, .inl (by rw [fpn e' he]; exact hb)⟩, fun hx => by rw [en' e' he] at hx ⊢; exact ⟨hx, rfl, rfl, rfl, fun _ _ => rfl⟩⟩
  refine ⟨h.move (en' := (σ.freeze e).en) st (KeptS.refl _ _) (fun b hb => ?_) (fun e' h' => ?_) (fun e' h' b hb => ?_) (fun e' h' => ?_) (fun e' e2 h' h2 hne b hb => ?_) (fun b hb => ?_) h.looseNodup, st⟩
  · rcases hb with hb | hb
    · exact h.free b hb
    · obtain ⟨_, h2, h3⟩ := h.own e hl b hb; exact ⟨h2, .inr h3⟩
  · rw [live'] at h'
    by_cases he : e' = e
    · subst he
      rw [ene, fpe]
      obtain ⟨h1, h2⟩ := h.ent e' h'
      refine ⟨fun x hx => ?_, ?_⟩
      · obtain ⟨y, hy, rfl⟩ := List.mem_map.1 hx
        rw [leaves_froize]; simpa using h1 y hy
      · rcases h2 with ⟨e1, e2, e3⟩ | ⟨b, cur, et, fr, us, f1, e1, e2, e3, e4, e5⟩ | ⟨k0, b, es, clock, k1, k2, k3⟩
        rotate_left 2
        · rcases k3 with ⟨k3, _⟩ | ⟨_, k3⟩
          · rw [hf] at k3; cases k3
          · exact .inr (.inr ⟨by simp [k0], b, es, clock, k1, k2, .inl ⟨rfl, rfl, .inr (by rw [k3]; simp)⟩⟩)
        · exact .inl ⟨e1, by simp [e2], rfl⟩
        · rcases e5 with ⟨e5, _⟩ | ⟨_, e6, e7⟩
          · rw [hf] at e5; cases e5
          · refine .inr <| .inl ⟨b, cur, et, fr, us, [], e1, e2, e3, ?_, .inl ⟨rfl, rfl, rfl, .inr (by rw [e7]; simp)⟩⟩
            rw [flat_froize]
            exact e4.froized.mono (fun b hb => hb.imp id (fun hb => by rw [e7]; simp [hb])) (fun _ _ => rfl)
    · rw [en' e' he, fpn e' he]
      obtain ⟨h1, h2⟩ := h.ent e' h'
      refine ⟨h1, h2.imp id ?_⟩
      rintro (⟨b, cur, et, fr, us, f1, e1, e2, e3, e4, e5⟩ | hm)
      · exact .inl ⟨b, cur, et, fr, us, f1, e1, e2, e3, e4.mono (fun _ h => .inl h) (fun _ _ => rfl), e5.imp (fun ⟨a1, a2, a3, a4⟩ => ⟨a1, a2, a3, .inl a4⟩) id⟩
      · exact .inr (hm.mono (fun _ h => .inl h) (fun _ _ => rfl))
  · rw [live'] at h'
    by_cases he : e' = e
    · subst he; rw [fpe] at hb; cases hb
    · rw [fpn e' he] at hb
      obtain ⟨h1, h2, h3⟩ := h.own e' h' b hb
      exact ⟨fun hx => hx.elim h1 (fun hx => h.apart e' e h' hl he b hb hx), h2, h3⟩
  · rw [live'] at h'
    by_cases he : e' = e
    · subst he; rw [fpe]; exact List.nodup_nil
    · rw [fpn e' he]; exact h.nodup e' h'
  · rw [live'] at h' h2
    by_cases he : e' = e
    · subst he; rw [fpe] at hb; cases hb
    · rw [fpn e' he] at hb
      by_cases he2 : e2 = e
      · subst he2; rw [fpe]; simp
      · rw [fpn e2 he2]; exact h.apart e' e2 h' h2 hne b hb
  · obtain ⟨h1, h2, h3, h4⟩ := h.loose b hb
    refine ⟨fun hx => hx.elim h1 (h4 e hl), h2, h3, fun e' h' => ?_⟩
    rw [live'] at h'
    by_cases he : e' = e
    · subst he; rw [fpe]; simp
    · rw [fpn e' he]; exact h4 e' h'
theorem Rel.close (h : Rel n w0 F0 S0 G F μ fp L σ a w) {v : Value} {x y : AV} {σ' : St} (hx : SLeaf F w σ.en μ fp v x) (hc : σ.close x = some (y, σ')) :
    ∃ F' fp' f, Rel n w0 F0 S0 G F' μ fp' (f ++ L) σ' a w ∧ RepL F' w [v] [y] f ∧ (∀ b, F b → F' b) ∧ (∀ v x, SLeaf F w σ.en μ fp v x → SLeaf F' w σ'.en μ fp' v x) ∧ σ'.sl = σ.sl := by
  have plain : ∀ x, RepL F w [v] [x] [] → some (x, σ) = some (y, σ') → ∃ F' fp' f, Rel n w0 F0 S0 G F' μ fp' (f ++ L) σ' a w ∧ RepL F' w [v] [y] f ∧ (∀ b, F b → F' b) ∧ (∀ v x, SLeaf F w σ.en μ fp v x → SLeaf F' w σ'.en μ fp' v x) ∧ σ'.sl = σ.sl := by
    intro x hr he
    simp only [Option.some.injEq, Prod.mk.injEq] at he
    obtain ⟨rfl, rfl⟩ := he
    exact ⟨F, fp, [], h, hr, fun _ h => h, fun _ _ h => h, rfl⟩
  cases x with
  | hd e g off len clip =>
    simp only [St.close, Option.bind_eq_bind, Option.bind_eq_some_iff, St.cur] at hc
    obtain ⟨E, hE, hc⟩ := hc
    split at hE
    case isFalse => cases hE
    case isTrue hlg =>
      obtain ⟨hl, hg⟩ := hlg
      cases hE
      obtain ⟨_, hv⟩ := hx
      obtain ⟨A, c, rfl, hlc, hcl, hN, hA⟩ := hv hl hg
      obtain ⟨h1, h2⟩ := h.ent e hl
      split at hc
      · rename_i hf
        simp only [Option.bind_eq_some_iff, ensure] at hc
        obtain ⟨_, hens, hc⟩ := hc
        split at hens
        case isFalse => cases hens
        case isTrue hlen =>
          simp only [Option.some.injEq, Prod.mk.injEq] at hc
          obtain ⟨rfl, rfl⟩ := hc
          refine ⟨F, fp, [], h, ?_, fun _ h => h, fun _ _ h => h, rfl⟩
          have hnil : (σ.en e).elems = [] → RepL F w [.slice A len c] [.fro none clip (((σ.en e).elems.drop off).take len)] [] := fun e2 => by
            rw [e2] at hlen ⊢
            simp at hlen
            obtain ⟨rfl, rfl⟩ := hlen
            simpa using RepL.fro0 (fun hc => by simpa using hcl hc) .nil
          rcases h2 with ⟨_, e2, _⟩ | ⟨b, cur, et, fr, us, f1, e1, e2, e3, e4, e5⟩ | ⟨e2, _⟩
          rotate_left 2
          · exact hnil e2
          · exact hnil e2
          · rcases e5 with ⟨_, e6, rfl, hFb⟩ | ⟨e5, _⟩
            case inr => rw [hf] at e5; cases e5
            obtain ⟨fa, fb, fc, hf0, hsub⟩ := e4.sub off len h1
            have : fb = [] := by
              have e0 := congrArg List.length hf0
              simp only [List.length_nil, List.length_append] at e0
              exact List.eq_nil_of_length_eq_zero (by omega)
            subst this
            rcases Nat.eq_zero_or_pos len with h0 | h0
            · subst h0
              simpa using RepL.fro0 (F := F) (w := w) (A := A) (c := c) (clip := clip) (fun hc => by simpa using hcl hc) .nil
            · obtain ⟨b', cur', et', fr', e1', rfl, e2', hcap⟩ := hA (by omega)
              rw [e1] at e1'; cases e1'
              rw [e2] at e2'; cases e2'
              have hul := e4.length
              rw [flat_length h1] at hul
              refine .fro (sz := (σ.en e).sz) (by simp; omega) hlc hcl hFb (fun q hq => ?_) (fun a ha => h1 a (List.mem_of_mem_drop (List.mem_of_mem_take ha))) hsub .nil
              simp only [List.length_take, List.length_drop] at hq
              simp only [World.cell?, e2, List.getElem?_take, List.getElem?_drop]
              rw [if_neg (by simp), if_pos (by omega)]
              exact e3 _ (by omega)
      · rename_i hf
        have hf : (σ.en e).frz = false := by simpa using hf
        simp only [Option.bind_eq_some_iff, ensure] at hc
        obtain ⟨_, hens, hc⟩ := hc
        split at hens
        case isFalse => cases hens
        case isTrue hlen =>
          simp only [Option.some.injEq, Prod.mk.injEq] at hc
          obtain ⟨rfl, rfl⟩ := hc
          obtain ⟨rfl, hlen⟩ := hlen
          obtain ⟨hk, hst⟩ := h.kill e hl
          rcases Nat.eq_zero_or_pos c with h0 | h0
          · subst h0
            have : len = 0 := by omega
            subst this
            exact ⟨F, fp, [], hk.drop (by simp), by simpa using RepL.own0 .nil, fun _ h => h, fun _ _ => SLeaf.step hst, rfl⟩
          · obtain ⟨b, cur, et, fr, e1, rfl, e2, hcap⟩ := hA h0
            rcases h2 with ⟨e1', _⟩ | ⟨b', cur', et', fr', us, f1, e1', e2', e3, e4, e5⟩ | hm
            rotate_left 2
            · exact (hm.noCells e1 e2).elim
            · rw [e1] at e1'; cases e1'
            · rw [e1] at e1'; cases e1'
              rw [e2] at e2'; cases e2'
              rcases e5 with ⟨e5, _⟩ | ⟨_, rfl, e6⟩
              · rw [hf] at e5; cases e5
              · obtain ⟨fa, fb, fc, hf0, hsub⟩ := e4.sub 0 len h1
                have hul := e4.length
                rw [flat_length h1] at hul
                rw [e6] at hk
                refine ⟨F, fp, b :: fb, hk.drop ?_, ?_, fun _ h => h, fun _ _ => SLeaf.step hst, rfl⟩
                · rw [hf0]
                  refine List.Sublist.append_right ?_ L
                  refine List.Sublist.cons_cons b ?_
                  rw [List.append_assoc]
                  exact (List.sublist_append_left fb fc).trans (List.sublist_append_right fa _)
                · have hmul : len * (σ.en e).sz ≤ (σ.en e).elems.length * (σ.en e).sz := Nat.mul_le_mul_right _ hlen
                  have := RepL.own (F := F) (w := w) (g := b) (n := len) (c := c) (sz := (σ.en e).sz) (et := et) (cur := cur) (l := (σ.en e).elems.take len) (us := (us.drop (0 * (σ.en e).sz)).take (len * (σ.en e).sz)) (vs := []) (xs := []) (f1 := fb) (f := [])
                    (by simp; omega) hlc e2 (by simpa using hcap) (fun q hq => ?_) (fun a ha => h1 a (List.mem_of_mem_take ha)) (by simpa using hsub) .nil
                  · simpa using this
                  · simp only [List.length_take, List.length_drop] at hq
                    simp only [List.getElem?_take, List.getElem?_drop]
                    rw [if_pos (by omega)]
                    have := e3 q (by omega)
                    simpa using this
  | fro tg clip l =>
    cases tg with
    | none => exact plain _ hx hc
    | some tg =>
      obtain ⟨e, wv, o⟩ := tg
      simp only [St.close, Option.bind_eq_bind, Option.bind_eq_some_iff, St.valid, ensure] at hc
      obtain ⟨_, hens, hc⟩ := hc
      split at hens
      case isFalse => cases hens
      case isTrue hv =>
        obtain ⟨hl, hw⟩ := hv
        simp only [Option.some.injEq, Prod.mk.injEq] at hc
        obtain ⟨rfl, rfl⟩ := hc
        obtain ⟨hr, _⟩ := hx.2 hl hw
        by_cases hf : (σ.en e).frz = true
        · rw [if_pos hf]
          refine ⟨F, fp, [], h, hr.mono (fun b hb => ?_) (fun _ _ => rfl), fun _ h => h, fun _ _ h => h, rfl⟩
          rcases hb with hb | hb
          · exact hb
          · obtain ⟨_, h2⟩ := h.ent e hl
            rcases h2 with ⟨_, _, e3⟩ | ⟨b', cur, et, fr, us, f1, _, _, _, _, e5⟩ | hm
            rotate_left 2
            · rw [hm.frozen hf] at hb; cases hb
            · rw [e3] at hb; cases hb
            · rcases e5 with ⟨_, e6, _⟩ | ⟨e5, _⟩
              · rw [e6] at hb; cases hb
              · rw [hf] at e5; cases e5
        · rw [if_neg hf]
          obtain ⟨hk, hst⟩ := h.freeze e hl (by simpa using hf)
          exact ⟨_, _, [], hk, hr, fun _ h => .inl h, fun _ _ => SLeaf.step hst, rfl⟩
  | cptr tg c =>
    cases tg with
    | none => exact plain _ hx hc
    | some tg => simp [St.close] at hc
  | und => exact plain _ hx hc
  | int => exact plain _ hx hc
  | bool => exact plain _ hx hc
  | str => exact plain _ hx hc
  | clo => exact plain _ hx hc
  | agg => exact hx.elim
  | tup => exact hx.elim
  | own => exact hx.elim
  | pt => exact hx.elim
  | np => simp [St.close] at hc
  | mp => simp [St.close] at hc
  | ptr => simp [St.close] at hc
theorem Rel.closeL : ∀ {xs : List AV} {vs : List Value} {ys : List AV} {σ σ' : St} {F : Nat → Prop} {fp : Nat → List Nat} {L : List Nat}, Rel n w0 F0 S0 G F μ fp L σ a w → All2 (SLeaf F w σ.en μ fp) vs xs → σ.closeL xs = some (ys, σ') →
    ∃ F' fp' f, Rel n w0 F0 S0 G F' μ fp' (f ++ L) σ' a w ∧ RepL F' w vs ys f ∧ (∀ b, F b → F' b) ∧ (∀ v x, SLeaf F w σ.en μ fp v x → SLeaf F' w σ'.en μ fp' v x) ∧ σ'.sl = σ.sl
  | [], [], ys, σ, σ', F, fp, L, h, _, hc => by
    simp only [St.closeL, Option.some.injEq, Prod.mk.injEq] at hc
    obtain ⟨rfl, rfl⟩ := hc
    exact ⟨F, fp, [], h, .nil, fun _ h => h, fun _ _ h => h, rfl⟩
  | x :: xs, v :: vs, ys, σ, σ', F, fp, L, h, ⟨h1, h2⟩, hc => by
    simp only [St.closeL, Option.bind_eq_bind, Option.bind_eq_some_iff] at hc
    obtain ⟨⟨y, σ1⟩, hy, ⟨ys', σ2⟩, hys, he⟩ := hc
    simp only [Option.some.injEq, Prod.mk.injEq] at he
    obtain ⟨rfl, rfl⟩ := he
    obtain ⟨F1, fp1, f1, r1, p1, q1, t1, s1⟩ := h.close h1 hy
    obtain ⟨F2, fp2, f2, r2, p2, q2, t2, s2⟩ := Rel.closeL r1 (h2.imp t1) hys
    refine ⟨F2, fp2, f1 ++ f2, r2.perm ?_, (p1.mono q2 (fun _ _ => rfl)).cons p2, fun b hb => q2 b (q1 b hb), fun v x hx => t2 v x (t1 v x hx), s2.trans s1⟩
    rw [List.append_assoc]
    exact (List.perm_append_comm_assoc f1 f2 L)
  | [], _ :: _, _, _, _, _, _, _, _, h, _ => h.elim
  | _ :: _, [], _, _, _, _, _, _, _, h, _ => h.elim
theorem stealL_ok {e b : Nat} {cur : Array Value} (hl : (σ.en e).live = true) (hf : (σ.en e).frz = false) (hμ : μ e = some b) {et : TypeId} {fr : Nat × Nat} (hb : w.heap[b]? = some (.cells cur et fr)) :
    ∀ {xs zs ys : List AV} {vs us : List Value} {fz : List Nat} {j : Nat}, All2 (SLeaf F w σ.en μ fp) vs xs → RepL F w us zs fz → stealL e (σ.en e).wr j xs zs = some ys → (∀ q, q < us.length → cur[j + q]? = us[q]?) → ∃ f, f.Sublist fz ∧ RepL F w vs ys f
  | [], [], ys, [], us, fz, j, _, _, hs, _ => by cases hs; exact ⟨[], List.nil_sublist _, .nil⟩
  | x :: xs, z :: zs, ys, v :: vs, us, fz, j, ⟨h1, h2⟩, hr, hs, hc => by
    simp only [stealL, Option.bind_eq_bind, Option.bind_eq_some_iff, Option.some.injEq] at hs
    obtain ⟨y, hy, ys', hys, rfl⟩ := hs
    cases us with
    | nil => cases hr
    | cons u us =>
    obtain ⟨fa, fb, rfl, ha, hb'⟩ := hr.cons_inv
    obtain ⟨f2, s2, r2⟩ := stealL_ok hl hf hμ hb (j := j + 1) h2 hb' hys (fun q hq => by
      have := hc (q + 1) (by simpa using hq)
      rw [show j + 1 + q = j + (q + 1) by omega, this]; simp)
    have plain : RepL F w [v] [y] [] → ∃ f, f.Sublist (fa ++ fb) ∧ RepL F w (v :: vs) (y :: ys') f := fun h => ⟨f2, s2.trans (List.sublist_append_right _ _), by simpa using h.cons r2⟩
    unfold stealLeaf at hy
    split at hy
    · rename_i e' w' i' j' c l sz l'
      split at hy
      case isFalse => cases hy
      rename_i hh
      obtain ⟨rfl, rfl, rfl, rfl⟩ := hh
      cases hy
      obtain ⟨z0, b0, cur0, et0, fr0, sz0, k1, k2, k3, k4, k5⟩ := (h1.2 hl rfl).2 hf 0 j' rfl
      rw [hμ] at k3; cases k3
      rw [hb] at k4; cases k4
      have huv : u = v := by
        have := hc 0 (by simp)
        simp at this k5
        rw [k5] at this
        exact (Option.some.inj this).symm
      subst huv
      exact ⟨fa ++ f2, List.Sublist.append_left s2 fa, ha.cons r2⟩
    · cases hy; exact plain h1
    · cases hy; exact plain h1
    · cases hy; exact plain h1
    · cases hy; exact plain h1
    · cases hy
  | [], _ :: _, _, _, _, _, _, _, _, hs, _ => by simp [stealL] at hs
  | _ :: _, [], _, _, _, _, _, _, _, hs, _ => by simp [stealL] at hs
  | [], [], _, _ :: _, _, _, _, h, _, _, _ => h.elim
  | _ :: _, _ :: _, _, [], _, _, _, h, _, _, _ => h.elim
theorem Rel.closeM {m : Bool} {xs : List AV} {vs : List Value} {ys : List AV} {σ' : St} (h : Rel n w0 F0 S0 G F μ fp L σ a w) (hall : All2 (SLeaf F w σ.en μ fp) vs xs) (hc : σ.closeM m xs = some (ys, σ')) :
    ∃ F' fp' f, Rel n w0 F0 S0 G F' μ fp' (f ++ L) σ' a w ∧ RepL F' w vs ys f ∧ (∀ b, F b → F' b) ∧ (∀ v x, SLeaf F w σ.en μ fp v x → SLeaf F' w σ'.en μ fp' v x) ∧ σ'.sl = σ.sl := by
  cases m with
  | false => exact h.closeL hall hc
  | true =>
    simp only [St.closeM, orElse] at hc
    split at hc
    case h_2 => exact h.closeL hall hc
    rename_i r hr
    cases hc
    simp only [St.steal, Option.bind_eq_bind, Option.bind_eq_some_iff] at hr
    obtain ⟨e, _, _, hens, hs⟩ := hr
    obtain ⟨hl, hf⟩ : (σ.en e).live = true ∧ (σ.en e).frz = false := by
      unfold ensure at hens; split at hens
      · assumption
      · cases hens
    unfold steal1 at hs
    split at hs
    case h_2 => cases hs
    rename_i z hz
    simp only [Option.bind_eq_bind, Option.bind_eq_some_iff, Option.some.injEq, Prod.mk.injEq] at hs
    obtain ⟨ys', hys, rfl, rfl⟩ := hs
    obtain ⟨hk, hst⟩ := h.kill e hl
    rcases (h.ent e hl).2 with ⟨_, e2, _⟩ | ⟨b, cur, et, fr, us, f1, e1, e2, e3, e4, e5⟩ | ⟨e2, _⟩
    rotate_left 2
    · rw [hz] at e2; cases e2
    · rw [hz] at e2; cases e2
    rcases e5 with ⟨e5, _⟩ | ⟨_, _, e7⟩
    · rw [hf] at e5; cases e5
    rw [hz] at e4
    simp only [List.flatMap_cons, List.flatMap_nil, List.append_nil] at e4
    obtain ⟨f, s1, r1⟩ := stealL_ok hl hf e1 e2 hall e4 hys (fun q hq => by simpa using e3 q hq)
    refine ⟨F, fp, f, hk.drop ?_, r1, fun _ h => h, fun _ _ => SLeaf.step hst, rfl⟩
    rw [e7]
    exact List.Sublist.append_right (s1.trans (List.sublist_cons_self _ _)) L
end
end Go.Vm
end
section
/- New blocks, and stores into the activation's own. -/
namespace Go.Vm
theorem upd_upd {α : Type} (f : Nat → α) (i : Nat) (u v : α) : upd (upd f i u) i v = upd f i v := by
  funext j; simp only [upd]; split <;> rfl
section
variable {n : Nat} {w0 : World} {F0 S0 F : Nat → Prop} {G : Value → AV → Prop} {μ : Nat → Option Nat} {fp : Nat → List Nat} {L : List Nat} {σ : St} {a : Act} {w w' : World}
theorem EntRep.mono {F F' : Nat → Prop} {w w' : World} {E : Ent} {m : Option Nat} {f : List Nat} (h : EntRep F w E m f) (hF : ∀ b, F b → F' b) (hw : ∀ b, F b ∨ b ∈ f → w'.heap[b]? = w.heap[b]?) : EntRep F' w' E m f := by
  obtain ⟨h1, h2⟩ := h
  refine ⟨h1, h2.imp id ?_⟩
  rintro (⟨b, cur, et, fr, us, f1, e1, e2, e3, e4, e5⟩ | hm)
  rotate_left
  · exact .inr (hm.mono hF hw)
  rcases e5 with ⟨e5, rfl, rfl, e6⟩ | ⟨e5, rfl, rfl⟩
  · exact .inl ⟨b, cur, et, fr, us, [], e1, (hw b (.inl e6)).trans e2, e3, e4.mono hF (fun b hb => hw b (by simpa using hb)), .inl ⟨e5, rfl, rfl, hF _ e6⟩⟩
  · exact .inl ⟨b, cur, et, _, us, f1, e1, (hw b (.inr (by simp))).trans e2, e3, e4.mono hF (fun b hb => hw b (hb.imp id (fun h => by simp [h]))), .inr ⟨e5, rfl, rfl⟩⟩
theorem Rel.fresh (h : Rel n w0 F0 S0 G F μ fp L σ a w) (e sz : Nat) (l : List AV) {m : Option Nat} {f L' : List Nat} (hs : ∀ b ∈ f, b ∈ L ∨ (m = some b ∧ b = w.heap.size)) (hL' : L'.Sublist L) (hap : ∀ b ∈ f, b ∉ L') (hnd : f.Nodup)
    (kept : KeptS w w' (fun _ => False)) (hm : ∀ b, m = some b → b < w'.heap.size)
    (hent : EntRep F w' { live := true, gen := (σ.en e).gen + 1, wr := (σ.en e).wr + 1, frz := false, sz, elems := l } m f) :
    Rel n w0 F0 S0 G F (upd μ e m) (upd fp e f) L' (σ.fresh e sz l) a w' ∧ Step F w σ.en μ fp F w' (σ.fresh e sz l).en (upd μ e m) (upd fp e f) := by
  have old : ∀ b, b < w.heap.size → w'.heap[b]? = w.heap[b]? := fun b hb => kept.block b hb (fun h => h)
  have oldb : ∀ (b : Nat) (cur : Array Value) (et : TypeId) (fr : Nat × Nat), w.heap[b]? = some (Obj.cells cur et fr) → w'.heap[b]? = w.heap[b]? := fun b cur et fr hb => old b (Array.getElem?_eq_some_iff.1 hb).1
  have en' : ∀ e', e' ≠ e → (σ.fresh e sz l).en e' = σ.en e' := fun e' he => by simp [St.fresh, St.ent, upd, he]
  have ene : (σ.fresh e sz l).en e = { live := true, gen := (σ.en e).gen + 1, wr := (σ.en e).wr + 1, frz := false, sz, elems := l } := by simp [St.fresh, St.ent, upd]
  have st : Step F w σ.en μ fp F w' (σ.fresh e sz l).en (upd μ e m) (upd fp e f) := by
    refine ⟨fun _ h => h, fun b hb => old b (h.free b hb).1, fun e' => ?_, fun e' => ?_, fun e' h' hg => ?_, fun e' h' hg => ?_⟩
    · by_cases he : e' = e
      · subst he; rw [ene]; simp
      · rw [en' e' he]; exact Nat.le_refl _
    · by_cases he : e' = e
      · subst he; rw [ene]; simp
      · rw [en' e' he]; exact Nat.le_refl _
    · by_cases he : e' = e
      · subst he; rw [ene] at hg; simp at hg
      · rw [en' e' he] at h' ⊢
        exact ⟨h', by simp [upd, he], rfl, Nat.le_refl _, fun b hb cur et fr hc => ⟨cur, by rw [oldb b cur et fr hc]; exact hc, rfl⟩⟩
    · by_cases he : e' = e
      · subst he; rw [ene] at hg; simp at hg
      · rw [en' e' he] at h' ⊢
        refine ⟨h', fun b hb => ⟨old b (h.own e' h' b hb).2.1, .inl (by simpa [upd, he] using hb)⟩, fun hf => ⟨hf, rfl, rfl, by simp [upd, he], fun b hb => ?_⟩⟩
        obtain ⟨_, h2⟩ := h.ent e' h'
        rcases h2 with ⟨e1, _⟩ | ⟨b', cur, et, fr, us, f1, e1, e2, _⟩ | ⟨_, b', _, _, e1, e2, _⟩
        · rw [hb] at e1; cases e1
        · rw [hb] at e1; cases e1; exact oldb b cur et fr e2
        · rw [hb] at e1; cases e1; exact old b (Array.getElem?_eq_some_iff.1 e2).1
  have kp : KeptS w w' (fun b => S0 b ∨ w0.heap.size ≤ b) := ⟨kept.os, kept.tape, kept.output, kept.size, fun b hb _ => old b hb, kept.same⟩
  have base : w0.heap.size ≤ w.heap.size := h.kept.size
  have fnew : ∀ b ∈ f, ¬ F b ∧ b < w'.heap.size ∧ (S0 b ∨ w0.heap.size ≤ b) ∧ ∀ e', e' ≠ e → (σ.en e').live = true → b ∉ fp e' := by
    intro b hb
    rcases hs b hb with hb | ⟨hb, rfl⟩
    · obtain ⟨h1, h2, h3, h4⟩ := h.loose b hb
      exact ⟨h1, Nat.lt_of_lt_of_le h2 kept.size, h3, fun e' _ => h4 e'⟩
    · exact ⟨fun hF => by have := (h.free _ hF).1; omega, hm _ hb, .inr base, fun e' _ hl hx => by have := (h.own e' hl _ hx).2.1; omega⟩
  refine ⟨h.move (en' := (σ.fresh e sz l).en) st kp (fun b hb => ⟨Nat.lt_of_lt_of_le (h.free b hb).1 kept.size, (h.free b hb).2⟩) (fun e' h' => ?_) (fun e' h' b hb => ?_) (fun e' h' => ?_) (fun e' e2 h' h2 hne b hb => ?_) (fun b hb => ?_) (h.looseNodup.sublist hL'), st⟩
  · by_cases he : e' = e
    · subst he; rw [ene, upd_same, upd_same]; exact hent
    · rw [en' e' he] at h' ⊢
      rw [upd_ne _ _ _ _ he, upd_ne _ _ _ _ he]
      exact (h.ent e' h').mono (fun _ h => h) (fun b hb => old b (hb.elim (fun hb => (h.free b hb).1) (fun hb => (h.own e' h' b hb).2.1)))
  · by_cases he : e' = e
    · subst he; rw [upd_same] at hb
      obtain ⟨h1, h2, h3, _⟩ := fnew b hb; exact ⟨h1, h2, h3⟩
    · rw [en' e' he] at h'; rw [upd_ne _ _ _ _ he] at hb
      obtain ⟨h1, h2, h3⟩ := h.own e' h' b hb; exact ⟨h1, Nat.lt_of_lt_of_le h2 kept.size, h3⟩
  · by_cases he : e' = e
    · subst he; rw [upd_same]; exact hnd
    · rw [en' e' he] at h'; rw [upd_ne _ _ _ _ he]; exact h.nodup e' h'
  · by_cases he : e' = e
    · subst he
      rw [upd_same] at hb
      have he2 : e2 ≠ e' := Ne.symm hne
      rw [en' e2 he2] at h2; rw [upd_ne _ _ _ _ he2]
      exact (fnew b hb).2.2.2 e2 he2 h2
    · rw [en' e' he] at h'; rw [upd_ne _ _ _ _ he] at hb
      by_cases he2 : e2 = e
      · subst he2; rw [upd_same]; exact fun hx => (fnew b hx).2.2.2 e' he h' hb
      · rw [en' e2 he2] at h2; rw [upd_ne _ _ _ _ he2]; exact h.apart e' e2 h' h2 hne b hb
  · obtain ⟨h1, h2, h3, h4⟩ := h.loose b (hL'.subset hb)
    refine ⟨h1, Nat.lt_of_lt_of_le h2 kept.size, h3, fun e' h' => ?_⟩
    by_cases he : e' = e
    · subst he; rw [upd_same]; exact fun hx => hap b hx hb
    · rw [en' e' he] at h'; rw [upd_ne _ _ _ _ he]; exact h4 e' h'
theorem keptS_push {o : Obj} (hh : w'.heap = w.heap.push o) (ho : w'.os = w.os) (ht : w'.tape = w.tape) (hp : w'.output = w.output) : KeptS w w' (fun _ => False) :=
  have old : ∀ b, b < w.heap.size → w'.heap[b]? = w.heap[b]? := fun b hb => by rw [hh, Array.getElem?_push]; rw [if_neg (by omega)]
  ⟨ho, ht, hp, by rw [hh]; simp, fun b hb _ => old b hb, fun b cur _ _ h => ⟨cur, by rw [old b (Array.getElem?_eq_some_iff.1 h).1]; exact h, rfl⟩⟩
theorem Rel.newBlock {f : List Nat} (h : Rel n w0 F0 S0 G F μ fp (f ++ L) σ a w) (e sz : Nat) (l : List AV) {cur : Array Value} {et : TypeId} {us : List Value}
    (hh : w'.heap = w.heap.push (.cells cur et)) (ho : w'.os = w.os) (ht : w'.tape = w.tape) (hp : w'.output = w.output)
    (hsz : ∀ x ∈ l, (leaves x).length = sz) (hcur : ∀ q, q < us.length → cur[q]? = us[q]?) (hr : RepL F w us (l.flatMap leaves) f) :
    Rel n w0 F0 S0 G F (upd μ e (some w.heap.size)) (upd fp e (w.heap.size :: f)) L (σ.fresh e sz l) a w' ∧ Step F w σ.en μ fp F w' (σ.fresh e sz l).en (upd μ e (some w.heap.size)) (upd fp e (w.heap.size :: f)) := by
  have kept := keptS_push hh ho ht hp
  have hfl : ∀ b ∈ f, b < w.heap.size := fun b hb => (h.loose b (by simp [hb])).2.1
  have hnd := h.looseNodup
  rw [List.nodup_append] at hnd
  refine h.fresh e sz l (m := some w.heap.size) (f := w.heap.size :: f) (fun b hb => ?_) (List.sublist_append_right f L) (fun b hb hb2 => ?_) ?_ kept (fun b hb => ?_) ⟨hsz, .inr <| .inl ⟨w.heap.size, cur, et, (0, 0), us, f, rfl, ?_, hcur, ?_, .inr ⟨rfl, rfl, rfl⟩⟩⟩
  · rcases List.mem_cons.1 hb with rfl | hb
    · exact .inr ⟨rfl, rfl⟩
    · exact .inl (by simp [hb])
  · rcases List.mem_cons.1 hb with rfl | hb
    · have := (h.loose _ (List.mem_append.2 (.inr hb2))).2.1; omega
    · exact hnd.2.2 b hb b hb2 rfl
  · exact List.nodup_cons.2 ⟨fun hx => by have := hfl _ hx; omega, hnd.1⟩
  · cases hb; rw [hh]; simp
  · rw [hh]; simp
  · refine hr.mono (fun _ h => h) (fun b hb => kept.block b ?_ (fun h => h))
    exact hb.elim (fun hb => (h.free b hb).1) (fun hb => hfl b hb)
theorem Rel.newNil (h : Rel n w0 F0 S0 G F μ fp L σ a w) (e sz : Nat) :
    Rel n w0 F0 S0 G F (upd μ e none) (upd fp e []) L (σ.fresh e sz []) a w ∧ Step F w σ.en μ fp F w (σ.fresh e sz []).en (upd μ e none) (upd fp e []) :=
  h.fresh e sz [] (m := none) (f := []) (by simp) (List.Sublist.refl _) (by simp) List.nodup_nil (KeptS.refl _ _) (by simp) ⟨by simp, .inl ⟨rfl, rfl, rfl⟩⟩
theorem Rel.write (h : Rel n w0 F0 S0 G F μ fp L σ a w) {e b : Nat} (hl : (σ.en e).live = true) (hfz : (σ.en e).frz = false) {cur cur' : Array Value} {et : TypeId} {us' : List Value} {f1 f' L' : List Nat} {E' : Ent}
    (hμ : μ e = some b) (hblk : w.heap[b]? = some (.cells cur et (0, 0))) (hfp : fp e = b :: f1)
    (_hl' : E'.live = true) (hf' : E'.frz = false) (hsz' : E'.sz = (σ.en e).sz) (hgen : (σ.en e).gen ≤ E'.gen) (hwr : (σ.en e).wr < E'.wr) (hN : E'.gen = (σ.en e).gen → E'.elems.length ≤ (σ.en e).elems.length)
    (hblk' : w'.heap[b]? = some (.cells cur' et (0, 0))) (hcs : cur'.size = cur.size) (hoth : ∀ b', b' ≠ b → w'.heap[b']? = w.heap[b']?) (hsize : w'.heap.size = w.heap.size) (ho : w'.os = w.os) (ht : w'.tape = w.tape) (hp : w'.output = w.output)
    (hel : ∀ x ∈ E'.elems, (leaves x).length = E'.sz) (hcur : ∀ q, q < us'.length → cur'[q]? = us'[q]?) (hr : RepL F w us' (E'.elems.flatMap leaves) f')
    (hsub : ∀ b' ∈ f' ++ L', b' ∈ f1 ++ L) (hnd : (f' ++ L').Nodup) :
    Rel n w0 F0 S0 G F μ (upd fp e (b :: f')) L' (σ.ent e E') a w' ∧ Step F w σ.en μ fp F w' (σ.ent e E').en μ (upd fp e (b :: f')) := by
  obtain ⟨hbF, hbs, hb0⟩ := h.own e hl b (by rw [hfp]; simp)
  have hnd0 := h.nodup e hl
  rw [hfp] at hnd0
  have hb1 : b ∉ f1 := (List.nodup_cons.1 hnd0).1
  have hbL : b ∉ L := fun hx => (h.loose b hx).2.2.2 e hl (by rw [hfp]; simp)
  have hbf' : b ∉ f' := fun hx => (List.mem_append.1 (hsub b (by simp [hx]))).elim hb1 hbL
  have hF : ∀ b', F b' → w'.heap[b']? = w.heap[b']? := fun b' hb' => hoth b' (fun e => hbF (e ▸ hb'))
  have en' : ∀ e', e' ≠ e → (σ.ent e E').en e' = σ.en e' := fun e' he => by simp [St.ent, upd, he]
  have ene : (σ.ent e E').en e = E' := by simp [St.ent, upd]
  have hne : ∀ e', e' ≠ e → (σ.en e').live = true → ∀ b', b' ∈ fp e' → b' ≠ b := fun e' he hle b' hb' hx => h.apart e' e hle hl he b' hb' (by rw [hfp, hx]; simp)
  have sz' : ∀ b', sameSize w w' b' := by
    intro b' c et' fr hc
    by_cases hb' : b' = b
    · subst hb'
      rw [hblk] at hc; cases hc
      exact ⟨cur', hblk', hcs⟩
    · exact ⟨c, by rw [hoth b' hb']; exact hc, rfl⟩
  have μne : ∀ e', e' ≠ e → (σ.en e').live = true → ∀ b', μ e' = some b' → b' ≠ b := by
    intro e' he hle b' hm hx
    subst hx
    obtain ⟨_, h2⟩ := h.ent e' hle
    rcases h2 with ⟨e1, _⟩ | ⟨b2, _, _, _, _, f2, e1, _, _, _, e5⟩ | ⟨_, b2, _, _, e1, _, e5⟩
    rotate_left 2
    · rw [hm] at e1; cases e1
      rcases e5 with ⟨_, _, e6⟩ | ⟨_, e6⟩
      · exact hbF e6
      · exact hne e' he hle b' (by rw [e6]; simp) rfl
    · rw [hm] at e1; cases e1
    · rw [hm] at e1; cases e1
      rcases e5 with ⟨_, _, _, e6⟩ | ⟨_, _, e6⟩
      · exact hbF e6
      · exact hne e' he hle b' (by rw [e6]; simp) rfl
  have st : Step F w σ.en μ fp F w' (σ.ent e E').en μ (upd fp e (b :: f')) := by
    refine ⟨fun _ h => h, hF, fun e' => ?_, fun e' => ?_, fun e' h' hg => ?_, fun e' h' hg => ?_⟩
    · by_cases he : e' = e
      · subst he; rw [ene]; exact hgen
      · rw [en' e' he]; exact Nat.le_refl _
    · by_cases he : e' = e
      · subst he; rw [ene]; exact Nat.le_of_lt hwr
      · rw [en' e' he]; exact Nat.le_refl _
    · by_cases he : e' = e
      · subst he; rw [ene] at hg ⊢; exact ⟨hl, rfl, hsz', hN hg, fun b' _ => sz' b'⟩
      · rw [en' e' he] at h' ⊢; exact ⟨h', rfl, rfl, Nat.le_refl _, fun b' _ => sz' b'⟩
    · by_cases he : e' = e
      · subst he; rw [ene] at hg; omega
      · rw [en' e' he] at h' ⊢
        exact ⟨h', fun b' hb' => ⟨hoth b' (hne e' he h' b' hb'), .inl (by rw [upd_ne _ _ _ _ he]; exact hb')⟩, fun hf => ⟨hf, rfl, rfl, rfl, fun b' hm => hoth b' (μne e' he h' b' hm)⟩⟩
  have hfl : ∀ b' ∈ f', ¬ F b' ∧ b' < w.heap.size ∧ (S0 b' ∨ w0.heap.size ≤ b') ∧ ∀ e', e' ≠ e → (σ.en e').live = true → b' ∉ fp e' := by
    intro b' hb'
    rcases List.mem_append.1 (hsub b' (by simp [hb'])) with hx | hx
    · obtain ⟨h1, h2, h3⟩ := h.own e hl b' (by rw [hfp]; simp [hx])
      exact ⟨h1, h2, h3, fun e' he hle => h.apart e e' hl hle (Ne.symm he) b' (by rw [hfp]; simp [hx])⟩
    · obtain ⟨h1, h2, h3, h4⟩ := h.loose b' hx
      exact ⟨h1, h2, h3, fun e' _ hle => h4 e' hle⟩
  refine ⟨h.move (en' := (σ.ent e E').en) st ⟨ho, ht, hp, by omega, fun b' _ hn => hoth b' (fun hx => hn (hx ▸ hb0)), sz'⟩ (fun b' hb' => by rw [hsize]; exact h.free b' hb') (fun e' h' => ?_) (fun e' h' b' hb' => ?_) (fun e' h' => ?_) (fun e' e2 h' h2 hn b' hb' => ?_) (fun b' hb' => ?_) (hnd.sublist (List.sublist_append_right _ _)), st⟩
  · by_cases he : e' = e
    · subst he; rw [ene, upd_same]
      refine ⟨hel, .inr <| .inl ⟨b, cur', et, (0, 0), us', f', hμ, hblk', hcur, hr.mono (fun _ h => h) (fun b' hb' => ?_), .inr ⟨hf', rfl, rfl⟩⟩⟩
      exact hb'.elim (hF b') (fun hb' => hoth b' (fun hx => hbf' (hx ▸ hb')))
    · rw [en' e' he] at h' ⊢; rw [upd_ne _ _ _ _ he]
      exact (h.ent e' h').mono (fun _ h => h) (fun b' hb' => hb'.elim (hF b') (fun hb' => hoth b' (hne e' he h' b' hb')))
  · by_cases he : e' = e
    · subst he; rw [upd_same] at hb'
      rw [hsize]
      rcases List.mem_cons.1 hb' with rfl | hb'
      · exact ⟨hbF, hbs, hb0⟩
      · obtain ⟨h1, h2, h3, _⟩ := hfl b' hb'; exact ⟨h1, h2, h3⟩
    · rw [en' e' he] at h'; rw [upd_ne _ _ _ _ he] at hb'; rw [hsize]; exact h.own e' h' b' hb'
  · by_cases he : e' = e
    · subst he; rw [upd_same]; exact List.nodup_cons.2 ⟨hbf', hnd.sublist (List.sublist_append_left _ _)⟩
    · rw [en' e' he] at h'; rw [upd_ne _ _ _ _ he]; exact h.nodup e' h'
  · by_cases he : e' = e
    · subst he
      rw [upd_same] at hb'
      have he2 : e2 ≠ e' := Ne.symm hn
      rw [en' e2 he2] at h2; rw [upd_ne _ _ _ _ he2]
      rcases List.mem_cons.1 hb' with rfl | hb'
      · exact fun hx => hne e2 he2 h2 _ hx rfl
      · exact (hfl b' hb').2.2.2 e2 he2 h2
    · rw [en' e' he] at h'; rw [upd_ne _ _ _ _ he] at hb'
      by_cases he2 : e2 = e
      · subst he2; rw [upd_same]
        intro hx
        rcases List.mem_cons.1 hx with rfl | hx
        · exact hne e' he h' _ hb' rfl
        · exact (hfl b' hx).2.2.2 e' he h' hb'
      · rw [en' e2 he2] at h2; rw [upd_ne _ _ _ _ he2]; exact h.apart e' e2 h' h2 hn b' hb'
  · rw [hsize]
    have hnd2 := List.nodup_append.1 hnd
    rcases List.mem_append.1 (hsub b' (by simp [hb'])) with hx | hx
    · obtain ⟨h1, h2, h3⟩ := h.own e hl b' (by rw [hfp]; simp [hx])
      refine ⟨h1, h2, h3, fun e' h' => ?_⟩
      by_cases he : e' = e
      · subst he; rw [upd_same]; intro hy
        rcases List.mem_cons.1 hy with rfl | hy
        · exact hb1 hx
        · exact hnd2.2.2 b' hy b' hb' rfl
      · rw [en' e' he] at h'; rw [upd_ne _ _ _ _ he]; exact h.apart e e' hl h' (Ne.symm he) b' (by rw [hfp]; simp [hx])
    · obtain ⟨h1, h2, h3, h4⟩ := h.loose b' hx
      refine ⟨h1, h2, h3, fun e' h' => ?_⟩
      by_cases he : e' = e
      · subst he; rw [upd_same]; intro hy
        rcases List.mem_cons.1 hy with rfl | hy
        · exact hbL hx
        · exact hnd2.2.2 b' hy b' hb' rfl
      · rw [en' e' he] at h'; rw [upd_ne _ _ _ _ he]; exact h4 e' h'
end
end Go.Vm
end
