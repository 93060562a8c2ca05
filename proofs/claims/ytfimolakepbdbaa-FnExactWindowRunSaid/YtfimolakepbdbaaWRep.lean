/- The abstract values of the evaluator, and how the machine's values stand for them. -/
import Derived.Calls
import Derived.Orders
import Derived.Laws.Entries
namespace Go.Vm

inductive AV where
  | und
  | int (k : IntKind) (n : Int)
  | bool (b : Bool)
  | str (s : ByteArray)
  | agg (fs : List AV)
  | tup (vs : List AV)
  | fro (tg : Option (Nat × Nat × Option (Nat × Nat))) (clip : Bool) (l : List AV)
  | own (sz : Nat) (l : List AV)
  | hd (e g off len : Nat) (clip : Bool)
  | ptr (e g i j : Nat)
  | cptr (tg : Option (Nat × Nat)) (c : List AV)
  | clo (f : Nat) (caps : List AV)
  | pt (sz : Nat) (elems : List AV) (i j : Nat)

instance : Inhabited AV := ⟨.und⟩

/-- The cells of an element. -/
def leaves : AV → List AV
  | .agg fs => fs
  | x => [x]

mutual
def froize : AV → AV
  | .own _ l => .fro none false (froizeL l)
  | .agg fs => .agg (froizeL fs)
  | x => x
def froizeL : List AV → List AV
  | [] => []
  | a :: as => froize a :: froizeL as
end

theorem froizeL_eq (l : List AV) : froizeL l = l.map froize := by
  induction l with
  | nil => simp [froizeL]
  | cons a as ih => simp [froizeL, ih]

theorem leaves_froize (a : AV) : leaves (froize a) = (leaves a).map froize := by
  cases a <;> simp [froize, leaves, froizeL_eq]

theorem flat_froize (l : List AV) : (l.map froize).flatMap leaves = (l.flatMap leaves).map froize := by
  induction l with
  | nil => rfl
  | cons a as ih => simp [List.flatMap_cons, leaves_froize, ih]

/-- The machine's cells 'vs' stand for the abstract cells 'xs', reading blocks of F alone but for those of the list, which what is owned in 'xs' lies in. -/
inductive RepL (F : Nat → Prop) (w : World) : List Value → List AV → List Nat → Prop
  | nil : RepL F w [] [] []
  | und {v : Value} {vs : List Value} {xs : List AV} {f : List Nat} (hv : v.oneCell' = true) (t : RepL F w vs xs f) : RepL F w (v :: vs) (.und :: xs) f
  | int {k : IntKind} {n : Int} {vs : List Value} {xs : List AV} {f : List Nat} (t : RepL F w vs xs f) : RepL F w (.int k n :: vs) (.int k n :: xs) f
  | bool {b : Bool} {vs : List Value} {xs : List AV} {f : List Nat} (t : RepL F w vs xs f) : RepL F w (.bool b :: vs) (.bool b :: xs) f
  | str {s : ByteArray} {vs : List Value} {xs : List AV} {f : List Nat} (t : RepL F w vs xs f) : RepL F w (.string s :: vs) (.str s :: xs) f
  | fro0 {A : Option Addr} {c : Nat} {clip : Bool} {vs : List Value} {xs : List AV} {f : List Nat} (hc : clip = true → c = 0) (t : RepL F w vs xs f) :
      RepL F w (.slice A 0 c :: vs) (.fro none clip [] :: xs) f
  | fro {b o n c sz : Nat} {clip : Bool} {l : List AV} {us vs : List Value} {xs : List AV} {f : List Nat} (hn : l.length = n) (hnc : n ≤ c) (hc : clip = true → c = n) (hF : F b)
      (hcell : ∀ q, q < us.length → w.cell? ⟨b, o + q, none⟩ = us[q]?) (hsz : ∀ a ∈ l, (leaves a).length = sz) (hu : RepL F w us (l.flatMap leaves) []) (t : RepL F w vs xs f) :
      RepL F w (.slice (some ⟨b, o, none⟩) n c :: vs) (.fro none clip l :: xs) f
  | own0 {A : Option Addr} {sz : Nat} {vs : List Value} {xs : List AV} {f : List Nat} (t : RepL F w vs xs f) : RepL F w (.slice A 0 0 :: vs) (.own sz [] :: xs) f
  | own {g n c sz et : Nat} {cur : Array Value} {l : List AV} {us vs : List Value} {xs : List AV} {f1 f : List Nat} (hn : l.length = n) (hnc : n ≤ c)
      (hb : w.heap[g]? = some (.cells cur et (0, 0))) (hcap : c * sz ≤ cur.size) (hcell : ∀ q, q < us.length → cur[q]? = us[q]?) (hsz : ∀ a ∈ l, (leaves a).length = sz)
      (hu : RepL F w us (l.flatMap leaves) f1) (t : RepL F w vs xs f) : RepL F w (.slice (some ⟨g, 0, none⟩) n c :: vs) (.own sz l :: xs) (g :: f1 ++ f)
  | cptr {b o : Nat} {c : List AV} {us vs : List Value} {xs : List AV} {f : List Nat} (hF : F b) (hcell : ∀ q, q < us.length → w.cell? ⟨b, o + q, none⟩ = us[q]?)
      (hu : RepL F w us c []) (t : RepL F w vs xs f) : RepL F w (.pointer (some ⟨b, o, none⟩) :: vs) (.cptr none c :: xs) f
  | clo {fn : Nat} {caps : List AV} {us vs : List Value} {xs : List AV} {f : List Nat} (hu : RepL F w us caps []) (t : RepL F w vs xs f) :
      RepL F w (.func (.func fn) #[] us.toArray :: vs) (.clo fn caps :: xs) f

section
variable {F F' : Nat → Prop} {w w' : World} {vs us : List Value} {xs ys : List AV} {f g : List Nat}

theorem RepL.length (h : RepL F w vs xs f) : vs.length = xs.length := by
  induction h <;> simp_all

theorem cell?_congr {w w' : World} {b o : Nat} (h : w'.heap[b]? = w.heap[b]?) : w'.cell? ⟨b, o, none⟩ = w.cell? ⟨b, o, none⟩ := by
  simp only [World.cell?, h]

theorem RepL.mono (h : RepL F w vs xs f) (hF : ∀ b, F b → F' b) (hk : ∀ b, F b ∨ b ∈ f → w'.heap[b]? = w.heap[b]?) : RepL F' w' vs xs f := by
  induction h with
  | nil => exact .nil
  | und hv t ih => exact .und hv (ih hk)
  | int t ih => exact .int (ih hk)
  | bool t ih => exact .bool (ih hk)
  | str t ih => exact .str (ih hk)
  | fro0 hc t ih => exact .fro0 hc (ih hk)
  | fro hn hnc hc hb hcell hsz hu t ihu ih =>
    refine .fro hn hnc hc (hF _ hb) (fun q hq => ?_) hsz (ihu fun b hb => hk b (.inl (by simpa using hb))) (ih hk)
    rw [cell?_congr (hk _ (.inl hb))]; exact hcell q hq
  | own0 t ih => exact .own0 (ih hk)
  | @own g n c sz et cur l us vs xs f1 f hn hnc hb hcap hcell hsz hu t ihu ih =>
    have hb' : w'.heap[g]? = some (.cells cur et (0, 0)) := by rw [hk _ (.inr (by simp))]; exact hb
    refine .own hn hnc hb' hcap hcell hsz (ihu fun b hb => hk b ?_) (ih fun b hb => hk b ?_)
    · rcases hb with hb | hb
      · exact .inl hb
      · exact .inr (by simp [hb])
    · rcases hb with hb | hb
      · exact .inl hb
      · exact .inr (by simp [hb])
  | cptr hb hcell hu t ihu ih =>
    refine .cptr (hF _ hb) (fun q hq => ?_) (ihu fun b hb => hk b (.inl (by simpa using hb))) (ih hk)
    rw [cell?_congr (hk _ (.inl hb))]; exact hcell q hq
  | clo hu t ihu ih => exact .clo (ihu fun b hb => hk b (.inl (by simpa using hb))) (ih hk)

theorem RepL.append (h : RepL F w vs xs f) (h2 : RepL F w us ys g) : RepL F w (vs ++ us) (xs ++ ys) (f ++ g) := by
  induction h with
  | nil => exact h2
  | und hv t ih => exact .und hv ih
  | int t ih => exact .int ih
  | bool t ih => exact .bool ih
  | str t ih => exact .str ih
  | fro0 hc t ih => exact .fro0 hc ih
  | fro hn hnc hc hb hcell hsz hu t _ ih => exact .fro hn hnc hc hb hcell hsz hu ih
  | own0 t ih => exact .own0 ih
  | own hn hnc hb hcap hcell hsz hu t _ ih => simpa using RepL.own hn hnc hb hcap hcell hsz hu ih
  | cptr hb hcell hu t _ ih => exact .cptr hb hcell hu ih
  | clo hu t _ ih => exact .clo hu ih

/-- One cell alone, and the rest. -/
theorem RepL.cons_inv {v : Value} {x : AV} (h : RepL F w (v :: vs) (x :: xs) f) : ∃ f1 f2, f = f1 ++ f2 ∧ RepL F w [v] [x] f1 ∧ RepL F w vs xs f2 := by
  cases h with
  | und hv t => exact ⟨[], _, rfl, .und hv .nil, t⟩
  | int t => exact ⟨[], _, rfl, .int .nil, t⟩
  | bool t => exact ⟨[], _, rfl, .bool .nil, t⟩
  | str t => exact ⟨[], _, rfl, .str .nil, t⟩
  | fro0 hc t => exact ⟨[], _, rfl, .fro0 hc .nil, t⟩
  | fro hn hnc hc hb hcell hsz hu t => exact ⟨[], _, rfl, .fro hn hnc hc hb hcell hsz hu .nil, t⟩
  | own0 t => exact ⟨[], _, rfl, .own0 .nil, t⟩
  | own hn hnc hb hcap hcell hsz hu t => exact ⟨_, _, rfl, by simpa using RepL.own hn hnc hb hcap hcell hsz hu .nil, t⟩
  | cptr hb hcell hu t => exact ⟨[], _, rfl, .cptr hb hcell hu .nil, t⟩
  | clo hu t => exact ⟨[], _, rfl, .clo hu .nil, t⟩

theorem RepL.cons {v : Value} {x : AV} {f1 f2 : List Nat} (h : RepL F w [v] [x] f1) (h2 : RepL F w vs xs f2) : RepL F w (v :: vs) (x :: xs) (f1 ++ f2) := h.append h2

theorem RepL.split : ∀ {xs : List AV} {vs : List Value} {f : List Nat}, RepL F w vs (xs ++ ys) f → ∃ v1 v2 f1 f2, vs = v1 ++ v2 ∧ f = f1 ++ f2 ∧ RepL F w v1 xs f1 ∧ RepL F w v2 ys f2
  | [], vs, f, h => ⟨[], vs, [], f, rfl, rfl, .nil, h⟩
  | x :: xs, vs, f, h => by
    cases vs with
    | nil => have := h.length; simp at this
    | cons v vs =>
      obtain ⟨fa, fb, rfl, ha, hb⟩ := RepL.cons_inv (by simpa using h)
      obtain ⟨v1, v2, f1, f2, rfl, rfl, h1, h2⟩ := RepL.split hb
      exact ⟨v :: v1, v2, fa ++ f1, f2, rfl, by simp, ha.cons h1, h2⟩

/-- The cell at place i. -/
theorem RepL.get {i : Nat} {x : AV} (h : RepL F w vs xs f) (hx : xs[i]? = some x) : ∃ v f1 f2 f3, vs[i]? = some v ∧ f = f1 ++ f2 ++ f3 ∧ RepL F w [v] [x] f2 ∧
    ∀ v' x' f', RepL F w [v'] [x'] f' → RepL F w (vs.set i v') (xs.set i x') (f1 ++ f' ++ f3) := by
  obtain ⟨hi, rfl⟩ := List.getElem?_eq_some_iff.1 hx
  have e : xs = xs.take i ++ xs[i] :: xs.drop (i + 1) := by simp
  rw [e] at h
  obtain ⟨v1, v2, f1, f2, rfl, rfl, h1, h2⟩ := RepL.split h
  have hl : v1.length = i := by rw [h1.length]; simp; omega
  cases v2 with
  | nil => have := h2.length; simp at this; omega
  | cons v v2 =>
    obtain ⟨fa, fb, rfl, ha, hb⟩ := h2.cons_inv
    refine ⟨v, f1, fa, fb, by simp [← hl], by simp, ha, fun v' x' f' h' => ?_⟩
    have := h1.append (h'.cons hb)
    have e1 : (v1 ++ v :: v2).set i v' = v1 ++ v' :: v2 := by rw [← hl]; simp
    have e2 : xs.set i x' = xs.take i ++ x' :: xs.drop (i + 1) := by rw [List.set_eq_take_append_cons_drop]; simp [hi]
    rw [e1, e2]; simpa using this

theorem RepL.take (n : Nat) (h : RepL F w vs xs f) : ∃ f1 f2, f = f1 ++ f2 ∧ RepL F w (vs.take n) (xs.take n) f1 ∧ RepL F w (vs.drop n) (xs.drop n) f2 := by
  rcases Nat.le_total xs.length n with hn | hn
  · have hl := h.length
    rw [List.take_of_length_le (by omega), List.take_of_length_le hn, List.drop_of_length_le (by omega), List.drop_of_length_le hn]
    exact ⟨f, [], by simp, h, .nil⟩
  · have e : xs = xs.take n ++ xs.drop n := by simp
    rw [e] at h
    obtain ⟨v1, v2, f1, f2, rfl, rfl, h1, h2⟩ := RepL.split h
    have hl1 : v1.length = n := by rw [h1.length]; simp; omega
    refine ⟨f1, f2, rfl, ?_, ?_⟩
    · rw [← hl1]; simpa [hl1] using h1
    · rw [← hl1]; simpa [hl1] using h2

/-! ### Elements and cells -/
theorem flat_length {sz : Nat} : ∀ {l : List AV}, (∀ a ∈ l, (leaves a).length = sz) → (l.flatMap leaves).length = l.length * sz
  | [], _ => by simp
  | a :: l, h => by
    rw [List.flatMap_cons, List.length_append, flat_length (fun x hx => h x (by simp [hx])), h a (by simp)]
    simp [Nat.add_mul]; omega

theorem flat_drop {sz : Nat} : ∀ {l : List AV} (k : Nat), (∀ a ∈ l, (leaves a).length = sz) → (l.drop k).flatMap leaves = (l.flatMap leaves).drop (k * sz)
  | l, 0, _ => by simp
  | [], k + 1, _ => by simp
  | a :: l, k + 1, h => by
    rw [List.drop_succ_cons, flat_drop k (fun x hx => h x (by simp [hx])), List.flatMap_cons, List.drop_append]
    have := h a (by simp)
    have e : (k + 1) * sz = k * sz + sz := by rw [Nat.add_mul]; omega
    rw [List.drop_of_length_le (l := leaves a) (by omega), List.nil_append, this, e, Nat.add_sub_cancel]

theorem flat_take {sz : Nat} : ∀ {l : List AV} (k : Nat), (∀ a ∈ l, (leaves a).length = sz) → (l.take k).flatMap leaves = (l.flatMap leaves).take (k * sz)
  | l, 0, _ => by simp
  | [], k + 1, _ => by simp
  | a :: l, k + 1, h => by
    rw [List.take_succ_cons, List.flatMap_cons, flat_take k (fun x hx => h x (by simp [hx])), List.flatMap_cons, List.take_append]
    have := h a (by simp)
    have e : (k + 1) * sz = k * sz + sz := by rw [Nat.add_mul]; omega
    rw [List.take_of_length_le (l := leaves a) (by omega), this, e, Nat.add_sub_cancel]

theorem flat_get {sz : Nat} {l : List AV} {i : Nat} {z : AV} (h : ∀ a ∈ l, (leaves a).length = sz) (hz : l[i]? = some z) : ((l.flatMap leaves).drop (i * sz)).take sz = leaves z := by
  obtain ⟨hi, rfl⟩ := List.getElem?_eq_some_iff.1 hz
  have e : l.drop i = l[i] :: l.drop (i + 1) := by simp
  rw [← flat_drop i h, e, List.flatMap_cons, ← h _ (List.getElem_mem hi), List.take_left]

theorem RepL.sub {sz : Nat} {l : List AV} (off len : Nat) (hsz : ∀ a ∈ l, (leaves a).length = sz) (h : RepL F w us (l.flatMap leaves) f) :
    ∃ f1 f2 f3, f = f1 ++ f2 ++ f3 ∧ RepL F w ((us.drop (off * sz)).take (len * sz)) (((l.drop off).take len).flatMap leaves) f2 := by
  obtain ⟨f1, f2, rfl, _, h2⟩ := h.take (off * sz)
  obtain ⟨f3, f4, rfl, h3, _⟩ := h2.take (len * sz)
  refine ⟨f1, f3, f4, by simp, ?_⟩
  rw [flat_take len (fun a ha => hsz a (List.mem_of_mem_drop ha)), flat_drop off hsz]
  exact h3

/-- Everything that is owned may be read as if nobody wrote it. -/
theorem RepL.froized (h : RepL F w vs xs f) : RepL (fun b => F b ∨ b ∈ f) w vs (xs.map froize) [] := by
  induction h with
  | nil => exact .nil
  | und hv t ih => exact .und hv ih
  | int t ih => exact .int ih
  | bool t ih => exact .bool ih
  | str t ih => exact .str ih
  | fro0 hc t ih => exact .fro0 hc ih
  | fro hn hnc hc hb hcell hsz hu t ihu ih => exact .fro hn hnc hc (.inl hb) hcell hsz (hu.mono (fun _ h => .inl h) (fun _ _ => rfl)) ih
  | own0 t ih => exact .fro0 (by simp) ih
  | @own g n c sz et cur l us vs xs f1 f hn hnc hb hcap hcell hsz hu t ihu ih =>
    refine .fro (o := 0) (sz := sz) (us := us) (by simpa [froizeL_eq] using hn) hnc (by simp) (.inr (by simp)) (fun q hq => ?_) ?_ ?_ (ih.mono (fun b h => h.imp id (fun h => by simp [h])) (fun _ _ => rfl))
    · simp only [World.cell?, hb, Nat.zero_add]; exact hcell q hq
    · intro a ha
      rw [froizeL_eq] at ha
      obtain ⟨a', ha', rfl⟩ := List.mem_map.1 ha
      rw [leaves_froize]; simpa using hsz a' ha'
    · rw [froizeL_eq, flat_froize]
      exact ihu.mono (fun b h => h.imp id (fun h => by simp [h])) (fun _ _ => rfl)
  | cptr hb hcell hu t _ ih => exact .cptr (.inl hb) hcell (hu.mono (fun _ h => .inl h) (fun _ _ => rfl)) ih
  | clo hu t _ ih => exact .clo (hu.mono (fun _ h => .inl h) (fun _ _ => rfl)) ih

end
end Go.Vm
