/- How the abstract state stands for the machine's. -/
import Derived.Test.YtfimolakepbdbaaWWp
namespace Go.Vm

def All2 {α β : Type} (R : α → β → Prop) : List α → List β → Prop
  | [], [] => True
  | a :: as, b :: bs => R a b ∧ All2 R as bs
  | _, _ => False

theorem All2.imp {α β : Type} {R R' : α → β → Prop} (h : ∀ a b, R a b → R' a b) : ∀ {as : List α} {bs : List β}, All2 R as bs → All2 R' as bs
  | [], [], _ => trivial
  | _ :: _, _ :: _, ⟨h1, h2⟩ => ⟨h _ _ h1, All2.imp h h2⟩
  | [], _ :: _, h => h.elim
  | _ :: _, [], h => h.elim

theorem All2.length {α β : Type} {R : α → β → Prop} : ∀ {as : List α} {bs : List β}, All2 R as bs → as.length = bs.length
  | [], [], _ => rfl
  | _ :: _, _ :: _, ⟨_, h2⟩ => by simp [All2.length h2]
  | [], _ :: _, h => h.elim
  | _ :: _, [], h => h.elim

theorem All2.get {α β : Type} {R : α → β → Prop} : ∀ {as : List α} {bs : List β} {i : Nat} {b : β}, All2 R as bs → bs[i]? = some b → ∃ a, as[i]? = some a ∧ R a b
  | _ :: _, _ :: _, 0, _, ⟨h1, _⟩, h => by simp at h; subst h; exact ⟨_, rfl, h1⟩
  | _ :: _, _ :: _, i + 1, _, ⟨_, h2⟩, h => by simpa using All2.get h2 (by simpa using h)
  | [], [], _, _, _, h => by simp at h
  | [], _ :: _, _, _, h, _ => h.elim
  | _ :: _, [], _, _, h, _ => h.elim

theorem All2.mk {α β : Type} {R : α → β → Prop} : ∀ {as : List α} {bs : List β}, as.length = bs.length → (∀ (i : Nat) (a : α) (b : β), as[i]? = some a → bs[i]? = some b → R a b) → All2 R as bs
  | [], [], _, _ => trivial
  | a :: as, b :: bs, hl, h => ⟨h 0 a b rfl rfl, All2.mk (by simpa using hl) fun i x y hx hy => h (i + 1) x y (by simpa using hx) (by simpa using hy)⟩
  | [], _ :: _, hl, _ => by simp at hl
  | _ :: _, [], hl, _ => by simp at hl

/-- A block's cells lie as they lie; how many there are. -/
def sameSize (w w' : World) (b : Nat) : Prop := ∀ cur et fr, w.heap[b]? = some (.cells cur et fr) → ∃ cur', w'.heap[b]? = some (.cells cur' et fr) ∧ cur'.size = cur.size

/-- Nothing below w's size has turned but for blocks of S. -/
structure KeptS (w w' : World) (S : Nat → Prop) : Prop where
  os : w'.os = w.os
  tape : w'.tape = w.tape
  output : w'.output = w.output
  size : w.heap.size ≤ w'.heap.size
  block : ∀ b, b < w.heap.size → ¬ S b → w'.heap[b]? = w.heap[b]?
  same : ∀ b, sameSize w w' b

theorem KeptS.refl (w : World) (S : Nat → Prop) : KeptS w w S := ⟨rfl, rfl, rfl, Nat.le_refl _, fun _ _ _ => rfl, fun _ cur _ _ h => ⟨cur, h, rfl⟩⟩
theorem KeptS.trans {w w1 w2 : World} {S T : Nat → Prop} (h : KeptS w w1 S) (k : KeptS w1 w2 T) (hT : ∀ b, b < w.heap.size → T b → S b) : KeptS w w2 S :=
  ⟨k.os.trans h.os, k.tape.trans h.tape, k.output.trans h.output, Nat.le_trans h.size k.size, fun b hb hs => (k.block b (Nat.lt_of_lt_of_le hb h.size) (fun ht => hs (hT b hb ht))).trans (h.block b hb hs),
    fun b cur et fr hb => let ⟨cur1, h1, e1⟩ := h.same b cur et fr hb; let ⟨cur2, h2, e2⟩ := k.same b cur1 et fr h1; ⟨cur2, h2, e2.trans e1⟩⟩

def EntRep (F : Nat → Prop) (w : World) (E : Ent) (m : Option Nat) (f : List Nat) : Prop :=
  (∀ a ∈ E.elems, (leaves a).length = E.sz) ∧
  ((m = none ∧ E.elems = [] ∧ f = []) ∨
   ∃ b cur et fr us f1, m = some b ∧ w.heap[b]? = some (.cells cur et fr) ∧ (∀ q, q < us.length → cur[q]? = us[q]?) ∧ RepL F w us (E.elems.flatMap leaves) f1 ∧
     ((E.frz = true ∧ f = [] ∧ f1 = [] ∧ F b) ∨ (E.frz = false ∧ fr = (0, 0) ∧ f = b :: f1)))

/-- A cell of a temporary. -/
def SLeaf (F : Nat → Prop) (w : World) (en : Nat → Ent) (μ : Nat → Option Nat) (fp : Nat → List Nat) (v : Value) : AV → Prop
  | .hd e g off len clip => g ≤ (en e).gen ∧ ((en e).live = true → (en e).gen = g → ∃ A c, v = .slice A len c ∧ len ≤ c ∧ (clip = true → c = len) ∧ (clip = false → (en e).elems.length ≤ off + c) ∧
      (0 < c → ∃ b cur et fr, μ e = some b ∧ A = some ⟨b, off * (en e).sz, none⟩ ∧ w.heap[b]? = some (.cells cur et fr) ∧ (off + c) * (en e).sz ≤ cur.size))
  | .ptr e g i j => g ≤ (en e).gen ∧ ((en e).live = true → (en e).gen = g → ∃ b, μ e = some b ∧ v = .pointer (some ⟨b, i * (en e).sz + j, none⟩))
  | .fro (some (e, wv, o)) clip l => wv ≤ (en e).wr ∧ ((en e).live = true → (en e).wr = wv → RepL (fun b => F b ∨ b ∈ fp e) w [v] [.fro none clip (l.map froize)] [] ∧
      ((en e).frz = false → ∀ i j, o = some (i, j) → ∃ z b cur et fr sz, (en e).elems[i]? = some z ∧ (leaves z)[j]? = some (.own sz l) ∧ μ e = some b ∧ w.heap[b]? = some (.cells cur et fr) ∧ cur[i * (en e).sz + j]? = some v))
  | .cptr (some (e, wv)) c => wv ≤ (en e).wr ∧ ((en e).live = true → (en e).wr = wv → RepL (fun b => F b ∨ b ∈ fp e) w [v] [.cptr none (c.map froize)] [])
  | .agg _ => False
  | .tup _ => False
  | .own _ _ => False
  | .pt _ _ _ _ => False
  | x => RepL F w [v] [x] []

def SAgg (F : Nat → Prop) (w : World) (en : Nat → Ent) (μ : Nat → Option Nat) (fp : Nat → List Nat) (v : Value) : AV → Prop
  | .agg fs => ∃ cs : Array Value, v = .agg cs ∧ All2 (SLeaf F w en μ fp) cs.toList fs
  | x => SLeaf F w en μ fp v x

def SRep (F : Nat → Prop) (w : World) (en : Nat → Ent) (μ : Nat → Option Nat) (fp : Nat → List Nat) (v : Value) : AV → Prop
  | .tup vs => ∃ us : Array Value, v = .tuple us ∧ All2 (SAgg F w en μ fp) us.toList vs
  | .pt _ _ _ _ => True
  | x => SAgg F w en μ fp v x

/-- What a step may do to the rest, so that the temporaries tell what they told. -/
structure Step (F : Nat → Prop) (w : World) (en : Nat → Ent) (μ : Nat → Option Nat) (fp : Nat → List Nat) (F' : Nat → Prop) (w' : World) (en' : Nat → Ent) (μ' : Nat → Option Nat) (fp' : Nat → List Nat) : Prop where
  hF : ∀ b, F b → F' b
  hw : ∀ b, F b → w'.heap[b]? = w.heap[b]?
  gen : ∀ e, (en e).gen ≤ (en' e).gen
  wr : ∀ e, (en e).wr ≤ (en' e).wr
  same : ∀ e, (en' e).live = true → (en' e).gen = (en e).gen → (en e).live = true ∧ μ' e = μ e ∧ (en' e).sz = (en e).sz ∧ (en' e).elems.length ≤ (en e).elems.length ∧ ∀ b, μ e = some b → sameSize w w' b
  seen : ∀ e, (en' e).live = true → (en' e).wr = (en e).wr → (en e).live = true ∧ (∀ b ∈ fp e, w'.heap[b]? = w.heap[b]? ∧ (b ∈ fp' e ∨ F' b)) ∧
    ((en' e).frz = false → (en e).frz = false ∧ (en' e).elems = (en e).elems ∧ (en' e).sz = (en e).sz ∧ μ' e = μ e ∧ ∀ b, μ e = some b → w'.heap[b]? = w.heap[b]?)

theorem Step.refl (F : Nat → Prop) (w : World) (en : Nat → Ent) (μ : Nat → Option Nat) (fp : Nat → List Nat) : Step F w en μ fp F w en μ fp :=
  ⟨fun _ h => h, fun _ _ => rfl, fun _ => Nat.le_refl _, fun _ => Nat.le_refl _, fun _ h _ => ⟨h, rfl, rfl, Nat.le_refl _, fun _ _ cur _ _ h => ⟨cur, h, rfl⟩⟩,
    fun _ h _ => ⟨h, fun _ hb => ⟨rfl, .inl hb⟩, fun h => ⟨h, rfl, rfl, rfl, fun _ _ => rfl⟩⟩⟩

section
variable {F F' : Nat → Prop} {w w' : World} {en en' : Nat → Ent} {μ μ' : Nat → Option Nat} {fp fp' : Nat → List Nat}

theorem SLeaf.step (st : Step F w en μ fp F' w' en' μ' fp') {v : Value} {x : AV} (h : SLeaf F w en μ fp v x) : SLeaf F' w' en' μ' fp' v x := by
  have plain : ∀ x, RepL F w [v] [x] [] → RepL F' w' [v] [x] [] := fun x h => h.mono st.hF fun b hb => st.hw b (by simpa using hb)
  cases x with
  | hd e g off len clip =>
    obtain ⟨hg, h⟩ := h
    refine ⟨Nat.le_trans hg (st.gen e), fun hl he => ?_⟩
    have hge : (en' e).gen = (en e).gen := by have := st.gen e; omega
    obtain ⟨hl0, hμ, hsz, hN, hb⟩ := st.same e hl hge
    obtain ⟨A, c, rfl, hlc, hcl, hnc, hc⟩ := h hl0 (by omega)
    refine ⟨A, c, rfl, hlc, hcl, fun h => by have := hnc h; omega, fun hc0 => ?_⟩
    obtain ⟨b, cur, et, fr, hμe, rfl, hblk, hcap⟩ := hc hc0
    obtain ⟨cur', hblk', hcs⟩ := hb b hμe cur et fr hblk
    exact ⟨b, cur', et, fr, by rw [hμ, hμe], by rw [hsz], hblk', by rw [hsz, hcs]; exact hcap⟩
  | ptr e g i j =>
    obtain ⟨hg, h⟩ := h
    refine ⟨Nat.le_trans hg (st.gen e), fun hl he => ?_⟩
    have hge : (en' e).gen = (en e).gen := by have := st.gen e; omega
    obtain ⟨hl0, hμ, hsz, _⟩ := st.same e hl hge
    obtain ⟨b, hμe, rfl⟩ := h hl0 (by omega)
    exact ⟨b, by rw [hμ, hμe], by rw [hsz]⟩
  | fro tg clip l =>
    cases tg with
    | none => exact plain _ h
    | some tg =>
      obtain ⟨e, wv, o⟩ := tg
      obtain ⟨hg, h⟩ := h
      refine ⟨Nat.le_trans hg (st.wr e), fun hl he => ?_⟩
      have hwe : (en' e).wr = (en e).wr := by have := st.wr e; omega
      obtain ⟨hl0, hfp, ho⟩ := st.seen e hl hwe
      obtain ⟨h1, h2⟩ := h hl0 (by omega)
      refine ⟨h1.mono (fun b hb => ?_) (fun b hb => ?_), fun hfz i j hij => ?_⟩
      · rcases hb with hb | hb
        · exact .inl (st.hF b hb)
        · exact (hfp b hb).2.symm
      · rcases hb with (hb | hb) | hb
        · exact st.hw b hb
        · exact (hfp b hb).1
        · simp at hb
      · obtain ⟨hfz0, hel, hsz, hμ, hb⟩ := ho hfz
        obtain ⟨z, b, cur, et, fr, sz, e1, e2, e3, e4, e5⟩ := h2 hfz0 i j hij
        exact ⟨z, b, cur, et, fr, sz, by rw [hel]; exact e1, e2, by rw [hμ, e3], by rw [hb b e3]; exact e4, by rw [hsz]; exact e5⟩
  | cptr tg c =>
    cases tg with
    | none => exact plain _ h
    | some tg =>
      obtain ⟨e, wv⟩ := tg
      obtain ⟨hg, h⟩ := h
      refine ⟨Nat.le_trans hg (st.wr e), fun hl he => ?_⟩
      have hwe : (en' e).wr = (en e).wr := by have := st.wr e; omega
      obtain ⟨hl0, hfp, _⟩ := st.seen e hl hwe
      refine (h hl0 (by omega)).mono (fun b hb => ?_) (fun b hb => ?_)
      · rcases hb with hb | hb
        · exact .inl (st.hF b hb)
        · exact (hfp b hb).2.symm
      · rcases hb with (hb | hb) | hb
        · exact st.hw b hb
        · exact (hfp b hb).1
        · simp at hb
  | und => exact plain _ h
  | int => exact plain _ h
  | bool => exact plain _ h
  | str => exact plain _ h
  | clo => exact plain _ h
  | agg => exact h
  | tup => exact h
  | own => exact h
  | pt => exact h

theorem SAgg.step (st : Step F w en μ fp F' w' en' μ' fp') {v : Value} {x : AV} (h : SAgg F w en μ fp v x) : SAgg F' w' en' μ' fp' v x := by
  cases x with
  | agg fs => exact let ⟨cs, e, h⟩ := h; ⟨cs, e, h.imp fun _ _ => SLeaf.step st⟩
  | _ => simp only [SAgg] at h ⊢; exact SLeaf.step st h

theorem SRep.step (st : Step F w en μ fp F' w' en' μ' fp') {v : Value} {x : AV} (h : SRep F w en μ fp v x) : SRep F' w' en' μ' fp' v x := by
  cases x with
  | tup vs => exact let ⟨us, e, h⟩ := h; ⟨us, e, h.imp fun _ _ => SAgg.step st⟩
  | pt => trivial
  | _ => simp only [SRep] at h ⊢; exact SAgg.step st h

end

/-- The abstract state σ stands for the machine's (a, w), in an activation that began in w0, may read blocks of F0, and write blocks of S0 beside those of its own. L: blocks that are owned by what is just on its way. -/
structure Rel (n : Nat) (w0 : World) (F0 S0 : Nat → Prop) (G : Value → AV → Prop) (F : Nat → Prop) (μ : Nat → Option Nat) (fp : Nat → List Nat) (L : List Nat) (σ : St) (a : Act) (w : World) : Prop where
  defers : a.defers = []
  size : a.tmps.size = n
  kept : KeptS w0 w S0
  base : ∀ b, F0 b → F b
  free : ∀ b, F b → b < w.heap.size ∧ (F0 b ∨ S0 b ∨ w0.heap.size ≤ b)
  ent : ∀ e, (σ.en e).live = true → EntRep F w (σ.en e) (μ e) (fp e)
  own : ∀ e, (σ.en e).live = true → ∀ b ∈ fp e, ¬ F b ∧ b < w.heap.size ∧ (S0 b ∨ w0.heap.size ≤ b)
  nodup : ∀ e, (σ.en e).live = true → (fp e).Nodup
  apart : ∀ e e', (σ.en e).live = true → (σ.en e').live = true → e ≠ e' → ∀ b ∈ fp e, b ∉ fp e'
  loose : ∀ b ∈ L, ¬ F b ∧ b < w.heap.size ∧ (S0 b ∨ w0.heap.size ≤ b) ∧ ∀ e, (σ.en e).live = true → b ∉ fp e
  looseNodup : L.Nodup
  slots : ∀ s, SRep F w σ.en μ fp (a.tmps.getD s undef) (σ.sl s)
  ghost : ∀ v x, G v x → SLeaf F w σ.en μ fp v x

end Go.Vm
