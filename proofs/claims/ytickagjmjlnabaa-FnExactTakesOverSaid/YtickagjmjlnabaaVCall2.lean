/- Calls. -/
import Derived.Test.YtickagjmjlnabaaVCall1
namespace Go.Vm

section
variable {C : Cfg} {n : Nat} {w0 : World} {F0 S0 F : Nat → Prop} {G : Value → AV → Prop} {μ : Nat → Option Nat} {fp : Nat → List Nat} {L : List Nat} {σ σ' : St} {a : Act} {w w' : World} {o : Oper}

theorem takeL_ok : ∀ {xs ys : List AV} {vs : List Value} {f : List Nat} {j d : Nat} {σ σ' : St} {μ : Nat → Option Nat} {fp : Nat → List Nat} {L : List Nat}, Rel n w0 F0 S0 G F μ fp (f ++ L) σ a w → RepL F w vs xs f → takeL d j xs σ = (ys, σ') →
    ∃ μ' fp', Rel n w0 F0 S0 G F μ' fp' L σ' a w ∧ All2 (SLeaf F w σ'.en μ' fp') vs ys ∧ (∀ v x, SLeaf F w σ.en μ fp v x → SLeaf F w σ'.en μ' fp' v x) ∧ σ'.sl = σ.sl
  | [], ys, vs, f, j, d, σ, σ', μ, fp, L, h, hr, ht => by
    simp only [takeL, Prod.mk.injEq] at ht
    obtain ⟨rfl, rfl⟩ := ht
    cases hr
    exact ⟨μ, fp, by simpa using h, trivial, fun _ _ h => h, rfl⟩
  | x :: xs, ys, vs, f, j, d, σ, σ', μ, fp, L, h, hr, ht => by
    cases vs with
    | nil => cases hr
    | cons v vs =>
      obtain ⟨f1, f2, rfl, h1, h2⟩ := hr.cons_inv
      simp only [takeL, Prod.mk.injEq] at ht
      obtain ⟨rfl, rfl⟩ := ht
      cases e1 : takeLeaf d j σ x with
      | mk y σ1 =>
      obtain ⟨μ1, fp1, r1, r2, r3, r4⟩ := takeLeaf_ok (L := f2 ++ L) (by simpa using h) h1 e1
      cases e2 : takeL d (j + 1) xs σ1 with
      | mk ys' σ2 =>
      obtain ⟨μ2, fp2, s1, s2, s3, s4⟩ := takeL_ok r1 h2 e2
      exact ⟨μ2, fp2, s1, ⟨s3 _ _ r2, s2⟩, fun v x hx => s3 _ _ (hx.step r3), s4.trans r4⟩

theorem takeV_ok {f : List Nat} (h : Rel n w0 F0 S0 G F μ fp (f ++ L) σ a w) {v : Value} {x y : AV} {d j : Nat} (hx : ValRep F w v x f) (ht : takeV d j σ x = (y, σ')) :
    ∃ μ' fp', Rel n w0 F0 S0 G F μ' fp' L σ' a w ∧ SAgg F w σ'.en μ' fp' v y ∧ (∀ v x, SLeaf F w σ.en μ fp v x → SLeaf F w σ'.en μ' fp' v x) ∧ σ'.sl = σ.sl := by
  have leaf : RepL F w [v] [x] f → takeLeaf d j σ x = (y, σ') → ∃ μ' fp', Rel n w0 F0 S0 G F μ' fp' L σ' a w ∧ SAgg F w σ'.en μ' fp' v y ∧ (∀ v x, SLeaf F w σ.en μ fp v x → SLeaf F w σ'.en μ' fp' v x) ∧ σ'.sl = σ.sl := by
    intro hr ht
    obtain ⟨μ', fp', r1, r2, r3, r4⟩ := takeLeaf_ok h hr ht
    refine ⟨μ', fp', r1, ?_, fun v x hx => hx.step r3, r4⟩
    cases y with
    | agg => exact r2.elim
    | _ => exact r2
  cases x with
  | agg fs =>
    obtain ⟨cs, rfl, hr⟩ := hx
    simp only [takeV, Prod.mk.injEq] at ht
    obtain ⟨rfl, rfl⟩ := ht
    cases e1 : takeL d j fs σ with
    | mk ys σ1 =>
    obtain ⟨μ', fp', r1, r2, r3, r4⟩ := takeL_ok h hr e1
    exact ⟨μ', fp', r1, ⟨cs, rfl, r2⟩, r3, r4⟩
  | _ => exact leaf hx ht

theorem SAgg.trans {en en' : Nat → Ent} {μ' : Nat → Option Nat} {fp' : Nat → List Nat} (ht : ∀ v x, SLeaf F w en μ fp v x → SLeaf F w en' μ' fp' v x) {v : Value} {x : AV} (h : SAgg F w en μ fp v x) : SAgg F w en' μ' fp' v x := by
  cases x with
  | agg fs => obtain ⟨cs, e, h⟩ := h; exact ⟨cs, e, h.imp ht⟩
  | _ => simp only [SAgg] at h ⊢; exact ht _ _ h

theorem takeTup_ok : ∀ {xs ys : List AV} {vs : List Value} {f : List Nat} {j d : Nat} {σ σ' : St} {μ : Nat → Option Nat} {fp : Nat → List Nat} {L : List Nat}, Rel n w0 F0 S0 G F μ fp (f ++ L) σ a w → ValsRep F w vs xs f → takeTup d j xs σ = (ys, σ') →
    ∃ μ' fp', Rel n w0 F0 S0 G F μ' fp' L σ' a w ∧ All2 (SAgg F w σ'.en μ' fp') vs ys ∧ (∀ v x, SLeaf F w σ.en μ fp v x → SLeaf F w σ'.en μ' fp' v x) ∧ σ'.sl = σ.sl
  | [], ys, vs, f, j, d, σ, σ', μ, fp, L, h, hr, ht => by
    simp only [takeTup, Prod.mk.injEq] at ht
    obtain ⟨rfl, rfl⟩ := ht
    cases hr
    exact ⟨μ, fp, by simpa using h, trivial, fun _ _ h => h, rfl⟩
  | x :: xs, ys, vs, f, j, d, σ, σ', μ, fp, L, h, hr, ht => by
    cases hr with
    | @cons v _ vs _ f1 f2 h1 h2 =>
    simp only [takeTup, Prod.mk.injEq] at ht
    obtain ⟨rfl, rfl⟩ := ht
    cases e1 : takeV d j σ x with
    | mk y σ1 =>
    obtain ⟨μ1, fp1, r1, r2, r3, r4⟩ := takeV_ok (L := f2 ++ L) (by simpa using h) h1 e1
    cases e2 : takeTup d (j + (leaves x).length) xs σ1 with
    | mk ys' σ2 =>
    obtain ⟨μ2, fp2, s1, s2, s3, s4⟩ := takeTup_ok r1 h2 e2
    exact ⟨μ2, fp2, s1, ⟨SAgg.trans s3 r2, s2⟩, fun v x hx => s3 _ _ (r3 _ _ hx), s4.trans r4⟩

theorem SRep.of_agg {en : Nat → Ent} {v : Value} {x : AV} (h : SAgg F w en μ fp v x) : SRep F w en μ fp v x := by
  cases x with
  | tup => exact h.elim
  | pt => exact h.elim
  | _ => exact h

theorem takeRes_ok {f : List Nat} (h : Rel n w0 F0 S0 G F μ fp f σ a w) {dst : Option Nat} (hd : ∀ k, dst = some k → k < n) {v : Value} {r : AV} (hr : ResRep F w v r f) :
    ∃ μ' fp', Rel n w0 F0 S0 G F μ' fp' [] (takeRes dst σ r) (a.put dst v) w := by
  cases dst with
  | none => exact ⟨μ, fp, h.drop (List.nil_sublist _)⟩
  | some d =>
    have one : ValRep F w v r f → takeRes (some d) σ r = ((takeV d 0 σ r).2.put (some d) (takeV d 0 σ r).1) → ∃ μ' fp', Rel n w0 F0 S0 G F μ' fp' [] (takeRes (some d) σ r) (a.put (some d) v) w := by
      intro hv he
      cases e : takeV d 0 σ r with
      | mk y σ1 =>
      obtain ⟨μ', fp', r1, r2, _⟩ := takeV_ok (L := []) (by simpa using h) hv e
      rw [he, e]
      exact ⟨μ', fp', r1.put (hd d rfl) (SRep.of_agg r2)⟩
    cases r with
    | tup xs =>
      obtain ⟨us, rfl, hv⟩ := hr
      cases e : takeTup d 0 xs σ with
      | mk ys σ1 =>
      obtain ⟨μ', fp', r1, r2, _⟩ := takeTup_ok (L := []) (by simpa using h) hv e
      refine ⟨μ', fp', ?_⟩
      have : takeRes (some d) σ (.tup xs) = σ1.put (some d) (.tup ys) := by simp only [takeRes, e]
      rw [this]
      exact r1.put (hd d rfl) (x := .tup ys) ⟨us, rfl, r2⟩
    | _ => exact one hr rfl

/-- What a function does: from these arguments, this result. -/
def Does (C : Cfg) (f : Nat) (args : List AV) (res : AV) : Prop :=
  ∀ (w : World) (F : Nat → Prop) (vals : List Value), (∀ b, F b → b < w.heap.size) → ValsRep F w vals args [] →
    Calls C.P f vals.toArray w fun e w' => ∃ v F' g, e = .returned v ∧ KeptS w w' (fun _ => False) ∧ (∀ b, F' b → b < w'.heap.size ∧ (F b ∨ w.heap.size ≤ b)) ∧ (∀ b ∈ g, ¬ F' b ∧ w.heap.size ≤ b ∧ b < w'.heap.size) ∧ g.Nodup ∧ ResRep F' w' v res g

/-- It can be called, and writes through none of its parameters. -/
def Plain (C : Cfg) (f : Nat) : Prop := (∀ p, C.wrt f p = false) ∧ ∃ fn c, C.P.funcs[f]? = some fn ∧ (fn.name == "runtime.NumGoroutine") = false ∧ fn.body = some c

def SpecOk (C : Cfg) (D : Spec) : Prop := ∀ f args res left, D f args res left → Plain C f ∧ Does C f args res

theorem lent_live (_h : Rel n w0 F0 S0 G F μ fp L σ a w) {f : Nat} : ∀ {xs ys : List AV} {p : Nat}, passL C σ f p xs = some ys → ∀ e ∈ lentL C σ f p xs, (σ.en e).live = true := by
  have leaf : ∀ {x y : AV}, lendLeaf σ x = some y → ∀ e ∈ lentOf σ x, (σ.en e).live = true := by
    intro x y hy e he
    unfold lentOf at he
    split at he
    · rename_i e' g off len clip
      simp only [lendLeaf, Option.bind_eq_bind, Option.bind_eq_some_iff] at hy
      obtain ⟨E, hE, _⟩ := hy
      split at he
      · cases he
      · simp at he; subst he; exact (cur_some hE).1
    · rename_i e' wv oo clip l
      simp only [lendLeaf, Option.bind_eq_bind, Option.bind_eq_some_iff] at hy
      obtain ⟨_, hv, _⟩ := hy
      split at he
      · cases he
      · simp at he; subst he; exact (ensure_some hv).1
    · rename_i e' g i j
      simp only [lendLeaf, Option.bind_eq_bind, Option.bind_eq_some_iff] at hy
      obtain ⟨E, hE, _⟩ := hy
      split at he
      · cases he
      · simp at he; subst he; exact (cur_some hE).1
    · rename_i e' wv c
      simp only [lendLeaf, Option.bind_eq_bind, Option.bind_eq_some_iff] at hy
      obtain ⟨_, hv, _⟩ := hy
      split at he
      · cases he
      · simp at he; subst he; exact (ensure_some hv).1
    · cases he
  have leafL : ∀ {xs ys : List AV}, lendL σ xs = some ys → ∀ e ∈ xs.flatMap (lentOf σ), (σ.en e).live = true := by
    intro xs
    induction xs with
    | nil => intro ys _ e he; simp at he
    | cons x xs ih =>
      intro ys hy e he
      simp only [lendL, Option.bind_eq_bind, Option.bind_eq_some_iff] at hy
      obtain ⟨y, h1, ys', h2, _⟩ := hy
      rw [List.flatMap_cons] at he
      rcases List.mem_append.1 he with he | he
      · exact leaf h1 e he
      · exact ih h2 e he
  intro xs
  induction xs with
  | nil => intro ys p _ e he; simp [lentL] at he
  | cons x xs ih =>
    intro ys p hy e he
    simp only [passL, Option.bind_eq_bind, Option.bind_eq_some_iff] at hy
    obtain ⟨y, h1, ys', h2, _⟩ := hy
    simp only [lentL] at he
    rcases List.mem_append.1 he with he | he
    · unfold passArg at h1
      split at h1
      · cases h1
      rename_i hw
      rw [if_neg hw] at he
      split at h1
      · simp only [Option.bind_eq_bind, Option.bind_eq_some_iff] at h1
        obtain ⟨ls, hls, _⟩ := h1
        exact leafL hls e he
      · rename_i hna
        rw [leaves_length_of (fun fs hx => hna fs hx)] at he
        exact leaf h1 e (by simpa using he)
    · exact ih h2 e he

/-- The arguments, and the callee's captured values behind them. -/
theorem passL_caps {f : Nat} (hw : ∀ p, C.wrt f p = false) : ∀ {xs cs ys : List AV} {p : Nat}, passL C σ f p (xs ++ cs) = some ys → ∃ y1 y2, ys = y1 ++ y2 ∧ passL C σ f p xs = some y1 ∧ passL C σ f (p + xs.length) cs = some y2
  | [], cs, ys, p, h => ⟨[], ys, rfl, rfl, by simpa using h⟩
  | x :: xs, cs, ys, p, h => by
    simp only [List.cons_append, passL, Option.bind_eq_bind, Option.bind_eq_some_iff] at h
    obtain ⟨y, h1, ys', h2, he⟩ := h
    cases he
    obtain ⟨y1, y2, rfl, h3, h4⟩ := passL_caps hw h2
    refine ⟨y :: y1, y2, rfl, ?_, ?_⟩
    · simp only [passL, h1, h3, Option.bind_eq_bind, Option.bind_some]
    · rw [List.length_cons, show p + (xs.length + 1) = p + 1 + xs.length by omega]; exact h4

theorem ValsRep.append {vs us : List Value} {xs ys : List AV} {f g : List Nat} (h : ValsRep F w vs xs f) (k : ValsRep F w us ys g) : ValsRep F w (vs ++ us) (xs ++ ys) (f ++ g) := by
  induction h with
  | nil => exact k
  | cons h1 h2 ih => rw [List.append_assoc]; exact .cons h1 ih

/-- Captured cells, lent: nothing new is lent. -/
theorem caps_ok (h : Rel n w0 F0 S0 G F μ fp L σ a w) {f : Nat} (hw : ∀ p, C.wrt f p = false) : ∀ {cs ys : List AV} {us : List Value} {p : Nat}, RepL F w us cs [] → passL C σ f p cs = some ys → ValsRep F w us ys []
  | [], ys, us, p, hr, hy => by cases hr; cases hy; exact .nil
  | c :: cs, ys, us, p, hr, hy => by
    cases us with
    | nil => cases hr
    | cons u us =>
      obtain ⟨f1, f2, hf, h1, h2⟩ := hr.cons_inv
      obtain ⟨rfl, rfl⟩ := List.append_eq_nil_iff.1 hf.symm
      simp only [passL, Option.bind_eq_bind, Option.bind_eq_some_iff] at hy
      obtain ⟨y, hy1, ys', hy2, he⟩ := hy
      cases he
      have r2 := caps_ok h hw h2 hy2
      refine .cons (f1 := []) ?_ r2
      unfold passArg at hy1
      rw [hw, if_neg (by simp)] at hy1
      cases c with
      | agg => cases h1
      | fro tg clip l =>
        cases tg with
        | none => cases hy1; exact h1
        | some => cases h1
      | cptr tg c =>
        cases tg with
        | none => cases hy1; exact h1
        | some => cases h1
      | _ => first | (cases hy1; exact h1) | (cases h1; done) | (simp [lendLeaf] at hy1; done)

end
end Go.Vm
