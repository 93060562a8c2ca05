/- Calls. -/
import Derived.Test.YtfimolakepbdbaaWCall1
namespace Go.Vm

section
variable {C : Cfg} {n : Nat} {w0 : World} {F0 S0 F : Nat → Prop} {G : Value → AV → Prop} {μ : Nat → Option Nat} {fp : Nat → List Nat} {L : List Nat} {σ σ' : St} {a : Act} {w w' : World} {o : Oper}

theorem takeL_ok : ∀ {xs ys : List AV} {vs : List Value} {f : List Nat} {j d : Nat} {σ σ' : St} {μ : Nat → Option Nat} {fp : Nat → List Nat} {L : List Nat}, Rel n w0 F0 S0 G F μ fp (f ++ L) σ a w → RepL F w vs xs f → takeL d j xs σ = (ys, σ') →
    ∃ μ' fp', Rel n w0 F0 S0 G F μ' fp' L σ' a w ∧ All2 (SLeaf F w σ'.en μ' fp') vs ys ∧ (∀ v x, SLeaf F w σ.en μ fp v x → SLeaf F w σ'.en μ' fp' v x) ∧ σ'.sl = σ.sl
  | [], ys, vs, f, j, d, σ, σ', μ, fp, L, h, hr, ht => by
    simp only [takeL, Prod.mk.injEq] at ht
    obtain ⟨rfl, rfl⟩ := ht
    cases hr
    exact ⟨μ, fp, by simpa using h, trivial, fun _ _ h => h, rfl⟩
  | x :: xs, ys, vs, f, j, d, σ, σ', μ, fp, L, h, hr, ht => by
    cases vs with
    | nil => cases hr
    | cons v vs =>
      obtain ⟨f1, f2, rfl, h1, h2⟩ := hr.cons_inv
      simp only [takeL, Prod.mk.injEq] at ht
      obtain ⟨rfl, rfl⟩ := ht
      cases e1 : takeLeaf d j σ x with
      | mk y σ1 =>
      obtain ⟨μ1, fp1, r1, r2, r3, r4⟩ := takeLeaf_ok (L := f2 ++ L) (by simpa using h) h1 e1
      cases e2 : takeL d (j + 1) xs σ1 with
      | mk ys' σ2 =>
      obtain ⟨μ2, fp2, s1, s2, s3, s4⟩ := takeL_ok r1 h2 e2
      exact ⟨μ2, fp2, s1, ⟨s3 _ _ r2, s2⟩, fun v x hx => s3 _ _ (hx.step r3), s4.trans r4⟩

theorem takeV_ok {f : List Nat} (h : Rel n w0 F0 S0 G F μ fp (f ++ L) σ a w) {v : Value} {x y : AV} {d j : Nat} (hx : ValRep F w v x f) (ht : takeV d j σ x = (y, σ')) :
    ∃ μ' fp', Rel n w0 F0 S0 G F μ' fp' L σ' a w ∧ SAgg F w σ'.en μ' fp' v y ∧ (∀ v x, SLeaf F w σ.en μ fp v x → SLeaf F w σ'.en μ' fp' v x) ∧ σ'.sl = σ.sl := by
  have leaf : RepL F w [v] [x] f → takeLeaf d j σ x = (y, σ') → ∃ μ' fp', Rel n w0 F0 S0 G F μ' fp' L σ' a w ∧ SAgg F w σ'.en μ' fp' v y ∧ (∀ v x, SLeaf F w σ.en μ fp v x → SLeaf F w σ'.en μ' fp' v x) ∧ σ'.sl = σ.sl := by
    intro hr ht
    obtain ⟨μ', fp', r1, r2, r3, r4⟩ := takeLeaf_ok h hr ht
    refine ⟨μ', fp', r1, ?_, fun v x hx => hx.step r3, r4⟩
    cases y with
    | agg => exact r2.elim
    | _ => exact r2
  cases x with
  | agg fs =>
    obtain ⟨cs, rfl, hr⟩ := hx
    simp only [takeV, Prod.mk.injEq] at ht
    obtain ⟨rfl, rfl⟩ := ht
    cases e1 : takeL d j fs σ with
    | mk ys σ1 =>
    obtain ⟨μ', fp', r1, r2, r3, r4⟩ := takeL_ok h hr e1
    exact ⟨μ', fp', r1, ⟨cs, rfl, r2⟩, r3, r4⟩
  | _ => exact leaf hx ht

theorem SAgg.trans {en en' : Nat → Ent} {μ' : Nat → Option Nat} {fp' : Nat → List Nat} (ht : ∀ v x, SLeaf F w en μ fp v x → SLeaf F w en' μ' fp' v x) {v : Value} {x : AV} (h : SAgg F w en μ fp v x) : SAgg F w en' μ' fp' v x := by
  cases x with
  | agg fs => obtain ⟨cs, e, h⟩ := h; exact ⟨cs, e, h.imp ht⟩
  | _ => simp only [SAgg] at h ⊢; exact ht _ _ h

theorem takeTup_ok : ∀ {xs ys : List AV} {vs : List Value} {f : List Nat} {j d : Nat} {σ σ' : St} {μ : Nat → Option Nat} {fp : Nat → List Nat} {L : List Nat}, Rel n w0 F0 S0 G F μ fp (f ++ L) σ a w → ValsRep F w vs xs f → takeTup d j xs σ = (ys, σ') →
    ∃ μ' fp', Rel n w0 F0 S0 G F μ' fp' L σ' a w ∧ All2 (SAgg F w σ'.en μ' fp') vs ys ∧ (∀ v x, SLeaf F w σ.en μ fp v x → SLeaf F w σ'.en μ' fp' v x) ∧ σ'.sl = σ.sl
  | [], ys, vs, f, j, d, σ, σ', μ, fp, L, h, hr, ht => by
    simp only [takeTup, Prod.mk.injEq] at ht
    obtain ⟨rfl, rfl⟩ := ht
    cases hr
    exact ⟨μ, fp, by simpa using h, trivial, fun _ _ h => h, rfl⟩
  | x :: xs, ys, vs, f, j, d, σ, σ', μ, fp, L, h, hr, ht => by
    cases hr with
    | @cons v _ vs _ f1 f2 h1 h2 =>
    simp only [takeTup, Prod.mk.injEq] at ht
    obtain ⟨rfl, rfl⟩ := ht
    cases e1 : takeV d j σ x with
    | mk y σ1 =>
    obtain ⟨μ1, fp1, r1, r2, r3, r4⟩ := takeV_ok (L := f2 ++ L) (by simpa using h) h1 e1
    cases e2 : takeTup d (j + (leaves x).length) xs σ1 with
    | mk ys' σ2 =>
    obtain ⟨μ2, fp2, s1, s2, s3, s4⟩ := takeTup_ok r1 h2 e2
    exact ⟨μ2, fp2, s1, ⟨SAgg.trans s3 r2, s2⟩, fun v x hx => s3 _ _ (r3 _ _ hx), s4.trans r4⟩

theorem SRep.of_agg {en : Nat → Ent} {v : Value} {x : AV} (h : SAgg F w en μ fp v x) : SRep F w en μ fp v x := by
  cases x with
  | tup => exact h.elim
  | pt => exact h.elim
  | _ => exact h

theorem takeRes_ok {f : List Nat} (h : Rel n w0 F0 S0 G F μ fp f σ a w) {dst : Option Nat} (hd : ∀ k, dst = some k → k < n) {v : Value} {r : AV} (hr : ResRep F w v r f) :
    ∃ μ' fp', Rel n w0 F0 S0 G F μ' fp' [] (takeRes dst σ r) (a.put dst v) w := by
  cases dst with
  | none => exact ⟨μ, fp, h.drop (List.nil_sublist _)⟩
  | some d =>
    have one : ValRep F w v r f → takeRes (some d) σ r = ((takeV d 0 σ r).2.put (some d) (takeV d 0 σ r).1) → ∃ μ' fp', Rel n w0 F0 S0 G F μ' fp' [] (takeRes (some d) σ r) (a.put (some d) v) w := by
      intro hv he
      cases e : takeV d 0 σ r with
      | mk y σ1 =>
      obtain ⟨μ', fp', r1, r2, _⟩ := takeV_ok (L := []) (by simpa using h) hv e
      rw [he, e]
      exact ⟨μ', fp', r1.put (hd d rfl) (SRep.of_agg r2)⟩
    cases r with
    | tup xs =>
      obtain ⟨us, rfl, hv⟩ := hr
      cases e : takeTup d 0 xs σ with
      | mk ys σ1 =>
      obtain ⟨μ', fp', r1, r2, _⟩ := takeTup_ok (L := []) (by simpa using h) hv e
      refine ⟨μ', fp', ?_⟩
      have : takeRes (some d) σ (.tup xs) = σ1.put (some d) (.tup ys) := by simp only [takeRes, e]
      rw [this]
      exact r1.put (hd d rfl) (x := .tup ys) ⟨us, rfl, r2⟩
    | pt sz l i j =>
      obtain ⟨b, cur, et, us, f1, rfl, hb, hcell, hsz, hu, rfl⟩ := hr
      obtain ⟨r1, _⟩ := h.fresh (w' := w) (L' := []) (m := some b) (f := b :: f1) (eid d 0) sz l (fun b hb => .inl hb) (List.nil_sublist _) (fun b hb => by simp) h.looseNodup (KeptS.refl _ _)
        (fun b' hm => by cases hm; exact (Array.getElem?_eq_some_iff.1 hb).1) ⟨hsz, .inr ⟨b, cur, et, (0, 0), us, f1, rfl, hb, hcell, hu, .inr ⟨rfl, rfl, rfl⟩⟩⟩
      have r2 : SLeaf F w (σ.fresh (eid d 0) sz l).en (upd μ (eid d 0) (some b)) (upd fp (eid d 0) (b :: f1)) (.pointer (some ⟨b, i * sz + j, none⟩)) (.ptr (eid d 0) ((σ.en (eid d 0)).gen + 1) i j) := by
        refine ⟨by simp [St.fresh, St.ent, upd], fun _ _ => ⟨b, by simp [upd], by simp [St.fresh, St.ent, upd]⟩⟩
      exact ⟨_, _, r1.put (hd d rfl) (x := .ptr (eid d 0) ((σ.en (eid d 0)).gen + 1) i j) r2⟩
    | _ => exact one hr rfl

/-- What is left in what was lent to be written. -/
def LeftRep (C : Cfg) (f : Nat) (F : Nat → Prop) (w : World) (vals : List Value) (args : List AV) (left : AV) (gs : List Nat) : Prop :=
  match C.wrt f with
  | none => gs = []
  | some k => (∃ u y, vals[k]? = some u ∧ args[k]? = some y ∧ sameShape y left ∧ ArgRep F w u left gs) ∨ (left = .tup [] ∧ gs = [])

/-- What a function does: from these arguments, one of these results, and this left. -/
def DoesR (C : Cfg) (f : Nat) (args : List AV) (R : AV → AV → Prop) : Prop :=
  ∀ (w : World) (F : Nat → Prop) (vals : List Value) (gs : List Nat), (∀ b, F b → b < w.heap.size) → ArgsRep F w vals args gs → gs.Nodup → (∀ b ∈ gs, ¬ F b ∧ b < w.heap.size) →
    Calls C.P f vals.toArray w fun e w' => ∃ v F' g gs' res left, R res left ∧ e = .returned v ∧ KeptS w w' (fun b => b ∈ gs) ∧ (∀ b, F b → F' b) ∧ (∀ b, F' b → b < w'.heap.size ∧ (F b ∨ b ∈ gs ∨ w.heap.size ≤ b)) ∧
      (∀ b ∈ g ++ gs', ¬ F' b ∧ (b ∈ gs ∨ w.heap.size ≤ b) ∧ b < w'.heap.size) ∧ (g ++ gs').Nodup ∧ ResRep F' w' v res g ∧ LeftRep C f F' w' vals args left gs'

/-- It can be called. -/
def Plain (C : Cfg) (f : Nat) : Prop := ∃ fn c, C.P.funcs[f]? = some fn ∧ (fn.name == "runtime.NumGoroutine") = false ∧ fn.body = some c

def SpecOk (C : Cfg) (D : Spec) : Prop := ∀ f args R, D f args R → Plain C f ∧ DoesR C f args R

theorem lent_live (_h : Rel n w0 F0 S0 G F μ fp L σ a w) {f : Nat} : ∀ {xs ys : List AV} {p : Nat}, passL C σ f p xs = some ys → ∀ e ∈ lentL C σ f p xs, (σ.en e).live = true := by
  have leaf : ∀ {x y : AV}, lendLeaf σ x = some y → ∀ e ∈ lentOf σ x, (σ.en e).live = true := by
    intro x y hy e he
    unfold lentOf at he
    split at he
    · rename_i e' g off len clip
      simp only [lendLeaf, Option.bind_eq_bind, Option.bind_eq_some_iff] at hy
      obtain ⟨E, hE, _⟩ := hy
      split at he
      · cases he
      · simp at he; subst he; exact (cur_some hE).1
    · rename_i e' wv oo clip l
      simp only [lendLeaf, Option.bind_eq_bind, Option.bind_eq_some_iff] at hy
      obtain ⟨_, hv, _⟩ := hy
      split at he
      · cases he
      · simp at he; subst he; exact (ensure_some hv).1
    · rename_i e' g i j
      simp only [lendLeaf, Option.bind_eq_bind, Option.bind_eq_some_iff] at hy
      obtain ⟨E, hE, _⟩ := hy
      split at he
      · cases he
      · simp at he; subst he; exact (cur_some hE).1
    · rename_i e' wv c
      simp only [lendLeaf, Option.bind_eq_bind, Option.bind_eq_some_iff] at hy
      obtain ⟨_, hv, _⟩ := hy
      split at he
      · cases he
      · simp at he; subst he; exact (ensure_some hv).1
    · cases he
  have leafL : ∀ {xs ys : List AV}, lendL σ xs = some ys → ∀ e ∈ xs.flatMap (lentOf σ), (σ.en e).live = true := by
    intro xs
    induction xs with
    | nil => intro ys _ e he; simp at he
    | cons x xs ih =>
      intro ys hy e he
      simp only [lendL, Option.bind_eq_bind, Option.bind_eq_some_iff] at hy
      obtain ⟨y, h1, ys', h2, _⟩ := hy
      rw [List.flatMap_cons] at he
      rcases List.mem_append.1 he with he | he
      · exact leaf h1 e he
      · exact ih h2 e he
  intro xs
  induction xs with
  | nil => intro ys p _ e he; simp [lentL] at he
  | cons x xs ih =>
    intro ys p hy e he
    simp only [passL, Option.bind_eq_bind, Option.bind_eq_some_iff] at hy
    obtain ⟨y, h1, ys', h2, _⟩ := hy
    simp only [lentL] at he
    rcases List.mem_append.1 he with he | he
    · split at he
      · cases he
      rename_i hw
      rw [pass1, if_neg hw] at h1
      unfold passArg at h1
      split at h1
      · simp only [Option.bind_eq_bind, Option.bind_eq_some_iff] at h1
        obtain ⟨ls, hls, _⟩ := h1
        exact leafL hls e he
      · rename_i hna
        rw [leaves_length_of (fun fs hx => hna fs hx)] at he
        exact leaf h1 e (by simpa using he)
    · exact ih h2 e he

/-- The arguments, and the callee's captured values behind them. -/
theorem passL_caps {f : Nat} : ∀ {xs cs ys : List AV} {p : Nat}, passL C σ f p (xs ++ cs) = some ys → ∃ y1 y2, ys = y1 ++ y2 ∧ passL C σ f p xs = some y1 ∧ passL C σ f (p + xs.length) cs = some y2
  | [], cs, ys, p, h => ⟨[], ys, rfl, rfl, by simpa using h⟩
  | x :: xs, cs, ys, p, h => by
    simp only [List.cons_append, passL, Option.bind_eq_bind, Option.bind_eq_some_iff] at h
    obtain ⟨y, h1, ys', h2, he⟩ := h
    cases he
    obtain ⟨y1, y2, rfl, h3, h4⟩ := passL_caps h2
    refine ⟨y :: y1, y2, rfl, ?_, ?_⟩
    · simp only [passL, h1, h3, Option.bind_eq_bind, Option.bind_some]
    · rw [List.length_cons, show p + (xs.length + 1) = p + 1 + xs.length by omega]; exact h4

theorem ValsRep.append {vs us : List Value} {xs ys : List AV} {f g : List Nat} (h : ValsRep F w vs xs f) (k : ValsRep F w us ys g) : ValsRep F w (vs ++ us) (xs ++ ys) (f ++ g) := by
  induction h with
  | nil => exact k
  | cons h1 h2 ih => rw [List.append_assoc]; exact .cons h1 ih

/-- Captured cells, lent: nothing new is lent. -/
theorem caps_ok (h : Rel n w0 F0 S0 G F μ fp L σ a w) {f : Nat} : ∀ {cs ys : List AV} {us : List Value} {p : Nat}, (∀ k, C.wrt f = some k → k < p) → RepL F w us cs [] → passL C σ f p cs = some ys → ValsRep F w us ys []
  | [], ys, us, p, _, hr, hy => by cases hr; cases hy; exact .nil
  | c :: cs, ys, us, p, hw, hr, hy => by
    cases us with
    | nil => cases hr
    | cons u us =>
      obtain ⟨f1, f2, hf, h1, h2⟩ := hr.cons_inv
      obtain ⟨rfl, rfl⟩ := List.append_eq_nil_iff.1 hf.symm
      have hne : C.wrt f ≠ some p := fun hk => by have := hw p hk; omega
      simp only [passL, pass1, Option.bind_eq_bind, Option.bind_eq_some_iff, if_neg hne] at hy
      obtain ⟨y, hy1, ys', hy2, he⟩ := hy
      cases he
      have r2 := caps_ok h (fun k hk => Nat.lt_succ_of_lt (hw k hk)) h2 hy2
      refine .cons (f1 := []) ?_ r2
      unfold passArg at hy1
      cases c with
      | agg => cases h1
      | fro tg clip l =>
        cases tg with
        | none => cases hy1; exact h1
        | some => cases h1
      | cptr tg c =>
        cases tg with
        | none => cases hy1; exact h1
        | some => cases h1
      | _ => first | (cases hy1; exact h1) | (cases h1; done) | (simp [lendLeaf] at hy1; done)

theorem ArgsRep.append {vs us : List Value} {xs ys : List AV} {f g : List Nat} (h : ArgsRep F w vs xs f) (k : ArgsRep F w us ys g) : ArgsRep F w (vs ++ us) (xs ++ ys) (f ++ g) := by
  induction h with
  | nil => exact k
  | cons h1 h2 ih => rw [List.append_assoc]; exact .cons h1 ih

/-- The world has grown, and what one entry lent has turned. -/
theorem Rel.extendW {F' : Nat → Prop} {g f' gs rest : List Nat} {e : Nat} {E' : Ent} (h : Rel n w0 F0 S0 G F μ fp [] σ a w) (hl : (σ.en e).live = true) (hfz : (σ.en e).frz = false) (hp : (fp e).Perm (gs ++ rest)) (hk : KeptS w w' (fun b => b ∈ gs))
    (hF : ∀ b, F b → F' b) (hF' : ∀ b, F' b → F b ∨ b ∈ gs ∨ (w.heap.size ≤ b ∧ b < w'.heap.size)) (heg : E'.gen = (σ.en e).gen) (hew : E'.wr = (σ.en e).wr + 1) (hez : E'.sz = (σ.en e).sz)
    (hen : E'.elems.length ≤ (σ.en e).elems.length) (hent : E'.live = true → EntRep F' w' E' (μ e) f') (hf' : ∀ b ∈ g ++ f', ¬ F' b ∧ (b ∈ gs ++ rest ∨ w.heap.size ≤ b) ∧ b < w'.heap.size) (hnd : (g ++ f').Nodup) :
    Rel n w0 F0 S0 G F' μ (upd fp e f') g (σ.ent e E') a w' := by
  have inE : ∀ b, b ∈ gs ++ rest → b ∈ fp e := fun b hb => hp.mem_iff.2 hb
  have ingE : ∀ b, b ∈ gs → b ∈ fp e := fun b hb => inE b (List.mem_append.2 (.inl hb))
  have old : ∀ b, b < w.heap.size → b ∉ gs → w'.heap[b]? = w.heap[b]? := fun b hb hn => hk.block b hb hn
  have hFo : ∀ b, F b → w'.heap[b]? = w.heap[b]? := fun b hb => old b (h.free b hb).1 fun hg => (h.own e hl b (ingE b hg)).1 hb
  have base := h.kept.size
  have en' : ∀ e', e' ≠ e → (σ.ent e E').en e' = σ.en e' := fun e' he => by simp [St.ent, upd, he]
  have ene : (σ.ent e E').en e = E' := by simp [St.ent, upd]
  have oth : ∀ e', e' ≠ e → (σ.en e').live = true → ∀ b ∈ fp e', w'.heap[b]? = w.heap[b]? := fun e' he hl' b hb => old b (h.own e' hl' b hb).2.1 fun hg => h.apart e' e hl' hl he b hb (ingE b hg)
  have st : Step F w σ.en μ fp F' w' (σ.ent e E').en μ (upd fp e f') := by
    refine ⟨hF, hFo, fun e' => ?_, fun e' => ?_, fun e' h' hge => ?_, fun e' h' hwe => ?_⟩
    · by_cases he : e' = e
      · subst he; rw [ene, heg]; exact Nat.le_refl _
      · rw [en' e' he]; exact Nat.le_refl _
    · by_cases he : e' = e
      · subst he; rw [ene, hew]; omega
      · rw [en' e' he]; exact Nat.le_refl _
    · by_cases he : e' = e
      · subst he; rw [ene]; exact ⟨hl, rfl, hez, hen, fun b _ => hk.same b⟩
      · rw [en' e' he] at h' ⊢; exact ⟨h', rfl, rfl, Nat.le_refl _, fun b _ => hk.same b⟩
    · by_cases he : e' = e
      · subst he; rw [ene, hew] at hwe; omega
      · rw [en' e' he] at h' ⊢
        refine ⟨h', fun b hb => ⟨oth e' he h' b hb, .inl (by rw [upd_ne _ _ _ _ he]; exact hb)⟩, fun hf => ⟨hf, rfl, rfl, rfl, fun b hm => ?_⟩⟩
        rcases (h.ent e' h').2 with ⟨e1, _⟩ | ⟨b', cur, et, fr, us, f1, e1, e2, e3, e4, e5⟩
        · rw [hm] at e1; cases e1
        · rw [hm] at e1; cases e1
          rcases e5 with ⟨e5, _⟩ | ⟨_, _, e7⟩
          · rw [hf] at e5; cases e5
          · exact oth e' he h' b (by rw [e7]; simp)
  have own' : ∀ b ∈ g ++ f', ¬ F' b ∧ b < w'.heap.size ∧ (S0 b ∨ w0.heap.size ≤ b) := fun b hb => by
    obtain ⟨h1, h2, h3⟩ := hf' b hb
    refine ⟨h1, h3, ?_⟩
    rcases h2 with h2 | h2
    · exact (h.own e hl b (inE b h2)).2.2
    · exact .inr (by omega)
  have out : ∀ b ∈ g ++ f', ∀ e', e' ≠ e → (σ.en e').live = true → b ∉ fp e' := fun b hb e' he hl' hx => by
    rcases (hf' b hb).2.1 with h2 | h2
    · exact h.apart e' e hl' hl he b hx (inE b h2)
    · have := (h.own e' hl' b hx).2.1; omega
  refine h.move (en' := (σ.ent e E').en) st ⟨hk.os, hk.tape, hk.output, hk.size, fun b hb hns => old b hb fun hg => hns (h.own e hl b (ingE b hg)).2.2, hk.same⟩ (fun b hb => ?_) (fun e' h' => ?_) (fun e' h' b hb => ?_) (fun e' h' => ?_) (fun e' e2 h' h2 hne b hb => ?_) (fun b hb => ?_) (List.nodup_append.1 hnd).1
  · rcases hF' b hb with hb | hb | hb
    · exact ⟨Nat.lt_of_lt_of_le (h.free b hb).1 hk.size, (h.free b hb).2⟩
    · obtain ⟨_, h2, h3⟩ := h.own e hl b (ingE b hb)
      exact ⟨Nat.lt_of_lt_of_le h2 hk.size, .inr h3⟩
    · exact ⟨hb.2, .inr (.inr (by omega))⟩
  · by_cases he : e' = e
    · subst he; rw [ene] at h'; rw [ene, upd_same]; exact hent h'
    · rw [en' e' he] at h' ⊢
      rw [upd_ne _ _ _ _ he]
      exact (h.ent e' h').mono hF (fun b hb => hb.elim (hFo b) (oth e' he h' b))
  · by_cases he : e' = e
    · subst he; rw [upd_same] at hb; exact own' b (List.mem_append.2 (.inr hb))
    · rw [en' e' he] at h'
      rw [upd_ne _ _ _ _ he] at hb
      obtain ⟨h1, h2, h3⟩ := h.own e' h' b hb
      refine ⟨fun hx => ?_, Nat.lt_of_lt_of_le h2 hk.size, h3⟩
      rcases hF' b hx with hx | hx | hx
      · exact h1 hx
      · exact h.apart e' e h' hl he b hb (ingE b hx)
      · omega
  · by_cases he : e' = e
    · subst he; rw [upd_same]; exact (List.nodup_append.1 hnd).2.1
    · rw [en' e' he] at h'; rw [upd_ne _ _ _ _ he]; exact h.nodup e' h'
  · by_cases he : e' = e
    · subst he
      rw [upd_same] at hb
      rw [en' e2 (Ne.symm hne)] at h2
      rw [upd_ne _ _ _ _ (Ne.symm hne)]
      exact out b (List.mem_append.2 (.inr hb)) e2 (Ne.symm hne) h2
    · rw [en' e' he] at h'
      rw [upd_ne _ _ _ _ he] at hb
      by_cases he2 : e2 = e
      · subst he2
        rw [upd_same]
        intro hx
        exact out b (List.mem_append.2 (.inr hx)) e' he h' hb
      · rw [en' e2 he2] at h2
        rw [upd_ne _ _ _ _ he2]
        exact h.apart e' e2 h' h2 hne b hb
  · obtain ⟨h1, h2, h3⟩ := own' b (List.mem_append.2 (.inl hb))
    refine ⟨h1, h2, h3, fun e' h' => ?_⟩
    by_cases he : e' = e
    · subst he
      rw [upd_same]
      exact fun hx => (List.nodup_append.1 hnd).2.2 b hb b hx rfl
    · rw [en' e' he] at h'
      rw [upd_ne _ _ _ _ he]
      exact out b (List.mem_append.2 (.inl hb)) e' he h'

end
end Go.Vm
