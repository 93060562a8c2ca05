/- The logic's rules, as they are used. -/
import Derived.Test.YtfimolakepbdbaaWTypes
namespace Go.Vm

section
variable {C : Cfg} {D : Vm.Spec} {Q : Ex → St → Prop} {σ : St}
theorem W_skip : W C D .skip Q σ = Q .normal σ := rfl
theorem W_exit (i : Nat) : W C D (.exit i) Q σ = Q (.exit i) σ := rfl
theorem W_ret : W C D .ret Q σ = Q .ret σ := rfl
theorem W_seq (a b : Code) : W C D (.seq a b) Q σ = W C D a (fun e σ' => match e with | .normal => W C D b Q σ' | e => Q e σ') σ := rfl
theorem W_cond (c : Operand) (a b : Code) : W C D (.cond c a b) Q σ = condW σ c (W C D a Q) (W C D b Q) := rfl
theorem W_block (i : Nat) (c : Code) : W C D (.block i c) Q σ = W C D c (fun e σ' => match e with | .exit j => if j = i then Q .normal σ' else Q (.exit j) σ' | e => Q e σ') σ := rfl
theorem W_region (i : Nat) (ops : Array Oper) (q : Bool) : W C D (.region i ops q) Q σ = opsW C D q ops (Q .normal) ops.toList σ := rfl

theorem guardW_mono {g : Option (Option Tmp × Bool)} {y n y' n' : St → Prop} (hy : ∀ σ, y σ → y' σ) (hn : ∀ σ, n σ → n' σ) (h : guardW g σ y n) : guardW g σ y' n' := by
  unfold guardW at *
  split
  · exact hy _ h
  · exact hn _ h
  · rename_i d want
    simp only at h
    split
    · rename_i b hb
      rw [hb] at h
      refine ⟨fun e => ?_, fun e => ?_⟩
      · have := h.1 e
        cases want
        · exact hn _ this
        · exact hy _ this
      · have := h.2 e
        cases want
        · exact hy _ this
        · exact hn _ this
    · rename_i ht
      rw [ht] at h
      exact hn _ h
    · rename_i h1 h2
      split at h
      · rename_i b hb; exact absurd hb (h1 b)
      · rename_i ht; exact absurd ht h2
      · exact h

theorem callP_mono {q : Bool} {x : Operand} {args : Array Operand} {dst : Option Tmp} {K K' : St → Prop} (hK : ∀ σ, K σ → K' σ) (h : callP C D q x args dst K σ) : callP C D q x args dst K' σ := by
  obtain ⟨p, hp, as, ha, hok, R, hd, hq, hk⟩ := h
  exact ⟨p, hp, as, ha, hok, R, hd, hq, fun r l h => hK _ (hk r l h)⟩

theorem opG_mono {q : Bool} {o : Oper} {K K' : St → Prop} (hK : ∀ σ, K σ → K' σ) (h : opG C q o K σ) : opG C q o K' σ := by
  obtain ⟨h1, σ1, h2, h3⟩ := h
  exact ⟨h1, σ1, h2, hK _ h3⟩
theorem opW_mono {q : Bool} {o : Oper} {K K' : St → Prop} (hK : ∀ σ, K σ → K' σ) (h : opW C D q o K σ) : opW C D q o K' σ := by
  unfold opW at *
  split
  · rename_i ho; simp only [ho] at h; exact callP_mono hK h
  · rename_i t x ho
    simp only [ho] at h
    split
    · rename_i hs; rw [if_pos hs] at h; obtain ⟨σ1, h2, h3⟩ := h; exact ⟨σ1, h2, hK _ h3⟩
    · rename_i hs; rw [if_neg hs] at h; exact opG_mono hK h
  · rename_i h1 h2
    split at h
    · rename_i ho; exact absurd ho (h1 _ _ _)
    · rename_i ho; exact absurd ho (h2 _ _)
    · exact opG_mono hK h

theorem opsW_mono {q : Bool} {ops : Array Oper} {K K' : St → Prop} (hK : ∀ σ, K σ → K' σ) : ∀ {l : List Oper} {σ : St}, opsW C D q ops K l σ → opsW C D q ops K' l σ
  | [], _, h => hK _ h
  | _ :: _, _, h => guardW_mono (fun _ h => opW_mono (fun _ h => opsW_mono hK h) h) (fun _ h => opsW_mono hK h) h

theorem condW_mono {c : Operand} {y n y' n' : St → Prop} (hy : ∀ σ, y σ → y' σ) (hn : ∀ σ, n σ → n' σ) (h : condW σ c y n) : condW σ c y' n' := by
  cases c with
  | tmp d =>
    cases hs : σ.sl d <;> simp only [condW, hs] at h ⊢
    exact ⟨fun e => hy _ (h.1 e), fun e => hn _ (h.2 e)⟩
  | const v =>
    cases v <;> simp only [condW] at h ⊢
    rename_i b
    cases b
    · exact hn _ (by simpa using h)
    · exact hy _ (by simpa using h)
  | _ => exact h.elim

theorem W_mono : ∀ {c : Code} {Q Q' : Ex → St → Prop} {σ : St}, (∀ e σ, Q e σ → Q' e σ) → W C D c Q σ → W C D c Q' σ
  | .skip, _, _, _, hq, h => hq _ _ h
  | .exit _, _, _, _, hq, h => hq _ _ h
  | .ret, _, _, _, hq, h => hq _ _ h
  | .seq a b, Q, Q', _, hq, h => W_mono (c := a) (fun e σ h => by
      cases e with
      | normal => exact W_mono hq h
      | exit i => exact hq _ _ h
      | ret => exact hq _ _ h) h
  | .cond c a b, Q, Q', σ, hq, h => condW_mono (fun _ h => W_mono hq h) (fun _ h => W_mono hq h) h
  | .block i c, Q, Q', _, hq, h => W_mono (c := c) (fun e σ h => by
      cases e with
      | normal => exact hq _ _ h
      | exit j =>
        dsimp only at h ⊢
        split
        · rename_i hj; rw [if_pos hj] at h; exact hq _ _ h
        · rename_i hj; rw [if_neg hj] at h; exact hq _ _ h
      | ret => exact hq _ _ h) h
  | .loop c, Q, Q', _, hq, ⟨I, m, h1, h2⟩ => ⟨I, m, h1, fun σ hI => W_mono (c := c) (fun e σ h => by
      cases e with
      | normal => exact h
      | exit i => exact hq _ _ h
      | ret => exact hq _ _ h) (h2 σ hI)⟩
  | .region _ ops q, _, _, _, hq, h => opsW_mono (fun _ h => hq _ _ h) h

/-- A loop, told by a value that stands for its state. -/
theorem W_loop0 {α : Type} (R : α → St → Prop) (m : α → Nat) {c : Code} (h : ∃ σ0, told σ σ0 ∧ ∃ x, R x σ0) (hs : ∀ x σ, R x σ → W C D c (fun e σ' => match e with | .normal => ∃ σ0, told σ' σ0 ∧ ∃ y, R y σ0 ∧ m y < m x | e => Q e σ') σ) : W C D (.loop c) Q σ := by
  refine ⟨fun σ => ∃ x, R x σ, fun σ => leastOf fun k => ∃ x, R x σ ∧ m x = k, h, fun σ ⟨x1, h1⟩ => ?_⟩
  obtain ⟨⟨x2, h2, e2⟩, _⟩ := leastOf_spec (p := fun k => ∃ x, R x σ ∧ m x = k) ⟨x1, h1, rfl⟩
  have hw := hs x2 σ h2
  refine W_mono ?_ hw
  intro e σ' hq
  cases e with
  | normal =>
    obtain ⟨σ0, ht, y, hy, hlt⟩ := hq
    refine ⟨σ0, ht, ⟨y, hy⟩, ?_⟩
    obtain ⟨_, hle⟩ := leastOf_spec (p := fun k => ∃ x, R x σ0 ∧ m x = k) ⟨y, hy, rfl⟩
    show (leastOf fun k => ∃ x, R x σ0 ∧ m x = k) < leastOf fun k => ∃ x, R x σ ∧ m x = k
    omega
  | exit i => exact hq
  | ret => exact hq
theorem loop_plain {α : Type} {R : α → St → Prop} {m : α → Nat} {c : Code} {x : α} (hs : W C D c (fun e σ' => match e with | .normal => ∃ y, R y σ' ∧ m y < m x | e => Q e σ') σ) : W C D c (fun e σ' => match e with | .normal => ∃ σ0, told σ' σ0 ∧ ∃ y, R y σ0 ∧ m y < m x | e => Q e σ') σ := W_mono (fun e σ' hq => by
  cases e with
  | normal => exact ⟨σ', .inl rfl, hq⟩
  | exit i => exact hq
  | ret => exact hq) hs
theorem W_loop {α : Type} (R : α → St → Prop) (m : α → Nat) {c : Code} (x : α) (h : R x σ) (hs : ∀ x σ, R x σ → W C D c (fun e σ' => match e with | .normal => ∃ y, R y σ' ∧ m y < m x | e => Q e σ') σ) : W C D (.loop c) Q σ := W_loop0 R m ⟨σ, .inl rfl, x, h⟩ fun x σ h => loop_plain (hs x σ h)
/-- A loop at whose start a slice that is nil is told as an owned empty one. -/
theorem W_loopN {α : Type} (R : α → St → Prop) (m : α → Nat) {c : Code} (x : α) (s sz : Nat) (h0 : σ.sl s = .fro none true []) (h : R x (takeRes (some s) σ (.own sz []))) (hs : ∀ x σ, R x σ → W C D c (fun e σ' => match e with | .normal => ∃ y, R y σ' ∧ m y < m x | e => Q e σ') σ) : W C D (.loop c) Q σ := W_loop0 R m ⟨_, .inr (.inl ⟨s, sz, h0, rfl⟩), x, h⟩ fun x σ h => loop_plain (hs x σ h)
/-- A loop that tells a slice anew at each round. -/
theorem W_loopR {α : Type} (R : α → St → Prop) (m : α → Nat) {c : Code} (s : Nat) (h : reown σ s fun σ0 => ∃ x, R x σ0) (hs : ∀ x σ, R x σ → W C D c (fun e σ' => match e with | .normal => reown σ' s (fun σ0 => ∃ y, R y σ0 ∧ m y < m x) | e => Q e σ') σ) : W C D (.loop c) Q σ := W_loop0 R m (reown_told h) fun x σ h => W_mono (fun e σ' hq => by
  cases e with
  | normal => exact reown_told hq
  | exit i => exact hq
  | ret => exact hq) (hs x σ h)

theorem exP_map {α β : Type} (o : Option α) (f : α → β) (K : β → Prop) : exP (o.map f) K = exP o fun a => K (f a) := by
  cases o <;> simp [exP]
theorem exP_at {α : Type} [Inhabited α] (l : List α) (i : Nat) (K : α → Prop) : exP l[i]? K = (i < l.length ∧ K l[i]!) := by
  by_cases h : i < l.length
  · rw [List.getElem?_eq_getElem h, exP_some, getElem!_pos l i h]; simp [h]
  · rw [List.getElem?_eq_none (by omega), exP_none]; simp [h]
end
end Go.Vm
