/- All of what a function returns may be told as what nobody writes any more. -/
import Derived.Test.YtklhdnjhgbglhaaYFz
namespace Go.Vm
def froR : AV → AV
  | .tup xs => .tup (xs.map froize)
  | .pt sz l i j => .pt sz l i j
  | x => froize x
section
variable {C : Cfg} {F : Nat → Prop} {w : World} {vs : List Value} {xs : List AV} {f : List Nat}
theorem ValRep.froA {v : Value} {x : AV} (h : ValRep F w v x f) : ValRep (fun b => F b ∨ b ∈ f) w v (froize x) [] := by
  cases x with
  | agg fs =>
    obtain ⟨cs, e, h⟩ := h
    have := h.froized
    rw [froize, froizeL_eq]
    exact ⟨cs, e, this⟩
  | _ => exact (show RepL F w [v] [_] f from h).froized
theorem ValsRep.froA (h : ValsRep F w vs xs f) : ValsRep (fun b => F b ∨ b ∈ f) w vs (xs.map froize) [] := by
  induction h with
  | nil => exact .nil
  | @cons v x vs xs f1 f2 h1 h2 ih =>
    exact .cons (f1 := []) (f2 := []) (h1.froA.mono (fun b h => h.imp id fun h => by simp [h]) fun _ _ => rfl) (ih.mono (fun b h => h.imp id fun h => by simp [h]) fun _ _ => rfl)
theorem ResRep.froA {v : Value} {x : AV} (h : ResRep F w v x f) (hnd : f.Nodup) : ∃ g : List Nat, g.Nodup ∧ (∀ b ∈ g, b ∈ f) ∧ ResRep (fun b => F b ∨ (b ∈ f ∧ b ∉ g)) w v (Vm.froR x) g := by
  have imp : ∀ b, (F b ∨ b ∈ f) → (F b ∨ (b ∈ f ∧ b ∉ ([] : List Nat))) := fun b h => h.imp id fun h => ⟨h, by simp⟩
  cases x with
  | tup xs => obtain ⟨us, e, h⟩ := h; exact ⟨[], List.nodup_nil, by simp, us, e, h.froA.mono imp fun _ _ => rfl⟩
  | pt sz l i j => exact ⟨f, hnd, fun _ h => h, PtRep.mono h (fun _ h => .inl h) fun _ _ => rfl⟩
  | agg fs => exact ⟨[], List.nodup_nil, by simp, (show ValRep F w v (.agg fs) f from h).froA.mono imp fun _ _ => rfl⟩
  | own sz l => exact ⟨[], List.nodup_nil, by simp, (show ValRep F w v (.own sz l) f from h).froA.mono imp fun _ _ => rfl⟩
  | _ => simp only [ResRep] at h; exact ⟨[], List.nodup_nil, by simp, h.froA.mono imp fun _ _ => rfl⟩
theorem DoesR.froA {f : Nat} {args : List AV} {R : AV → AV → Prop} (h : DoesR C f args R) : DoesR C f args fun r l => ∃ r0, R r0 l ∧ r = Vm.froR r0 := fun w F vals gs h1 h2 h3 h4 =>
  (h w F vals gs h1 h2 h3 h4).mono fun _ w' ⟨v, F', g, gs', res, left, hr, he, hk, hf, hf', hg, hnd, hres, hl⟩ => by
    obtain ⟨m1, m2, m3⟩ := List.nodup_append.1 hnd
    obtain ⟨g2, a1, a2, a3⟩ := hres.froA m1
    refine ⟨v, fun b => F' b ∨ (b ∈ g ∧ b ∉ g2), g2, gs', Vm.froR res, left, ⟨res, hr, rfl⟩, he, hk, fun b hb => .inl (hf b hb), fun b hb => ?_, fun b hb => ?_, List.nodup_append.2 ⟨a1, m2, fun x hx y hy => m3 x (a2 x hx) y hy⟩, a3, ?_⟩
    · rcases hb with hb | hb
      · exact hf' b hb
      · have := hg b (by simp [hb.1])
        exact ⟨this.2.2, .inr this.2.1⟩
    · rcases List.mem_append.1 hb with h | h
      · have := hg b (by simp [a2 b h])
        exact ⟨fun hh => hh.elim this.1 fun hh => hh.2 h, this.2⟩
      · have := hg b (by simp [h])
        exact ⟨fun hh => hh.elim this.1 fun hh => m3 b hh.1 b h rfl, this.2⟩
    · unfold LeftRep at hl ⊢
      split at hl
      · exact hl
      · rcases hl with ⟨u, y, b1, b2, b3, b4⟩ | hl
        · exact .inl ⟨u, y, b1, b2, b3, ArgRep.mono b4 (fun _ h => .inl h) fun _ _ => rfl⟩
        · exact .inr hl
end
end Go.Vm
