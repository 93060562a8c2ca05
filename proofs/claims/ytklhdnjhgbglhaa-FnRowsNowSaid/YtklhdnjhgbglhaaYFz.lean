/- What lies within what is owned may be told as what nobody writes any more. -/
import Derived.Test.YtklhdnjhgbglhaaYLib6
namespace Go.Vm
def froIn : AV → AV
  | .own sz l => .own sz (l.map froize)
  | x => x
def froV : AV → AV
  | .agg fs => .agg (fs.map froIn)
  | x => froIn x
def froI : AV → AV
  | .tup xs => .tup (xs.map froV)
  | x => froV x
section
variable {C : Cfg} {F : Nat → Prop} {w : World} {vs : List Value} {xs : List AV} {f : List Nat}
theorem RepL.froIn (h : RepL F w vs xs f) : f.Nodup → ∃ g : List Nat, g.Nodup ∧ (∀ b ∈ g, b ∈ f) ∧ RepL (fun b => F b ∨ (b ∈ f ∧ b ∉ g)) w vs (xs.map Vm.froIn) g := by
  induction h with
  | nil => exact fun _ => ⟨[], by simp, by simp, .nil⟩
  | und hv t ih => intro hnd; obtain ⟨g, h1, h2, h3⟩ := ih hnd; exact ⟨g, h1, h2, .und hv h3⟩
  | int t ih => intro hnd; obtain ⟨g, h1, h2, h3⟩ := ih hnd; exact ⟨g, h1, h2, .int h3⟩
  | bool t ih => intro hnd; obtain ⟨g, h1, h2, h3⟩ := ih hnd; exact ⟨g, h1, h2, .bool h3⟩
  | str t ih => intro hnd; obtain ⟨g, h1, h2, h3⟩ := ih hnd; exact ⟨g, h1, h2, .str h3⟩
  | fro0 hc t ih => intro hnd; obtain ⟨g, h1, h2, h3⟩ := ih hnd; exact ⟨g, h1, h2, .fro0 hc h3⟩
  | fro hn hnc hc hb hcell hsz hu t ihu ih => intro hnd; obtain ⟨g, h1, h2, h3⟩ := ih hnd; exact ⟨g, h1, h2, .fro hn hnc hc (.inl hb) hcell hsz (hu.mono (fun _ h => .inl h) (fun _ _ => rfl)) h3⟩
  | own0 t ih => intro hnd; obtain ⟨g, h1, h2, h3⟩ := ih hnd; exact ⟨g, h1, h2, .own0 h3⟩
  | @own g n c sz et cur l us vs xs f1 f hn hnc hb hcap hcell hsz hu t ihu ih =>
    intro hnd
    have hnd' : (g :: (f1 ++ f)).Nodup := hnd
    obtain ⟨n1, n2⟩ := List.nodup_cons.1 hnd'
    obtain ⟨m1, m2, m3⟩ := List.nodup_append.1 n2
    obtain ⟨g2, h1, h2, h3⟩ := ih m2
    have hg1 : g ∉ g2 := fun hh => n1 (by simp [h2 g hh])
    refine ⟨g :: [] ++ g2, ?_, ?_, ?_⟩
    · exact List.nodup_cons.2 ⟨hg1, h1⟩
    · intro b hb; simp at hb ⊢; rcases hb with rfl | hb
      · exact .inl rfl
      · exact .inr (.inr (h2 b hb))
    · refine .own (f1 := []) (by simpa using hn) hnc hb hcap hcell ?_ ?_ (h3.mono (fun b h => ?_) fun _ _ => rfl)
      · intro a ha
        obtain ⟨a', ha', rfl⟩ := List.mem_map.1 ha
        rw [leaves_froize]; simpa using hsz a' ha'
      · rw [flat_froize]
        refine hu.froized.mono (fun b h => h.imp id fun hb => ⟨by simp [hb], ?_⟩) fun _ _ => rfl
        simp only [List.cons_append, List.nil_append, List.mem_cons, not_or]
        exact ⟨fun e => n1 (by simp [← e, hb]), fun hb2 => m3 b hb b (h2 b hb2) rfl⟩
      · refine h.imp id fun ⟨ha, hb⟩ => ⟨by simp [ha], ?_⟩
        simp only [List.cons_append, List.nil_append, List.mem_cons, not_or]
        exact ⟨fun e => n1 (by simp [← e, ha]), hb⟩
  | cptr hb hcell hu t _ ih => intro hnd; obtain ⟨g, h1, h2, h3⟩ := ih hnd; exact ⟨g, h1, h2, .cptr (.inl hb) hcell (hu.mono (fun _ h => .inl h) (fun _ _ => rfl)) h3⟩
  | clo hu t _ ih => intro hnd; obtain ⟨g, h1, h2, h3⟩ := ih hnd; exact ⟨g, h1, h2, .clo (hu.mono (fun _ h => .inl h) (fun _ _ => rfl)) h3⟩
theorem ValRep.froV {v : Value} {x : AV} (h : ValRep F w v x f) (hnd : f.Nodup) : ∃ g : List Nat, g.Nodup ∧ (∀ b ∈ g, b ∈ f) ∧ ValRep (fun b => F b ∨ (b ∈ f ∧ b ∉ g)) w v (Vm.froV x) g := by
  cases x with
  | agg fs => obtain ⟨cs, e, h⟩ := h; obtain ⟨g, h1, h2, h3⟩ := h.froIn hnd; exact ⟨g, h1, h2, cs, e, h3⟩
  | own sz l => obtain ⟨g, h1, h2, h3⟩ := (show RepL F w [v] [_] f from h).froIn hnd; exact ⟨g, h1, h2, h3⟩
  | _ => obtain ⟨g, h1, h2, h3⟩ := (show RepL F w [v] [_] f from h).froIn hnd; exact ⟨g, h1, h2, h3⟩
theorem ValsRep.froV (h : ValsRep F w vs xs f) : f.Nodup → ∃ g : List Nat, g.Nodup ∧ (∀ b ∈ g, b ∈ f) ∧ ValsRep (fun b => F b ∨ (b ∈ f ∧ b ∉ g)) w vs (xs.map Vm.froV) g := by
  induction h with
  | nil => exact fun _ => ⟨[], by simp, by simp, .nil⟩
  | @cons v x vs xs f1 f2 h1 h2 ih =>
    intro hnd
    obtain ⟨m1, m2, m3⟩ := List.nodup_append.1 hnd
    obtain ⟨g1, a1, a2, a3⟩ := h1.froV m1
    obtain ⟨g2, b1, b2, b3⟩ := ih m2
    refine ⟨g1 ++ g2, List.nodup_append.2 ⟨a1, b1, fun x hx y hy => m3 x (a2 x hx) y (b2 y hy)⟩, fun b hb => ?_, .cons (a3.mono (fun b h => ?_) fun _ _ => rfl) (b3.mono (fun b h => ?_) fun _ _ => rfl)⟩
    · rcases List.mem_append.1 hb with h | h
      · simp [a2 b h]
      · simp [b2 b h]
    · refine h.imp id fun ⟨ha, hb⟩ => ⟨by simp [ha], fun hh => ?_⟩
      rcases List.mem_append.1 hh with h | h
      · exact hb h
      · exact m3 b ha b (b2 b h) rfl
    · refine h.imp id fun ⟨ha, hb⟩ => ⟨by simp [ha], fun hh => ?_⟩
      rcases List.mem_append.1 hh with h | h
      · exact m3 b (a2 b h) b ha rfl
      · exact hb h
theorem ResRep.froI {v : Value} {x : AV} (h : ResRep F w v x f) (hnd : f.Nodup) : ∃ g : List Nat, g.Nodup ∧ (∀ b ∈ g, b ∈ f) ∧ ResRep (fun b => F b ∨ (b ∈ f ∧ b ∉ g)) w v (Vm.froI x) g := by
  cases x with
  | tup xs => obtain ⟨us, e, h⟩ := h; obtain ⟨g, h1, h2, h3⟩ := h.froV hnd; exact ⟨g, h1, h2, us, e, h3⟩
  | pt sz l i j => exact ⟨f, hnd, fun _ h => h, PtRep.mono h (fun _ h => .inl h) fun _ _ => rfl⟩
  | _ => simp only [ResRep] at h; exact h.froV hnd
theorem DoesR.froI {f : Nat} {args : List AV} {R : AV → AV → Prop} (h : DoesR C f args R) : DoesR C f args fun r l => ∃ r0, R r0 l ∧ r = Vm.froI r0 := fun w F vals gs h1 h2 h3 h4 =>
  (h w F vals gs h1 h2 h3 h4).mono fun _ w' ⟨v, F', g, gs', res, left, hr, he, hk, hf, hf', hg, hnd, hres, hl⟩ => by
    obtain ⟨m1, m2, m3⟩ := List.nodup_append.1 hnd
    obtain ⟨g2, a1, a2, a3⟩ := hres.froI m1
    refine ⟨v, fun b => F' b ∨ (b ∈ g ∧ b ∉ g2), g2, gs', Vm.froI res, left, ⟨res, hr, rfl⟩, he, hk, fun b hb => .inl (hf b hb), fun b hb => ?_, fun b hb => ?_, List.nodup_append.2 ⟨a1, m2, fun x hx y hy => m3 x (a2 x hx) y hy⟩, a3, ?_⟩
    · rcases hb with hb | hb
      · exact hf' b hb
      · have := hg b (by simp [hb.1])
        exact ⟨this.2.2, .inr this.2.1⟩
    · rcases List.mem_append.1 hb with h | h
      · have := hg b (by simp [a2 b h])
        exact ⟨fun hh => hh.elim this.1 fun hh => hh.2 h, this.2⟩
      · have := hg b (by simp [h])
        exact ⟨fun hh => hh.elim this.1 fun hh => m3 b hh.1 b h rfl, this.2⟩
    · unfold LeftRep at hl ⊢
      split at hl
      · exact hl
      · rcases hl with ⟨u, y, b1, b2, b3, b4⟩ | hl
        · exact .inl ⟨u, y, b1, b2, b3, ArgRep.mono b4 (fun _ h => .inl h) fun _ _ => rfl⟩
        · exact .inr hl
end
end Go.Vm
