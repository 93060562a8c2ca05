/- What is known of capacities may be forgotten. -/
import Derived.Test.YtfimolakepbdbaaWFn
namespace Go.Vm

mutual
def wk : AV → AV
  | .fro tg _ l => .fro tg false (wkL l)
  | .own sz l => .own sz (wkL l)
  | .agg fs => .agg (wkL fs)
  | .tup vs => .tup (wkL vs)
  | .pt sz l i j => .pt sz (wkL l) i j
  | x => x
def wkL : List AV → List AV
  | [] => []
  | a :: as => wk a :: wkL as
end

theorem wkL_eq (l : List AV) : wkL l = l.map wk := by
  induction l with
  | nil => simp [wkL]
  | cons a as ih => simp [wkL, ih]

theorem leaves_wk (a : AV) : leaves (wk a) = (leaves a).map wk := by
  cases a <;> simp [wk, leaves, wkL_eq]

theorem flat_wk (l : List AV) : (l.map wk).flatMap leaves = (l.flatMap leaves).map wk := by
  induction l with
  | nil => rfl
  | cons a as ih => simp [List.flatMap_cons, leaves_wk, ih]

section
variable {C : Cfg} {F : Nat → Prop} {w : World}
theorem RepL.wk {vs : List Value} {xs : List AV} {f : List Nat} (h : RepL F w vs xs f) : RepL F w vs (xs.map Vm.wk) f := by
  induction h with
  | nil => exact .nil
  | und hv t ih => exact .und hv ih
  | int t ih => exact .int ih
  | bool t ih => exact .bool ih
  | str t ih => exact .str ih
  | fro0 hc t ih => simpa [Vm.wk, wkL] using RepL.fro0 (clip := false) (by simp) ih
  | @fro b o n c sz clip l us vs xs f hn hnc hc hb hcell hsz hu t ihu ih =>
    rw [← flat_wk] at ihu
    simp only [List.map_cons, Vm.wk, wkL_eq]
    exact .fro (by simpa using hn) hnc (by simp) hb hcell (fun a ha => by obtain ⟨y, hy, rfl⟩ := List.mem_map.1 ha; rw [leaves_wk]; simpa using hsz y hy) ihu ih
  | own0 t ih => simpa [Vm.wk, wkL] using RepL.own0 ih
  | @own g n c sz et cur l us vs xs f1 f hn hnc hb hcap hcell hsz hu t ihu ih =>
    rw [← flat_wk] at ihu
    simp only [List.map_cons, Vm.wk, wkL_eq]
    exact .own (by simpa using hn) hnc hb hcap hcell (fun a ha => by obtain ⟨y, hy, rfl⟩ := List.mem_map.1 ha; rw [leaves_wk]; simpa using hsz y hy) ihu ih
  | cptr hb hcell hu t _ ih => exact .cptr hb hcell hu ih
  | clo hu t _ ih => exact .clo hu ih

theorem ValRep.wk {v : Value} {x : AV} {f : List Nat} (h : ValRep F w v x f) : ValRep F w v (Vm.wk x) f := by
  cases x with
  | agg fs => obtain ⟨cs, e, h⟩ := h; exact ⟨cs, e, by rw [wkL_eq]; exact h.wk⟩
  | _ => exact (show RepL F w [v] [_] f from h).wk

theorem ValsRep.wk {vs : List Value} {xs : List AV} {f : List Nat} (h : ValsRep F w vs xs f) : ValsRep F w vs (xs.map Vm.wk) f := by
  induction h with
  | nil => exact .nil
  | cons h1 h2 ih => exact .cons h1.wk ih

theorem ResRep.wk {v : Value} {x : AV} {f : List Nat} (h : ResRep F w v x f) : ResRep F w v (Vm.wk x) f := by
  cases x with
  | tup xs => obtain ⟨us, e, h⟩ := h; exact ⟨us, e, by rw [wkL_eq]; exact h.wk⟩
  | pt sz l i j =>
    obtain ⟨b, cur, et, us, f1, h1, h2, h3, h4, h5, rfl⟩ := h
    refine ⟨b, cur, et, us, f1, h1, h2, h3, fun a ha => ?_, ?_, rfl⟩
    · rw [wkL_eq] at ha
      obtain ⟨y, hy, rfl⟩ := List.mem_map.1 ha
      rw [leaves_wk]; simpa using h4 y hy
    · rw [wkL_eq, flat_wk]; exact h5.wk
  | _ => simp only [ResRep] at h; have := ValRep.wk h; simpa only [Vm.wk, ResRep] using this

theorem DoesR.wk {f : Nat} {args : List AV} {R : AV → AV → Prop} (h : DoesR C f args R) : DoesR C f args fun r l => ∃ r0, R r0 l ∧ r = Vm.wk r0 := fun w F vals gs h1 h2 h3 h4 =>
  (h w F vals gs h1 h2 h3 h4).mono fun _ _ ⟨v, F', g, gs', res, left, hr, he, hk, hf, hf', hg, hnd, hres, hl⟩ => ⟨v, F', g, gs', _, left, ⟨res, hr, rfl⟩, he, hk, hf, hf', hg, hnd, hres.wk, hl⟩
end
end Go.Vm

namespace Go.Vm
/-- What stands for r stands for r', too. -/
def Weak (r r' : AV) : Prop := ∀ (F : Nat → Prop) (w : World) (v : Value) (g : List Nat), ResRep F w v r g → ResRep F w v r' g
def WeakV (r r' : AV) : Prop := ∀ (F : Nat → Prop) (w : World) (v : Value) (g : List Nat), ValRep F w v r g → ValRep F w v r' g
theorem Weak.refl (r : AV) : Weak r r := fun _ _ _ _ h => h
theorem WeakV.refl (r : AV) : WeakV r r := fun _ _ _ _ h => h
theorem weakV_nil (sz : Nat) : WeakV (.fro none true []) (.own sz []) := fun F w v g h => by
  have h : RepL F w [v] [.fro none true []] g := h
  cases h with
  | fro0 hc t =>
    cases t
    obtain rfl := hc rfl
    exact RepL.own0 .nil
  | fro hn hnc hc hb hcell hsz hu t =>
    cases t
    simp only [List.length_nil] at hn
    subst hn
    obtain rfl := hc rfl
    exact RepL.own0 .nil
theorem weak_nil (sz : Nat) : Weak (.fro none true []) (.own sz []) := fun F w v g h => weakV_nil sz F w v g h
inductive WeakL : List AV → List AV → Prop
  | nil : WeakL [] []
  | cons {x y : AV} {xs ys : List AV} (h : WeakV x y) (t : WeakL xs ys) : WeakL (x :: xs) (y :: ys)
theorem WeakL.vals {xs ys : List AV} (h : WeakL xs ys) : ∀ {F : Nat → Prop} {w : World} {vs : List Value} {g : List Nat}, ValsRep F w vs xs g → ValsRep F w vs ys g := by
  induction h with
  | nil => exact fun h => h
  | cons h _ ih => intro F w vs g hv; cases hv with | cons h1 h2 => exact .cons (h F w _ _ h1) (ih h2)
theorem weak_tup {xs ys : List AV} (h : WeakL xs ys) : Weak (.tup xs) (.tup ys) := fun _ _ _ _ ⟨us, e, hv⟩ => ⟨us, e, h.vals hv⟩
theorem DoesR.weak {C : Cfg} {f : Nat} {args : List AV} {R R' : AV → AV → Prop} (h : DoesR C f args R) (hR : ∀ r l, R r l → ∃ r', R' r' l ∧ Weak r r') : DoesR C f args R' := fun w F vals gs h1 h2 h3 h4 =>
  (h w F vals gs h1 h2 h3 h4).mono fun _ _ ⟨v, F', g, gs', _, left, hr, he, hk, hf, hf', hg, hnd, hres, hl⟩ => let ⟨r', h5, h6⟩ := hR _ _ hr; ⟨v, F', g, gs', r', left, h5, he, hk, hf, hf', hg, hnd, h6 _ _ _ _ hres, hl⟩
end Go.Vm
