/- A result whose capacity is known: its array is frozen as it is returned. -/
import Derived.Test.YtboeimkfcfdabaaWBase
namespace Go.Vm
def resTmp (σ : St) : ResultVar → AV
  | .tmp t => σ.sl t
  | .cell _ _ => .und
def leftVF (σ : St) (y gh : AV) : Option AV :=
  match y, gh with
  | .own _ _, .hd e _ _ _ _ => if (σ.en e).live = true ∧ (σ.en e).frz = true then some (.tup []) else none
  | _, _ => none
def retWF (C : Cfg) (k : Nat) (y : AV) (rs : List ResultVar) (R : AV → AV → Prop) : Ex → St → Prop
  | .exit _, _ => False
  | _, σ => exP (σ.frzHd (rs.map (resTmp σ))) fun σ0 => exP (retG C σ0 rs) fun p => exP (leftVF p.2 y (ghostW k y)) fun l => R p.1 l
section
variable {C : Cfg} {D : Spec} {n : Nat} {w0 : World} {F0 S0 F : Nat → Prop} {G : Value → AV → Prop} {μ : Nat → Option Nat} {fp : Nat → List Nat} {L : List Nat} {σ σ' : St} {a : Act} {w w' : World} {o : Oper}
theorem does_of_WWXF {rs : Ways} (hC : CfgOk C) (hD : SpecOk C D) {f k : Nat} {y : AV} {fn : Func} {c : Code} {args : List AV} {R : AV → AV → Prop} (hf : C.P.funcs[f]? = some fn) (hb : fn.body = some c) (hok : okCodeX rs C.wrt fn.ntmps c = true) (hw : C.wrt f = some k)
    (hn : args.length ≤ fn.ntmps) (hy : args[k]? = some y) (ho : ∃ sz l, y = .own sz l ∨ ∃ i j, y = .pt sz l i j) (ha : (args.set k .und).all plainArg = true) (hW : W C D (tr rs c) (retWF C k y fn.results.toList R) ((St.init (args.set k .und)).lentS k y)) : DoesR C f args R := by
  intro w F vals gs hF hv hnd hg
  obtain ⟨v0, hv0, hy0, hvs⟩ := hv.one hy ho ha
  have hkl : k < vals.length := (List.getElem?_eq_some_iff.1 hv0).1
  have hvl := hvs.length
  rw [List.length_set] at hvl
  have hv0' : (vals.toArray ++ Array.replicate (fn.ntmps - vals.toArray.size) undef).getD k undef = v0 := by
    rw [Array.getD_eq_getD_getElem?, Array.getElem?_append_left (by simpa using hkl)]
    simp [hv0]
  obtain ⟨μ0, fp0, r0⟩ := take_lent (init_rel (n := fn.ntmps) hF hg hnd hvs ha (by rw [List.length_set]; exact hn)) (k := k) (by omega) hv0' hy0 ho rfl
  refine calls_of_wp hf hb (wp_mono (W_soundX hC hD c _ _ _ _ hok ⟨_, _, _, r0⟩ hW) ?_)
  rintro e a' w' ⟨e', σ, rfl, hq, F1, μ, fp, hs⟩
  have key : exP (σ.frzHd (fn.results.toList.map (resTmp σ))) (fun σ0 => exP (retG C σ0 fn.results.toList) (fun p => exP (leftVF p.2 y (ghostW k y)) fun l => R p.1 l)) → a'.defers = [] ∧ ∃ v, (results fn a'.tmps).run C.P w' = .ok v w' ∧ ∃ v' F' g gs' res left, R res left ∧ Ending.returned v = .returned v' ∧ KeptS w w' (fun b => b ∈ gs) ∧ (∀ b, F b → F' b) ∧ (∀ b, F' b → b < w'.heap.size ∧ (F b ∨ b ∈ gs ∨ w.heap.size ≤ b)) ∧
      (∀ b ∈ g ++ gs', ¬ F' b ∧ (b ∈ gs ∨ w.heap.size ≤ b) ∧ b < w'.heap.size) ∧ (g ++ gs').Nodup ∧ ResRep F' w' v' res g ∧ LeftRep C f F' w' vals args left gs' := by
    rintro ⟨σ0, hz, ⟨res, σ'⟩, hr, left, hl, hR⟩
    obtain ⟨F2, fp2, hs0, _, _⟩ := Rel.frzHd hs hz
    obtain ⟨v, F', fp', g, h0, h1, h2, h3⟩ := retG_ok hC hs0 hr
    have hleft : left = .tup [] := by
      unfold leftVF at hl
      split at hl
      · split at hl
        · cases hl; rfl
        · cases hl
      · cases hl
    refine ⟨hs.defers, v, h0, _, F', g, [], res, left, hR, rfl, h1.kept, fun b hb => h1.base b hb, h1.free, fun b hb => ?_, by simpa using h1.looseNodup, h3, ?_⟩
    · obtain ⟨q1, q2, q3, _⟩ := h1.loose b (by simpa using hb)
      exact ⟨q1, q3, q2⟩
    · simp only [LeftRep, hw]
      exact .inr ⟨hleft, trivial⟩
  cases e' with
  | normal => exact key hq
  | exit i => exact hq.elim
  | ret => exact key hq
end
end Go.Vm
open Go Go.Vm Go.Proofs
theorem fn_ofWF (m : Md) {f k : Nat} {y : AV} {fn : Func} {c : Code} {args : List AV} {R : AV → AV → Prop} (hf : Try.prog.funcs[f]? = some fn) (hn : (fn.name == "runtime.NumGoroutine") = false) (hb : fn.body = some c) (hok : okCode fn.ntmps c = true)
    (hw : C.wrt f = some k) (hl : args.length ≤ fn.ntmps) (hy : args[k]? = some y) (ho : ∃ sz l, y = .own sz l ∨ ∃ i j, y = .pt sz l i j) (ha : (args.set k .und).all plainArg = true)
    (hW : ∀ Q, (∀ σ, exP (σ.frzHd (fn.results.toList.map (resTmp σ))) (fun σ0 => exP (retG (CC m) σ0 fn.results.toList) (fun p => exP (leftVF p.2 y (ghostW k y)) fun l => R p.1 l)) → Q .ret σ) → WT (CC m) D c Q ((St.init (args.set k .und)).lentS k y) ⟨⟩) : FxR f args R := by
  obtain ⟨h1, h2⟩ := okCode_tr c C.wrt hok
  exact ⟨⟨fn, c, hf, hn, hb⟩, does_of_WWXF (Cok m) (Dok m) hf hb h1 hw hl hy ho ha (by rw [h2]; exact hW _ fun _ h => h)⟩
