/- WALK, or plain laws for it: theorem f<k> says what function k returns. Conditions: none but those ahead of each theorem. -/
import Derived.Test.YtklhdnjhgbglhaaGreatYBase
import Derived.Test.YtklhdnjhgbglhaaGreatYLib6
set_option linter.unusedVariables false
set_option linter.unusedSimpArgs false
/- Several results: a struct among them keeps what it owns. -/
namespace Go.Vm
def closeVM (σ : St) : AV → Option (AV × St)
  | .agg fs => do
    let (ls, σ1) ← σ.closeM true fs
    some (.agg ls, σ1)
  | x => σ.closeV x
def closeVsM (σ : St) : List AV → Option (List AV × St)
  | [] => some ([], σ)
  | x :: xs => do
    let (y, σ1) ← closeVM σ x
    let (ys, σ2) ← closeVsM σ1 xs
    some (y :: ys, σ2)
def retGM (C : Cfg) (σ : St) (rs : List ResultVar) : Option (AV × St) := do
  let xs ← resL C σ rs
  match xs with
  | [_] => none
  | xs => do let (ys, σ') ← closeVsM σ xs; some (.tup ys, σ')
def retRM (C : Cfg) (rs : List ResultVar) (R : AV → AV → Prop) : Ex → St → Prop
  | .exit _, _ => False
  | _, σ => exP (retGM C σ rs) fun p => R p.1 .und
section
variable {C : Cfg} {D : Spec} {n : Nat} {w0 : World} {F0 S0 F : Nat → Prop} {G : Value → AV → Prop} {μ : Nat → Option Nat} {fp : Nat → List Nat} {L : List Nat} {σ σ' : St} {a : Act} {w w' : World} {o : Oper}
theorem Rel.closeAggM (h : Rel n w0 F0 S0 G F μ fp L σ a w) {v : Value} {x y : AV} (hx : SRep F w σ.en μ fp v x) (hc : closeVM σ x = some (y, σ')) :
    ∃ F' fp' f, Rel n w0 F0 S0 G F' μ fp' (f ++ L) σ' a w ∧ ValRep F' w v y f ∧ (∀ b, F b → F' b) ∧ (∀ v x, SLeaf F w σ.en μ fp v x → SLeaf F' w σ'.en μ fp' v x) := by
  cases x with
  | agg fs =>
    obtain ⟨cs, rfl, hall⟩ := hx
    simp only [closeVM, Option.bind_eq_bind, Option.bind_eq_some_iff] at hc
    obtain ⟨⟨ls, σ1⟩, hls, he⟩ := hc
    simp only [Option.some.injEq, Prod.mk.injEq] at he
    obtain ⟨rfl, rfl⟩ := he
    obtain ⟨F', fp', f, r1, r2, r3, r4, _⟩ := h.closeM hall hls
    exact ⟨F', fp', f, r1, ⟨cs, rfl, r2⟩, r3, r4⟩
  | _ => exact h.closeAgg hx hc
theorem Rel.closeAggsM : ∀ {xs ys : List AV} {vs : List Value} {σ σ' : St} {F : Nat → Prop} {fp : Nat → List Nat} {L : List Nat}, Rel n w0 F0 S0 G F μ fp L σ a w → All2 (SRep F w σ.en μ fp) vs xs → closeVsM σ xs = some (ys, σ') →
    ∃ F' fp' f, Rel n w0 F0 S0 G F' μ fp' (f ++ L) σ' a w ∧ ValsRep F' w vs ys f ∧ (∀ b, F b → F' b)
  | [], ys, [], σ, σ', F, fp, L, h, _, hc => by
    simp only [closeVsM, Option.some.injEq, Prod.mk.injEq] at hc
    obtain ⟨rfl, rfl⟩ := hc
    exact ⟨F, fp, [], h, .nil, fun _ h => h⟩
  | x :: xs, ys, v :: vs, σ, σ', F, fp, L, h, ⟨h1, h2⟩, hc => by
    simp only [closeVsM, Option.bind_eq_bind, Option.bind_eq_some_iff] at hc
    obtain ⟨⟨y, σ1⟩, hy, ⟨ys', σ2⟩, hys, he⟩ := hc
    simp only [Option.some.injEq, Prod.mk.injEq] at he
    obtain ⟨rfl, rfl⟩ := he
    obtain ⟨F1, fp1, f1, r1, r2, r3, r4⟩ := h.closeAggM h1 hy
    obtain ⟨F2, fp2, f2, s1, s2, s3⟩ := Rel.closeAggsM r1 (h2.imp fun _ _ hx => SRep.trans r4 hx) hys
    refine ⟨F2, fp2, f1 ++ f2, s1.perm ?_, .cons (r2.mono s3 fun _ _ => rfl) s2, fun b hb => s3 b (r3 b hb)⟩
    rw [← List.append_assoc]
    exact List.perm_append_comm.append_right L
  | [], _, _ :: _, _, _, _, _, _, _, h, _ => h.elim
  | _ :: _, _, [], _, _, _, _, _, _, h, _ => h.elim
theorem retGM_ok (hC : CfgOk C) (h : Rel n w0 F0 S0 G F μ fp [] σ a w) {fn : Func} {res : AV} (hr : retGM C σ fn.results.toList = some (res, σ')) :
    ∃ v F' fp' g, (results fn a.tmps).run C.P w = .ok v w ∧ Rel n w0 F0 S0 G F' μ fp' g σ' a w ∧ (∀ b, F b → F' b) ∧ ResRep F' w v res g := by
  simp only [retGM, Option.bind_eq_bind, Option.bind_eq_some_iff] at hr
  obtain ⟨xs, hx, hr⟩ := hr
  obtain ⟨vs, hrun, hall⟩ := run_results hC h hx
  split at hr
  · cases hr
  · rename_i hne
    simp only [Option.bind_eq_some_iff] at hr
    obtain ⟨⟨y, σ1⟩, hy, he⟩ := hr
    cases he
    obtain ⟨F', fp', f, r1, r2, r3⟩ := Rel.closeAggsM h hall hy
    refine ⟨_, F', fp', f, hrun, by simpa using r1, r3, ?_⟩
    have hv : resVal vs = .tuple vs.toArray := by
      have hl := hall.length
      cases vs with
      | nil => rfl
      | cons v t => cases t with
        | cons => rfl
        | nil =>
          cases xs with
          | nil => simp at hl
          | cons x t => cases t with
            | nil => exact absurd rfl (hne x)
            | cons => simp at hl
    rw [hv]
    exact ⟨_, rfl, by simpa using r2⟩
theorem does_of_WXM {rs : Ways} (hC : CfgOk C) (hD : SpecOk C D) {f : Nat} {fn : Func} {c : Code} {args : List AV} {R : AV → AV → Prop} (hf : C.P.funcs[f]? = some fn) (hb : fn.body = some c) (hok : okCodeX rs C.wrt fn.ntmps c = true) (hw : C.wrt f = none)
    (hn : args.length ≤ fn.ntmps) (ha : args.all plainArg = true) (hW : W C D (tr rs c) (retRM C fn.results.toList R) (St.init args)) : DoesR C f args R := by
  intro w F vals gs hF hv hnd hg
  obtain ⟨rfl, hvs⟩ := hv.plain ha
  refine calls_of_wp hf hb (wp_mono (W_soundX hC hD c _ _ _ _ hok ⟨_, _, _, init_rel hF hg hnd hvs ha hn⟩ hW) ?_)
  rintro e a' w' ⟨e', σ, rfl, hq, F1, μ, fp, hs⟩
  have key : exP (retGM C σ fn.results.toList) (fun p => R p.1 .und) → a'.defers = [] ∧ ∃ v, (results fn a'.tmps).run C.P w' = .ok v w' ∧ ∃ v' F' g gs' res left, R res left ∧ Ending.returned v = .returned v' ∧ KeptS w w' (fun b => b ∈ ([] : List Nat)) ∧ (∀ b, F b → F' b) ∧ (∀ b, F' b → b < w'.heap.size ∧ (F b ∨ b ∈ ([] : List Nat) ∨ w.heap.size ≤ b)) ∧
      (∀ b ∈ g ++ gs', ¬ F' b ∧ (b ∈ ([] : List Nat) ∨ w.heap.size ≤ b) ∧ b < w'.heap.size) ∧ (g ++ gs').Nodup ∧ ResRep F' w' v' res g ∧ LeftRep C f F' w' vals args left gs' := by
    rintro ⟨⟨res, σ'⟩, hr, hR⟩
    obtain ⟨v, F', fp', g, h0, h1, h2, h3⟩ := retGM_ok hC hs hr
    refine ⟨hs.defers, v, h0, _, F', g, [], res, .und, hR, rfl, h1.kept, fun b hb => h1.base b hb, h1.free, fun b hb => ?_, by simpa using h1.looseNodup, h3, by simp [LeftRep, hw]⟩
    obtain ⟨k1, k2, k3, _⟩ := h1.loose b (by simpa using hb)
    exact ⟨k1, k3, k2⟩
  cases e' with
  | normal => exact key hq
  | exit i => exact hq.elim
  | ret => exact key hq
theorem DoesR.wkA {f : Nat} {args : List AV} {R : AV → AV → Prop} (h : DoesR C f (args.map Vm.wk) R) (hw : C.wrt f = none) (ha : args.all plainArg = true) : DoesR C f args R := fun w F vals gs h1 h2 h3 h4 => by
  obtain ⟨rfl, hvs⟩ := h2.plain ha
  refine (h w F vals [] h1 (.of_vals hvs.wk) h3 h4).mono fun e w' ⟨v, F', g, gs', res, left, hr, he, hk, hf, hf', hg, hnd, hres, hl⟩ => ⟨v, F', g, gs', res, left, hr, he, hk, hf, hf', hg, hnd, hres, ?_⟩
  simpa [LeftRep, hw] using hl
end
end Go.Vm
open Go Go.Vm Go.Proofs
theorem fn_ofXM (m : Md) {f : Nat} {fn : Func} {c : Code} {args : List AV} {R : AV → AV → Prop} (hf : Tryz.prog.funcs[f]? = some fn) (hn : (fn.name == "runtime.NumGoroutine") = false) (hb : fn.body = some c) (hok : okCodeX m.rs C.wrt fn.ntmps c = true)
    (hw : C.wrt f = none) (hl : args.length ≤ fn.ntmps) (ha : args.all plainArg = true) (hW : ∀ Q, (∀ σ, exP (retGM (CC m) σ fn.results.toList) (fun p => R p.1 .und) → Q .ret σ) → WT (CC m) D (tr m.rs c) Q (St.init args) ⟨⟩) : FxR f args R :=
  ⟨⟨fn, c, hf, hn, hb⟩, does_of_WXM (Cok m) (Dok m) hf hb hok hw hl ha (hW _ fun _ h => h)⟩
