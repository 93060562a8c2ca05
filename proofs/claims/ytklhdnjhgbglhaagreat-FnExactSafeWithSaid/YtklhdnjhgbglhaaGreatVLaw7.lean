/- The row: for every input the law returns true and leaves its arguments as they were. Conditions: none. -/
import Derived.Test.YtklhdnjhgbglhaaGreatVR1
namespace Go.Proofs.YtklhdnjhgbglhaaGreat
open Go Go.Vm Go.Proofs Go.ChangeShapes Go.WideShapes Go.ChangeAt Go.RowKit
set_option maxRecDepth 100000
set_option linter.unusedVariables false
namespace fnExactSafeWith
theorem own : ownKnob Tryz.prog.godebug = none := by kernel_rfl
theorem laidOut : laidOutB Tryz.prog = true := by kernel_rfl
theorem lifted (os : Os) (started : os.Started) (H : Type) (enc : TypeId × Value → H) :
    ReturnsInHanded {} Tryz.checked os 7 .any (Rows.fnExactSafeWithSpec.pre6 enc Tryz.prog Tryz.f7 Rows.fnExactSafeWithRow.domain false) (Rows.fnExactSafeWithSpec.post enc Tryz.prog Tryz.f7 false true false false) := by
  refine returnsInHanded_of_change_sized (C := Tryz.checked) own started (by kernel_rfl) Tryz.func7
    (ChangeSpec.witness6 (enc := enc) (C := Tryz.checked) false ⟨#[], #[.agg #[.slice none 0 0, .int .i64 0, .slice none 0 0], .int .i64 0], []⟩ 8 (by kernel_rfl) (by kernel_rfl) (by kernel_rfl) (by kernel_rfl)) ?_
  intro W base args ds gs before hval0 hW hcnd hsz0 _
  have hval : ∀ (j : Nat) t v, Tryz.f7.params[j]? = some t → args[j]? = some v → Value.okWide Tryz.prog W .any base t v := hval0
  have hW' := hW
  obtain ⟨p, q, hA0, hV, rfl, hfz, hnd⟩ := hW
  have hA : DataW.TrodAll enc Tryz.prog W 0 (fun _ => true) true Tryz.f7.params.toList args.toList ds p := hA0
  rw [Tryz.params7] at hA hval
  obtain ⟨v0, vs0, d0, ds0, p0, q0, hargs, rfl, rfl, h0, r0⟩ := trodAll_cons hA
  obtain ⟨v1, vs1, d1, ds1, p1, q1, rfl, rfl, rfl, h1, r1⟩ := trodAll_cons r0
  obtain ⟨rfl, rfl, rfl⟩ := trodAll_nil r1
  obtain rfl : args = #[v0, v1] := by cases args; simp_all
  obtain ⟨rfl, rfl⟩ := trodVars_none hV
  have k0 := h0
  have lt0 : ∀ x ∈ p0, x.block < W.heap.size := by obtain ⟨m, hm⟩ := k0; exact DataW.trod_lt m _ _ _ hm
  obtain ⟨cs, rfl, hcsz⟩ := okWide_struct Tryz.underlying48 (hval 0 48 v0 rfl rfl)
  obtain ⟨m0, hm0⟩ := h0
  obtain ⟨x0, rep0, ok0⟩ := rdHs.out enc W _ true m0 _ _ hm0
  obtain ⟨a1, rfl, rfl, rfl, w1⟩ := open_int Tryz.underlying3 (hval 1 3 v1 rfl rfl) h1
  clear hA0 hval0 hsz0
  have rv : ValRep (fun b => b < W.heap.size) W (.agg cs) (_root_.hA x0) [] := ⟨cs, rfl, rep0⟩
  have hd := (law x0 ok0 a1).2 W (fun b => b < W.heap.size) [.agg cs, .int _ a1] [] (fun _ h => h) (.of_vals (.cons (f1 := []) (f2 := []) rv (.cons (f1 := []) (f2 := []) (RepL.int .nil) .nil))) List.nodup_nil (by simp)
  refine (show Calls Tryz.prog 7 #[.agg cs, .int _ a1] W _ from hd).mono fun e W' ⟨v, F', g, _, res, left, ⟨hR, _⟩, he, kept, _, _, _, _, hres, _⟩ => ?_
  subst hR
  have hv : v = .bool true := by have hr : RepL F' W' [v] [.bool true] g := hres; cases hr; rfl
  subst hv he
  have bel : Below W.heap.size W W' := ⟨kept.os, kept.tape, kept.output, kept.size, fun k hk => kept.block k hk (by simp)⟩
  exact ⟨_, rfl, _, _, _, [], _, [], hW', trodAll_mk1 (shut_bool Tryz.underlying4 _), (trodAll_cons_mk (Below.trod laidOut (by kernel_rfl) (of_decide_eq_true (by kernel_rfl)) k0 bel lt0) (trodAll_cons_mk (shut_int Tryz.underlying3 w1) trodAll_mk0)), rfl, bel.frame _, fun h => by cases h⟩
theorem over : Rows.fnExactSafeWithRow.holds Tryz.pinned (OpenSpec.ofChange Rows.fnExactSafeWithSpec) :=
  OpenClaim.holds_of_wide 7 Tryz.f7 rfl rfl rfl rfl rfl rfl rfl ⟨rfl, rfl, rfl, rfl, rfl⟩ rfl rfl rfl rfl rfl (by kernel_rfl) Tryz.func7 (by kernel_rfl)
    (of_decide_eq_true (by kernel_rfl)) (by unfold Func.isWrapper; first | (rw [if_pos (by decide +kernel)]; kernel_rfl) | (rw [if_neg (by decide +kernel)]; exact ⟨rfl, rfl⟩))
    (fun os started H enc _ => lifted os started H enc)
end fnExactSafeWith
theorem fnExactSafeWith_holds : Rows.FnExactSafeWithSaid := fnExactSafeWith.over
#print axioms fnExactSafeWith_holds
end Go.Proofs.YtklhdnjhgbglhaaGreat
