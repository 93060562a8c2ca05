/- The row: for every input the law returns true and leaves its arguments as they were. Conditions: none. -/
import Derived.Test.YtklhdnjhgbglhaaGreatYR3
set_option linter.unusedVariables false
set_option linter.unusedSimpArgs false
namespace Go.Proofs.YtklhdnjhgbglhaaGreat
open Go Go.Vm Go.Proofs Go.ChangeShapes Go.WideShapes Go.ChangeAt Go.RowKit
set_option maxRecDepth 100000
namespace fnSafeWith
theorem own : ownKnob Tryz.prog.godebug = none := by kernel_rfl
theorem laidOut : laidOutB Tryz.prog = true := by kernel_rfl
theorem lifted (os : Os) (started : os.Started) (H : Type) (enc : TypeId × Value → H) :
    ReturnsInHanded {} Tryz.checked os 5 .any (Rows.fnSafeWithSpec.pre6 enc Tryz.prog Tryz.f5 Rows.fnSafeWithRow.domain false) (Rows.fnSafeWithSpec.post enc Tryz.prog Tryz.f5 false true false false) := by
  refine returnsInHanded_of_change_sized (C := Tryz.checked) own started (by kernel_rfl) Tryz.func5
    (ChangeSpec.witness6 (enc := enc) (C := Tryz.checked) false ⟨#[], #[.slice none 0 0], []⟩ 8 (by kernel_rfl) (by kernel_rfl) (by kernel_rfl) (by kernel_rfl)) ?_
  intro W base args ds gs before hval0 hW hcnd hsz0 _
  have hval : ∀ (j : Nat) t v, Tryz.f5.params[j]? = some t → args[j]? = some v → Value.okWide Tryz.prog W .any base t v := hval0
  have hW' := hW
  obtain ⟨p, q, hA0, hV, rfl, hfz, hnd⟩ := hW
  have hA : DataW.TrodAll enc Tryz.prog W 0 (fun _ => true) true Tryz.f5.params.toList args.toList ds p := hA0
  rw [Tryz.params5] at hA hval
  obtain ⟨v0, vs0, d0, ds0, p0, q0, hargs, rfl, rfl, h0, r0⟩ := trodAll_cons hA
  obtain ⟨rfl, rfl, rfl⟩ := trodAll_nil r0
  obtain rfl : args = #[v0] := by cases args; simp_all
  obtain ⟨rfl, rfl⟩ := trodVars_none hV
  have k0 := h0
  have lt0 : ∀ x ∈ p0, x.block < W.heap.size := by obtain ⟨m, hm⟩ := k0; exact DataW.trod_lt m _ _ _ hm
  obtain ⟨a0, len0, cap0, rfl⟩ := okWide_slice Tryz.underlying22 (hval 0 22 v0 rfl rfl)
  obtain ⟨m0, hm0⟩ := h0
  obtain ⟨x0, rep0, ok0⟩ := rdBytes.out enc W _ true m0 _ _ hm0
  clear hA0 hval0 hsz0
  have hd := (law x0 ok0).2 W (fun b => b < W.heap.size) [.slice a0 len0 cap0] [] (fun _ h => h) (.of_vals (.cons (f1 := []) (f2 := []) rep0 .nil)) List.nodup_nil (by simp)
  refine (show Calls Tryz.prog 5 #[.slice a0 len0 cap0] W _ from hd).mono fun e W' ⟨v, F', g, _, res, left, ⟨hR, _⟩, he, kept, _, _, _, _, hres, _⟩ => ?_
  subst hR
  have hv : v = .bool true := by have hr : RepL F' W' [v] [.bool true] g := hres; cases hr; rfl
  subst hv he
  have bel : Below W.heap.size W W' := ⟨kept.os, kept.tape, kept.output, kept.size, fun k hk => kept.block k hk (by simp)⟩
  exact ⟨_, rfl, _, _, _, [], _, [], hW', trodAll_mk1 (shut_bool Tryz.underlying4 _), (trodAll_cons_mk (Below.trod laidOut (by kernel_rfl) (of_decide_eq_true (by kernel_rfl)) k0 bel lt0) trodAll_mk0), rfl, bel.frame _, fun h => by cases h⟩
theorem over : Rows.fnSafeWithRow.holds Tryz.pinned (OpenSpec.ofChange Rows.fnSafeWithSpec) :=
  OpenClaim.holds_of_wide 5 Tryz.f5 rfl rfl rfl rfl rfl rfl rfl ⟨rfl, rfl, rfl, rfl, rfl⟩ rfl rfl rfl rfl rfl (by kernel_rfl) Tryz.func5 (by kernel_rfl)
    (of_decide_eq_true (by kernel_rfl)) (by unfold Func.isWrapper; first | (rw [if_pos (by decide +kernel)]; kernel_rfl) | (rw [if_neg (by decide +kernel)]; exact ⟨rfl, rfl⟩))
    (fun os started H enc _ => lifted os started H enc)
end fnSafeWith
theorem fnSafeWith_holds : Rows.FnSafeWithSaid := fnSafeWith.over
#print axioms fnSafeWith_holds
end Go.Proofs.YtklhdnjhgbglhaaGreat
