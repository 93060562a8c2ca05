/- Literals and made slices. -/
import Derived.Test.YtfimolakepbdbaaWOps6
import Derived.Laws.Tables
import Derived.Laws.MakeOwn
import Derived.Great.BuildSlice
namespace Go.Vm

section
variable {C : Cfg} {n : Nat} {w0 : World} {F0 S0 F : Nat → Prop} {G : Value → AV → Prop} {μ : Nat → Option Nat} {fp : Nat → List Nat} {L : List Nat} {σ σ' : St} {a : Act} {w w' : World} {o : Oper}

theorem setRow_toList : ∀ {vs : List Value} {cur : Array Value} {o : Nat}, o + vs.length ≤ cur.size → (setRow cur o vs).toList = cur.toList.take o ++ vs ++ cur.toList.drop (o + vs.length)
  | [], cur, o, _ => by simp [setRow]
  | v :: vs, cur, o, h => by
    simp only [List.length_cons] at h
    rw [setRow, setRow_toList (by simp; omega), Array.toList_setIfInBounds, List.set_eq_take_append_cons_drop, if_pos (by simp; omega)]
    have hl : (cur.toList.take o).length = o := by simp; omega
    have e1 : (cur.toList.take o ++ v :: cur.toList.drop (o + 1)).take (o + 1) = cur.toList.take o ++ [v] := by
      rw [List.take_append, hl, Nat.add_sub_cancel_left, List.take_of_length_le (by omega)]; simp
    have e2 : (cur.toList.take o ++ v :: cur.toList.drop (o + 1)).drop (o + 1 + vs.length) = cur.toList.drop (o + (v :: vs).length) := by
      rw [List.drop_append, hl, List.drop_of_length_le (by omega), List.nil_append, show o + 1 + vs.length - o = vs.length + 1 by omega, List.drop_succ_cons, List.drop_drop]
      congr 1; simp; omega
    rw [e1, e2]
    simp

theorem fold_setRow : ∀ (vs : List Value) (k : Nat) (cells : Array Value) (off : Nat), (vs.zipIdx k).foldl (fun cs (x : Value × Nat) => cs.setIfInBounds (off + x.2) x.1) cells = setRow cells (off + k) vs
  | [], _, _, _ => rfl
  | v :: vs, k, cells, off => by
    rw [List.zipIdx_cons, List.foldl_cons, fold_setRow vs (k + 1), setRow, Nat.add_assoc]

theorem fill_cons {place : Nat → Option (Nat × Nat)} {cells : Array Value} {i off size : Nat} {v : Value} {rest : List (Nat × Value)} (hp : place i = some (off, size)) (hs : v.cells.size = size) (ho : off + size ≤ cells.size) :
    Instr.fill place cells ((i, v) :: rest) = Instr.fill place (setRow cells off v.cells.toList) rest := by
  have e : v.cells.zipIdx.foldl (fun cs (x : Value × Nat) => cs.setIfInBounds (off + x.2) x.1) cells = setRow cells off v.cells.toList := by
    rw [← Array.foldl_toList, Array.toList_zipIdx, fold_setRow, Nat.add_zero]
  rw [Instr.fill]
  simp only [hp]
  rw [if_neg (by simp; omega)]
  exact congrArg (fun c => Instr.fill place c rest) e

theorem All2.append {α β : Type} {R : α → β → Prop} : ∀ {as as' : List α} {bs bs' : List β}, All2 R as bs → All2 R as' bs' → All2 R (as ++ as') (bs ++ bs')
  | [], _, [], _, _, h => h
  | _ :: _, _, _ :: _, _, ⟨h1, h2⟩, h => ⟨h1, All2.append h2 h⟩
  | [], _, _ :: _, _, h, _ => h.elim
  | _ :: _, _, [], _, h, _ => h.elim

theorem okL_get : ∀ {ls : List AV} {i : Nat} {x : AV}, σ.okL ls = some () → ls[i]? = some x → σ.ok x = some ()
  | [], _, _, _, h => by simp at h
  | y :: ys, i, x, h, hx => by
    simp only [St.okL, Option.bind_eq_bind, Option.bind_eq_some_iff] at h
    obtain ⟨_, h1, h2⟩ := h
    cases i with
    | zero => simp at hx; subst hx; exact h1
    | succ i => exact okL_get h2 (by simpa using hx)

theorem SLeaf.one {v : Value} {x : AV} (h : SLeaf F w σ.en μ fp v x) (hv : σ.ok x = some ()) : v.oneCell' = true := by
  cases x with
  | hd e g off len clip =>
    simp only [St.ok, Option.bind_eq_bind, Option.bind_eq_some_iff] at hv
    obtain ⟨E, hE, _⟩ := hv
    obtain ⟨hl, he, _⟩ := cur_some hE
    obtain ⟨A, c, rfl, _⟩ := h.2 hl he
    rfl
  | ptr e g i j =>
    simp only [St.ok, Option.bind_eq_bind, Option.bind_eq_some_iff] at hv
    obtain ⟨E, hE, _⟩ := hv
    obtain ⟨hl, he, _⟩ := cur_some hE
    obtain ⟨b, _, rfl⟩ := h.2 hl he
    rfl
  | fro tg clip l =>
    cases tg with
    | none => exact RepL.one h
    | some p =>
      obtain ⟨hl, hw⟩ := ensure_some hv
      exact (h.2 hl hw).1.one
  | cptr tg c =>
    cases tg with
    | none => exact RepL.one h
    | some p =>
      obtain ⟨hl, hw⟩ := ensure_some hv
      exact (h.2 hl hw).one
  | agg => exact h.elim
  | tup => exact h.elim
  | own => exact h.elim
  | pt => exact h.elim
  | _ => exact RepL.one h

theorem SRep.cells {v : Value} {x : AV} (h : SRep F w σ.en μ fp v x) (hv : σ.okL (Vm.leaves x) = some ()) : All2 (SLeaf F w σ.en μ fp) v.cells.toList (Vm.leaves x) := by
  have ok1 : Vm.leaves x = [x] → σ.ok x = some () := fun e => okL_get hv (i := 0) (by rw [e]; rfl)
  cases x with
  | agg fs => exact h.leaves (by simp) (by simp) (by simp)
  | tup vs => have := ok1 rfl; cases this
  | pt => have := ok1 rfl; cases this
  | _ => exact h.leaves (by simp) (by simp) fun _ => cells_one ((h.leaf (by simp) (by simp) (by simp)).one (ok1 rfl))

theorem RepL.all2 {en : Nat → Ent} {vs : List Value} {xs : List AV} {f : List Nat} (h : RepL F w vs xs f) (hx : xs.all noOwn = true) : All2 (SLeaf F w en μ fp) vs xs := by
  refine All2.mk h.length fun i v x hv hxi => ?_
  obtain ⟨g, hg, _⟩ := h.at hv hxi
  refine hg.sleaf fun _ l hl => ?_
  have := List.all_eq_true.1 hx x (List.mem_iff_getElem?.2 ⟨i, hxi⟩)
  subst hl
  cases this

theorem mapM_some {α β : Type} {f : α → Option β} : ∀ {l : List α}, (∀ x ∈ l, (f x).isSome = true) → ∃ ys, l.mapM f = some ys ∧ ∀ (i : Nat) (x : α), l[i]? = some x → ys[i]? = f x
  | [], _ => ⟨[], rfl, by simp⟩
  | x :: xs, h => by
    obtain ⟨y, hy⟩ := Option.isSome_iff_exists.1 (h x (by simp))
    obtain ⟨ys, h1, h2⟩ := mapM_some (l := xs) fun x hx => h x (by simp [hx])
    refine ⟨y :: ys, by simp [List.mapM_cons, hy, h1], fun i z hz => ?_⟩
    cases i with
    | zero => simp at hz ⊢; subst hz; exact hy.symm
    | succ i => simpa using h2 i z (by simpa using hz)

theorem buildF_ok (hC : CfgOk C) (h : Rel n w0 F0 S0 G F μ fp L σ a w) {fs : List (Nat × Nat)} {place : Nat → Option (Nat × Nat)} (hp : ∀ (i off ty : Nat) (U : TI), fs[i]? = some (off, ty) → C.tt ty = some U → place i = some (off, U.sz)) :
    ∀ {parts : List (Nat × Operand)} {acc res : List AV} {cells : Array Value}, All2 (SLeaf F w σ.en μ fp) cells.toList acc → buildF C fs σ parts acc = some res →
      ∃ cells', Instr.fill place cells (parts.map fun (i, x) => (i, a.eval x)) = some cells' ∧ All2 (SLeaf F w σ.en μ fp) cells'.toList res
  | [], acc, res, cells, hall, hr => by
    simp only [buildF, Option.some.injEq] at hr
    subst hr
    exact ⟨cells, rfl, hall⟩
  | (i, x) :: rest, acc, res, cells, hall, hr => by
    simp only [buildF, Option.bind_eq_bind, Option.bind_eq_some_iff] at hr
    obtain ⟨⟨off, ty⟩, hf, U, hU, _, hok, _, hen, hr⟩ := hr
    obtain ⟨hl, hoff⟩ := ensure_some hen
    have hcv := (h.get x).cells hok
    have hcs : (a.eval x).cells.size = U.sz := by simpa [hl] using hcv.length
    have hcl : cells.size = acc.length := by simpa using hall.length
    have hset : All2 (SLeaf F w σ.en μ fp) (setRow cells off (a.eval x).cells.toList).toList (setRange acc off (leaves (σ.get x))) := by
      rw [setRow_toList (by simp; omega)]
      have e : (a.eval x).cells.toList.length = (leaves (σ.get x)).length := hcv.length
      rw [e]
      exact ((hall.take off).append hcv).append (hall.drop _)
    obtain ⟨cells', h1, h2⟩ := buildF_ok hC h hp hset hr
    refine ⟨cells', ?_, h2⟩
    rw [List.map_cons, fill_cons (hp i off ty U hf hU) hcs (by omega)]
    exact h1

theorem op_build (hC : CfgOk C) (h : Rel n w0 F0 S0 G F μ fp [] σ a w) {t : TypeId} {parts : Array (Nat × Operand)} (ho : o.op = .build t parts) (hr : opF C o σ = some σ') : OpPure C F μ fp σ o a w σ' := by
  simp only [opF, ho, Option.bind_eq_bind, Option.bind_eq_some_iff] at hr
  obtain ⟨T, hT, hr⟩ := hr
  have hT' := hC.tt t T hT
  have hTd := hT'.desc
  split at hr
  case h_2 => cases hr
  rename_i fs hfs
  rw [hfs] at hTd
  obtain ⟨fields, hu, hfl, hfd⟩ := hTd
  simp only [Option.bind_eq_some_iff] at hr
  obtain ⟨_, hall, ls, hb, hr⟩ := hr
  cases hr
  have hall := ensure_some hall
  obtain ⟨it, z, hi, hs, _, hz, hzs, hzr, _⟩ := hT'.info
  have tts : ∀ (i : Nat) (fd : Field), fields[i]? = some fd → ∃ U, fs[i]? = some (fd.offset, fd.type) ∧ C.tt fd.type = some U := by
    intro i fd hfi
    have hlt : i < fs.length := by have := (Array.getElem?_eq_some_iff.1 hfi).1; omega
    have e := List.getElem?_eq_getElem hlt
    obtain ⟨fd', h1, h2, h3⟩ := hfd i (fs[i]).1 (fs[i]).2 e
    rw [hfi] at h1; cases h1
    have := List.all_eq_true.1 hall fs[i] (List.getElem_mem hlt)
    obtain ⟨U, hU⟩ := Option.isSome_iff_exists.1 this
    exact ⟨U, by rw [e, h2, h3], by rw [h3]; exact hU⟩
  obtain ⟨places, hpl, hpg⟩ := mapM_some (f := fun f : Field => (C.P.info? f.type).map fun i => (f.offset, i.size)) (l := fields.toList) fun fd hfd' => by
    obtain ⟨i, hi⟩ := List.mem_iff_getElem?.1 hfd'
    obtain ⟨U, _, hU⟩ := tts i fd (by simpa using hi)
    obtain ⟨iu, _, hiu, _⟩ := (hC.tt _ U hU).info
    simp [hiu]
  obtain ⟨cells', hfill, hres⟩ := buildF_ok (place := (places.toArray[·]?)) hC h (fun i off ty U hf hU => by
    obtain ⟨fd, h1, h2, h3⟩ := hfd i off ty hf
    obtain ⟨iu, _, hiu, hsu, _⟩ := (hC.tt _ U hU).info
    have := hpg i fd (by simpa using h1)
    rw [h3, hiu, Option.map_some, hsu, h2] at this
    simpa using this) ((hzr F w).all2 hT'.noOwn) hb
  refine .mk' (v := .agg cells') (fun w' _ => ?_) (x := .agg ls) ⟨cells', rfl, hres⟩
  have hbt : C.P.built t (parts.map fun (i, x) => (i, a.eval x)).toList = some cells' := by
    simp only [Program.built, hi, hu, hz, hpl, Array.toList_map]
    exact hfill
  simp only [execOp, ho, Sem.run_bind, run_build w' t _ cells' hbt, Result.andThen_ok, Sem.run_pure]

end
end Go.Vm
