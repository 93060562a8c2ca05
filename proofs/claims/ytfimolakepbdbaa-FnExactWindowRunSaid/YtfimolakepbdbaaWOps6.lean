/- Stores and new variables. -/
import Derived.Test.YtfimolakepbdbaaWOps5
namespace Go.Vm

section
variable {C : Cfg} {n : Nat} {w0 : World} {F0 S0 F : Nat → Prop} {G : Value → AV → Prop} {μ : Nat → Option Nat} {fp : Nat → List Nat} {L : List Nat} {σ σ' : St} {a : Act} {w w' : World} {o : Oper}

theorem cells_one {v : Value} (h : v.oneCell' = true) : v.cells = #[v] := by
  cases v <;> first | rfl | (simp [Value.oneCell'] at h; done)

/-- A value is closed: what it owns is loose. -/
theorem Rel.closeV (h : Rel n w0 F0 S0 G F μ fp L σ a w) {v : Value} {x : AV} {m : Bool} {ys : List AV} (hx : SRep F w σ.en μ fp v x) (hc : σ.closeM m (leaves x) = some (ys, σ')) :
    ∃ F' fp' f, Rel n w0 F0 S0 G F' μ fp' (f ++ L) σ' a w ∧ RepL F' w v.cells.toList ys f ∧ (∀ b, F b → F' b) ∧ (∀ v x, SLeaf F w σ.en μ fp v x → SLeaf F' w σ'.en μ fp' v x) ∧ σ'.sl = σ.sl := by
  have leaf : SLeaf F w σ.en μ fp v x → leaves x = [x] → ∃ F' fp' f, Rel n w0 F0 S0 G F' μ fp' (f ++ L) σ' a w ∧ RepL F' w v.cells.toList ys f ∧ (∀ b, F b → F' b) ∧ (∀ v x, SLeaf F w σ.en μ fp v x → SLeaf F' w σ'.en μ fp' v x) ∧ σ'.sl = σ.sl := by
    intro hl he
    rw [he] at hc
    obtain ⟨F', fp', f, r1, r2, r3⟩ := h.closeM (vs := [v]) (xs := [x]) ⟨hl, trivial⟩ hc
    have hyl : ys.length = 1 := by have := r2.length; simpa using this.symm
    obtain ⟨y, rfl⟩ : ∃ y, ys = [y] := by
      cases ys with
      | nil => simp at hyl
      | cons y t => cases t with
        | nil => exact ⟨y, rfl⟩
        | cons => simp at hyl
    exact ⟨F', fp', f, r1, by rw [cells_one r2.one]; exact r2, r3⟩
  cases x with
  | agg fs =>
    obtain ⟨cs, rfl, hall⟩ := hx
    exact h.closeM hall hc
  | tup vs => cases m <;> simp [leaves, St.closeM, St.steal, tagOf, orElse, St.closeL, St.close] at hc
  | pt => cases m <;> simp [leaves, St.closeM, St.steal, tagOf, orElse, St.closeL, St.close] at hc
  | _ => exact leaf (hx.leaf (by simp) (by simp) (by simp)) rfl

theorem leaves_reEl {x : AV} {ls : List AV} (h : (∀ fs, x ≠ .agg fs) → ∃ y, ls = [y] ∧ leaves y = [y]) : leaves (reEl x ls) = ls := by
  unfold reEl
  split
  · rfl
  · rename_i hx
    obtain ⟨y, rfl, hy⟩ := h hx
    simpa using hy

theorem leaves_length_of {x : AV} (h : ∀ fs, x ≠ .agg fs) : leaves x = [x] := by
  cases x <;> first | rfl | exact absurd rfl (h _)


theorem splice_flat {l x ls : List AV} {k sz j : Nat} (hx : (l.drop k).take sz = x) (hj : j + ls.length ≤ sz) :
    l.take k ++ setRange x j ls ++ l.drop (k + sz) = l.take (k + j) ++ ls ++ l.drop (k + j + ls.length) := by
  subst hx
  simp only [setRange]
  have e1 : l.take (k + j) = l.take k ++ ((l.drop k).take sz).take j := by
    rw [List.take_add, List.take_take, Nat.min_eq_left (by omega)]
  have e2 : l.drop (k + j + ls.length) = ((l.drop k).take sz).drop (j + ls.length) ++ l.drop (k + sz) := by
    rw [List.drop_take, List.drop_drop, Nat.add_assoc k j]
    have : l.drop (k + sz) = (l.drop (k + (j + ls.length))).drop (sz - (j + ls.length)) := by rw [List.drop_drop]; congr 1; omega
    rw [this, List.take_append_drop]
  rw [e1, e2]
  simp only [List.append_assoc]

theorem OpOk.skip (hr : (execOp a.eval o).run C.P w = .ok .skip w') {F' : Nat → Prop} {μ' : Nat → Option Nat} {fp' : Nat → List Nat} (h : Rel n w0 F0 S0 G F' μ' fp' [] σ' (a.put o.dst undef) w') : OpOk C n w0 F0 S0 G o a w σ' :=
  ⟨undef, w', .inr ⟨hr, rfl⟩, F', μ', fp', h⟩

theorem SRep.unit (F : Nat → Prop) (w : World) (en : Nat → Ent) (μ : Nat → Option Nat) (fp : Nat → List Nat) : SRep F w en μ fp undef (.tup []) := ⟨#[], rfl, trivial⟩

theorem op_store (hC : CfgOk C) (h : Rel n w0 F0 S0 G F μ fp [] σ a w) (hd : ∀ k, o.dst = some k → k < n) {t : TypeId} {p x : Operand} {σ1 : St} (ho : o.op = .store t p x) (hr : storeF C σ t (σ.get p) (σ.get x) = some σ1) :
    OpOk C n w0 F0 S0 G o a w (σ1.put o.dst (.tup [])) := by
  have hp := h.get p
  have hx := h.get x
  unfold storeF at hr
  split at hr
  case h_2 => cases hr
  rename_i e g i j hpe
  rw [hpe] at hp
  simp only [Option.bind_eq_bind, Option.bind_eq_some_iff] at hr
  obtain ⟨T, hT, E0, hE0, ⟨ls, σ2⟩, hcl, _, hlen, E, hE, _, hfz, z, hz, _, hj, hr⟩ := hr
  cases hr
  dsimp only at hlen hE hfz hz hj
  have hT' := hC.tt t T hT
  have hlen := ensure_some hlen
  have hfz := ensure_some hfz
  have hj := ensure_some hj
  have hpos := hT'.pos.1
  obtain ⟨F', fp', f, r1, r2, r3, r4, _⟩ := h.closeV hx hcl
  obtain ⟨hl, he, rfl⟩ := cur_some hE
  obtain ⟨b, hμ, hv⟩ := (r4 _ _ (show SLeaf F w σ.en μ fp (a.eval p) (.ptr e g i j) from hp)).2 hl he
  obtain ⟨b', cur, et, fr, us, f1, e1, e2, e3, e4, e5, _⟩ := r1.cells hl hz
  rw [hμ] at e1; cases e1
  obtain ⟨hsz, hent⟩ := r1.ent e hl
  rcases hent with ⟨e6, _⟩ | ⟨b'', cur', et', fr', us', f1', e6, e7, e8, e9, e10⟩
  · rw [hμ] at e6; cases e6
  rw [hμ] at e6; cases e6
  rw [e2] at e7; cases e7
  rcases e10 with ⟨e10, _⟩ | ⟨_, rfl, _⟩
  · rw [hfz] at e10; cases e10
  obtain ⟨hi, hze⟩ := List.getElem?_eq_some_iff.1 hz
  have hzl : (leaves z).length = (σ2.en e).sz := hsz z (hze ▸ List.getElem_mem hi)
  have hul := e9.length
  have hfl := flat_length hsz
  have hvl := r2.length
  rw [hlen] at hvl
  have hvl' : (a.eval x).cells.size = T.sz := by simpa using hvl
  have hmul : (i + 1) * (σ2.en e).sz ≤ (σ2.en e).elems.length * (σ2.en e).sz := Nat.mul_le_mul_right _ hi
  have hcurs : us'.length ≤ cur.size := by
    cases hu : us'.length with
    | zero => omega
    | succ k =>
      have := e8 k (by omega)
      rw [List.getElem?_eq_getElem (by omega)] at this
      have := (Array.getElem?_eq_some_iff.1 this).1
      omega
  have e11 : (i + 1) * (σ2.en e).sz = i * (σ2.en e).sz + (σ2.en e).sz := by rw [Nat.add_mul, Nat.one_mul]
  have hroom : i * (σ2.en e).sz + j + T.sz ≤ cur.size := by omega
  have hle : leaves (reEl z (setRange (leaves z) j ls)) = setRange (leaves z) j ls := by
    refine leaves_reEl fun hna => ?_
    have hz1 := leaves_length_of hna
    rw [hz1] at hj ⊢
    simp only [List.length_cons, List.length_nil] at hj
    obtain rfl : j = 0 := by omega
    have hT1 : T.sz = 1 := by omega
    have hls : ls.length = 1 := by omega
    cases ls with
    | nil => simp at hls
    | cons y t => cases t with
      | cons => simp at hls
      | nil =>
        refine ⟨y, by simp [setRange], ?_⟩
        have := r2.flat
        simpa [List.flatMap_cons] using this
  obtain ⟨fp'', q1, q2, _⟩ := r1.writeRange (f := f) (L := []) (e := e) (b := b) (ls := ls) (off := i * (σ2.en e).sz + j) (E' := { σ2.en e with wr := (σ2.en e).wr + 1, elems := (σ2.en e).elems.set i (reEl z (setRange (leaves z) j ls)) }) hl hfz hμ e2 r2
    (by rw [hfl]; omega) (by rw [hlen]; exact hroom) hl hfz rfl (Nat.le_refl _) (by simp) (fun _ => by simp) (fun y hy => by
      rcases List.mem_or_eq_of_mem_set hy with hy | rfl
      · exact hsz y hy
      · rw [hle]
        simp only [setRange, List.length_append, List.length_take, List.length_drop]
        show _ = (σ2.en e).sz
        omega) (by
      show ((σ2.en e).elems.set i (reEl z (setRange (leaves z) j ls))).flatMap leaves = _
      rw [flat_set hsz hi, hle, e11]
      exact splice_flat (flat_get hsz hz) (by omega))
  refine .skip (w' := w.setCells b (i * (σ2.en e).sz + j) (a.eval x).cells.toList) ?_ (q1.putO hd (SRep.unit _ _ _ _ _))
  simp only [execOp, ho, Sem.run_bind, hv, run_storeAt hT' e2 hvl' r2.ones hroom, Result.andThen_ok, Sem.run_pure]

/-! ### New variables and arrays -/
theorem TIok.leaves {t : TypeId} {T : TI} (hT : TIok C.P t T) {us : List Value} {ls : List AV} {f : List Nat} (h : RepL F w us ls f) (hl : ls.length = T.sz) : leaves (mkV T.desc.isStruct ls) = ls := by
  unfold mkV
  split
  · rfl
  · rename_i hs
    obtain ⟨i, z, _, _, _, _, hz, _, h1⟩ := hT.info
    have h1 := h1 (by simpa using hs)
    rw [h1] at hz
    simp at hz
    cases ls with
    | nil => simp at hl; omega
    | cons y t => cases t with
      | cons => simp at hl; omega
      | nil =>
        have := h.flat
        simpa [List.flatMap_cons] using this

theorem Rel.newVarR {f : List Nat} (h : Rel n w0 F0 S0 G F μ fp f σ a w) {d : Nat} (hd : d < n) {sz : Nat} {x : AV} {us : List Value} {cur : Array Value} {et : TypeId} (hx : (leaves x).length = sz) (hr : RepL F w us (leaves x) f) (hc : cur.toList = us) {σ' : St}
    (hn : newVar σ (some d) sz x = some σ') : ∃ F' μ' fp', Rel n w0 F0 S0 G F' μ' fp' [] σ' (a.put (some d) (.pointer (some ⟨w.heap.size, 0, none⟩))) { w with heap := w.heap.push (.cells cur et) } := by
  simp only [newVar, Option.some.injEq] at hn
  subst hn
  subst hc
  obtain ⟨r1, r2⟩ := (Rel.newBlock (L := []) (f := f) (w' := { w with heap := w.heap.push (.cells cur et) }) (cur := cur) (us := cur.toList) (by simpa using h) (eid d 0) sz [x] rfl rfl rfl rfl (by simpa using hx) (fun q hq => by simp) (by simpa using hr))
  refine ⟨F, _, _, r1.put hd (x := .ptr (eid d 0) ((σ.en (eid d 0)).gen + 1) 0 0) ⟨?_, fun _ _ => ⟨w.heap.size, ?_, ?_⟩⟩⟩
  · simp [St.fresh, St.ent, upd]
  · simp [upd]
  · simp

theorem op_alloc (hC : CfgOk C) (h : Rel n w0 F0 S0 G F μ fp [] σ a w) (hd : ∀ k, o.dst = some k → k < n) {t : TypeId} (ho : o.op = .alloc t) (hr : opF C o σ = some σ') : OpOk C n w0 F0 S0 G o a w σ' := by
  simp only [opF, ho, Option.bind_eq_bind, Option.bind_eq_some_iff] at hr
  obtain ⟨T, hT, hr⟩ := hr
  have hT' := hC.tt t T hT
  obtain ⟨i, z, hi, hs, _, hz, hzs, hzr, _⟩ := hT'.info
  cases hdd : o.dst with
  | none => rw [hdd] at hr; cases hr
  | some d =>
    rw [hdd] at hr
    have hle := hT'.leaves (hzr F w) (by rw [← (hzr F w).length]; simpa using hzs)
    obtain ⟨F', μ', fp', q⟩ := h.newVarR (cur := z.cells) (et := t) (hd d hdd) (us := z.cells.toList) (by rw [hle, ← (hzr F w).length]; simpa using hzs) (by rw [hle]; exact hzr F w) rfl hr
    refine ⟨_, _, .inl ?_, F', μ', fp', hdd ▸ q⟩
    simp [execOp, ho, Instr.alloc, zeroValue, typeInfo, hi, hz, Go.newVar, newRow]

theorem op_box (hC : CfgOk C) (h : Rel n w0 F0 S0 G F μ fp [] σ a w) (hd : ∀ k, o.dst = some k → k < n) {t : TypeId} {x : Operand} (ho : o.op = .box t x) (hr : opF C o σ = some σ') : OpOk C n w0 F0 S0 G o a w σ' := by
  simp only [opF, ho, Option.bind_eq_bind, Option.bind_eq_some_iff] at hr
  obtain ⟨T, hT, ⟨ls, σ1⟩, hcl, _, hlen, hr⟩ := hr
  have hT' := hC.tt t T hT
  have hlen := ensure_some hlen
  obtain ⟨F', fp', f, r1, r2, r3, r4, _⟩ := h.closeV (m := false) (h.get x) hcl
  cases hdd : o.dst with
  | none => rw [hdd] at hr; cases hr
  | some d =>
    rw [hdd] at hr
    have hle := hT'.leaves r2 hlen
    rw [List.append_nil] at r1
    obtain ⟨F', μ', fp', q⟩ := r1.newVarR (cur := (a.eval x).cells) (et := t) (hd d hdd) (us := (a.eval x).cells.toList) (by rw [hle, hlen]) (by rw [hle]; exact r2) rfl hr
    refine ⟨_, _, .inl ?_, F', μ', fp', hdd ▸ q⟩
    simp [execOp, ho, Instr.box, Go.newVar, newRow]

end
end Go.Vm
