/- A part of the evaluator of the walks. Conditions: none but those ahead of each theorem. -/
import Derived.Test.YtklhdnjhgbglhaaGreatYLib2
import Derived.Laws.Tables
import Derived.Laws.MakeOwn
import Derived.Great.BuildSlice
import Derived.Laws.BytesString
import Derived.MapKept
import Derived.Laws.IdiomStrings
section
/- Stores and new variables. -/
namespace Go.Vm
section
variable {C : Cfg} {n : Nat} {w0 : World} {F0 S0 F : Nat → Prop} {G : Value → AV → Prop} {μ : Nat → Option Nat} {fp : Nat → List Nat} {L : List Nat} {σ σ' : St} {a : Act} {w w' : World} {o : Oper}
theorem cells_one {v : Value} (h : v.oneCell' = true) : v.cells = #[v] := by
  cases v <;> first | rfl | (simp [Value.oneCell'] at h; done)
theorem Rel.closeV (h : Rel n w0 F0 S0 G F μ fp L σ a w) {v : Value} {x : AV} {m : Bool} {ys : List AV} (hx : SRep F w σ.en μ fp v x) (hc : σ.closeM m (leaves x) = some (ys, σ')) :
    ∃ F' fp' f, Rel n w0 F0 S0 G F' μ fp' (f ++ L) σ' a w ∧ RepL F' w v.cells.toList ys f ∧ (∀ b, F b → F' b) ∧ (∀ v x, SLeaf F w σ.en μ fp v x → SLeaf F' w σ'.en μ fp' v x) ∧ σ'.sl = σ.sl := by
  have leaf : SLeaf F w σ.en μ fp v x → leaves x = [x] → ∃ F' fp' f, Rel n w0 F0 S0 G F' μ fp' (f ++ L) σ' a w ∧ RepL F' w v.cells.toList ys f ∧ (∀ b, F b → F' b) ∧ (∀ v x, SLeaf F w σ.en μ fp v x → SLeaf F' w σ'.en μ fp' v x) ∧ σ'.sl = σ.sl := by
    intro hl he
    rw [he] at hc
    obtain ⟨F', fp', f, r1, r2, r3⟩ := h.closeM (vs := [v]) (xs := [x]) ⟨hl, trivial⟩ hc
    have hyl : ys.length = 1 := by have := r2.length; simpa using this.symm
    obtain ⟨y, rfl⟩ : ∃ y, ys = [y] := by
      cases ys with
      | nil => simp at hyl
      | cons y t => cases t with
        | nil => exact ⟨y, rfl⟩
        | cons => simp at hyl
    exact ⟨F', fp', f, r1, by rw [cells_one r2.one]; exact r2, r3⟩
  cases x with
  | agg fs =>
    obtain ⟨cs, rfl, hall⟩ := hx
    exact h.closeM hall hc
  | tup vs => cases m <;> simp [leaves, St.closeM, St.steal, tagOf, orElse, St.closeL, St.close] at hc
  | pt => cases m <;> simp [leaves, St.closeM, St.steal, tagOf, orElse, St.closeL, St.close] at hc
  | _ => exact leaf (hx.leaf (by simp) (by simp) (by simp)) rfl
theorem splice_flat {l x ls : List AV} {k sz j : Nat} (hx : (l.drop k).take sz = x) (hj : j + ls.length ≤ sz) :
    l.take k ++ setRange x j ls ++ l.drop (k + sz) = l.take (k + j) ++ ls ++ l.drop (k + j + ls.length) := by
  subst hx
  simp only [setRange]
  have e1 : l.take (k + j) = l.take k ++ ((l.drop k).take sz).take j := by
    rw [List.take_add, List.take_take, Nat.min_eq_left (by omega)]
  have e2 : l.drop (k + j + ls.length) = ((l.drop k).take sz).drop (j + ls.length) ++ l.drop (k + sz) := by
    rw [List.drop_take, List.drop_drop, Nat.add_assoc k j]
    have : l.drop (k + sz) = (l.drop (k + (j + ls.length))).drop (sz - (j + ls.length)) := by rw [List.drop_drop]; congr 1; omega
    rw [this, List.take_append_drop]
  rw [e1, e2]
  simp only [List.append_assoc]
theorem OpOk.skip (hr : (execOp a.eval o).run C.P w = .ok .skip w') {F' : Nat → Prop} {μ' : Nat → Option Nat} {fp' : Nat → List Nat} (h : Rel n w0 F0 S0 G F' μ' fp' [] σ' (a.put o.dst undef) w') : OpOk C n w0 F0 S0 G o a w σ' :=
  ⟨undef, w', .inr ⟨hr, rfl⟩, F', μ', fp', h⟩
theorem SRep.unit (F : Nat → Prop) (w : World) (en : Nat → Ent) (μ : Nat → Option Nat) (fp : Nat → List Nat) : SRep F w en μ fp undef (.tup []) := ⟨#[], rfl, trivial⟩
theorem Rel.frzHd : ∀ {xs : List AV} {σ σ' : St} {F : Nat → Prop} {fp : Nat → List Nat}, Rel n w0 F0 S0 G F μ fp L σ a w → σ.frzHd xs = some σ' →
    ∃ F' fp', Rel n w0 F0 S0 G F' μ fp' L σ' a w ∧ (∀ v x, SLeaf F w σ.en μ fp v x → SLeaf F' w σ'.en μ fp' v x) ∧ σ'.sl = σ.sl
  | [], σ, σ', F, fp, h, hc => by
    simp only [St.frzHd, Option.some.injEq] at hc
    subst hc
    exact ⟨F, fp, h, fun _ _ h => h, rfl⟩
  | x :: xs, σ, σ', F, fp, h, hc => by
    by_cases hx : ∃ e g o l c, x = .hd e g o l c
    · obtain ⟨e, g, o, l, c, rfl⟩ := hx
      simp only [St.frzHd, Option.bind_eq_bind, Option.bind_eq_some_iff] at hc
      obtain ⟨E, hE, hc⟩ := hc
      obtain ⟨hl, hg, rfl⟩ := cur_some hE
      cases hf : (σ.en e).frz with
      | true => rw [hf] at hc; exact Rel.frzHd h hc
      | false =>
        rw [hf] at hc
        obtain ⟨r1, st⟩ := h.freeze e hl hf
        obtain ⟨F', fp', r2, t2, s2⟩ := Rel.frzHd r1 hc
        exact ⟨F', fp', r2, fun v x hx => t2 v x (hx.step st), s2⟩
    · have hc' : σ.frzHd xs = some σ' := by
        cases x <;> first | exact hc | exact (hx ⟨_, _, _, _, _, rfl⟩).elim
      exact Rel.frzHd h hc'
theorem op_storeN (hC : CfgOk C) (h : Rel n w0 F0 S0 G F μ fp [] σ a w) (hd : ∀ k, o.dst = some k → k < n) {t : TypeId} {p x : Operand} {σ1 : St} {e wv i j k q : Nat} (ho : o.op = .store t p x) (hpe : σ.get p = .np e wv i j k q) (hr : storeF C σ t (σ.get p) (σ.get x) = some σ1) :
    OpOk C n w0 F0 S0 G o a w (σ1.put o.dst (.tup [])) := by
  have hp := h.get p
  have hx := h.get x
  rw [hpe] at hp hr
  simp only [storeF, Option.bind_eq_bind, Option.bind_eq_some_iff] at hr
  obtain ⟨T, hT, σ0, hz0, ⟨ls, σ2⟩, hcl, _, hv, _, hfz, _, hls, z, hz, ⟨sz, l⟩, hown, _, hs, y, hy, hr⟩ := hr
  cases hr
  dsimp only at hs hy hv hfz hls hz
  obtain ⟨hl, hw⟩ := ensure_some hv
  have hfz := ensure_some hfz
  obtain ⟨hlen, hno⟩ := ensure_some hls
  have hs := ensure_some hs
  have hT' := hC.tt t T hT
  have hpos := hT'.pos.1
  obtain ⟨F0', fp0, r0, t0, sl0⟩ := Rel.frzHd h hz0
  have hx0 := r0.get x
  have hgx : σ0.get x = σ.get x := by
    cases x with
    | tmp t => show σ0.sl t = σ.sl t; rw [sl0]
    | _ => rfl
  rw [hgx] at hx0
  obtain ⟨F', fp', f, r1, r2, r3, r4, _⟩ := r0.closeV (m := false) hx0 hcl
  obtain rfl : f = [] := r2.noOwn_nil0 hno
  have hp2 : SLeaf F' w σ2.en μ fp' (a.eval p) (.np e wv i j k q) := r4 _ _ (t0 _ _ hp)
  obtain ⟨hyl, _⟩ := load_in r1 hp2 hl hw hfz hz hown hy
  obtain ⟨b, o', cur, et, fp2, hpv, hblk, hroom, hrel⟩ := store_in (by simpa using r1) (v := a.eval p) hp2 r2 hl hw hfz hz hown (by rw [hlen]; exact hs) hy (by
    refine leaves_reEl fun hna => ?_
    have hz1 := leaves_length_of hna
    rw [hz1] at hyl ⊢
    simp only [List.length_cons, List.length_nil] at hyl
    obtain rfl : q = 0 := by omega
    have hls : ls.length = 1 := by omega
    cases ls with
    | nil => simp at hls
    | cons y t => cases t with
      | cons => simp at hls
      | nil =>
        refine ⟨y, by simp [setRange], ?_⟩
        have := r2.flat
        simpa [List.flatMap_cons] using this)
  refine .skip (w' := w.setCells b o' (a.eval x).cells.toList) ?_ (hrel.putO hd (SRep.unit _ _ _ _ _))
  have hcs : (a.eval x).cells.size = T.sz := by have := r2.length; simp at this; omega
  have hroom2 : o' + T.sz ≤ cur.size := by omega
  simp only [execOp, ho, Sem.run_bind, hpv, run_storeAt hT' hblk hcs r2.ones hroom2, Result.andThen_ok, Sem.run_pure]
theorem op_store (hC : CfgOk C) (h : Rel n w0 F0 S0 G F μ fp [] σ a w) (hd : ∀ k, o.dst = some k → k < n) {t : TypeId} {p x : Operand} {σ1 : St} (ho : o.op = .store t p x) (hr : storeF C σ t (σ.get p) (σ.get x) = some σ1) :
    OpOk C n w0 F0 S0 G o a w (σ1.put o.dst (.tup [])) := by
  have hp := h.get p
  have hx := h.get x
  have hr0 := hr
  unfold storeF at hr
  split at hr
  case h_3 => cases hr
  case h_2 => rename_i e wv i j k q hpe; exact op_storeN hC h hd ho hpe hr0
  rename_i e g i j hpe
  rw [hpe] at hp
  simp only [Option.bind_eq_bind, Option.bind_eq_some_iff] at hr
  obtain ⟨T, hT, E0, hE0, ⟨ls, σ2⟩, hcl, _, hlen, E, hE, _, hfz, z, hz, _, hj, hr⟩ := hr
  cases hr
  dsimp only at hlen hE hfz hz hj
  have hT' := hC.tt t T hT
  have hlen := ensure_some hlen
  have hfz := ensure_some hfz
  have hj := ensure_some hj
  have hpos := hT'.pos.1
  obtain ⟨F', fp', f, r1, r2, r3, r4, _⟩ := h.closeV hx hcl
  obtain ⟨hl, he, rfl⟩ := cur_some hE
  obtain ⟨b, hμ, hv, _⟩ := (r4 _ _ (show SLeaf F w σ.en μ fp (a.eval p) (.ptr e g i j) from hp)).2 hl he
  obtain ⟨b', cur, et, fr, us, f1, e1, e2, e3, e4, e5, _⟩ := r1.cells hl hz
  rw [hμ] at e1; cases e1
  obtain ⟨hsz, hent⟩ := r1.ent e hl
  rcases hent with ⟨e6, _⟩ | ⟨b'', cur', et', fr', us', f1', e6, e7, e8, e9, e10⟩ | hm
  rotate_right 1
  · exact (hm.noCells (by assumption) (by assumption)).elim
  · rw [hμ] at e6; cases e6
  rw [hμ] at e6; cases e6
  rw [e2] at e7; cases e7
  rcases e10 with ⟨e10, _⟩ | ⟨_, rfl, _⟩
  · rw [hfz] at e10; cases e10
  obtain ⟨hi, hze⟩ := List.getElem?_eq_some_iff.1 hz
  have hzl : (leaves z).length = (σ2.en e).sz := hsz z (hze ▸ List.getElem_mem hi)
  have hul := e9.length
  have hfl := flat_length hsz
  have hvl := r2.length
  rw [hlen] at hvl
  have hvl' : (a.eval x).cells.size = T.sz := by simpa using hvl
  have hmul : (i + 1) * (σ2.en e).sz ≤ (σ2.en e).elems.length * (σ2.en e).sz := Nat.mul_le_mul_right _ hi
  have hcurs : us'.length ≤ cur.size := by
    cases hu : us'.length with
    | zero => omega
    | succ k =>
      have := e8 k (by omega)
      rw [List.getElem?_eq_getElem (by omega)] at this
      have := (Array.getElem?_eq_some_iff.1 this).1
      omega
  have e11 : (i + 1) * (σ2.en e).sz = i * (σ2.en e).sz + (σ2.en e).sz := by rw [Nat.add_mul, Nat.one_mul]
  have hroom : i * (σ2.en e).sz + j + T.sz ≤ cur.size := by omega
  have hle : leaves (reEl z (setRange (leaves z) j ls)) = setRange (leaves z) j ls := by
    refine leaves_reEl fun hna => ?_
    have hz1 := leaves_length_of hna
    rw [hz1] at hj ⊢
    simp only [List.length_cons, List.length_nil] at hj
    obtain rfl : j = 0 := by omega
    have hT1 : T.sz = 1 := by omega
    have hls : ls.length = 1 := by omega
    cases ls with
    | nil => simp at hls
    | cons y t => cases t with
      | cons => simp at hls
      | nil =>
        refine ⟨y, by simp [setRange], ?_⟩
        have := r2.flat
        simpa [List.flatMap_cons] using this
  obtain ⟨fp'', q1, q2, _⟩ := r1.writeRange (f := f) (L := []) (e := e) (b := b) (ls := ls) (off := i * (σ2.en e).sz + j) (E' := { σ2.en e with wr := (σ2.en e).wr + 1, elems := (σ2.en e).elems.set i (reEl z (setRange (leaves z) j ls)) }) hl hfz hμ e2 r2
    (by rw [hfl]; omega) (by rw [hlen]; exact hroom) hl hfz rfl (Nat.le_refl _) (by simp) (fun _ => by simp) (fun y hy => by
      rcases List.mem_or_eq_of_mem_set hy with hy | rfl
      · exact hsz y hy
      · rw [hle]
        simp only [setRange, List.length_append, List.length_take, List.length_drop]
        show _ = (σ2.en e).sz
        omega) (by
      show ((σ2.en e).elems.set i (reEl z (setRange (leaves z) j ls))).flatMap leaves = _
      rw [flat_set hsz hi, hle, e11]
      exact splice_flat (flat_get hsz hz) (by omega))
  refine .skip (w' := w.setCells b (i * (σ2.en e).sz + j) (a.eval x).cells.toList) ?_ (q1.putO hd (SRep.unit _ _ _ _ _))
  simp only [execOp, ho, Sem.run_bind, hv, run_storeAt hT' e2 hvl' r2.ones hroom, Result.andThen_ok, Sem.run_pure]
/-! ### New variables and arrays -/
theorem TIok.leaves {t : TypeId} {T : TI} (hT : TIok C.P t T) {us : List Value} {ls : List AV} {f : List Nat} (h : RepL F w us ls f) (hl : ls.length = T.sz) : leaves (mkV T.desc.isStruct ls) = ls := by
  unfold mkV
  split
  · rfl
  · rename_i hs
    obtain ⟨i, z, _, _, _, _, hz, _, h1⟩ := hT.info
    have h1 := h1 (by simpa using hs)
    rw [h1] at hz
    simp at hz
    cases ls with
    | nil => simp at hl; omega
    | cons y t => cases t with
      | cons => simp at hl; omega
      | nil =>
        have := h.flat
        simpa [List.flatMap_cons] using this
theorem Rel.newVarR {f : List Nat} (h : Rel n w0 F0 S0 G F μ fp f σ a w) {d : Nat} (hd : d < n) {sz : Nat} {x : AV} {us : List Value} {cur : Array Value} {et : TypeId} (hx : (leaves x).length = sz) (hr : RepL F w us (leaves x) f) (hc : cur.toList = us) {σ' : St}
    (hn : newVar σ (some d) sz x = some σ') : ∃ F' μ' fp', Rel n w0 F0 S0 G F' μ' fp' [] σ' (a.put (some d) (.pointer (some ⟨w.heap.size, 0, none⟩))) { w with heap := w.heap.push (.cells cur et) } := by
  simp only [newVar, Option.some.injEq] at hn
  subst hn
  subst hc
  obtain ⟨r1, r2⟩ := (Rel.newBlock (L := []) (f := f) (w' := { w with heap := w.heap.push (.cells cur et) }) (cur := cur) (us := cur.toList) (by simpa using h) (eid d 0) sz [x] rfl rfl rfl rfl (by simpa using hx) (fun q hq => by simp) (by simpa using hr))
  refine ⟨F, _, _, r1.put hd (x := .ptr (eid d 0) ((σ.en (eid d 0)).gen + 1) 0 0) ⟨?_, fun _ _ => ⟨w.heap.size, ?_, ?_, cur, et, (0, 0), ?_⟩⟩⟩
  · simp [St.fresh, St.ent, upd]
  · simp [upd]
  · simp
  · simp
theorem op_alloc (hC : CfgOk C) (h : Rel n w0 F0 S0 G F μ fp [] σ a w) (hd : ∀ k, o.dst = some k → k < n) {t : TypeId} (ho : o.op = .alloc t) (hr : opF C o σ = some σ') : OpOk C n w0 F0 S0 G o a w σ' := by
  simp only [opF, ho, Option.bind_eq_bind, Option.bind_eq_some_iff] at hr
  obtain ⟨T, hT, hr⟩ := hr
  have hT' := hC.tt t T hT
  obtain ⟨i, z, hi, hs, _, hz, hzs, hzr, _⟩ := hT'.info
  cases hdd : o.dst with
  | none => rw [hdd] at hr; cases hr
  | some d =>
    rw [hdd] at hr
    have hle := hT'.leaves (hzr F w) (by rw [← (hzr F w).length]; simpa using hzs)
    obtain ⟨F', μ', fp', q⟩ := h.newVarR (cur := z.cells) (et := t) (hd d hdd) (us := z.cells.toList) (by rw [hle, ← (hzr F w).length]; simpa using hzs) (by rw [hle]; exact hzr F w) rfl hr
    refine ⟨_, _, .inl ?_, F', μ', fp', hdd ▸ q⟩
    simp [execOp, ho, Instr.alloc, zeroValue, typeInfo, hi, hz, Go.newVar, newRow]
theorem op_box (hC : CfgOk C) (h : Rel n w0 F0 S0 G F μ fp [] σ a w) (hd : ∀ k, o.dst = some k → k < n) {t : TypeId} {x : Operand} (ho : o.op = .box t x) (hr : opF C o σ = some σ') : OpOk C n w0 F0 S0 G o a w σ' := by
  simp only [opF, ho, Option.bind_eq_bind, Option.bind_eq_some_iff] at hr
  obtain ⟨T, hT, ⟨ls, σ1⟩, hcl, _, hlen, hr⟩ := hr
  have hT' := hC.tt t T hT
  have hlen := ensure_some hlen
  obtain ⟨F', fp', f, r1, r2, r3, r4, _⟩ := h.closeV (m := false) (h.get x) hcl
  cases hdd : o.dst with
  | none => rw [hdd] at hr; cases hr
  | some d =>
    rw [hdd] at hr
    have hle := hT'.leaves r2 hlen
    rw [List.append_nil] at r1
    obtain ⟨F', μ', fp', q⟩ := r1.newVarR (cur := (a.eval x).cells) (et := t) (hd d hdd) (us := (a.eval x).cells.toList) (by rw [hle, hlen]) (by rw [hle]; exact r2) rfl hr
    refine ⟨_, _, .inl ?_, F', μ', fp', hdd ▸ q⟩
    simp [execOp, ho, Instr.box, Go.newVar, newRow]
end
end Go.Vm
end
section
/- A place in a list that an element owns is kept up through stores. -/
open Go
set_option linter.unusedVariables false
namespace Go.Vm
section
variable {C : Cfg} {n : Nat} {w0 : World} {F0 S0 F F' : Nat → Prop} {G : Value → AV → Prop} {μ : Nat → Option Nat} {fp fp' fp'' : Nat → List Nat} {L L' : List Nat} {σ σ1 σ2 : St} {a a' : Act} {w w1 : World}
theorem np_keep (q1 : Rel n w0 F0 S0 G F' μ fp'' L' σ1 a' w1) {v : Value} {e wv i j kk q : Nat} (hp : SLeaf F w σ2.en μ fp' v (.np e wv i j kk q)) (hl : (σ2.en e).live = true) (hw : (σ2.en e).wr = wv) (hfz : (σ2.en e).frz = false)
    (hl1 : (σ1.en e).live = true) (hsz1 : (σ1.en e).sz = (σ2.en e).sz) {z z1 : AV} (hz : (σ2.en e).elems[i]? = some z) (hz1 : (σ1.en e).elems[i]? = some z1)
    (hj : ∀ sz l, (leaves z)[j]? = some (.own sz l) → ∃ l1, (leaves z1)[j]? = some (.own sz l1))
    (hc : ∀ b cur et fr, μ e = some b → w.heap[b]? = some (.cells cur et fr) → ∃ cur1 et1 fr1, w1.heap[b]? = some (.cells cur1 et1 fr1) ∧ cur1[i * (σ2.en e).sz + j]? = cur[i * (σ2.en e).sz + j]?) :
    SLeaf F' w1 σ1.en μ fp'' v (.np e (σ1.en e).wr i j kk q) := by
  obtain ⟨hg, hp⟩ := hp
  obtain ⟨v0, clip, l, g, o', m, c, sz, z', b, cur, et, fr, h1, e1, e2, e3, e4, e5, e6, e7⟩ := hp hl hw hfz
  rw [hz] at e1; cases e1
  obtain ⟨l1, hj1⟩ := hj sz l e2
  obtain ⟨cur1, et1, fr1, c1, c2⟩ := hc b cur et fr e3 e4
  obtain ⟨b', cur', et', fr', us, f1, k1, k2, k3, k4, k5, _⟩ := q1.cells hl1 hz1
  rw [e3] at k1; cases k1
  rw [c1] at k2; cases k2
  have hjl : j < us.length := by
    have := (List.getElem?_eq_some_iff.1 hj1).1
    rw [k4.length]; exact this
  have hu : us[j]? = some us[j] := List.getElem?_eq_getElem hjl
  obtain ⟨g', r, rg⟩ := k4.at hu hj1
  have hcu : cur1[i * (σ1.en e).sz + j]? = some us[j] := (k3 j hjl).trans hu
  have huv : us[j] = v0 := by
    rw [hsz1, c2, e5] at hcu
    exact (Option.some.inj hcu).symm
  rw [huv] at r hcu
  have sl := seen_leaf (F := F') (fp := fp'') (σ := σ1) (e := e) (i := i) (j := j) hz1 hj1 e3 c1 hcu r (fun b hb => k5 b (rg b hb))
  obtain ⟨_, sl⟩ := sl
  obtain ⟨s1, _⟩ := sl hl1 rfl
  exact ⟨Nat.le_refl _, fun _ _ _ => ⟨v0, false, l1, g, o', m, c, sz, z1, b, cur1, et1, fr1, s1, hz1, hj1, e3, c1, hcu, e6, e7⟩⟩
theorem own_apart (h : Rel n w0 F0 S0 G F μ fp L σ a w) {e i j : Nat} {z : AV} (hl : (σ.en e).live = true) (hfz : (σ.en e).frz = false) (hz : (σ.en e).elems[i]? = some z) {sz : Nat} {l : List AV} (hj : (leaves z)[j]? = some (.own sz l)) (hne : l ≠ [])
    {b : Nat} (hb : μ e = some b) {cur : Array Value} {et : TypeId} {fr : Nat × Nat} (hblk : w.heap[b]? = some (.cells cur et fr)) {g o' m c : Nat} (hcur : cur[i * (σ.en e).sz + j]? = some (.slice (some ⟨g, o', none⟩) m c)) : g ≠ b := by
  obtain ⟨hs, he⟩ := h.ent e hl
  obtain ⟨hi, rfl⟩ := List.getElem?_eq_some_iff.1 hz
  have hnd := h.nodup e hl
  rcases he with ⟨_, h0, _⟩ | ⟨b', cur', et', fr', us, f1, e1, e2, e3, e4, e5⟩ | hm
  rotate_right 1
  · rw [hm.1] at hi; simp at hi
  · rw [h0] at hi; simp at hi
  · rw [hb] at e1; cases e1
    rw [hblk] at e2; cases e2
    rcases e5 with ⟨e5, _⟩ | ⟨_, _, e5⟩
    · rw [hfz] at e5; cases e5
    · have hzl := hs _ (List.getElem_mem hi)
      have hjl := (List.getElem?_eq_some_iff.1 hj).1
      have hfg : ((σ.en e).elems.flatMap leaves)[i * (σ.en e).sz + j]? = some (.own sz l) := by
        have := flat_get hs hz
        rw [← this, List.getElem?_take, if_pos (by omega), List.getElem?_drop] at hj
        exact hj
      have hlt := (List.getElem?_eq_some_iff.1 hfg).1
      have hul : i * (σ.en e).sz + j < us.length := by rw [e4.length]; exact hlt
      obtain ⟨g', r, rg⟩ := e4.at (List.getElem?_eq_getElem hul) hfg
      have hv := e3 _ hul
      rw [hcur, List.getElem?_eq_getElem hul] at hv
      rw [← Option.some.inj hv] at r
      rcases RepL.own_inv r with ⟨e6, _⟩ | ⟨g2, c2, et2, cur2, us2, f2, e6, _, _, _, _, _, _, e7⟩
      · exact absurd e6 hne
      · simp only [Value.slice.injEq, Option.some.injEq, Addr.mk.injEq] at e6
        obtain ⟨⟨rfl, _⟩, _⟩ := e6
        have hm : g ∈ f1 := rg g (by rw [e7]; simp)
        rw [e5] at hnd
        intro hgb
        subst hgb
        exact (List.nodup_cons.1 hnd).1 hm
variable {μ' : Nat → Option Nat} {σ' : St} {w' : World} {o : Oper}
def StoreOk (C : Cfg) (n : Nat) (w0 : World) (F0 S0 : Nat → Prop) (G : Value → AV → Prop) (o : Oper) (a : Act) (w : World) (σ σ1 : St) (p : AV) (sz : Nat) : Prop :=
  ∃ w', (execOp a.eval o).run C.P w = .ok .skip w' ∧ ∃ F' μ' fp', Rel n w0 F0 S0 G F' μ' fp' [] σ1 a w' ∧ σ1.sl = σ.sl ∧
    ∀ k e wv i j kk q, σ.sl k = .np e wv i j kk q → renewC (.np e wv i j kk q) p sz = true → (σ1.en e).wr = wv + 1 → SLeaf F' w' σ1.en μ' fp' (a.tmps.getD k undef) (.np e (σ1.en e).wr i j kk q)
theorem op_storeNR (hC : CfgOk C) (h : Rel n w0 F0 S0 G F μ fp [] σ a w) (hd : ∀ k, o.dst = some k → k < n) {t : TypeId} {p x : Operand} {σ1 : St} {e wv i j k q : Nat} (ho : o.op = .store t p x) (hpe : σ.get p = .np e wv i j k q) (hr : storeF C σ t (σ.get p) (σ.get x) = some σ1) :
    ∀ T : TI, C.tt t = some T → StoreOk C n w0 F0 S0 G o a w σ σ1 (σ.get p) T.sz := by
  intro T0 hT0
  have hp := h.get p
  have hx := h.get x
  have hpe0 := hpe
  rw [hpe] at hp hr
  simp only [storeF, Option.bind_eq_bind, Option.bind_eq_some_iff] at hr
  obtain ⟨T, hT, σ0, hz0, ⟨ls, σ2⟩, hcl, _, hv, _, hfz, _, hls, z, hz, ⟨sz, l⟩, hown, _, hs, y, hy, hr⟩ := hr
  cases hr
  dsimp only at hs hy hv hfz hls hz
  obtain ⟨hl, hw⟩ := ensure_some hv
  have hfz := ensure_some hfz
  obtain ⟨hlen, hno⟩ := ensure_some hls
  have hs := ensure_some hs
  have hT' := hC.tt t T hT
  have hpos := hT'.pos.1
  obtain ⟨F0', fp0, r0, t0, sl0⟩ := Rel.frzHd h hz0
  have hx0 := r0.get x
  have hgx : σ0.get x = σ.get x := by
    cases x with
    | tmp t => show σ0.sl t = σ.sl t; rw [sl0]
    | _ => rfl
  rw [hgx] at hx0
  obtain ⟨F', fp', f, r1, r2, r3, r4, hsl2⟩ := r0.closeV (m := false) hx0 hcl
  obtain rfl : f = [] := r2.noOwn_nil0 hno
  have hp2 : SLeaf F' w σ2.en μ fp' (a.eval p) (.np e wv i j k q) := r4 _ _ (t0 _ _ hp)
  obtain ⟨hyl, _⟩ := load_in r1 hp2 hl hw hfz hz hown hy
  obtain ⟨b, o', cur, et, fp2, hpv, hblk, hroom, hrel⟩ := store_in (by simpa using r1) (v := a.eval p) hp2 r2 hl hw hfz hz hown (by rw [hlen]; exact hs) hy (by
    refine leaves_reEl fun hna => ?_
    have hz1 := leaves_length_of hna
    rw [hz1] at hyl ⊢
    simp only [List.length_cons, List.length_nil] at hyl
    obtain rfl : q = 0 := by omega
    have hls : ls.length = 1 := by omega
    cases ls with
    | nil => simp at hls
    | cons y t => cases t with
      | cons => simp at hls
      | nil =>
        refine ⟨y, by simp [setRange], ?_⟩
        have := r2.flat
        simpa [List.flatMap_cons] using this)
  refine ⟨w.setCells b o' (a.eval x).cells.toList, ?_, F', μ, fp2, hrel, ?_, ?_⟩
  rotate_left
  · show σ2.sl = σ.sl
    rw [hsl2, sl0]
  · intro k2 e2 wv2 i2 j2 kk2 q2 hk hc hwr
    rw [hpe0] at hc
    simp only [renewC, decide_eq_true_eq] at hc
    obtain ⟨rfl, rfl, rfl⟩ := hc
    have hs2 : SLeaf F' w σ2.en μ fp' (a.tmps.getD k2 undef) (.np e wv2 i j kk2 q2) := by
      have := h.slots k2
      rw [hk] at this
      exact r4 _ _ (t0 _ _ this)
    have hown2 : (leaves z)[j]? = some (.own sz l) := by
      unfold ownAt at hown
      split at hown
      · rename_i s q hq; cases hown; exact hq
      · cases hown
    have hlen2 : i < (σ2.en e).elems.length := (List.getElem?_eq_some_iff.1 hz).1
    have hw2 : (σ2.en e).wr = wv2 := by
      dsimp only at hwr
      rw [show ∀ E', (σ2.ent e E').en e = E' from fun E' => by simp [St.ent, upd]] at hwr
      simpa using hwr
    have hne : l ≠ [] := fun e => by rw [e] at hy; simp at hy
    have hee : ∀ E', (σ2.ent e E').en e = E' := fun E' => by simp [St.ent, upd]
    refine np_keep hrel (σ2 := σ2) hs2 hl hw2 hfz (by rw [hee]; exact hl) (by rw [hee]) hz (z1 := reEl z ((leaves z).set j (.own sz (l.set k (reEl y (setRange (leaves y) q ls)))))) (by rw [hee]; dsimp only; rw [List.getElem?_modify_eq, hz]; rfl) (fun s1 l1 hj1 => ?_) (fun b3 cur3 et3 fr3 hb3 hblk3 => ?_)
    · rw [hown2] at hj1; cases hj1
      rw [leaves_reEl (fun hna => ?_)]
      · exact ⟨_, List.getElem?_set_self (List.getElem?_eq_some_iff.1 hown2).1⟩
      · have hz1 := leaves_length_of hna
        rw [hz1] at hown2 ⊢
        have hj0 : j = 0 := by
          have := (List.getElem?_eq_some_iff.1 hown2).1
          simp at this
          exact this
        subst hj0
        exact ⟨_, rfl, rfl⟩
    · obtain ⟨hg0, hp3⟩ := hp2
      obtain ⟨v0, clip, l0, g, o3, m3, c3, sz3, z3, b4, cur4, et4, fr4, _, x1, x2, x3, x4, x5, hv0, hv⟩ := hp3 hl hw hfz
      rw [hpv] at hv
      simp only [Value.pointer.injEq, Option.some.injEq, Addr.mk.injEq] at hv
      obtain ⟨rfl, _⟩ := hv
      rw [hz] at x1; cases x1
      rw [hown2] at x2; cases x2
      have hne2 := own_apart r1 hl hfz hz hown2 hne x3 x4 (by rw [x5, hv0])
      rw [hb3] at x3; cases x3
      have hne3 : b3 ≠ b := fun e => hne2 e.symm
      obtain ⟨_, h2, _⟩ := setCells_heap (vs := (a.eval x).cells.toList) (o := o') hblk (by
        have := r2.length
        omega)
      exact ⟨cur3, et3, fr3, by rw [h2 b3 hne3]; exact hblk3, rfl⟩
  have hcs : (a.eval x).cells.size = T.sz := by have := r2.length; simp at this; omega
  have hroom2 : o' + T.sz ≤ cur.size := by omega
  simp only [execOp, ho, Sem.run_bind, hpv, run_storeAt hT' hblk hcs r2.ones hroom2, Result.andThen_ok, Sem.run_pure]
theorem op_storeS (hC : CfgOk C) (h : Rel n w0 F0 S0 G F μ fp [] σ a w) (hd : ∀ k, o.dst = some k → k < n) {t : TypeId} {p x : Operand} {σ1 : St} (ho : o.op = .store t p x) (hr : storeF C σ t (σ.get p) (σ.get x) = some σ1) :
    ∀ T : TI, C.tt t = some T → StoreOk C n w0 F0 S0 G o a w σ σ1 (σ.get p) T.sz := by
  intro T0 hT0
  have hp := h.get p
  have hx := h.get x
  have hr0 := hr
  unfold storeF at hr
  split at hr
  case h_3 => cases hr
  case h_2 => rename_i e wv i j k q hpe; exact op_storeNR hC h hd ho hpe hr0 T0 hT0
  rename_i e g i j hpe
  have hpe0 := hpe
  rw [hpe] at hp
  simp only [Option.bind_eq_bind, Option.bind_eq_some_iff] at hr
  obtain ⟨T, hT, E0, hE0, ⟨ls, σ2⟩, hcl, _, hlen, E, hE, _, hfz, z, hz, _, hj, hr⟩ := hr
  cases hr
  dsimp only at hlen hE hfz hz hj
  have hT' := hC.tt t T hT
  have hlen := ensure_some hlen
  have hfz := ensure_some hfz
  have hj := ensure_some hj
  have hpos := hT'.pos.1
  obtain ⟨F', fp', f, r1, r2, r3, r4, hsl2⟩ := h.closeV hx hcl
  obtain ⟨hl, he, rfl⟩ := cur_some hE
  obtain ⟨b, hμ, hv, _⟩ := (r4 _ _ (show SLeaf F w σ.en μ fp (a.eval p) (.ptr e g i j) from hp)).2 hl he
  obtain ⟨b', cur, et, fr, us, f1, e1, e2, e3, e4, e5, _⟩ := r1.cells hl hz
  rw [hμ] at e1; cases e1
  obtain ⟨hsz, hent⟩ := r1.ent e hl
  rcases hent with ⟨e6, _⟩ | ⟨b'', cur', et', fr', us', f1', e6, e7, e8, e9, e10⟩ | hm
  rotate_right 1
  · exact (hm.noCells (by assumption) (by assumption)).elim
  · rw [hμ] at e6; cases e6
  rw [hμ] at e6; cases e6
  rw [e2] at e7; cases e7
  rcases e10 with ⟨e10, _⟩ | ⟨_, rfl, _⟩
  · rw [hfz] at e10; cases e10
  obtain ⟨hi, hze⟩ := List.getElem?_eq_some_iff.1 hz
  have hzl : (leaves z).length = (σ2.en e).sz := hsz z (hze ▸ List.getElem_mem hi)
  have hul := e9.length
  have hfl := flat_length hsz
  have hvl := r2.length
  rw [hlen] at hvl
  have hvl' : (a.eval x).cells.size = T.sz := by simpa using hvl
  have hmul : (i + 1) * (σ2.en e).sz ≤ (σ2.en e).elems.length * (σ2.en e).sz := Nat.mul_le_mul_right _ hi
  have hcurs : us'.length ≤ cur.size := by
    cases hu : us'.length with
    | zero => omega
    | succ k =>
      have := e8 k (by omega)
      rw [List.getElem?_eq_getElem (by omega)] at this
      have := (Array.getElem?_eq_some_iff.1 this).1
      omega
  have e11 : (i + 1) * (σ2.en e).sz = i * (σ2.en e).sz + (σ2.en e).sz := by rw [Nat.add_mul, Nat.one_mul]
  have hroom : i * (σ2.en e).sz + j + T.sz ≤ cur.size := by omega
  have hle : leaves (reEl z (setRange (leaves z) j ls)) = setRange (leaves z) j ls := by
    refine leaves_reEl fun hna => ?_
    have hz1 := leaves_length_of hna
    rw [hz1] at hj ⊢
    simp only [List.length_cons, List.length_nil] at hj
    obtain rfl : j = 0 := by omega
    have hT1 : T.sz = 1 := by omega
    have hls : ls.length = 1 := by omega
    cases ls with
    | nil => simp at hls
    | cons y t => cases t with
      | cons => simp at hls
      | nil =>
        refine ⟨y, by simp [setRange], ?_⟩
        have := r2.flat
        simpa [List.flatMap_cons] using this
  obtain ⟨fp'', q1, q2, _⟩ := r1.writeRange (f := f) (L := []) (e := e) (b := b) (ls := ls) (off := i * (σ2.en e).sz + j) (E' := { σ2.en e with wr := (σ2.en e).wr + 1, elems := (σ2.en e).elems.set i (reEl z (setRange (leaves z) j ls)) }) hl hfz hμ e2 r2
    (by rw [hfl]; omega) (by rw [hlen]; exact hroom) hl hfz rfl (Nat.le_refl _) (by simp) (fun _ => by simp) (fun y hy => by
      rcases List.mem_or_eq_of_mem_set hy with hy | rfl
      · exact hsz y hy
      · rw [hle]
        simp only [setRange, List.length_append, List.length_take, List.length_drop]
        show _ = (σ2.en e).sz
        omega) (by
      show ((σ2.en e).elems.set i (reEl z (setRange (leaves z) j ls))).flatMap leaves = _
      rw [flat_set hsz hi, hle, e11]
      exact splice_flat (flat_get hsz hz) (by omega))
  refine ⟨w.setCells b (i * (σ2.en e).sz + j) (a.eval x).cells.toList, ?_, F', μ, fp'', q1, hsl2, ?_⟩
  rotate_left
  · intro k2 e3 wv2 i2 j2 kk2 q2 hk hc hwr
    rw [hpe0] at hc
    simp only [renewC, decide_eq_true_eq] at hc
    obtain ⟨rfl, rfl, hjj⟩ := hc
    rw [hT] at hT0; cases hT0
    have hs2 : SLeaf F' w σ2.en μ fp' (a.tmps.getD k2 undef) (.np e wv2 i j2 kk2 q2) := by
      have := h.slots k2
      rw [hk] at this
      exact r4 _ _ this
    have hee : ∀ E', (σ2.ent e E').en e = E' := fun E' => by simp [St.ent, upd]
    rw [hee] at hwr
    have hw2 : (σ2.en e).wr = wv2 := by simpa using hwr
    refine np_keep q1 (σ2 := σ2) hs2 hl hw2 hfz (by rw [hee]; exact hl) (by rw [hee]) hz (z1 := reEl z (setRange (leaves z) j ls)) (by rw [hee]; dsimp only; rw [List.getElem?_set_self (by exact hi)]) (fun s1 l1 hj1 => ⟨l1, ?_⟩) (fun b3 cur3 et3 fr3 hb3 hblk3 => ?_)
    · rw [hle]
      unfold setRange
      rw [← hj1]
      have hj2 := (List.getElem?_eq_some_iff.1 hj1).1
      rcases hjj with hjj | hjj
      · rw [List.append_assoc, List.getElem?_append_left (by simp; omega), List.getElem?_take, if_pos hjj]
      · rw [List.getElem?_append_right (by simp; omega), List.getElem?_drop]
        congr 1
        simp
        omega
    · rw [hμ] at hb3; cases hb3
      rw [e2] at hblk3; cases hblk3
      obtain ⟨h1, _⟩ := setCells_heap (vs := (a.eval x).cells.toList) (o := i * (σ2.en e).sz + j) e2 (by simp; omega)
      refine ⟨_, _, _, h1, ?_⟩
      rw [setRow_get (by simp; omega), if_neg (by simp; omega)]
  simp only [execOp, ho, Sem.run_bind, hv, run_storeAt hT' e2 hvl' r2.ones hroom, Result.andThen_ok, Sem.run_pure]

theorem Rel.renewL {F : Nat → Prop} {fp : Nat → List Nat} : ∀ {ks : List Nat} {σ1 : St} {p : AV} {sz : Nat}, (h : Rel n w0 F0 S0 G F μ fp L σ1 a w) →
    (∀ k e wv i j kk q, σ1.sl k = .np e wv i j kk q → renewC (.np e wv i j kk q) p sz = true → (σ1.en e).wr = wv + 1 → SLeaf F w σ1.en μ fp (a.tmps.getD k undef) (.np e (σ1.en e).wr i j kk q)) →
    Rel n w0 F0 S0 G F μ fp L (Go.Vm.renewL σ1 p sz ks) a w
  | [], σ1, p, sz, h, _ => h
  | k :: ks, σ1, p, sz, h, hk => by
    have hs : ∀ s, SRep F w σ1.en μ fp (a.tmps.getD s undef) ((σ1.put (some k) (renewV σ1 (σ1.sl k) p sz)).sl s) := fun s => by
      by_cases hsk : s = k
      · subst hsk
        have e : (σ1.put (some s) (renewV σ1 (σ1.sl s) p sz)).sl s = renewV σ1 (σ1.sl s) p sz := by simp [St.put, upd]
        rw [e]
        have h0 := h.slots s
        unfold renewV
        split
        · rename_i e2 wv i j kk q he
          split
          · rename_i hc
            exact hk s e2 wv i j kk q he hc.1 hc.2
          · rw [he] at h0; exact h0
        · exact h0
      · have e : (σ1.put (some k) (renewV σ1 (σ1.sl k) p sz)).sl s = σ1.sl s := by simp [St.put, upd, hsk]
        rw [e]; exact h.slots s
    have h2 : Rel n w0 F0 S0 G F μ fp L (σ1.put (some k) (renewV σ1 (σ1.sl k) p sz)) a w := ⟨h.defers, h.size, h.kept, h.base, h.free, h.ent, h.own, h.nodup, h.apart, h.loose, h.looseNodup, hs, h.ghost⟩
    refine Rel.renewL (ks := ks) (σ1 := σ1.put (some k) (renewV σ1 (σ1.sl k) p sz)) h2 fun k2 e wv i j kk q he hc hw => ?_
    by_cases hkk : k2 = k
    · subst hkk
      have e1 : (σ1.put (some k2) (renewV σ1 (σ1.sl k2) p sz)).sl k2 = renewV σ1 (σ1.sl k2) p sz := by simp [St.put, upd]
      rw [e1] at he
      unfold renewV at he
      split at he
      · rename_i e2 wv2 i2 j2 kk2 q2 he2
        split at he
        · rename_i hc2
          cases he
          have hw : (σ1.en e).wr = (σ1.en e).wr + 1 := hw
          omega
        · rename_i hc2
          cases he
          exact absurd ⟨hc, hw⟩ hc2
      · rename_i hno
        exact absurd he (hno _ _ _ _ _ _)
    · have e1 : (σ1.put (some k) (renewV σ1 (σ1.sl k) p sz)).sl k2 = σ1.sl k2 := by simp [St.put, upd, hkk]
      rw [e1] at he
      exact hk k2 e wv i j kk q he hc hw
theorem op_storeR (hC : CfgOk C) (h : Rel n w0 F0 S0 G F μ fp [] σ a w) (hd : ∀ k, o.dst = some k → k < n) {t : TypeId} {p x : Operand} {σ1 : St} (ho : o.op = .store t p x) (hr : storeR C σ t (σ.get p) (σ.get x) = some σ1) :
    OpOk C n w0 F0 S0 G o a w (σ1.put o.dst (.tup [])) := by
  unfold storeR at hr
  split at hr
  · simp only [Option.bind_eq_bind, Option.bind_eq_some_iff] at hr
    obtain ⟨T, hT, σ2, hs, hr⟩ := hr
    cases hr
    obtain ⟨w', hrun, F', μ', fp', hrel, hsl, hk⟩ := op_storeS hC h hd ho hs T hT
    refine .skip hrun ((Rel.renewL hrel fun k e wv i j kk q he hc hw => ?_).putO hd (SRep.unit _ _ _ _ _))
    exact hk k e wv i j kk q (by rw [← hsl]; exact he) hc hw
  · exact op_store hC h hd ho hr
end
end Go.Vm
end
section
/- Literals and made slices. -/
namespace Go.Vm
section
variable {C : Cfg} {n : Nat} {w0 : World} {F0 S0 F : Nat → Prop} {G : Value → AV → Prop} {μ : Nat → Option Nat} {fp : Nat → List Nat} {L : List Nat} {σ σ' : St} {a : Act} {w w' : World} {o : Oper}
theorem setRow_toList : ∀ {vs : List Value} {cur : Array Value} {o : Nat}, o + vs.length ≤ cur.size → (setRow cur o vs).toList = cur.toList.take o ++ vs ++ cur.toList.drop (o + vs.length)
  | [], cur, o, _ => by simp [setRow]
  | v :: vs, cur, o, h => by
    simp only [List.length_cons] at h
    rw [setRow, setRow_toList (by simp; omega), Array.toList_setIfInBounds, List.set_eq_take_append_cons_drop, if_pos (by simp; omega)]
    have hl : (cur.toList.take o).length = o := by simp; omega
    have e1 : (cur.toList.take o ++ v :: cur.toList.drop (o + 1)).take (o + 1) = cur.toList.take o ++ [v] := by
      rw [List.take_append, hl, Nat.add_sub_cancel_left, List.take_of_length_le (by omega)]; simp
    have e2 : (cur.toList.take o ++ v :: cur.toList.drop (o + 1)).drop (o + 1 + vs.length) = cur.toList.drop (o + (v :: vs).length) := by
      rw [List.drop_append, hl, List.drop_of_length_le (by omega), List.nil_append, show o + 1 + vs.length - o = vs.length + 1 by omega, List.drop_succ_cons, List.drop_drop]
      congr 1; simp; omega
    rw [e1, e2]
    simp
theorem fold_setRow : ∀ (vs : List Value) (k : Nat) (cells : Array Value) (off : Nat), (vs.zipIdx k).foldl (fun cs (x : Value × Nat) => cs.setIfInBounds (off + x.2) x.1) cells = setRow cells (off + k) vs
  | [], _, _, _ => rfl
  | v :: vs, k, cells, off => by
    rw [List.zipIdx_cons, List.foldl_cons, fold_setRow vs (k + 1), setRow, Nat.add_assoc]
theorem fill_cons {place : Nat → Option (Nat × Nat)} {cells : Array Value} {i off size : Nat} {v : Value} {rest : List (Nat × Value)} (hp : place i = some (off, size)) (hs : v.cells.size = size) (ho : off + size ≤ cells.size) :
    Instr.fill place cells ((i, v) :: rest) = Instr.fill place (setRow cells off v.cells.toList) rest := by
  have e : v.cells.zipIdx.foldl (fun cs (x : Value × Nat) => cs.setIfInBounds (off + x.2) x.1) cells = setRow cells off v.cells.toList := by
    rw [← Array.foldl_toList, Array.toList_zipIdx, fold_setRow, Nat.add_zero]
  rw [Instr.fill]
  simp only [hp]
  rw [if_neg (by simp; omega)]
  exact congrArg (fun c => Instr.fill place c rest) e
theorem All2.append {α β : Type} {R : α → β → Prop} : ∀ {as as' : List α} {bs bs' : List β}, All2 R as bs → All2 R as' bs' → All2 R (as ++ as') (bs ++ bs')
  | [], _, [], _, _, h => h
  | _ :: _, _, _ :: _, _, ⟨h1, h2⟩, h => ⟨h1, All2.append h2 h⟩
  | [], _, _ :: _, _, h, _ => h.elim
  | _ :: _, _, [], _, h, _ => h.elim
theorem okL_get : ∀ {ls : List AV} {i : Nat} {x : AV}, σ.okL ls = some () → ls[i]? = some x → σ.ok x = some ()
  | [], _, _, _, h => by simp at h
  | y :: ys, i, x, h, hx => by
    simp only [St.okL, Option.bind_eq_bind, Option.bind_eq_some_iff] at h
    obtain ⟨_, h1, h2⟩ := h
    cases i with
    | zero => simp at hx; subst hx; exact h1
    | succ i => exact okL_get h2 (by simpa using hx)
theorem SLeaf.one {v : Value} {x : AV} (h : SLeaf F w σ.en μ fp v x) (hv : σ.ok x = some ()) : v.oneCell' = true := by
  cases x with
  | hd e g off len clip =>
    simp only [St.ok, Option.bind_eq_bind, Option.bind_eq_some_iff] at hv
    obtain ⟨E, hE, _⟩ := hv
    obtain ⟨hl, he, _⟩ := cur_some hE
    obtain ⟨A, c, rfl, _⟩ := h.2 hl he
    rfl
  | ptr e g i j =>
    simp only [St.ok, Option.bind_eq_bind, Option.bind_eq_some_iff] at hv
    obtain ⟨E, hE, _⟩ := hv
    obtain ⟨hl, he, _⟩ := cur_some hE
    obtain ⟨b, _, rfl, _⟩ := h.2 hl he
    rfl
  | fro tg clip l =>
    cases tg with
    | none => exact RepL.one h
    | some p =>
      obtain ⟨hl, hw⟩ := ensure_some hv
      exact (h.2 hl hw).1.one
  | cptr tg c =>
    cases tg with
    | none => exact RepL.one h
    | some p =>
      obtain ⟨hl, hw⟩ := ensure_some hv
      exact (h.2 hl hw).one
  | agg => exact h.elim
  | tup => exact h.elim
  | own => exact h.elim
  | pt => exact h.elim
  | np => simp [St.ok] at hv
  | mp => simp [St.ok] at hv
  | _ => exact RepL.one h
theorem SRep.cells {v : Value} {x : AV} (h : SRep F w σ.en μ fp v x) (hv : σ.okL (Vm.leaves x) = some ()) : All2 (SLeaf F w σ.en μ fp) v.cells.toList (Vm.leaves x) := by
  have ok1 : Vm.leaves x = [x] → σ.ok x = some () := fun e => okL_get hv (i := 0) (by rw [e]; rfl)
  cases x with
  | agg fs => exact h.leaves (by simp) (by simp) (by simp)
  | tup vs => have := ok1 rfl; cases this
  | pt => have := ok1 rfl; cases this
  | _ => exact h.leaves (by simp) (by simp) fun _ => cells_one ((h.leaf (by simp) (by simp) (by simp)).one (ok1 rfl))
theorem RepL.all2 {en : Nat → Ent} {vs : List Value} {xs : List AV} {f : List Nat} (h : RepL F w vs xs f) (hx : xs.all noOwn = true) : All2 (SLeaf F w en μ fp) vs xs := by
  refine All2.mk h.length fun i v x hv hxi => ?_
  obtain ⟨g, hg, _⟩ := h.at hv hxi
  refine hg.sleaf fun _ l hl => ?_
  have := List.all_eq_true.1 hx x (List.mem_iff_getElem?.2 ⟨i, hxi⟩)
  subst hl
  cases this
theorem mapM_some {α β : Type} {f : α → Option β} : ∀ {l : List α}, (∀ x ∈ l, (f x).isSome = true) → ∃ ys, l.mapM f = some ys ∧ ∀ (i : Nat) (x : α), l[i]? = some x → ys[i]? = f x
  | [], _ => ⟨[], rfl, by simp⟩
  | x :: xs, h => by
    obtain ⟨y, hy⟩ := Option.isSome_iff_exists.1 (h x (by simp))
    obtain ⟨ys, h1, h2⟩ := mapM_some (l := xs) fun x hx => h x (by simp [hx])
    refine ⟨y :: ys, by simp [List.mapM_cons, hy, h1], fun i z hz => ?_⟩
    cases i with
    | zero => simp at hz ⊢; subst hz; exact hy.symm
    | succ i => simpa using h2 i z (by simpa using hz)
theorem buildF_ok (hC : CfgOk C) (h : Rel n w0 F0 S0 G F μ fp L σ a w) {fs : List (Nat × Nat)} {place : Nat → Option (Nat × Nat)} (hp : ∀ (i off ty : Nat) (U : TI), fs[i]? = some (off, ty) → C.tt ty = some U → place i = some (off, U.sz)) :
    ∀ {parts : List (Nat × Operand)} {acc res : List AV} {cells : Array Value}, All2 (SLeaf F w σ.en μ fp) cells.toList acc → buildF C fs σ parts acc = some res →
      ∃ cells', Instr.fill place cells (parts.map fun (i, x) => (i, a.eval x)) = some cells' ∧ All2 (SLeaf F w σ.en μ fp) cells'.toList res
  | [], acc, res, cells, hall, hr => by
    simp only [buildF, Option.some.injEq] at hr
    subst hr
    exact ⟨cells, rfl, hall⟩
  | (i, x) :: rest, acc, res, cells, hall, hr => by
    simp only [buildF, Option.bind_eq_bind, Option.bind_eq_some_iff] at hr
    obtain ⟨⟨off, ty⟩, hf, U, hU, _, hok, _, hen, hr⟩ := hr
    obtain ⟨hl, hoff⟩ := ensure_some hen
    have hcv := (h.get x).cells hok
    have hcs : (a.eval x).cells.size = U.sz := by simpa [hl] using hcv.length
    have hcl : cells.size = acc.length := by simpa using hall.length
    have hset : All2 (SLeaf F w σ.en μ fp) (setRow cells off (a.eval x).cells.toList).toList (setRange acc off (leaves (σ.get x))) := by
      rw [setRow_toList (by simp; omega)]
      have e : (a.eval x).cells.toList.length = (leaves (σ.get x)).length := hcv.length
      rw [e]
      exact ((hall.take off).append hcv).append (hall.drop _)
    obtain ⟨cells', h1, h2⟩ := buildF_ok hC h hp hset hr
    refine ⟨cells', ?_, h2⟩
    rw [List.map_cons, fill_cons (hp i off ty U hf hU) hcs (by omega)]
    exact h1
theorem op_build (hC : CfgOk C) (h : Rel n w0 F0 S0 G F μ fp [] σ a w) {t : TypeId} {parts : Array (Nat × Operand)} (ho : o.op = .build t parts) (hr : opF C o σ = some σ') : OpPure C F μ fp σ o a w σ' := by
  simp only [opF, ho, Option.bind_eq_bind, Option.bind_eq_some_iff] at hr
  obtain ⟨T, hT, hr⟩ := hr
  have hT' := hC.tt t T hT
  have hTd := hT'.desc
  split at hr
  case h_2 => cases hr
  rename_i fs hfs
  rw [hfs] at hTd
  obtain ⟨fields, hu, hfl, hfd⟩ := hTd
  simp only [Option.bind_eq_some_iff] at hr
  obtain ⟨_, hall, ls, hb, hr⟩ := hr
  cases hr
  have hall := ensure_some hall
  obtain ⟨it, z, hi, hs, _, hz, hzs, hzr, _⟩ := hT'.info
  have tts : ∀ (i : Nat) (fd : Field), fields[i]? = some fd → ∃ U, fs[i]? = some (fd.offset, fd.type) ∧ C.tt fd.type = some U := by
    intro i fd hfi
    have hlt : i < fs.length := by have := (Array.getElem?_eq_some_iff.1 hfi).1; omega
    have e := List.getElem?_eq_getElem hlt
    obtain ⟨fd', h1, h2, h3⟩ := hfd i (fs[i]).1 (fs[i]).2 e
    rw [hfi] at h1; cases h1
    have := List.all_eq_true.1 hall fs[i] (List.getElem_mem hlt)
    obtain ⟨U, hU⟩ := Option.isSome_iff_exists.1 this
    exact ⟨U, by rw [e, h2, h3], by rw [h3]; exact hU⟩
  obtain ⟨places, hpl, hpg⟩ := mapM_some (f := fun f : Field => (C.P.info? f.type).map fun i => (f.offset, i.size)) (l := fields.toList) fun fd hfd' => by
    obtain ⟨i, hi⟩ := List.mem_iff_getElem?.1 hfd'
    obtain ⟨U, _, hU⟩ := tts i fd (by simpa using hi)
    obtain ⟨iu, _, hiu, _⟩ := (hC.tt _ U hU).info
    simp [hiu]
  obtain ⟨cells', hfill, hres⟩ := buildF_ok (place := (places.toArray[·]?)) hC h (fun i off ty U hf hU => by
    obtain ⟨fd, h1, h2, h3⟩ := hfd i off ty hf
    obtain ⟨iu, _, hiu, hsu, _⟩ := (hC.tt _ U hU).info
    have := hpg i fd (by simpa using h1)
    rw [h3, hiu, Option.map_some, hsu, h2] at this
    simpa using this) ((hzr F w).all2 hT'.noOwn) hb
  refine .mk' (v := .agg cells') (fun w' _ => ?_) (x := .agg ls) ⟨cells', rfl, hres⟩
  have hbt : C.P.built t (parts.map fun (i, x) => (i, a.eval x)).toList = some cells' := by
    simp only [Program.built, hi, hu, hz, hpl, Array.toList_map]
    exact hfill
  simp only [execOp, ho, Sem.run_bind, run_build w' t _ cells' hbt, Result.andThen_ok, Sem.run_pure]
end
end Go.Vm
end
section
/- Slices that are made, functions' values, builtins that read. -/
namespace Go.Vm
section
variable {C : Cfg} {n : Nat} {w0 : World} {F0 S0 F : Nat → Prop} {G : Value → AV → Prop} {μ : Nat → Option Nat} {fp : Nat → List Nat} {L : List Nat} {σ σ' : St} {a : Act} {w w' : World} {o : Oper}
theorem made_toList {z : Array Value} (hz : 0 < z.size) : ∀ c : Nat, ((Array.range (c * z.size)).map (z[· % z.size]!)).toList = (List.replicate c z.toList).flatten
  | 0 => by simp
  | c + 1 => by
    have ih := made_toList hz c
    rw [List.replicate_succ', List.flatten_append, ← ih]
    simp only [Array.toList_map, Array.toList_range]
    rw [show (c + 1) * z.size = c * z.size + z.size by rw [Nat.add_mul, Nat.one_mul], List.range_add, List.map_append, List.map_map]
    congr 1
    refine List.ext_getElem (by simp) fun i h1 h2 => ?_
    simp at h1 h2
    simp [Nat.mod_eq_of_lt h1, h1]
theorem RepL.replicate {us : List Value} {xs : List AV} (h : RepL F w us xs []) : ∀ c : Nat, RepL F w (List.replicate c us).flatten (List.replicate c xs).flatten []
  | 0 => .nil
  | c + 1 => by
    rw [List.replicate_succ, List.replicate_succ, List.flatten_cons, List.flatten_cons]
    exact h.append (RepL.replicate h c)
theorem flat_replicate (x : AV) : ∀ c : Nat, (List.replicate c x).flatMap leaves = (List.replicate c (leaves x)).flatten
  | 0 => rfl
  | c + 1 => by rw [List.replicate_succ, List.flatMap_cons, flat_replicate x c, List.replicate_succ, List.flatten_cons]
theorem Rel.newArrR {f : List Nat} (h : Rel n w0 F0 S0 G F μ fp f σ a w) {d : Nat} (hd : d < n) {sz len c : Nat} {clip : Bool} {l : List AV} {us : List Value} {cur : Array Value} {et : TypeId} (hx : ∀ x ∈ l, (leaves x).length = sz) (hr : RepL F w us (l.flatMap leaves) f)
    (hc : ∀ q, q < us.length → cur[q]? = us[q]?) (hlc : len ≤ c) (hcl : clip = true → c = len) (hlen : l.length ≤ c) (hsz : c * sz ≤ cur.size) {w' : World} (hh : w'.heap = w.heap.push (.cells cur et)) (ho : w'.os = w.os) (ht : w'.tape = w.tape) (hp : w'.output = w.output) {σ' : St}
    (hn : newArr σ (some d) sz l len clip = some σ') : ∃ F' μ' fp', Rel n w0 F0 S0 G F' μ' fp' [] σ' (a.put (some d) (.slice (some ⟨w.heap.size, 0, none⟩) len c)) w' := by
  simp only [newArr, Option.some.injEq] at hn
  subst hn
  obtain ⟨r1, r2⟩ := (Rel.newBlock (L := []) (f := f) (w' := w') (cur := cur) (us := us) (by simpa using h) (eid d 0) sz l hh ho ht hp hx hc hr)
  refine ⟨F, _, _, r1.put hd (x := .hd (eid d 0) ((σ.en (eid d 0)).gen + 1) 0 len clip) ⟨?_, fun _ _ => ⟨_, _, rfl, hlc, hcl, fun _ => ?_, fun _ => ⟨w.heap.size, cur, et, (0, 0), ?_, ?_, ?_, ?_⟩⟩⟩⟩
  · simp [St.fresh, St.ent, upd]
  · simpa [St.fresh, St.ent, upd] using hlen
  · simp [upd]
  · simp
  · rw [hh]; simp
  · simpa [St.fresh, St.ent, upd] using hsz
theorem Rel.newNilR (h : Rel n w0 F0 S0 G F μ fp [] σ a w) {d : Nat} (hd : d < n) {sz : Nat} {clip : Bool} {A : Option Addr} {σ' : St} (hn : newArr σ (some d) sz [] 0 clip = some σ') :
    ∃ F' μ' fp', Rel n w0 F0 S0 G F' μ' fp' [] σ' (a.put (some d) (.slice A 0 0)) w := by
  simp only [newArr, Option.some.injEq] at hn
  subst hn
  obtain ⟨r1, r2⟩ := h.newNil (eid d 0) sz
  refine ⟨F, _, _, r1.put hd (x := .hd (eid d 0) ((σ.en (eid d 0)).gen + 1) 0 0 clip) ⟨?_, fun _ _ => ⟨_, _, rfl, Nat.le_refl _, fun _ => rfl, fun _ => ?_, fun h => absurd h (by simp)⟩⟩⟩
  · simp [St.fresh, St.ent, upd]
  · simp [St.fresh, St.ent, upd]
theorem op_makeSlice (hC : CfgOk C) (h : Rel n w0 F0 S0 G F μ fp [] σ a w) (hd : ∀ k, o.dst = some k → k < n) {t : TypeId} {l c : Operand} (ho : o.op = .makeSlice t l c) (hr : opF C o σ = some σ') : OpOk C n w0 F0 S0 G o a w σ' := by
  simp only [opF, ho, Option.bind_eq_bind, Option.bind_eq_some_iff] at hr
  obtain ⟨T, hT, hr⟩ := hr
  have hTd := (hC.tt t T hT).desc
  split at hr
  case h_2 => cases hr
  rename_i el i j hel hl hc
  rw [hel] at hTd
  have hTd : C.P.underlying t = some (.slice el) := hTd
  simp only [Option.bind_eq_some_iff] at hr
  obtain ⟨U, hU, _, hen, hr⟩ := hr
  obtain ⟨h0, h1, h2, h3⟩ := ensure_some hen
  have hU' := hC.tt el U hU
  obtain ⟨it, z, hi, hs, hby, hz, hzs, hzr, _⟩ := hU'.info
  have hl' : a.eval l = .int .i64 i := SRep.int_inv (hl ▸ h.get l)
  have hc' : a.eval c = .int .i64 j := SRep.int_inv (hc ▸ h.get c)
  cases hdd : o.dst with
  | none => rw [hdd] at hr; cases hr
  | some d =>
    rw [hdd] at hr
    have hle := hU'.leaves (hzr F w) (by rw [← (hzr F w).length]; simpa using hzs)
    have hzl : U.zero.length = U.sz := by rw [← (hzr F w).length]; simpa using hzs
    have hms := run_make (P := C.P) w t el it z hTd hi hz .i64 .i64 i j h0 h1 (by rw [hby, Int.mul_comm]; omega) (by omega)
    have hmt : (madeCells z.cells (j.toNat * it.size)).toList = (List.replicate j.toNat z.cells.toList).flatten := by
      unfold madeCells
      rw [hs, ← hzs]
      exact made_toList (by rw [hzs]; exact hU'.pos.1) _
    have hsize : (madeCells z.cells (j.toNat * it.size)).size = j.toNat * U.sz := by simp [madeCells, hs]
    obtain ⟨F', μ', fp', q⟩ := h.newArrR (hd d hdd) (cur := madeCells z.cells (j.toNat * it.size)) (et := el) (us := (madeCells z.cells (j.toNat * it.size)).toList) (c := j.toNat) (w' := w.alloc (.cells (madeCells z.cells (j.toNat * it.size)) el)) (fun x hx => by
        rw [(List.mem_replicate.1 hx).2, hle, hzl]) (by
        rw [flat_replicate, hle, hmt]
        exact (hzr F w).replicate _) (fun q hq => by simp) (by omega) (fun h => by simp at h; rw [h]) (by simp) (by rw [hsize]; exact Nat.le_refl _) rfl rfl rfl rfl hr
    refine ⟨_, _, .inl ?_, F', μ', fp', hdd ▸ q⟩
    simp only [execOp, ho, hl', hc', Sem.run_bind, hms, Result.andThen_ok, Sem.run_pure]
/-! ### A slice literal -/
theorem buildSliceF_ok {m : Bool} {U : TI} (hU : ∀ {us : List Value} {ls : List AV} {f : List Nat} {F : Nat → Prop}, RepL F w us ls f → ls.length = U.sz → leaves (mkV U.desc.isStruct ls) = ls) :
    ∀ {parts : List (Nat × Operand)} {acc res : List AV} {cells : Array Value} {σ σ' : St} {F : Nat → Prop} {fp : Nat → List Nat} {f : List Nat}, Rel n w0 F0 S0 G F μ fp f σ a w → RepL F w cells.toList (acc.flatMap leaves) f → (∀ x ∈ acc, (leaves x).length = U.sz) →
      buildSliceF m U parts acc σ = some (res, σ') →
      ∃ F' fp' f' cells', Rel n w0 F0 S0 G F' μ fp' f' σ' a w ∧ RepL F' w cells'.toList (res.flatMap leaves) f' ∧ (∀ x ∈ res, (leaves x).length = U.sz) ∧ res.length = acc.length ∧
        Instr.fill (fun i => some (i * U.sz, U.sz)) cells (parts.map fun (i, x) => (i, a.eval x)) = some cells' ∧ (parts ≠ [] → acc ≠ [])
  | [], acc, res, cells, σ, σ', F, fp, f, h, hr, hs, hb => by
    simp only [buildSliceF, Option.some.injEq, Prod.mk.injEq] at hb
    obtain ⟨rfl, rfl⟩ := hb
    exact ⟨F, fp, f, cells, h, hr, hs, rfl, rfl, by simp⟩
  | (i, x) :: rest, acc, res, cells, σ, σ', F, fp, f, h, hr, hs, hb => by
    simp only [buildSliceF, Option.bind_eq_bind, Option.bind_eq_some_iff] at hb
    obtain ⟨⟨ls, σ1⟩, hcl, _, hen, hb⟩ := hb
    obtain ⟨hl, hi⟩ := ensure_some hen
    dsimp only at hl hb
    obtain ⟨F1, fp1, f1, r1, r2, r3, r4, _⟩ := h.closeV (h.get x) hcl
    have hle := hU r2 hl
    have hcs : (a.eval x).cells.size = U.sz := by have := r2.length; rw [hl] at this; simpa using this
    have hr1 : RepL F1 w cells.toList (acc.flatMap leaves) f := hr.mono r3 (fun _ _ => rfl)
    obtain ⟨fa, fb, fc, rfl, h5⟩ := hr1.splice r2 (i * U.sz) U.sz
    have hfl := flat_length hs
    have hcl' : cells.size = acc.length * U.sz := by have := hr.length; rw [hfl] at this; simpa using this
    have hmul : (i + 1) * U.sz ≤ acc.length * U.sz := Nat.mul_le_mul_right _ hi
    have e11 : (i + 1) * U.sz = i * U.sz + U.sz := by rw [Nat.add_mul, Nat.one_mul]
    have h6 : RepL F1 w (setRow cells (i * U.sz) (a.eval x).cells.toList).toList ((acc.set i (mkV U.desc.isStruct ls)).flatMap leaves) (fa ++ f1 ++ fc) := by
      rw [setRow_toList (by simp; omega), flat_set hs hi, hle, e11]
      have e : (a.eval x).cells.toList.length = U.sz := by simpa using hcs
      rw [e]
      exact h5
    have r1' : Rel n w0 F0 S0 G F1 μ fp1 (fa ++ f1 ++ fc) σ1 a w := by
      refine (r1.perm (L' := fa ++ f1 ++ fc ++ fb) ?_).drop (List.sublist_append_left _ _)
      exact List.perm_iff_count.2 fun x => by simp only [List.count_append]; omega
    obtain ⟨F2, fp2, f2, cells', q1, q2, q3, q4, q5, _⟩ := buildSliceF_ok hU r1' h6 (fun y hy => by
      rcases List.mem_or_eq_of_mem_set hy with hy | rfl
      · exact hs y hy
      · rw [hle, hl]) hb
    refine ⟨F2, fp2, f2, cells', q1, q2, q3, by rw [q4]; simp, ?_, fun _ => by rintro rfl; simp at hi⟩
    rw [List.map_cons, fill_cons rfl hcs (by omega)]
    exact q5
theorem op_buildSlice (hC : CfgOk C) (h : Rel n w0 F0 S0 G F μ fp [] σ a w) (hd : ∀ k, o.dst = some k → k < n) {t : TypeId} {len : Nat} {parts : Array (Nat × Operand)} (ho : o.op = .buildSlice t len parts) (hr : opF C o σ = some σ') : OpOk C n w0 F0 S0 G o a w σ' := by
  simp only [opF, ho, Option.bind_eq_bind, Option.bind_eq_some_iff] at hr
  obtain ⟨T, hT, hr⟩ := hr
  have hTd := (hC.tt t T hT).desc
  split at hr
  case h_2 => cases hr
  rename_i el hel
  rw [hel] at hTd
  have hTd : C.P.underlying t = some (.slice el) := hTd
  simp only [Option.bind_eq_some_iff] at hr
  obtain ⟨U, hU, _, hen, ⟨l, σ1⟩, hb, hr⟩ := hr
  have hen := ensure_some hen
  dsimp only at hr
  have hU' := hC.tt el U hU
  obtain ⟨it, z, hi, hs, hby, hz, hzs, hzr, _⟩ := hU'.info
  have hpos := hU'.pos.1
  have hle := hU'.leaves (hzr F w) (by rw [← (hzr F w).length]; simpa using hzs)
  have hzl : U.zero.length = U.sz := by rw [← (hzr F w).length]; simpa using hzs
  obtain ⟨F1, fp1, f1, cells', q1, q2, q3, q4, q5, q6⟩ := buildSliceF_ok (a := a) (fun r hl => hU'.leaves r hl) (cells := (Array.range (len * U.sz)).map (z.cells[· % z.cells.size]!)) h (by
    rw [flat_replicate, hle]
    have := made_toList (z := z.cells) (by omega) len
    rw [hzs] at this ⊢
    rw [this]
    exact (hzr F w).replicate _) (fun x hx => by rw [(List.mem_replicate.1 hx).2, hle, hzl]) hb
  rw [List.length_replicate] at q4
  have hcs : cells'.size = len * U.sz := by have := q2.length; rw [flat_length q3, q4] at this; simpa using this
  cases hdd : o.dst with
  | none => rw [hdd] at hr; cases hr
  | some d =>
    rw [hdd] at hr
    obtain ⟨F', μ', fp', q⟩ := q1.newArrR (hd d hdd) (cur := cells') (et := el) (us := cells'.toList) (c := len) (w' := w.alloc (.cells cells' el)) q3 q2 (fun q hq => by simp) (Nat.le_refl _) (fun _ => rfl) (by omega) (by omega) rfl rfl rfl rfl hr
    refine ⟨_, _, .inl ?_, F', μ', fp', hdd ▸ q⟩
    have hrun : (Instr.buildSlice t len (parts.map fun (i, x) => (i, a.eval x))).run C.P w = .ok (.slice (some ⟨w.heap.size, 0, none⟩) len len) (w.alloc (.cells cells' el)) := by
      by_cases hl0 : len = 0
      · subst hl0
        have hp : parts.toList = [] := Classical.byContradiction fun hne => q6 hne (by simp)
        have hp' : parts = #[] := by simpa using hp
        subst hp'
        have hc' : cells' = #[] := by simpa using hcs
        subst hc'
        simp [Instr.buildSlice, run_underlying hTd, sizeOf, typeInfo, hi, Instr.fill, newRow, Array.range_zero']
      · have hne : ¬ len * it.size = 0 := by
          rw [hs]
          have := Nat.mul_pos (Nat.pos_of_ne_zero hl0) hpos
          omega
        exact run_buildSlice w t el len _ cells' it z hTd hi hz (by rw [hs]; omega) hne (by rw [hs, Array.toList_map]; exact q5)
    simp only [execOp, ho, Sem.run_bind, hrun, Result.andThen_ok, Sem.run_pure]
theorem buildSlice_keeps (hC : CfgOk C) (h : Rel n w0 F0 S0 G F μ fp [] σ a w) {t : TypeId} {len : Nat} {parts : Array (Nat × Operand)} (ho : o.op = .buildSlice t len parts) (hr : opF C o σ = some σ') {w' : World} (hy : ∃ y, (execOp a.eval o).run C.P w = .ok y w') : KeptS w w' (fun _ => False) := by
  simp only [opF, ho, Option.bind_eq_bind, Option.bind_eq_some_iff] at hr
  obtain ⟨T, hT, hr⟩ := hr
  have hTd := (hC.tt t T hT).desc
  split at hr
  case h_2 => cases hr
  rename_i el hel
  rw [hel] at hTd
  have hTd : C.P.underlying t = some (.slice el) := hTd
  simp only [Option.bind_eq_some_iff] at hr
  obtain ⟨U, hU, _, hen, ⟨l, σ1⟩, hb, hr⟩ := hr
  have hen := ensure_some hen
  dsimp only at hr
  have hU' := hC.tt el U hU
  obtain ⟨it, z, hi, hs, hby, hz, hzs, hzr, _⟩ := hU'.info
  have hpos := hU'.pos.1
  have hle := hU'.leaves (hzr F w) (by rw [← (hzr F w).length]; simpa using hzs)
  have hzl : U.zero.length = U.sz := by rw [← (hzr F w).length]; simpa using hzs
  obtain ⟨F1, fp1, f1, cells', q1, q2, q3, q4, q5, q6⟩ := buildSliceF_ok (a := a) (fun r hl => hU'.leaves r hl) (cells := (Array.range (len * U.sz)).map (z.cells[· % z.cells.size]!)) h (by
    rw [flat_replicate, hle]
    have := made_toList (z := z.cells) (by omega) len
    rw [hzs] at this ⊢
    rw [this]
    exact (hzr F w).replicate _) (fun x hx => by rw [(List.mem_replicate.1 hx).2, hle, hzl]) hb
  rw [List.length_replicate] at q4
  have hcs : cells'.size = len * U.sz := by have := q2.length; rw [flat_length q3, q4] at this; simpa using this
  have hrun : (Instr.buildSlice t len (parts.map fun (i, x) => (i, a.eval x))).run C.P w = .ok (.slice (some ⟨w.heap.size, 0, none⟩) len len) (w.alloc (.cells cells' el)) := by
    by_cases hl0 : len = 0
    · subst hl0
      have hp : parts.toList = [] := Classical.byContradiction fun hne => q6 hne (by simp)
      have hp' : parts = #[] := by simpa using hp
      subst hp'
      have hc' : cells' = #[] := by simpa using hcs
      subst hc'
      simp [Instr.buildSlice, run_underlying hTd, sizeOf, typeInfo, hi, Instr.fill, newRow, Array.range_zero']
    · have hne : ¬ len * it.size = 0 := by
        rw [hs]
        have := Nat.mul_pos (Nat.pos_of_ne_zero hl0) hpos
        omega
      exact run_buildSlice w t el len _ cells' it z hTd hi hz (by rw [hs]; omega) hne (by rw [hs, Array.toList_map]; exact q5)
  obtain ⟨y, hy⟩ := hy
  simp only [execOp, ho, Sem.run_bind, hrun, Result.andThen_ok, Sem.run_pure] at hy
  cases hy
  exact keptS_push rfl rfl rfl rfl
/-! ### Builtins that read -/
theorem op_len (hC : CfgOk C) (h : Rel n w0 F0 S0 G F μ fp [] σ a w) {args : Array Operand} {ts : Array TypeId} {x : Operand} {t : TypeId} {m : Nat} {T : TI} (ho : o.op = .call { callee := .builtin .len, args, argTypes := ts }) (ha : args.toList = [x]) (ht : ts.toList = [t])
    (hT : C.tt t = some T) (hr : lenF σ T.desc (σ.get x) = some m) : OpPure C F μ fp σ o a w (σ.put o.dst (.int .i64 m)) := by
  obtain rfl : args = #[x] := by apply Array.ext'; simpa using ha
  obtain rfl : ts = #[t] := by apply Array.ext'; simpa using ht
  refine .mk' (v := .int .i64 m) (fun w' _ => ?_) (RepL.int .nil)
  rw [exec_builtin ho]
  simp only [builtin, Sem.run_bind]
  have := run_lenOp (hC.tt t T hT).desc (h.get x) hr o.type w'
  simp [this]
theorem op_cap (hC : CfgOk C) (h : Rel n w0 F0 S0 G F μ fp [] σ a w) {args : Array Operand} {ts : Array TypeId} {x : Operand} {t : TypeId} {m : Nat} {T : TI} (ho : o.op = .call { callee := .builtin .cap, args, argTypes := ts }) (ha : args.toList = [x]) (ht : ts.toList = [t])
    (hT : C.tt t = some T) (hr : capF σ T.desc (σ.get x) = some m) : OpPure C F μ fp σ o a w (σ.put o.dst (.int .i64 m)) := by
  obtain rfl : args = #[x] := by apply Array.ext'; simpa using ha
  obtain rfl : ts = #[t] := by apply Array.ext'; simpa using ht
  refine .mk' (v := .int .i64 m) (fun w' _ => ?_) (RepL.int .nil)
  rw [exec_builtin ho]
  simp only [builtin, Sem.run_bind]
  have := run_capOp (hC.tt t T hT).desc (h.get x) hr o.type w'
  simp [this]
theorem op_min (h : Rel n w0 F0 S0 G F μ fp [] σ a w) {args : Array Operand} {ts : Array TypeId} {x : Operand} {xs : List Operand} {r : AV} (ho : o.op = .call { callee := .builtin .min, args, argTypes := ts }) (ha : args.toList = x :: xs)
    (hr : minF (σ.get x) (xs.map σ.get) = some r) : OpPure C F μ fp σ o a w (σ.put o.dst r) := by
  obtain ⟨u, hu, hur⟩ := run_min (C := C) (F := F) (μ := μ) (fp := fp) (σ := σ) (w := w) (h.get x) (All2.of_map (fun y => h.get y) xs) hr
  refine .mk' (v := u) (fun w' _ => ?_) hur
  rw [exec_builtin ho]
  simp only [builtin, Sem.run_bind, Builtin.min_, Array.toList_map, ha, List.map_cons, hu, Result.andThen_ok, Sem.run_pure]
theorem op_max (h : Rel n w0 F0 S0 G F μ fp [] σ a w) {args : Array Operand} {ts : Array TypeId} {x : Operand} {xs : List Operand} {r : AV} (ho : o.op = .call { callee := .builtin .max, args, argTypes := ts }) (ha : args.toList = x :: xs)
    (hr : maxF (σ.get x) (xs.map σ.get) = some r) : OpPure C F μ fp σ o a w (σ.put o.dst r) := by
  obtain ⟨u, hu, hur⟩ := run_max (C := C) (F := F) (μ := μ) (fp := fp) (σ := σ) (w := w) (h.get x) (All2.of_map (fun y => h.get y) xs) hr
  refine .mk' (v := u) (fun w' _ => ?_) hur
  rw [exec_builtin ho]
  simp only [builtin, Sem.run_bind, Builtin.max_, Array.toList_map, ha, List.map_cons, hu, Result.andThen_ok, Sem.run_pure]
end
end Go.Vm
end
section
/- Appends and copies. -/
namespace Go.Vm
section
variable {C : Cfg} {n : Nat} {w0 : World} {F0 S0 F : Nat → Prop} {G : Value → AV → Prop} {μ : Nat → Option Nat} {fp : Nat → List Nat} {L : List Nat} {σ σ' : St} {a : Act} {w w' : World} {o : Oper}
theorem run_first {sz len c : Nat} {A : Option Addr} {us : List Value} (hl : us.length = len * sz) (hA : 0 < us.length → ∃ b o', A = some ⟨b, o', none⟩ ∧ ∀ q, q < us.length → w.cell? ⟨b, o' + q, none⟩ = us[q]?) {w' : World} (hw : w'.heap = w.heap) :
    (Builtin.firstCells sz len (.slice A len c)).run C.P w' = .ok us.toArray w' := by
  cases us with
  | nil =>
    cases A with
    | none => simp [Builtin.firstCells]
    | some A =>
      simp at hl
      have h0 : len * sz = 0 := by omega
      simp only [Builtin.firstCells, h0]
      simpa using run_loadCells_list (P := C.P) w' A [] (by simp)
  | cons u us =>
    obtain ⟨b, o', rfl, hc⟩ := hA (by simp)
    refine run_firstCells_some w' sz len _ len c _ hl fun j v hv => ?_
    obtain ⟨hj, _⟩ := List.getElem?_eq_some_iff.1 hv
    rw [Addr.add_lit, cell?_congr (w := w) (w' := w') (by rw [hw]), hc j hj, hv]
theorem src_slice {sz len c : Nat} {A : Option Addr} {us : List Value} {t e : TypeId} (hk : C.P.underlying t = some (.slice e)) (hl : us.length = len * sz) (hA : 0 < us.length → ∃ b o', A = some ⟨b, o', none⟩ ∧ ∀ q, q < us.length → w.cell? ⟨b, o' + q, none⟩ = us[q]?)
    (h1 : ∀ u ∈ us, u.oneCell' = true) : Src C.P sz t (.slice A len c) len us w :=
  ⟨.inl ⟨e, hk⟩, fun _ => rfl, run_first hl hA rfl, run_first hl hA rfl, hl, h1⟩
theorem RepL.froRange {v : Value} {clip : Bool} {l : List AV} {sz : Nat} (h : RepL F w [v] [.fro none clip l] []) (hs : ∀ z ∈ l, (leaves z).length = sz) : ∃ A c us, v = .slice A l.length c ∧ l.length ≤ c ∧ (clip = true → c = l.length) ∧ us.length = l.length * sz ∧
    (0 < us.length → ∃ b o', A = some ⟨b, o', none⟩ ∧ ∀ q, q < us.length → w.cell? ⟨b, o' + q, none⟩ = us[q]?) ∧ RepL F w us (l.flatMap leaves) [] := by
  obtain ⟨_, ⟨rfl, A, c, rfl, hc⟩ | ⟨b, o, c, sz', us, rfl, hlc, hc, hF, hcell, hs', hu⟩⟩ := h.fro_inv
  · exact ⟨A, c, [], rfl, by simp, fun h => by simp [hc h], by simp, by simp, .nil⟩
  · exact ⟨_, c, us, rfl, hlc, hc, by rw [hu.length, flat_length hs], fun _ => ⟨b, o, rfl, hcell⟩, hu⟩
theorem RepL.ownRange {v : Value} {l : List AV} {f : List Nat} {s0 sz : Nat} (h : RepL F w [v] [.own s0 l] f) (hs : ∀ z ∈ l, (leaves z).length = sz) : ∃ A c us f1, v = .slice A l.length c ∧ l.length ≤ c ∧ us.length = l.length * sz ∧
    (0 < us.length → ∃ b o', A = some ⟨b, o', none⟩ ∧ ∀ q, q < us.length → w.cell? ⟨b, o' + q, none⟩ = us[q]?) ∧ RepL F w us (l.flatMap leaves) f1 ∧ f1.Sublist f := by
  rcases h.own_inv with ⟨rfl, rfl, A, rfl⟩ | ⟨g, c, et, cur, us, f1, rfl, hlc, hb, _, hcell, hs', hu, rfl⟩
  · exact ⟨A, 0, [], [], rfl, by simp, by simp, by simp, .nil, List.Sublist.refl _⟩
  · refine ⟨_, c, us, f1, rfl, hlc, by rw [hu.length, flat_length hs], fun _ => ⟨g, 0, rfl, fun q hq => ?_⟩, hu, List.sublist_cons_self _ _⟩
    rw [Nat.zero_add, cell_of_row w g q cur et (0, 0) hb, hcell q hq]
theorem RepL.noOwn_nil {vs : List Value} {xs : List AV} {f : List Nat} (h : RepL F w vs xs f) (hx : xs.all noOwn = true) : f = [] := by
  induction h with
  | nil => rfl
  | own0 => simp [noOwn] at hx
  | own => simp [noOwn] at hx
  | _ => simp_all
theorem scal_froize {x : AV} (h : scal x = true) : froize x = x := by
  cases x <;> first | rfl | cases h
theorem RepL.scal {vs : List Value} {xs : List AV} {f : List Nat} (h : RepL F w vs xs f) (hx : xs.all scal = true) (F' : Nat → Prop) (w' : World) : RepL F' w' vs xs [] := by
  induction h with
  | nil => exact .nil
  | int t ih => simp only [List.all_cons, Bool.and_eq_true] at hx; exact .int (ih hx.2)
  | bool t ih => simp only [List.all_cons, Bool.and_eq_true] at hx; exact .bool (ih hx.2)
  | str t ih => simp only [List.all_cons, Bool.and_eq_true] at hx; exact .str (ih hx.2)
  | _ => simp only [List.all_cons, Bool.and_eq_true] at hx; exact absurd hx.1 (by simp [Vm.scal])
theorem all_flat {p : AV → Bool} : ∀ {l : List AV}, l.all (fun x => (leaves x).all p) = true → (l.flatMap leaves).all p = true
  | [], _ => rfl
  | x :: xs, h => by
    simp only [List.all_cons, Bool.and_eq_true] at h
    rw [List.flatMap_cons, List.all_append, h.1, all_flat h.2]; rfl
theorem repl_bytes (F : Nat → Prop) (w : World) : ∀ l : List UInt8, RepL F w (l.map fun b => Value.int .u8 b.toNat) (l.map fun b => AV.int .u8 b.toNat) []
  | [] => .nil
  | _ :: l => .int (repl_bytes F w l)
theorem RepL.holes {vs : List Value} {xs : List AV} {f : List Nat} (h : RepL F w vs xs f) : RepL F w vs (xs.map hole) [] := by
  induction h with
  | nil => exact .nil
  | und hv t ih => exact .und hv ih
  | int t ih => exact .int ih
  | bool t ih => exact .bool ih
  | str t ih => exact .str ih
  | fro0 hc t ih => exact .fro0 hc ih
  | fro hn hnc hc hb hcell hsz hu t _ ih => exact .fro hn hnc hc hb hcell hsz hu ih
  | own0 t ih => exact .und rfl ih
  | own hn hnc hb hcap hcell hsz hu t _ ih => exact .und rfl ih
  | cptr hb hcell hu t _ ih => exact .cptr hb hcell hu ih
  | clo hu t _ ih => exact .clo hu ih
theorem leaves_holeE (x : AV) : leaves (holeE x) = (leaves x).map hole := by
  unfold holeE
  refine leaves_reEl fun hna => ?_
  rw [leaves_length_of hna]
  refine ⟨hole x, rfl, ?_⟩
  cases x <;> first | rfl | exact absurd rfl (hna _)
theorem flat_holeE : ∀ l : List AV, (l.map holeE).flatMap leaves = (l.flatMap leaves).map hole
  | [] => rfl
  | x :: l => by
    rw [List.map_cons, List.flatMap_cons, flat_holeE l, leaves_holeE, List.flatMap_cons, List.map_append]
theorem srcF_ok {m : Bool} (h : Rel n w0 F0 S0 G F μ fp L σ a w) {v : Value} {y : AV} {news : List AV} {σ1 : St} {t2 sz : Nat} {d : TD} (hx : SRep F w σ.en μ fp v y) (hd : descOk C.P t2 d) (hk : srcOk sz d y = true) (hs : srcF m σ y = some (news, σ1)) (hsz : ∀ z ∈ news, (leaves z).length = sz) :
    ∃ F' fp' f us, Rel n w0 F0 S0 G F' μ fp' (f ++ L) σ1 a w ∧ Src C.P sz t2 v news.length us w ∧ RepL F' w us (news.flatMap leaves) f ∧ (∀ b, F b → F' b) ∧ (∀ v x, SLeaf F w σ.en μ fp v x → SLeaf F' w σ1.en μ fp' v x) ∧ σ1.sl = σ.sl := by
  have slice : ∀ {F' : Nat → Prop} {fp' : Nat → List Nat} {clip : Bool}, RepL F' w [v] [.fro none clip news] [] → (∃ e, C.P.underlying t2 = some (.slice e)) → Rel n w0 F0 S0 G F' μ fp' L σ1 a w → (∀ b, F b → F' b) → (∀ v x, SLeaf F w σ.en μ fp v x → SLeaf F' w σ1.en μ fp' v x) → σ1.sl = σ.sl →
      ∃ F' fp' f us, Rel n w0 F0 S0 G F' μ fp' (f ++ L) σ1 a w ∧ Src C.P sz t2 v news.length us w ∧ RepL F' w us (news.flatMap leaves) f ∧ (∀ b, F b → F' b) ∧ (∀ v x, SLeaf F w σ.en μ fp v x → SLeaf F' w σ1.en μ fp' v x) ∧ σ1.sl = σ.sl := by
    intro F' fp' clip hr ⟨e, he⟩ hrel h1 h2 h3
    obtain ⟨A, c, us, rfl, _, _, hl, hA, hu⟩ := hr.froRange hsz
    exact ⟨F', fp', [], us, hrel, src_slice he hl hA hu.ones, hu, h1, h2, h3⟩
  unfold srcOk at hk
  split at hk
  · rename_i s
    have hd : C.P.underlying t2 = some .string := hd
    obtain rfl : sz = 1 := by simpa using hk
    obtain rfl := SRep.str_inv hx
    simp only [srcF, Option.some.injEq, Prod.mk.injEq] at hs
    obtain ⟨rfl, rfl⟩ := hs
    have hrb := repl_bytes F w s.data.toList
    refine ⟨F, fp, [], byteCells s, h, ?_, ?_, fun _ h => h, fun _ _ h => h, rfl⟩
    · have e : (s.data.toList.map fun b => AV.int .u8 b.toNat).length = s.size := by rw [List.length_map, Array.length_toList]; rfl
      rw [e]
      exact Src.ofString w hd s
    · rw [hrb.flat]; exact hrb
  · rename_i el tg clip l
    have hd : C.P.underlying t2 = some (.slice el) := hd
    cases tg with
    | none =>
      simp only [srcF, Option.some.injEq, Prod.mk.injEq] at hs
      obtain ⟨rfl, rfl⟩ := hs
      exact slice hx ⟨el, hd⟩ h (fun _ h => h) (fun _ _ h => h) rfl
    | some p =>
      obtain ⟨e, wv, oo⟩ := p
      simp only [srcF, Option.bind_eq_bind, Option.bind_eq_some_iff] at hs
      obtain ⟨_, hv, hs⟩ := hs
      split at hs
      · rename_i hsc
        cases hs
        obtain ⟨hl, hw⟩ := ensure_some hv
        have hr := (hx.2 hl hw).1
        have hsc' := all_flat (l := news) (p := Vm.scal) hsc
        have hfr : ∀ l : List AV, l.all scalE = true → (l.map froize).flatMap leaves = l.flatMap leaves := by
          intro l hl
          rw [flat_froize]
          have := all_flat (l := l) (p := Vm.scal) hl
          refine (List.map_congr_left (g := id) fun x hx => scal_froize (List.all_eq_true.1 this x hx)).trans (by simp)
        obtain ⟨A, c, us, rfl, _, _, hul, hA, hu⟩ := hr.froRange (sz := sz) (fun z hz => by
          obtain ⟨z', hz', rfl⟩ := List.mem_map.1 hz
          rw [leaves_froize]; simpa using hsz z' hz')
        rw [List.length_map] at hul ⊢
        rw [hfr news hsc] at hu
        exact ⟨F, fp, [], us, h, src_slice hd hul hA hu.ones, hu.scal hsc' F w, fun _ h => h, fun _ _ h => h, rfl⟩
      · cases hs
        have hc : σ.close (.fro (some (e, wv, oo)) clip l) = some (.fro none clip (l.map froize), if (σ.en e).frz then σ else σ.freeze e) := by
          simp only [St.close, hv, Option.bind_eq_bind, Option.bind_some]
        obtain ⟨F', fp', f, r1, r2, r3⟩ := h.close (show SLeaf F w σ.en μ fp v (.fro (some (e, wv, oo)) clip l) from hx) hc
        obtain rfl := r2.fro_inv.1
        exact slice r2 ⟨el, hd⟩ r1 r3.1 r3.2.1 r3.2.2
  · rename_i el e g off len clip
    have hd : C.P.underlying t2 = some (.slice el) := hd
    simp only [srcF, Option.bind_eq_bind, Option.bind_eq_some_iff] at hs
    obtain ⟨E, hE, _, hb, hs⟩ := hs
    obtain ⟨hl, hg, rfl⟩ := cur_some hE
    have hb := ensure_some hb
    split at hs
    · rename_i hcase
      obtain ⟨_, hfz, hlen0⟩ := hcase
      simp only [Option.some.injEq, Prod.mk.injEq] at hs
      obtain ⟨hn, rfl⟩ := hs
      obtain ⟨A, c, us1, f0, rfl, hlc, _, _, _, _, _, _, _, hAc⟩ := h.hdRange hx hl hg hb
      obtain ⟨b, cur, et, fr, hμ, rfl, hb1, _⟩ := hAc (by omega)
      obtain ⟨hes, hent⟩ := h.ent e hl
      rcases hent with ⟨e1, _⟩ | ⟨b', cur', et', fr', us, f1, e1, e2, e3, e4, e5⟩ | hm
      rotate_right 1
      · exact (hm.noCells (by assumption) (by assumption)).elim
      · rw [hμ] at e1; cases e1
      rw [hμ] at e1; cases e1
      rw [hb1] at e2; cases e2
      obtain ⟨rfl, hfp⟩ : fr = (0, 0) ∧ fp e = b :: f1 := by
        rcases e5 with ⟨e10, _⟩ | ⟨_, q1, q2⟩
        · rw [hfz] at e10; cases e10
        · exact ⟨q1, q2⟩
      have hlen : (((σ.en e).elems.drop off).take len).length = len := by simp; omega
      have hze : (σ.en e).sz = sz ∨ news = [] := by
        cases hx0 : news with
        | nil => exact .inr rfl
        | cons z l =>
          refine .inl ?_
          have hz : z ∈ news := by rw [hx0]; simp
          rw [← hsz z hz]
          rw [← hn] at hz
          exact (hes z (List.mem_of_mem_drop (List.mem_of_mem_take hz))).symm
      have hze : (σ.en e).sz = sz := hze.resolve_right (fun h0 => by rw [h0] at hn; rw [hn] at hlen; simp at hlen; omega)
      obtain ⟨fa, fb, rfl, h1, h2⟩ := e4.take (off * (σ.en e).sz)
      obtain ⟨fc, fd, rfl, h3, h4⟩ := h2.take (len * (σ.en e).sz)
      have hflat : (((σ.en e).elems.flatMap leaves).drop (off * (σ.en e).sz)).take (len * (σ.en e).sz) = news.flatMap leaves := by
        rw [← flat_drop off hes, ← flat_take len (fun a ha => hes a (List.mem_of_mem_drop ha)), hn]
      rw [hflat] at h3
      have hul := e4.length
      rw [flat_length hes] at hul
      have hmul : (off + len) * (σ.en e).sz ≤ (σ.en e).elems.length * (σ.en e).sz := Nat.mul_le_mul_right _ hb
      rw [Nat.add_mul] at hmul
      have hlen' : ((us.drop (off * (σ.en e).sz)).take (len * (σ.en e).sz)).length = len * (σ.en e).sz := by simp; omega
      have hnd0 := h.nodup e hl
      rw [hfp] at hnd0
      have hnd1 := (List.nodup_cons.1 hnd0).2
      have hap : ∀ x ∈ L, x ∉ fa ++ (fc ++ fd) := fun x hx hx2 => (h.loose x hx).2.2.2 e hl (by rw [hfp]; exact List.mem_cons_of_mem _ hx2)
      have hperm : ((fa ++ fd) ++ (fc ++ L)).Perm ((fa ++ (fc ++ fd)) ++ L) := by
        rw [← List.append_assoc (fa ++ fd)]
        refine List.Perm.append_right L ?_
        rw [List.append_assoc]
        exact (List.perm_append_comm).append_left fa
      have hnd2 : ((fa ++ (fc ++ fd)) ++ L).Nodup := List.nodup_append.2 ⟨hnd1, h.looseNodup, fun x hx y hy hxy => by subst hxy; exact hap x hy hx⟩
      have hw := h.write (w' := w) (cur' := cur) (us' := us) (f' := fa ++ fd) (L' := fc ++ L) (E' := { σ.en e with wr := (σ.en e).wr + 1, elems := (σ.en e).elems.take off ++ news.map holeE ++ (σ.en e).elems.drop (off + len) }) hl hfz hμ hb1 hfp hl hfz rfl (Nat.le_refl _) (Nat.lt_succ_self _) (fun _ => by
          rw [← hn]; simp; omega)
        hb1 rfl (fun _ _ => rfl) rfl rfl rfl rfl (fun y hy => by
          show _ = (σ.en e).sz
          rcases List.mem_append.1 hy with hy | hy
          · rcases List.mem_append.1 hy with hy | hy
            · exact hes y (List.mem_of_mem_take hy)
            · obtain ⟨z, hz, rfl⟩ := List.mem_map.1 hy
              rw [leaves_holeE, List.length_map, hze]
              exact hsz z hz
          · exact hes y (List.mem_of_mem_drop hy)) e3 (by
          show RepL F w us (((σ.en e).elems.take off ++ news.map holeE ++ (σ.en e).elems.drop (off + len)).flatMap leaves) _
          rw [List.flatMap_append, List.flatMap_append, flat_holeE, flat_take off hes, flat_drop (off + len) hes, Nat.add_mul]
          have hus : us = us.take (off * (σ.en e).sz) ++ ((us.drop (off * (σ.en e).sz)).take (len * (σ.en e).sz) ++ (us.drop (off * (σ.en e).sz)).drop (len * (σ.en e).sz)) := by rw [List.take_append_drop, List.take_append_drop]
          rw [hus]
          have h5 := (h1.append (h3.holes.append h4))
          simpa [List.append_assoc, List.drop_drop] using h5) (fun b hb => by
          exact hperm.mem_iff.1 hb) (hperm.nodup_iff.2 hnd2)
      rw [hn]
      refine ⟨F, _, fc, _, hw.1, ?_, h3, fun _ h => h, fun _ _ h => h.step hw.2, rfl⟩
      have hnl : news.length = len := by rw [← hn]; exact hlen
      rw [hnl]
      refine src_slice hd (by rw [hlen', hze]) (fun _ => ⟨b, _, rfl, fun q hq => ?_⟩) h3.ones
      rw [hlen'] at hq
      rw [cell_of_row w b _ cur et (0, 0) hb1, e3 _ (by omega), List.getElem?_take, if_pos hq, List.getElem?_drop]
    split at hs
    · rename_i hcase
      cases hs
      obtain ⟨A, c, us, f, rfl, _, _, _, hul, hA, hu, _, hfz, _⟩ := h.hdRange hx hl hg hb
      have hlen : (((σ.en e).elems.drop off).take len).length = len := by simp; omega
      have hes := (h.ent e hl).1
      have husz : us.length = len * sz := by
        have := hu.length
        rw [flat_length hsz, hlen] at this
        exact this
      have hf : f = [] := by
        rcases Bool.or_eq_true_iff.1 hcase with hc | hc
        · exact hfz hc
        · exact hu.noOwn_nil (all_flat hc)
      subst hf
      exact ⟨F, fp, [], us, h, by rw [hlen]; exact src_slice hd husz hA hu.ones, hu, fun _ h => h, fun _ _ h => h, rfl⟩
    · simp only [Option.bind_eq_some_iff] at hs
      obtain ⟨_, hoff, hs⟩ := hs
      obtain ⟨rfl, rfl⟩ := ensure_some hoff
      simp only [Option.some.injEq, Prod.mk.injEq] at hs
      obtain ⟨hn, rfl⟩ := hs
      have hn : news = (σ.en e).elems := by rw [← hn]; simp
      subst hn
      have hfz : (σ.en e).frz = false := by rename_i hh; simp at hh; exact hh.1
      have hc : σ.close (.hd e g 0 (σ.en e).elems.length clip) = some (.own (σ.en e).sz (σ.en e).elems, σ.kill e) := by
        simp only [St.close, hE, Option.bind_eq_bind, Option.bind_some, hfz, Bool.false_eq_true, if_false]
        simp [ensure]
      obtain ⟨F', fp', f, r1, r2, r3⟩ := h.close (show SLeaf F w σ.en μ fp v (.hd e g 0 (σ.en e).elems.length clip) from hx) hc
      obtain ⟨A, c, us, f1, rfl, _, hul, hA, hu, hsub⟩ := r2.ownRange hsz
      exact ⟨F', fp', f1, us, r1.drop (hsub.append_right L), src_slice hd hul hA hu.ones, hu, r3.1, r3.2.1, r3.2.2⟩
  · cases hk
theorem intsOf_some : ∀ {l : List AV} {ns : List Int}, intsOf l = some ns → l = ns.map (fun n => .int .u8 n)
  | [], ns, h => by cases h; rfl
  | x :: l, ns, h => by
    cases x with
    | int k n =>
      cases k <;> simp only [intsOf, Option.map_eq_some_iff, reduceCtorEq] at h
      obtain ⟨ms, hm, rfl⟩ := h
      rw [intsOf_some hm]; rfl
    | _ => simp [intsOf] at h
theorem RepL.bytes {f : List Nat} : ∀ {ns : List Int} {us : List Value}, RepL F w us ((ns.map fun n => AV.int .u8 n).flatMap leaves) f → us = ns.map (Value.int .u8)
  | [], us, h => by cases h; rfl
  | n :: ns, us, h => by
    simp only [List.map_cons, List.flatMap_cons, leaves, List.cons_append, List.nil_append] at h
    cases h with
    | int t => rw [RepL.bytes t]; rfl
theorem op_convS (hC : CfgOk C) (h : Rel n w0 F0 S0 G F μ fp [] σ a w) {s t : TypeId} {x : Operand} {r : AV} (ho : o.op = .convert s t x) (hr : convS C σ s t (σ.get x) = some r) :
    OpPure C F μ fp σ o a w (σ.put o.dst r) := by
  simp only [convS, Option.bind_eq_bind, Option.bind_eq_some_iff] at hr
  obtain ⟨T, hT, U, hU, hr⟩ := hr
  have hTd := (hC.tt s T hT).desc
  have hUd := (hC.tt t U hU).desc
  have hx := h.get x
  split at hr
  case h_2 => cases hr
  rename_i el h1 h2
  rw [h1] at hTd
  rw [h2] at hUd
  have hTd : C.P.underlying s = some (.slice el) := hTd
  have hUd : C.P.underlying t = some .string := hUd
  simp only [Option.bind_eq_some_iff] at hr
  obtain ⟨V, hV, hr⟩ := hr
  have hVd := (hC.tt el V hV).desc
  split at hr
  case h_2 => cases hr
  rename_i h4
  rw [h4] at hVd
  have hVd : C.P.underlying el = some (.int .u8) := hVd
  simp only [Option.bind_eq_some_iff, Option.some.injEq] at hr
  obtain ⟨l, hl, ns, hns, rfl⟩ := hr
  obtain rfl := intsOf_some hns
  have key : ∃ A len c, a.eval x = .slice A len c ∧ len = ns.length ∧ (0 < ns.length → ∃ b o', A = some ⟨b, o', none⟩ ∧ ∀ q, q < ns.length → w.cell? ⟨b, o' + q, none⟩ = (ns.map (Value.int .u8))[q]?) := by
    generalize σ.get x = y at hx hl
    unfold bytesL at hl
    split at hl
    · rename_i e g off len clip
      simp only [Option.bind_eq_bind, Option.bind_eq_some_iff, Option.some.injEq] at hl
      obtain ⟨E, hE, _, hb, hel⟩ := hl
      obtain ⟨hlv, hg, rfl⟩ := cur_some hE
      obtain ⟨hb, hsz⟩ := ensure_some hb
      obtain ⟨A, c, us, f, hv, hlc, _, _, hul, hA, hu, _⟩ := h.hdRange hx hlv hg hb
      rw [hel] at hu
      obtain rfl := RepL.bytes hu
      have hlen : len = ns.length := by
        have := congrArg List.length hel
        simp at this; omega
      exact ⟨A, len, c, hv, hlen, fun h0 => by simpa using hA (by simpa using h0)⟩
    · rename_i clip l
      cases hl
      obtain ⟨A, c, us, hv, _, _, hul, hA, hu⟩ := RepL.froRange (sz := 1) (show RepL F w [a.eval x] [.fro none clip _] [] from hx) (fun z hz => by obtain ⟨m, _, rfl⟩ := List.mem_map.1 hz; rfl)
      obtain rfl := RepL.bytes hu
      exact ⟨A, _, c, hv, by simp, fun h0 => by simpa using hA (by simpa using h0)⟩
    · cases hl
  obtain ⟨A, len, c, hv, hlen, hA⟩ := key
  refine .mk' (v := .string (textOf ns)) (fun w' hk => ?_) (RepL.str .nil)
  simp only [execOp, ho, hv, Sem.run_bind, run_convert_bytes_string w' s t el A len c hTd hVd hUd]
  cases A with
  | none =>
    have h0 : ns = [] := by
      cases ns with
      | nil => rfl
      | cons m ms => obtain ⟨b, o', he, _⟩ := hA (by simp); cases he
    subst h0
    simp [Conv.bytesToString, textOf, Sem.run_pure, Result.andThen]
  | some A =>
    have hld : (loadCells A len).run C.P w' = .ok (ns.map (Value.int .u8)).toArray w' := by
      have := run_loadCells_list (P := C.P) w' A (ns.map (Value.int .u8)) (fun j v hj => by
        have hjl : j < ns.length := by simpa using (List.getElem?_eq_some_iff.1 hj).1
        obtain ⟨b, o', he, hcell⟩ := hA (by omega)
        cases he
        have hc := hcell j hjl
        rw [hj] at hc
        have hb : b < w.heap.size := by
          unfold World.cell? at hc
          by_cases hlt : b < w.heap.size
          · exact hlt
          · have hno : w.heap[b]? = none := Array.getElem?_eq_none (by omega)
            simp only [hno] at hc
            cases hc
        rw [Addr.add_lit, cell?_congr (w := w) (w' := w') (hk.block b hb (fun h => h)), hc])
      simpa [hlen] using this
    rw [run_bytesToString w' A len c ns hld]
    simp [textOf, Sem.run_pure, Result.andThen]
theorem op_load (hC : CfgOk C) (h : Rel n w0 F0 S0 G F μ fp [] σ a w) {t : TypeId} {x : Operand} {r : AV} (ho : o.op = .load t x) (hr : loadF C σ t (σ.get x) = some r) :
    OpPure C F μ fp σ o a w (σ.put o.dst r) := by
  by_cases hnp : ∀ e wv i j k q, σ.get x ≠ .np e wv i j k q
  · exact op_load0 hC h ho hnp hr
  obtain ⟨e, wv, i, j, k, q, hxe⟩ : ∃ e wv i j k q, σ.get x = .np e wv i j k q := by
    refine Classical.byContradiction fun hn => hnp fun e wv i j k q he => hn ⟨e, wv, i, j, k, q, he⟩
  have hx := h.get x
  rw [hxe] at hx hr
  simp only [loadF, Option.bind_eq_bind, Option.bind_eq_some_iff] at hr
  obtain ⟨T, hT, _, hv, _, hfz, z, hz, ⟨sz, l⟩, hown, y, hy, _, hlen, _, hno, hr⟩ := hr
  cases hr
  dsimp only at hy hlen hno
  obtain ⟨hl, hw⟩ := ensure_some hv
  have hfz := ensure_some hfz
  have hlen := ensure_some hlen
  have hno := ensure_some hno
  have hT' := hC.tt t T hT
  have hx' : SLeaf F w σ.en μ fp (a.eval x) (.np e wv i j k q) := hx
  obtain ⟨hyl, b, o', cur, et, us, f, hpv, hblk, hcell, hrep⟩ := load_in h hx' hl hw hfz hz hown hy
  obtain ⟨fa, fb, rfl, _, h2⟩ := hrep.take q
  obtain ⟨fc, fd, rfl, h3, _⟩ := h2.take T.sz
  have hvl := h3.length
  rw [hlen] at hvl
  have hul := hrep.length
  have hc : ∀ p, p < ((us.drop q).take T.sz).length → w.cell? ⟨b, o' + q + p, none⟩ = ((us.drop q).take T.sz)[p]? := fun p hp => by
    rw [List.length_take, List.length_drop] at hp
    rw [cell_of_row w b _ cur et (0, 0) hblk, Nat.add_assoc, hcell _ (by omega), List.getElem?_take, if_pos (by omega), List.getElem?_drop]
  refine .mk' (v := if T.desc.isStruct then .agg ((us.drop q).take T.sz).toArray else ((us.drop q).take T.sz).headD undef) (fun w' hk => ?_) (SRep.mkV (h3.all2 hno) fun _ hx => ?_)
  · have hc' : ∀ p, p < ((us.drop q).take T.sz).length → w'.cell? ⟨b, o' + q + p, none⟩ = ((us.drop q).take T.sz)[p]? := fun p hp => by
      have h1 := hc p hp
      have hb := World.block_lt_of_cell? w ⟨b, o' + q + p, none⟩ (h1.trans (List.getElem?_eq_getElem hp))
      rw [cell?_congr (hk.block b hb (fun h => h)), h1]
    simp only [execOp, ho, hpv, Sem.run_bind, run_loadAt hT' hvl hc', Result.andThen_ok, Sem.run_pure]
  · have := congrArg List.length hx
    have hp := hT'.pos.1
    rw [hlen, List.length_nil] at this; omega
end
end Go.Vm
end
section
/- Appends. -/
namespace Go.Vm
section
variable {C : Cfg} {n : Nat} {w0 : World} {F0 S0 F : Nat → Prop} {G : Value → AV → Prop} {μ : Nat → Option Nat} {fp : Nat → List Nat} {L : List Nat} {σ σ' : St} {a : Act} {w w' : World} {o : Oper}
theorem run_append_zero {t t2 el ty : TypeId} {U : TI} (ht : C.P.underlying t = some (.slice el)) (hU : TIok C.P el U) {base : Option Addr} {sLen sCap : Nat} {x : Value} {us : List Value} (hs : Src C.P U.sz t2 x 0 us w) (hc : sLen ≤ sCap) :
    (Builtin.append_ #[t, t2] ty #[.slice base sLen sCap, x]).run C.P w = .ok (.slice base sLen sCap) w := by
  obtain ⟨i, z, hi, hsz, _⟩ := hU.info
  obtain rfl : us = [] := List.length_eq_zero_iff.1 (by rw [hs.newsLen]; simp)
  have hcl := hs.cells
  rcases hs.kind with ⟨e', hk⟩ | hk <;> cases base <;> simp [Builtin.append_, run_underlying ht, run_underlying hk, sizeOf, typeInfo, hi, hsz, hs.len, hc, hcl, storeCells]
theorem run_append_room {t t2 el ty : TypeId} {U : TI} (ht : C.P.underlying t = some (.slice el)) (hU : TIok C.P el U) {b off sLen sCap m : Nat} {x : Value} {us : List Value} (hs : Src C.P U.sz t2 x m us w) (hroom : sLen + m ≤ sCap)
    {cur : Array Value} {et : TypeId} (hb : w.heap[b]? = some (.cells cur et (0, 0))) (hcs : off + sLen * U.sz + us.length ≤ cur.size) :
    (Builtin.append_ #[t, t2] ty #[.slice (some ⟨b, off, none⟩) sLen sCap, x]).run C.P w = .ok (.slice (some ⟨b, off, none⟩) (sLen + m) sCap) (w.setCells b (off + sLen * U.sz) us) := by
  obtain ⟨i, z, hi, hsz, _⟩ := hU.info
  rw [← hsz] at hs hcs ⊢
  exact run_append_room_src w t t2 ty el i ht hi b off sLen sCap x m us hs hroom (fun j hj => by
    rw [cell_of_row w b _ cur et (0, 0) hb, Array.getElem?_eq_getElem (by omega)]; rfl) (fun j hj => by simp [World.frozen?, hb])
theorem run_append_grow {t t2 el ty : TypeId} {U : TI} (ht : C.P.underlying t = some (.slice el)) (hU : TIok C.P el U) {A : Option Addr} {sLen sCap m : Nat} {x : Value} {us olds : List Value} (hs : Src C.P U.sz t2 x m us w) (hol : olds.length = sLen * U.sz)
    (hA : 0 < olds.length → ∃ b o', A = some ⟨b, o', none⟩ ∧ ∀ q, q < olds.length → w.cell? ⟨b, o' + q, none⟩ = olds[q]?) (hg : sCap < sLen + m) (hby : (sLen + m) * U.bytes ≤ 140737488355328) (h63 : sLen + m ≤ 140737488355328) :
    ∃ cur G w', (Builtin.append_ #[t, t2] ty #[.slice A sLen sCap, x]).run C.P w = .ok (.slice (some ⟨w.heap.size, 0, none⟩) (sLen + m) G) w' ∧ w'.heap = w.heap.push (.cells cur el) ∧ w'.os = w.os ∧ w'.tape = w.tape ∧ w'.output = w.output ∧
      sLen + m ≤ G ∧ cur.size = G * U.sz ∧ ∀ q, q < (olds ++ us).length → cur[q]? = (olds ++ us)[q]? := by
  obtain ⟨i, z, hi, hsz, hbz, hz, hzs, _⟩ := hU.info
  have hs' := hs
  rw [← hsz] at hs hol
  have := run_append_grow_src (P := C.P) w t t2 ty el i z ht hi hz A sLen sCap olds (run_first (w := w) hol hA rfl) x m us hs hg (by omega) (growslice_fits hg (by rw [hbz]; exact hby))
  have hG := grownCap_ge w (sLen + m) sCap el
  refine ⟨_, _, _, this, rfl, rfl, rfl, rfl, hG, ?_, fun q hq => ?_⟩
  · have hn := hs'.newsLen
    have e : (grownCap w (sLen + m) sCap el) * U.sz = (sLen + m) * U.sz + (grownCap w (sLen + m) sCap el - (sLen + m)) * U.sz := by rw [← Nat.add_mul]; congr 1; omega
    rw [Array.size_append]
    simp only [Builtin.zeroCells, Array.size_map, Array.size_range, hzs]
    rw [hsz] at hol
    rw [e, Nat.add_mul, List.size_toArray, List.length_append, hol, hn]
  · rw [Array.getElem?_append_left (by simpa using hq)]; simp
theorem Rel.bump (h : Rel n w0 F0 S0 G F μ fp L σ a w) {e : Nat} {E' : Ent} (hl : (σ.en e).live = true) (hE : E'.live = true ∧ E'.frz = (σ.en e).frz ∧ E'.sz = (σ.en e).sz ∧ E'.elems = (σ.en e).elems) (hgen : (σ.en e).gen ≤ E'.gen) (hwr : (σ.en e).wr < E'.wr) :
    Rel n w0 F0 S0 G F μ fp L (σ.ent e E') a w := by
  obtain ⟨h1, h2, h3, h4⟩ := hE
  have en' : ∀ e', e' ≠ e → (σ.ent e E').en e' = σ.en e' := fun e' he => by simp [St.ent, upd, he]
  have ene : (σ.ent e E').en e = E' := by simp [St.ent, upd]
  have live' : ∀ e', ((σ.ent e E').en e').live = true → (σ.en e').live = true := fun e' h' => by
    by_cases he : e' = e
    · subst he; exact hl
    · rwa [en' e' he] at h'
  refine h.move (en' := (σ.ent e E').en) (F' := F) (w' := w) (μ' := μ) (fp' := fp) ⟨fun _ h => h, fun _ _ => rfl, fun e' => ?_, fun e' => ?_, fun e' h' hg => ?_, fun e' h' hg => ?_⟩ (KeptS.refl _ _) h.free (fun e' h' => ?_) (fun e' h' => h.own e' (live' e' h')) (fun e' h' => h.nodup e' (live' e' h')) (fun e1 e2 k1 k2 => h.apart e1 e2 (live' _ k1) (live' _ k2))
    (fun b hb => ⟨(h.loose b hb).1, (h.loose b hb).2.1, (h.loose b hb).2.2.1, fun e' h' => (h.loose b hb).2.2.2 e' (live' e' h')⟩) h.looseNodup
  · by_cases he : e' = e
    · subst he; rw [ene]; exact hgen
    · rw [en' e' he]; exact Nat.le_refl _
  · by_cases he : e' = e
    · subst he; rw [ene]; omega
    · rw [en' e' he]; exact Nat.le_refl _
  · refine ⟨live' e' h', rfl, ?_, ?_, fun b _ cur _ _ h => ⟨cur, h, rfl⟩⟩
    · by_cases he : e' = e
      · subst he; rw [ene, h3]
      · rw [en' e' he]
    · by_cases he : e' = e
      · subst he; rw [ene, h4]; exact Nat.le_refl _
      · rw [en' e' he]; exact Nat.le_refl _
  · by_cases he : e' = e
    · subst he; rw [ene] at hg; omega
    · rw [en' e' he] at h' ⊢
      exact ⟨h', fun b hb => ⟨rfl, .inl hb⟩, fun hf => ⟨hf, rfl, rfl, rfl, fun _ _ => rfl⟩⟩
  · by_cases he : e' = e
    · subst he
      have := h.ent e' hl
      rw [ene]
      unfold EntRep MapEnt at this ⊢
      rw [h2, h3, h4]
      exact this
    · rw [en' e' he] at h' ⊢; exact h.ent e' h'
theorem flat_over {sz : Nat} {l news : List AV} (k : Nat) (hl : ∀ x ∈ l, (leaves x).length = sz) (hn : ∀ x ∈ news, (leaves x).length = sz) :
    (l.take k ++ news ++ l.drop (k + news.length)).flatMap leaves = (l.flatMap leaves).take (k * sz) ++ news.flatMap leaves ++ (l.flatMap leaves).drop (k * sz + (news.flatMap leaves).length) := by
  rw [List.flatMap_append, List.flatMap_append, flat_take k hl, flat_drop _ hl, flat_length hn, Nat.add_mul]
end
end Go.Vm
end
section
/- The append. -/
namespace Go.Vm
section
variable {C : Cfg} {n : Nat} {w0 : World} {F0 S0 F : Nat → Prop} {G : Value → AV → Prop} {μ : Nat → Option Nat} {fp : Nat → List Nat} {L : List Nat} {σ σ' : St} {a : Act} {w w' : World} {o : Oper}
theorem Rel.regrow {f f2 : List Nat} (h : Rel n w0 F0 S0 G F μ fp (f ++ L) σ a w) {e : Nat} (hl : (σ.en e).live = true) {l : List AV} {sz : Nat} {us : List Value} {cur : Array Value} {et : TypeId} (hsub : f2.Sublist (fp e))
    (hh : w'.heap = w.heap.push (.cells cur et)) (ho : w'.os = w.os) (ht : w'.tape = w.tape) (hp : w'.output = w.output) (hsz : ∀ x ∈ l, (leaves x).length = sz) (hcur : ∀ q, q < us.length → cur[q]? = us[q]?) (hr : RepL F w us (l.flatMap leaves) (f2 ++ f)) :
    Rel n w0 F0 S0 G F (upd μ e (some w.heap.size)) (upd fp e (w.heap.size :: (f2 ++ f))) L ((σ.kill e).fresh e sz l) a w' := by
  have r1 := (h.kill e hl).1.drop (L' := (f2 ++ f) ++ L) (by rw [List.append_assoc]; exact hsub.append_right _)
  exact (r1.newBlock e sz l hh ho ht hp hsz hcur hr).1
theorem kill_fresh {e sz : Nat} {l : List AV} (hl : (σ.en e).live = true) (hf : (σ.en e).frz = false) (hs : (σ.en e).sz = sz) :
    (σ.kill e).fresh e sz l = σ.ent e { (σ.en e) with gen := (σ.en e).gen + 1, wr := (σ.en e).wr + 1, elems := l } := by
  simp only [St.kill, St.fresh, St.ent, upd_upd, upd_same]
  rw [hl, hf, hs]
theorem append_fro {F1 : Nat → Prop} {fp1 : Nat → List Nat} {f : List Nat} {σ1 : St} {t t2 el ty : TypeId} {U : TI} {news : List AV} {us : List Value} {vx vy : Value} (r1 : Rel n w0 F0 S0 G F1 μ fp1 f σ1 a w) {od : Option Nat} (hd : ∀ k, od = some k → k < n) (hTd : C.P.underlying t = some (.slice el)) (hU' : TIok C.P el U) (hs : Src C.P U.sz t2 vy news.length us w)
    (hus : RepL F1 w us (news.flatMap leaves) f) (hns : ∀ z ∈ news, (leaves z).length = U.sz) {l : List AV} (hx : SRep F1 w σ1.en μ fp1 vx (.fro none true l))
    (h1 : l = [] ∨ news ≠ []) (h2 : ∀ z ∈ l, (leaves z).length = U.sz) (h3 : (l.length + news.length) * U.bytes ≤ 140737488355328) (h4 : l.length + news.length ≤ 140737488355328)
    (hr : newArr σ1 od U.sz (l ++ news) (l.length + news.length) false = some σ') : ∃ u w', (Builtin.append_ #[t, t2] ty #[vx, vy]).run C.P w = .ok u w' ∧ ∃ F' μ' fp', Rel n w0 F0 S0 G F' μ' fp' [] σ' (a.put od u) w' := by
  have hpos := hU'.pos.1
  have hnl := hs.newsLen
  have hnf := flat_length hns
  obtain ⟨A, c, ol, hv, hlc, hc, hol, hA, hu⟩ := RepL.froRange (show RepL F1 w [vx] [.fro none true l] [] from hx) h2
  obtain rfl := hc rfl
  cases hdd : od with
  | none => rw [hdd] at hr; cases hr
  | some d =>
    rw [hdd] at hr
    by_cases hn0 : news = []
    · subst hn0
      obtain rfl : l = [] := h1.resolve_right (by simp)
      obtain rfl : us = [] := List.length_eq_zero_iff.1 (by rw [hnl]; simp)
      obtain rfl : f = [] := by cases hus; rfl
      obtain ⟨F', μ', fp', q⟩ := r1.newNilR (A := A) (hd d hdd) hr
      refine ⟨_, _, ?_, F', μ', fp', q⟩
      rw [hv]
      exact run_append_zero hTd hU' hs (Nat.le_refl _)
    · have hn1 : 0 < news.length := List.length_pos_iff.2 hn0
      obtain ⟨cur, G, w', hrun, hh, hos, htp, hout, hG, hcs, hcur⟩ := run_append_grow (ty := ty) hTd hU' hs hol hA (sCap := l.length) (by omega) h3 h4
      obtain ⟨F', μ', fp', q⟩ := r1.newArrR (hd d hdd) (us := ol ++ us) (cur := cur) (et := el) (c := G) (fun z hz => by
        rcases List.mem_append.1 hz with hz | hz
        · exact h2 z hz
        · exact hns z hz) (by rw [List.flatMap_append]; simpa using hu.append hus) hcur hG (by simp) (by simpa using hG) (by rw [hcs]; exact Nat.le_refl _) hh hos htp hout hr
      refine ⟨_, _, ?_, F', μ', fp', q⟩
      rw [hv]; exact hrun
theorem append_clip {F1 : Nat → Prop} {fp1 : Nat → List Nat} {f : List Nat} {σ1 : St} {t t2 el ty : TypeId} {U : TI} {news : List AV} {us : List Value} {vx vy : Value} (r1 : Rel n w0 F0 S0 G F1 μ fp1 f σ1 a w) {od : Option Nat} (hd : ∀ k, od = some k → k < n) (hTd : C.P.underlying t = some (.slice el)) (hU' : TIok C.P el U) (hs : Src C.P U.sz t2 vy news.length us w)
    (hus : RepL F1 w us (news.flatMap leaves) f) (hns : ∀ z ∈ news, (leaves z).length = U.sz) {e g off len : Nat} (hx : SRep F1 w σ1.en μ fp1 vx (.hd e g off len true)) (hl : (σ1.en e).live = true) (hg : (σ1.en e).gen = g) (_hfz : (σ1.en e).frz = false) (hsz : (σ1.en e).sz = U.sz) (hlen : off + len ≤ (σ1.en e).elems.length)
    (h3 : (len + news.length) * U.bytes ≤ 140737488355328) (h4 : len + news.length ≤ 140737488355328)
    (hn0 : news ≠ []) (hno : (((σ1.en e).elems.drop off).take len).all noOwnE = true) (hr : newArr σ1 od U.sz (((σ1.en e).elems.drop off).take len ++ news) (len + news.length) false = some σ') : ∃ u w', (Builtin.append_ #[t, t2] ty #[vx, vy]).run C.P w = .ok u w' ∧ ∃ F' μ' fp', Rel n w0 F0 S0 G F' μ' fp' [] σ' (a.put od u) w' := by
  have hpos := hU'.pos.1
  have hnl := hs.newsLen
  have hnf := flat_length hns
  obtain ⟨A, c, ol, fo, hv, hlc, hcl, hnc, hol, hA, hu, hsub, _, hblk⟩ := r1.hdRange (show SLeaf F1 w σ1.en μ fp1 vx (.hd e g off len true) from hx) hl hg hlen
  rw [hsz] at hol
  have hes := (r1.ent e hl).1
  have hes' := hes
  rw [hsz] at hes'
  obtain rfl := hcl rfl
  have hn1 : 0 < news.length := List.length_pos_iff.2 hn0
  obtain rfl : fo = [] := hu.noOwn_nil (all_flat hno)
  obtain ⟨cur, G, w', hrun, hh, hos, htp, hout, hG, hcs, hcur⟩ := run_append_grow (ty := ty) hTd hU' hs hol hA (sCap := c) (by omega) h3 h4
  have hcl' : (((σ1.en e).elems.drop off).take c).length = c := by simp; omega
  cases hdd : od with
  | none => rw [hdd] at hr; cases hr
  | some d =>
    rw [hdd] at hr
    obtain ⟨F', μ', fp', q⟩ := r1.newArrR (hd d hdd) (us := ol ++ us) (cur := cur) (et := el) (c := G) (fun z hz => by
      rcases List.mem_append.1 hz with hz | hz
      · exact hes' z (List.mem_of_mem_drop (List.mem_of_mem_take hz))
      · exact hns z hz) (by rw [List.flatMap_append]; simpa using hu.append hus) hcur hG (by simp) (by rw [List.length_append, hcl']; exact hG) (by rw [hcs]; exact Nat.le_refl _) hh hos htp hout hr
    refine ⟨_, _, ?_, F', μ', fp', q⟩
    rw [hv]; exact hrun
theorem append_none {F1 : Nat → Prop} {fp1 : Nat → List Nat} {f : List Nat} {σ1 : St} {t t2 el ty : TypeId} {U : TI} {news : List AV} {us : List Value} {vx vy : Value} (r1 : Rel n w0 F0 S0 G F1 μ fp1 f σ1 a w) {od : Option Nat} (hd : ∀ k, od = some k → k < n) (hTd : C.P.underlying t = some (.slice el)) (hU' : TIok C.P el U) (hs : Src C.P U.sz t2 vy news.length us w)
    (hus : RepL F1 w us (news.flatMap leaves) f) (hn0 : news = []) {e g off len : Nat} (hx : SRep F1 w σ1.en μ fp1 vx (.hd e g off len true)) (hl : (σ1.en e).live = true) (hg : (σ1.en e).gen = g) (hlen : off + len ≤ (σ1.en e).elems.length)
    (hr : σ' = σ1.put od (.hd e g off len true)) : ∃ u w', (Builtin.append_ #[t, t2] ty #[vx, vy]).run C.P w = .ok u w' ∧ ∃ F' μ' fp', Rel n w0 F0 S0 G F' μ' fp' [] σ' (a.put od u) w' := by
  subst hr hn0
  obtain rfl : us = [] := List.length_eq_zero_iff.1 (by rw [hs.newsLen]; simp)
  obtain rfl : f = [] := by cases hus; rfl
  obtain ⟨A, c, ol, fo, hv, hlc, _⟩ := r1.hdRange (show SLeaf F1 w σ1.en μ fp1 vx (.hd e g off len true) from hx) hl hg hlen
  refine ⟨vx, w, ?_, F1, μ, fp1, r1.putO hd hx⟩
  rw [hv]; exact run_append_zero hTd hU' hs hlc
theorem append_full {F1 : Nat → Prop} {fp1 : Nat → List Nat} {f : List Nat} {σ1 : St} {t t2 el ty : TypeId} {U : TI} {news : List AV} {us : List Value} {vx vy : Value} (r1 : Rel n w0 F0 S0 G F1 μ fp1 f σ1 a w) {od : Option Nat} (hd : ∀ k, od = some k → k < n) (hTd : C.P.underlying t = some (.slice el)) (hU' : TIok C.P el U) (hs : Src C.P U.sz t2 vy news.length us w)
    (hus : RepL F1 w us (news.flatMap leaves) f) (hns : ∀ z ∈ news, (leaves z).length = U.sz) {e g len : Nat} (hx : SRep F1 w σ1.en μ fp1 vx (.hd e g 0 len false)) (hl : (σ1.en e).live = true) (hg : (σ1.en e).gen = g) (hfz : (σ1.en e).frz = false) (hsz : (σ1.en e).sz = U.sz) (hlen : 0 + len ≤ (σ1.en e).elems.length)
    (h3 : (len + news.length) * U.bytes ≤ 140737488355328) (h4 : len + news.length ≤ 140737488355328) (hfull : 0 + len = (σ1.en e).elems.length)
    (hr : σ' = (σ1.ent e { (σ1.en e) with gen := (σ1.en e).gen + 1, wr := (σ1.en e).wr + 1, elems := (σ1.en e).elems ++ news }).put od (.hd e ((σ1.en e).gen + 1) 0 (len + news.length) false)) : ∃ u w', (Builtin.append_ #[t, t2] ty #[vx, vy]).run C.P w = .ok u w' ∧ ∃ F' μ' fp', Rel n w0 F0 S0 G F' μ' fp' [] σ' (a.put od u) w' := by
  subst hr
  have hpos := hU'.pos.1
  have hnl := hs.newsLen
  have hnf := flat_length hns
  obtain ⟨A, c, ol, fo, hv, hlc, hcl, hnc, hol, hA, hu, hsub, _, hblk⟩ := r1.hdRange (show SLeaf F1 w σ1.en μ fp1 vx (.hd e g 0 len false) from hx) hl hg hlen
  rw [hsz] at hol
  have hes := (r1.ent e hl).1
  have hes' := hes
  rw [hsz] at hes'
  have hnc := hnc rfl
  have hzero : news = [] → us = [] ∧ f = [] := fun h0 => by
    subst h0
    obtain rfl : us = [] := List.length_eq_zero_iff.1 (by rw [hnl]; simp)
    exact ⟨rfl, by cases hus; rfl⟩
  rw [Nat.zero_add] at hfull
  subst hfull
  by_cases hn0 : news = []
  · obtain ⟨rfl, rfl⟩ := hzero hn0
    subst hn0
    have rb := r1.bump (e := e) (E' := { (σ1.en e) with gen := (σ1.en e).gen + 1, wr := (σ1.en e).wr + 1, elems := (σ1.en e).elems ++ [] }) hl ⟨hl, rfl, rfl, by simp⟩ (by simp) (by simp)
    refine ⟨_, w, ?_, F1, μ, fp1, rb.putO hd (v := .slice A (σ1.en e).elems.length c) (x := .hd e ((σ1.en e).gen + 1) 0 ((σ1.en e).elems.length + 0) false) ⟨?_, fun _ _ => ⟨A, c, by simp, by simpa using hlc, by simp, fun _ => ?_, fun hc => ?_⟩⟩⟩
    · rw [hv]; exact run_append_zero hTd hU' hs hlc
    · simp [St.ent, upd]
    · simp only [St.ent, upd_same, List.append_nil]; exact hnc
    · simp only [St.ent, upd_same]; exact hblk hc
  · have hn1 : 0 < news.length := List.length_pos_iff.2 hn0
    by_cases hroom : (σ1.en e).elems.length + news.length ≤ c
    · obtain ⟨b, cur, et, fr, hμ, rfl, hb1, hb2⟩ := hblk (by clear hblk; omega)
      rw [hsz, Nat.zero_add] at hb2
      have hent := (r1.ent e hl).2
      obtain rfl : fr = (0, 0) := by
        rcases hent with ⟨e0, _⟩ | ⟨b', cur', et', fr', us', f1', e6, e7, _, _, e10⟩ | hm
        rotate_right 1
        · exact (hm.noCells (by assumption) (by assumption)).elim
        · rw [hμ] at e0; cases e0
        · rw [hμ] at e6; cases e6
          rw [hb1] at e7; cases e7
          rcases e10 with ⟨e10, _⟩ | ⟨_, e10, _⟩
          · rw [hfz] at e10; cases e10
          · exact e10
      have hmul : ((σ1.en e).elems.length + news.length) * U.sz ≤ c * U.sz := Nat.mul_le_mul_right _ hroom
      rw [Nat.add_mul] at hmul
      have hfo := flat_over (l := (σ1.en e).elems) (σ1.en e).elems.length hes' hns
      rw [List.take_length, List.drop_of_length_le (by omega), List.append_nil] at hfo
      obtain ⟨fp2, q1, q2, q3⟩ := Rel.writeRange (f := f) (L := []) (e := e) (off := (σ1.en e).elems.length * U.sz) (E' := { (σ1.en e) with gen := (σ1.en e).gen + 1, wr := (σ1.en e).wr + 1, elems := (σ1.en e).elems ++ news }) (by rw [List.append_nil]; exact r1) hl hfz hμ hb1 hus
        (by rw [flat_length hes']; exact Nat.le_refl _) (by rw [hnf]; omega) hl hfz rfl (by simp) (by simp) (by simp) (fun z hz => by
          show _ = (σ1.en e).sz
          rw [hsz]
          rcases List.mem_append.1 hz with hz | hz
          · exact hes' z hz
          · exact hns z hz) hfo
      refine ⟨_, _, ?_, F1, μ, fp2, q1.putO hd (x := .hd e ((σ1.en e).gen + 1) 0 ((σ1.en e).elems.length + news.length) false) (v := .slice (some ⟨b, 0 * (σ1.en e).sz, none⟩) ((σ1.en e).elems.length + news.length) c) ⟨?_, fun _ _ => ⟨_, _, rfl, hroom, by simp, fun _ => ?_, fun _ => ?_⟩⟩⟩
      · rw [hv]
        have := run_append_room (ty := ty) (off := 0) hTd hU' hs hroom hb1 (by rw [hnl]; omega)
        simpa using this
      · simp [St.ent, upd]
      · simpa [St.ent, upd] using hroom
      · refine ⟨b, _, et, (0, 0), hμ, by simp [St.ent, upd], q3, ?_⟩
        rw [setRow_size]
        simp only [St.ent, upd_same, Nat.zero_add, hsz]; exact hb2
    · have hu' : RepL F1 w ol ((σ1.en e).elems.flatMap leaves) fo := by simpa using hu
      obtain ⟨cur, G, w', hrun, hh, hos, htp, hout, hG, hcs, hcur⟩ := run_append_grow (ty := ty) hTd hU' hs hol hA (sCap := c) (by omega) h3 h4
      have r2 := Rel.regrow (f := f) (L := []) (f2 := fo) (by rw [List.append_nil]; exact r1) hl (l := (σ1.en e).elems ++ news) (sz := U.sz) (us := ol ++ us) hsub hh hos htp hout (fun z hz => by
        rcases List.mem_append.1 hz with hz | hz
        · exact hes' z hz
        · exact hns z hz) hcur (by rw [List.flatMap_append]; exact hu'.append hus)
      rw [kill_fresh hl hfz hsz] at r2
      refine ⟨_, w', ?_, F1, _, _, r2.putO hd (x := .hd e ((σ1.en e).gen + 1) 0 ((σ1.en e).elems.length + news.length) false) (v := .slice (some ⟨w.heap.size, 0, none⟩) ((σ1.en e).elems.length + news.length) G) ⟨?_, fun _ _ => ⟨_, _, rfl, hG, by simp, fun _ => ?_, fun _ => ?_⟩⟩⟩
      · rw [hv]; exact hrun
      · simp [St.ent, upd]
      · simpa [St.ent, upd] using hG
      · refine ⟨w.heap.size, cur, el, (0, 0), by simp [upd], by simp, by rw [hh]; simp, ?_⟩
        simp only [St.ent, upd_same, hsz, hcs, Nat.zero_add]; exact Nat.le_refl _
theorem append_over {F1 : Nat → Prop} {fp1 : Nat → List Nat} {f : List Nat} {σ1 : St} {t t2 el ty : TypeId} {U : TI} {news : List AV} {us : List Value} {vx vy : Value} (r1 : Rel n w0 F0 S0 G F1 μ fp1 f σ1 a w) {od : Option Nat} (hd : ∀ k, od = some k → k < n) (hTd : C.P.underlying t = some (.slice el)) (hU' : TIok C.P el U) (hs : Src C.P U.sz t2 vy news.length us w)
    (hus : RepL F1 w us (news.flatMap leaves) f) (hns : ∀ z ∈ news, (leaves z).length = U.sz) {e g off len : Nat} (hx : SRep F1 w σ1.en μ fp1 vx (.hd e g off len false)) (hl : (σ1.en e).live = true) (hg : (σ1.en e).gen = g) (hfz : (σ1.en e).frz = false) (hsz : (σ1.en e).sz = U.sz) (hlen : off + len ≤ (σ1.en e).elems.length)
    (h3 : (len + news.length) * U.bytes ≤ 140737488355328) (h4 : len + news.length ≤ 140737488355328) (h5 : off + len + news.length ≤ (σ1.en e).elems.length)
    (hr : σ' = (σ1.ent e { (σ1.en e) with wr := (σ1.en e).wr + 1, elems := (σ1.en e).elems.take (off + len) ++ news ++ (σ1.en e).elems.drop (off + len + news.length) }).put od (.hd e g off (len + news.length) false)) : ∃ u w', (Builtin.append_ #[t, t2] ty #[vx, vy]).run C.P w = .ok u w' ∧ ∃ F' μ' fp', Rel n w0 F0 S0 G F' μ' fp' [] σ' (a.put od u) w' := by
  subst hr
  have hpos := hU'.pos.1
  have hnl := hs.newsLen
  have hnf := flat_length hns
  obtain ⟨A, c, ol, fo, hv, hlc, hcl, hnc, hol, hA, hu, hsub, _, hblk⟩ := r1.hdRange (show SLeaf F1 w σ1.en μ fp1 vx (.hd e g off len false) from hx) hl hg hlen
  rw [hsz] at hol
  have hes := (r1.ent e hl).1
  have hes' := hes
  rw [hsz] at hes'
  have hnc := hnc rfl
  have hzero : news = [] → us = [] ∧ f = [] := fun h0 => by
    subst h0
    obtain rfl : us = [] := List.length_eq_zero_iff.1 (by rw [hnl]; simp)
    exact ⟨rfl, by cases hus; rfl⟩
  have hroom : len + news.length ≤ c := by clear hblk; omega
  by_cases hn0 : news = []
  · obtain ⟨rfl, rfl⟩ := hzero hn0
    subst hn0
    have rb := r1.bump (e := e) (E' := { (σ1.en e) with wr := (σ1.en e).wr + 1, elems := (σ1.en e).elems.take (off + len) ++ [] ++ (σ1.en e).elems.drop (off + len + 0) }) hl ⟨hl, rfl, rfl, by simp⟩ (by simp) (by simp)
    refine ⟨_, w, ?_, F1, μ, fp1, rb.putO hd (v := .slice A len c) (x := .hd e g off (len + 0) false) ⟨?_, fun _ _ => ⟨A, c, by simp, by simpa using hlc, by simp, fun _ => ?_, fun hc => ?_⟩⟩⟩
    · rw [hv]; exact run_append_zero hTd hU' hs hlc
    · simp [St.ent, upd, hg]
    · simp only [St.ent, upd_same, List.append_nil, Nat.add_zero, List.take_append_drop]; exact hnc
    · simp only [St.ent, upd_same]; exact hblk hc
  · have hn1 : 0 < news.length := List.length_pos_iff.2 hn0
    obtain ⟨b, cur, et, fr, hμ, rfl, hb1, hb2⟩ := hblk (by clear hblk; omega)
    have hb2' := hb2
    rw [hsz] at hb2
    have hent := (r1.ent e hl).2
    obtain rfl : fr = (0, 0) := by
      rcases hent with ⟨e0, _⟩ | ⟨b', cur', et', fr', us', f1', e6, e7, _, _, e10⟩ | hm
      rotate_right 1
      · exact (hm.noCells (by assumption) (by assumption)).elim
      · rw [hμ] at e0; cases e0
      · rw [hμ] at e6; cases e6
        rw [hb1] at e7; cases e7
        rcases e10 with ⟨e10, _⟩ | ⟨_, e10, _⟩
        · rw [hfz] at e10; cases e10
        · exact e10
    have hmul : (off + len + news.length) * U.sz ≤ (off + c) * U.sz := Nat.mul_le_mul_right _ (by omega)
    have hmul2 : (off + len) * U.sz ≤ (σ1.en e).elems.length * U.sz := Nat.mul_le_mul_right _ (by omega)
    rw [Nat.add_mul] at hmul
    have hfo := flat_over (l := (σ1.en e).elems) (off + len) hes' hns
    have hel : ((σ1.en e).elems.take (off + len) ++ news ++ (σ1.en e).elems.drop (off + len + news.length)).length ≤ (σ1.en e).elems.length := by simp; omega
    obtain ⟨fp2, q1, q2, q3⟩ := Rel.writeRange (f := f) (L := []) (e := e) (off := (off + len) * U.sz) (E' := { (σ1.en e) with wr := (σ1.en e).wr + 1, elems := (σ1.en e).elems.take (off + len) ++ news ++ (σ1.en e).elems.drop (off + len + news.length) }) (by rw [List.append_nil]; exact r1) hl hfz hμ hb1 hus
      (by rw [flat_length hes']; exact hmul2) (by rw [hnf]; omega) hl hfz rfl (by simp) (by simp) (fun _ => hel) (fun z hz => by
        show _ = (σ1.en e).sz
        rw [hsz]
        rcases List.mem_append.1 hz with hz | hz
        · rcases List.mem_append.1 hz with hz | hz
          · exact hes' z (List.mem_of_mem_take hz)
          · exact hns z hz
        · exact hes' z (List.mem_of_mem_drop hz)) hfo
    refine ⟨_, _, ?_, F1, μ, fp2, q1.putO hd (x := .hd e g off (len + news.length) false) (v := .slice (some ⟨b, off * (σ1.en e).sz, none⟩) (len + news.length) c) ⟨?_, fun _ _ => ⟨_, _, rfl, hroom, by simp, fun _ => ?_, fun _ => ?_⟩⟩⟩
    · rw [hv, hsz]
      have := run_append_room (ty := ty) (off := off * U.sz) hTd hU' hs hroom hb1 (by rw [hnl, ← Nat.add_mul]; omega)
      rw [← Nat.add_mul] at this
      exact this
    · simp [St.ent, upd, hg]
    · simp only [St.ent, upd_same]; omega
    · refine ⟨b, _, et, (0, 0), hμ, by simp [St.ent, upd], q3, ?_⟩
      rw [setRow_size]
      simpa only [St.ent, upd_same] using hb2'
theorem op_append0 (hC : CfgOk C) (h : Rel n w0 F0 S0 G F μ fp [] σ a w) (hd : ∀ k, o.dst = some k → k < n) {args : Array Operand} {ts : Array TypeId} {x y : Operand} {t t2 : TypeId} (ho : o.op = .call { callee := .builtin .append, args, argTypes := ts }) (ha : args.toList = [x, y]) (ht : ts.toList = [t, t2])
    (hr : appendF0 C σ o.dst t t2 (σ.get x) (σ.get y) = some σ') : OpOk C n w0 F0 S0 G o a w σ' := by
  obtain rfl : args = #[x, y] := by apply Array.ext'; simpa using ha
  obtain rfl : ts = #[t, t2] := by apply Array.ext'; simpa using ht
  simp only [appendF0, Option.bind_eq_bind, Option.bind_eq_some_iff] at hr
  obtain ⟨T, hT, T2, hT2, hr⟩ := hr
  have hTd := (hC.tt t T hT).desc
  split at hr
  case h_2 => cases hr
  rename_i el hel
  rw [hel] at hTd
  have hTd : C.P.underlying t = some (.slice el) := hTd
  simp only [Option.bind_eq_some_iff] at hr
  obtain ⟨U, hU, _, hk, ⟨news, σ1⟩, hsrc, _, hns, hr⟩ := hr
  dsimp only at hns hr
  have hns := ensure_some hns
  have hU' := hC.tt el U hU
  obtain ⟨F1, fp1, f, us, r1, hs, hus, hF1, r4, hsl⟩ := srcF_ok (C := C) h (h.get y) (hC.tt t2 T2 hT2).desc (ensure_some hk) hsrc hns
  have hx := r1.get x
  have hgx : σ1.get x = σ.get x := by cases x <;> simp [St.get, hsl]
  rw [hgx] at hx
  have run : ∀ {v : Value} {w' : World}, (Builtin.append_ #[t, t2] o.type #[a.eval x, a.eval y]).run C.P w = .ok v w' → (execOp a.eval o).run C.P w = .ok (.value v) w' := by
    intro v w' hv
    rw [exec_builtin ho]
    simp only [builtin, Sem.run_bind]
    simp [hv]
  rw [List.append_nil] at r1
  split at hr
  · rename_i l hxe
    rw [hxe] at hx
    simp only [Option.bind_eq_some_iff] at hr
    obtain ⟨_, h1, _, h2, _, h3, hr⟩ := hr
    obtain ⟨h3, h4⟩ := ensure_some h3
    obtain ⟨u, w', hrun, F', μ', fp', q⟩ := append_fro (ty := o.type) r1 hd hTd hU' hs hus hns hx (ensure_some h1) (ensure_some h2) h3 h4 hr
    exact ⟨u, w', .inl (run hrun), F', μ', fp', q⟩
  · rename_i e g off len clip hxe
    rw [hxe] at hx
    simp only [Option.bind_eq_some_iff] at hr
    obtain ⟨E, hE, _, h1, _, h3, hr⟩ := hr
    obtain ⟨hfz, hsz, hlen⟩ := ensure_some h1
    obtain ⟨h3, h4⟩ := ensure_some h3
    obtain ⟨hl, hg, rfl⟩ := cur_some hE
    split at hr
    · rename_i hclip
      subst hclip
      split at hr
      · rename_i hn0
        obtain ⟨u, w', hrun, F', μ', fp', q⟩ := append_none (σ' := σ') (od := o.dst) (ty := o.type) r1 hd hTd hU' hs hus hn0 hx hl hg hlen (by cases hr; rfl)
        exact ⟨u, w', .inl (run hrun), F', μ', fp', q⟩
      simp only [Option.bind_eq_some_iff] at hr
      obtain ⟨_, h5, hr⟩ := hr
      obtain ⟨hn0, hno⟩ := ensure_some h5
      obtain ⟨u, w', hrun, F', μ', fp', q⟩ := append_clip (ty := o.type) r1 hd hTd hU' hs hus hns hx hl hg hfz hsz hlen h3 h4 hn0 hno hr
      exact ⟨u, w', .inl (run hrun), F', μ', fp', q⟩
    · rename_i hclip
      obtain rfl : clip = false := by simpa using hclip
      split at hr
      · rename_i hfull
        simp only [Option.bind_eq_some_iff] at hr
        obtain ⟨_, h5, hr⟩ := hr
        obtain rfl := ensure_some h5
        obtain ⟨u, w', hrun, F', μ', fp', q⟩ := append_full (σ' := σ') (od := o.dst) (ty := o.type) r1 hd hTd hU' hs hus hns hx hl hg hfz hsz hlen h3 h4 hfull (by cases hr; rfl)
        exact ⟨u, w', .inl (run hrun), F', μ', fp', q⟩
      · simp only [Option.bind_eq_some_iff] at hr
        obtain ⟨_, h5, hr⟩ := hr
        obtain ⟨u, w', hrun, F', μ', fp', q⟩ := append_over (σ' := σ') (od := o.dst) (ty := o.type) r1 hd hTd hU' hs hus hns hx hl hg hfz hsz hlen h3 h4 (ensure_some h5) (by cases hr; rfl)
        exact ⟨u, w', .inl (run hrun), F', μ', fp', q⟩
  · cases hr

theorem run_append_zeros {t t2 ty el : TypeId} {it : TypeInfo} {z : Value} {k : IntKind} (ht : C.P.underlying t = some (.slice el)) (ht2 : C.P.underlying t2 = some (.int k)) (hi : C.P.info? el = some it) (hz : it.zero = some z) {A : Option Addr} {m : Int} (h0 : 0 < m) (hm : m * it.bytes ≤ 140737488355328) (hm2 : m ≤ 140737488355328) (hsz : 0 < it.size) :
    (Builtin.append_ #[t, t2] ty #[.slice A 0 0, .int .i64 m]).run C.P w =
      .ok (.slice (some ⟨w.heap.size, 0, none⟩) m.toNat (grownCap w m.toNat 0 el)) (w.drew.alloc (.cells ((Builtin.zeroCells z.cells m.toNat) ++ Builtin.zeroCells z.cells (grownCap w m.toNat 0 el - m.toNat)) el)) := by
  have hw : IntKind.i64.wrap m = m := by rw [IntKind.wrap_i64]; omega
  have e1 : ¬ m < 0 := by omega
  have e2 : ¬ (281474976710656 < m * (it.bytes : Int)) := by omega
  have e3 : ¬ (9223372036854775807 < max m 0) := by omega
  have e4 : ¬ (m.toNat * it.size = 0) := fun h => by
    rcases Nat.mul_eq_zero.1 h with h | h <;> omega
  have hb : m.toNat * it.bytes ≤ 140737488355328 := by
    have h1 : ((m.toNat * it.bytes : Nat) : Int) = m * it.bytes := by rw [Int.natCast_mul, Int.toNat_of_nonneg (by omega)]
    omega
  have e5 : ¬ (281474976710656 < Builtin.nextslicecap m.toNat 0 * it.bytes) := by
    have := growslice_fits (old := 0) (need := m.toNat) (bytes := it.bytes) (by omega) hb
    omega
  have e6 : (Builtin.firstCells it.size 0 (.slice A 0 0)).run C.P w.drew = .ok #[] w.drew := by
    cases A with
    | none => simp [Builtin.firstCells]
    | some A =>
      simp only [Builtin.firstCells, Nat.zero_mul]
      simpa using run_loadCells_list (P := C.P) w.drew A [] (by simp)
  simp [Builtin.append_, run_underlying ht, run_underlying ht2, sizeOf, typeInfo, zeroValue, hi, hz, asInt, asIntOf, hw, show ¬ m ≤ 0 by omega, e1, e2, e3, e5, e6, Question.forced, newRow, grownCap]
  exact fun h => absurd h e4
theorem op_append (hC : CfgOk C) (h : Rel n w0 F0 S0 G F μ fp [] σ a w) (hd : ∀ k, o.dst = some k → k < n) {args : Array Operand} {ts : Array TypeId} {x y : Operand} {t t2 : TypeId} (ho : o.op = .call { callee := .builtin .append, args, argTypes := ts }) (ha : args.toList = [x, y]) (ht : ts.toList = [t, t2])
    (hr : appendF C σ o.dst t t2 (σ.get x) (σ.get y) = some σ') : OpOk C n w0 F0 S0 G o a w σ' := by
  have hr0 := hr
  simp only [appendF, Option.bind_eq_bind, Option.bind_eq_some_iff] at hr
  obtain ⟨T2, hT2, hr⟩ := hr
  split at hr
  · rename_i hint
    obtain rfl : args = #[x, y] := by apply Array.ext'; simpa using ha
    obtain rfl : ts = #[t, t2] := by apply Array.ext'; simpa using ht
    simp only [appendZ, Option.bind_eq_bind, Option.bind_eq_some_iff] at hr
    obtain ⟨T, hT, hr⟩ := hr
    have hTd := (hC.tt t T hT).desc
    have hTd2 := (hC.tt t2 T2 hT2).desc
    obtain ⟨k, hk⟩ : ∃ k, T2.desc = .int k := by
      cases hd2 : T2.desc <;> simp [TD.isInt, hd2] at hint
      exact ⟨_, rfl⟩
    rw [hk] at hTd2
    have hTd2 : C.P.underlying t2 = some (.int k) := hTd2
    split at hr
    case h_2 => cases hr
    rename_i el m hel hxe hye
    rw [hel] at hTd
    have hTd : C.P.underlying t = some (.slice el) := hTd
    simp only [Option.bind_eq_some_iff] at hr
    obtain ⟨U, hU, _, hen, hr⟩ := hr
    obtain ⟨h0, h1, h2⟩ := ensure_some hen
    have hU' := hC.tt el U hU
    obtain ⟨it, z, hi, hs, hby, hz, hzs, hzr, _⟩ := hU'.info
    have hy := h.get y
    rw [hye] at hy
    have hyv : a.eval y = .int .i64 m := SRep.int_inv hy
    have hx := h.get x
    rw [hxe] at hx
    obtain ⟨A, hxv⟩ : ∃ A, a.eval x = .slice A 0 0 := by
      have hx : RepL F w [a.eval x] [.fro none true []] [] := hx
      obtain ⟨A, c, ol, hv, _, hc, _⟩ := RepL.froRange hx (sz := U.sz) (by simp)
      obtain rfl := hc rfl
      exact ⟨A, hv⟩
    have hpos := hU'.pos.1
    have hrun := run_append_zeros (w := w) (ty := o.type) (A := A) hTd hTd2 hi hz h0 (by rw [hby]; exact h1) h2 (by rw [hs]; exact hpos)
    have hG := grownCap_ge w m.toNat 0 el
    have hle := hU'.leaves (hzr F w) (by rw [← (hzr F w).length]; simpa using hzs)
    have hzl : U.zero.length = U.sz := by rw [← (hzr F w).length]; simpa using hzs
    cases hdd : o.dst with
    | none => rw [hdd] at hr; cases hr
    | some d =>
      rw [hdd] at hr
      have hmt : (Builtin.zeroCells z.cells m.toNat).toList = (List.replicate m.toNat z.cells.toList).flatten := by
        unfold Builtin.zeroCells
        exact made_toList (by rw [hzs]; exact hU'.pos.1) _
      have hsize : ∀ q, (Builtin.zeroCells z.cells q).size = q * U.sz := fun q => by simp [Builtin.zeroCells, hzs]
      obtain ⟨F', μ', fp', q⟩ := h.newArrR (hd d hdd) (cur := (Builtin.zeroCells z.cells m.toNat) ++ Builtin.zeroCells z.cells (grownCap w m.toNat 0 el - m.toNat)) (et := el) (us := (Builtin.zeroCells z.cells m.toNat).toList) (c := grownCap w m.toNat 0 el) (w' := w.drew.alloc (.cells ((Builtin.zeroCells z.cells m.toNat) ++ Builtin.zeroCells z.cells (grownCap w m.toNat 0 el - m.toNat)) el)) (fun x hx => by
          rw [(List.mem_replicate.1 hx).2, hle, hzl]) (by
          rw [flat_replicate, hle, hmt]
          exact (hzr F w).replicate _) (fun q hq => by
          rw [Array.getElem?_append_left (by simpa using hq)]; simp) hG (by simp) (by simpa using hG) (by
          rw [Array.size_append, hsize, hsize, ← Nat.add_mul]
          exact Nat.mul_le_mul_right _ (by omega)) rfl rfl rfl rfl hr
      refine ⟨_, _, .inl ?_, F', μ', fp', hdd ▸ q⟩
      rw [exec_builtin ho]
      simp only [builtin, Sem.run_bind]
      simp [hxv, hyv, hrun]
  · exact op_append0 hC h hd ho ha ht hr
theorem run_firstN {sz len c m : Nat} {A : Option Addr} {us : List Value} (hl : us.length = m * sz) (hA : 0 < us.length → ∃ b o', A = some ⟨b, o', none⟩ ∧ ∀ q, q < us.length → w.cell? ⟨b, o' + q, none⟩ = us[q]?) :
    (Builtin.firstCells sz m (.slice A len c)).run C.P w = .ok us.toArray w := by
  cases us with
  | nil =>
    cases A with
    | none => simp [Builtin.firstCells]
    | some A =>
      simp at hl
      have h0 : m * sz = 0 := by omega
      simp only [Builtin.firstCells, h0]
      simpa using run_loadCells_list (P := C.P) w A [] (by simp)
  | cons u us =>
    obtain ⟨b, o', rfl, hc⟩ := hA (by simp)
    refine run_firstCells_some w sz m _ len c _ hl fun j v hv => ?_
    obtain ⟨hj, _⟩ := List.getElem?_eq_some_iff.1 hv
    rw [Addr.add_lit, hc j hj, hv]
theorem cSrc_ok (h : Rel n w0 F0 S0 G F μ fp L σ a w) {v : Value} {y : AV} {l : List AV} {sz : Nat} (hx : SRep F w σ.en μ fp v y) (hs : cSrc σ y = some l) (hsz : ∀ z ∈ l, (leaves z).length = sz) :
    ∃ A c us, v = .slice A l.length c ∧ us.length = l.length * sz ∧ (0 < us.length → ∃ b o', A = some ⟨b, o', none⟩ ∧ ∀ q, q < us.length → w.cell? ⟨b, o' + q, none⟩ = us[q]?) ∧ RepL F w us (l.flatMap leaves) [] := by
  unfold cSrc at hs
  split at hs
  · cases hs
    obtain ⟨A, c, us, h1, _, _, h2, h3, h4⟩ := RepL.froRange (show RepL F w [v] [.fro none _ l] [] from hx) hsz
    exact ⟨A, c, us, h1, h2, h3, h4⟩
  · rename_i e g off len clip
    simp only [Option.bind_eq_bind, Option.bind_eq_some_iff] at hs
    obtain ⟨E, hE, _, hb, _, hno, hs⟩ := hs
    obtain ⟨hl, hg, rfl⟩ := cur_some hE
    have hb := ensure_some hb
    have hno := ensure_some hno
    cases hs
    obtain ⟨A, c, us, f, rfl, _, _, _, hul, hA, hu, _, hfz, _⟩ := h.hdRange hx hl hg hb
    have hlen : (((σ.en e).elems.drop off).take len).length = len := by simp; omega
    have husz : us.length = len * sz := by
      have := hu.length
      rw [flat_length hsz, hlen] at this
      exact this
    obtain rfl : f = [] := hu.noOwn_nil (all_flat hno)
    exact ⟨A, c, us, by rw [hlen], by rw [hlen]; exact husz, hA, hu⟩
  · cases hs
theorem op_copy (hC : CfgOk C) (h : Rel n w0 F0 S0 G F μ fp [] σ a w) (hd : ∀ k, o.dst = some k → k < n) {args : Array Operand} {ts : Array TypeId} {x y : Operand} {t t2 : TypeId} (ho : o.op = .call { callee := .builtin .copy, args, argTypes := ts }) (ha : args.toList = [x, y]) (ht : ts.toList = [t, t2])
    (hr : copyF C σ o.dst t t2 (σ.get x) (σ.get y) = some σ') : OpOk C n w0 F0 S0 G o a w σ' := by
  obtain rfl : args = #[x, y] := by apply Array.ext'; simpa using ha
  obtain rfl : ts = #[t, t2] := by apply Array.ext'; simpa using ht
  simp only [copyF, Option.bind_eq_bind, Option.bind_eq_some_iff] at hr
  obtain ⟨T, hT, hr⟩ := hr
  have hTd := (hC.tt t T hT).desc
  split at hr
  case h_2 => cases hr
  rename_i el e g off len clip hel hxe
  rw [hel] at hTd
  have hTd : C.P.underlying t = some (.slice el) := hTd
  simp only [Option.bind_eq_some_iff] at hr
  obtain ⟨U, hU, l, hl0, _, hns, E, hE, _, h1, hr⟩ := hr
  have hns := ensure_some hns
  obtain ⟨hfz, hsz, hlen⟩ := ensure_some h1
  obtain ⟨hl, hg, rfl⟩ := cur_some hE
  have hU' := hC.tt el U hU
  have hpos := hU'.pos.1
  have hx := h.get x
  rw [hxe] at hx
  obtain ⟨A1, c1, ol, fo, hv1, hlc, hcl, hnc, hol, hA1, hu1, hsub, _, hblk⟩ := h.hdRange (show SLeaf F w σ.en μ fp _ (.hd e g off len clip) from hx) hl hg hlen
  obtain ⟨A2, c2, us, hv2, hul, hA2, hus⟩ := cSrc_ok h (h.get y) hl0 hns
  obtain ⟨m, hm⟩ : ∃ m, min l.length len = m := ⟨_, rfl⟩
  rw [hm] at hr
  have hm1 : m ≤ l.length := by omega
  have hm2 : m ≤ len := by omega
  have hml : m * U.sz ≤ l.length * U.sz := Nat.mul_le_mul_right _ hm1
  have hcl' : (us.take (m * U.sz)).length = m * U.sz := by rw [List.length_take]; omega
  have hfc : (Builtin.firstCells U.sz m (.slice A2 l.length c2)).run C.P w = .ok (us.take (m * U.sz)).toArray w := run_firstN hcl' (fun h0 => by
    obtain ⟨b, o', h2, h3⟩ := hA2 (by rw [List.length_take] at h0; omega)
    refine ⟨b, o', h2, fun q hq => ?_⟩
    rw [List.length_take] at hq
    rw [h3 q (by omega), List.getElem?_take, if_pos (by omega)])
  obtain ⟨i, z, hi, hisz, _⟩ := hU'.info
  have run : ∀ {w' : World}, (match A1 with | some A => storeCells A (us.take (m * U.sz)) | none => pure ()).run C.P w = .ok () w' → (execOp a.eval o).run C.P w = .ok (.value (.int .i64 ((m : Nat) : Int))) w' := by
    intro w' hst
    rw [exec_builtin ho]
    have hmin : Nat.min l.length len = m := hm
    have hee : #[x, y].map a.eval = #[a.eval x, a.eval y] := by simp
    simp only [builtin, Sem.run_bind, hee, hv1, hv2]
    cases A1 with
    | none =>
      simp [Builtin.copy_, run_underlying hTd, Builtin.lenOf, sizeOf, typeInfo, hi, hisz, hmin, hfc, goInt] at hst ⊢
      exact hst
    | some A =>
      simp only at hst
      simp [Builtin.copy_, run_underlying hTd, Builtin.lenOf, sizeOf, typeInfo, hi, hisz, hmin, hfc, goInt, hst]
  have hes := (h.ent e hl).1
  have hes' := hes
  rw [hsz] at hes'
  cases hr
  by_cases hm0 : m = 0
  · subst hm0
    have rb := h.bump (e := e) (E' := { (σ.en e) with wr := (σ.en e).wr + 1, elems := (σ.en e).elems.take off ++ l.take 0 ++ (σ.en e).elems.drop (off + 0) }) hl ⟨hl, rfl, rfl, by simp⟩ (by simp) (by simp)
    refine ⟨_, w, .inl (run (w' := w) ?_), F, μ, fp, rb.putO hd (v := .int .i64 ((0 : Nat) : Int)) (x := .int .i64 ((0 : Nat) : Int)) (RepL.int .nil)⟩
    have h0 : us.take (0 * U.sz) = [] := by simp
    rw [h0]
    cases A1 with
    | none => rfl
    | some A => simp [storeCells]
  · obtain ⟨b, cur, et, fr, hμ, rfl, hb1, hb2⟩ := hblk (by clear hblk; omega)
    have hent := (h.ent e hl).2
    obtain rfl : fr = (0, 0) := by
      rcases hent with ⟨e0, _⟩ | ⟨b', cur', et', fr', us', f1', e6, e7, _, _, e10⟩ | hm
      rotate_right 1
      · exact (hm.noCells (by assumption) (by assumption)).elim
      · rw [hμ] at e0; cases e0
      · rw [hμ] at e6; cases e6
        rw [hb1] at e7; cases e7
        rcases e10 with ⟨e10, _⟩ | ⟨_, e10, _⟩
        · rw [hfz] at e10; cases e10
        · exact e10
    rw [hsz] at hb2 hA1 hol
    obtain ⟨fa, fb, hfab, ht1, _⟩ := hus.take (m * U.sz)
    obtain ⟨rfl, rfl⟩ := List.append_eq_nil_iff.1 hfab.symm
    rw [← flat_take m hns] at ht1
    have hmul : (off + m) * U.sz ≤ (off + c1) * U.sz := Nat.mul_le_mul_right _ (by omega)
    have hmul2 : off * U.sz ≤ (σ.en e).elems.length * U.sz := Nat.mul_le_mul_right _ (by omega)
    rw [Nat.add_mul] at hmul
    have hnt : ∀ z ∈ l.take m, (leaves z).length = U.sz := fun z hz => hns z (List.mem_of_mem_take hz)
    have hlt : (l.take m).length = m := by rw [List.length_take]; omega
    have hnf := flat_length hnt
    rw [hlt] at hnf
    have hfo := flat_over (l := (σ.en e).elems) off hes' hnt
    rw [hlt] at hfo
    have hel : ((σ.en e).elems.take off ++ l.take m ++ (σ.en e).elems.drop (off + m)).length ≤ (σ.en e).elems.length := by simp; omega
    obtain ⟨fp2, q1, q2, q3⟩ := Rel.writeRange (f := []) (L := []) (e := e) (off := off * U.sz) (E' := { (σ.en e) with wr := (σ.en e).wr + 1, elems := (σ.en e).elems.take off ++ l.take m ++ (σ.en e).elems.drop (off + m) }) (by simpa using h) hl hfz hμ hb1 ht1
      (by rw [flat_length hes']; exact hmul2) (by rw [hnf]; omega) hl hfz rfl (by simp) (by simp) (fun _ => hel) (fun z hz => by
        show _ = (σ.en e).sz
        rw [hsz]
        rcases List.mem_append.1 hz with hz | hz
        · rcases List.mem_append.1 hz with hz | hz
          · exact hes' z (List.mem_of_mem_take hz)
          · exact hnt z hz
        · exact hes' z (List.mem_of_mem_drop hz)) hfo
    refine ⟨_, _, .inl (run (w' := w.setCells b (off * U.sz) (us.take (m * U.sz))) ?_), F, μ, fp2, q1.putO hd (v := .int .i64 (m : Int)) (x := .int .i64 (m : Int)) (RepL.int .nil)⟩
    show (storeCells ⟨b, off * (σ.en e).sz, none⟩ (us.take (m * U.sz))).run C.P w = _
    rw [hsz]
    have := run_storeCells_cells (P := C.P) b (off * U.sz) (us.take (m * U.sz)) 0 w (fun j hj => by
      rw [cell_of_row w b _ cur et (0, 0) hb1, Array.getElem?_eq_getElem (by omega)]; rfl) (fun j hj => by simp [World.frozen?, hb1]) (fun u hu => hus.ones u (List.mem_of_mem_take hu))
    simpa using this
theorem op_clear (hC : CfgOk C) (h : Rel n w0 F0 S0 G F μ fp [] σ a w) (hd : ∀ k, o.dst = some k → k < n) {args : Array Operand} {ts : Array TypeId} {x : Operand} {t : TypeId} {σ1 : St} (ho : o.op = .call { callee := .builtin .clear, args, argTypes := ts }) (ha : args.toList = [x]) (ht : ts.toList = [t])
    (hr : clearF C σ t (σ.get x) = some σ1) : OpOk C n w0 F0 S0 G o a w (σ1.put o.dst (.tup [])) := by
  obtain rfl : args = #[x] := by apply Array.ext'; simpa using ha
  obtain rfl : ts = #[t] := by apply Array.ext'; simpa using ht
  simp only [clearF, Option.bind_eq_bind, Option.bind_eq_some_iff] at hr
  obtain ⟨T, hT, hr⟩ := hr
  have hTd := (hC.tt t T hT).desc
  split at hr
  case h_2 => cases hr
  rename_i el e g off len clip hel hxe
  rw [hel] at hTd
  have hTd : C.P.underlying t = some (.slice el) := hTd
  simp only [Option.bind_eq_some_iff] at hr
  obtain ⟨U, hU, E, hE, _, h1, hr⟩ := hr
  obtain ⟨hfz, hsz, hlen⟩ := ensure_some h1
  obtain ⟨hl, hg, rfl⟩ := cur_some hE
  have hU' := hC.tt el U hU
  have hpos := hU'.pos.1
  have hx := h.get x
  rw [hxe] at hx
  obtain ⟨A1, c1, ol, fo, hv1, hlc, hcl, hnc, hol, hA1, hu1, hsub, _, hblk⟩ := h.hdRange (show SLeaf F w σ.en μ fp _ (.hd e g off len clip) from hx) hl hg hlen
  obtain ⟨it, z, hi, hisz, hby, hz, hzs, hzr, _⟩ := hU'.info
  have hle := hU'.leaves (hzr F w) (by rw [← (hzr F w).length]; simpa using hzs)
  have hzl : U.zero.length = U.sz := by rw [← (hzr F w).length]; simpa using hzs
  obtain ⟨us, hus0⟩ : ∃ us, us = (Builtin.zeroCells z.cells len).toList := ⟨_, rfl⟩
  have hmt : (Builtin.zeroCells z.cells len).toList = (List.replicate len z.cells.toList).flatten := by
    unfold Builtin.zeroCells
    exact made_toList (by rw [hzs]; exact hpos) _
  have hus : RepL F w us ((List.replicate len (mkV U.desc.isStruct U.zero)).flatMap leaves) [] := by
    rw [flat_replicate, hle, hus0, hmt]
    exact (hzr F w).replicate _
  have hul : us.length = len * U.sz := by rw [hus0]; simp [Builtin.zeroCells, hzs]
  have hns : ∀ z ∈ List.replicate len (mkV U.desc.isStruct U.zero), (leaves z).length = U.sz := fun x hx => by
    rw [(List.mem_replicate.1 hx).2, hle, hzl]
  have run : ∀ {w' : World}, (match A1 with | some A => if len = 0 then pure () else storeCells A us | none => pure ()).run C.P w = .ok () w' → (execOp a.eval o).run C.P w = .ok (.value (.tuple #[])) w' := by
    intro w' hst
    rw [exec_builtin ho]
    have hee : #[x].map a.eval = #[a.eval x] := by simp
    simp only [builtin, Sem.run_bind, hee, hv1]
    cases A1 with
    | none =>
      simp [Builtin.clear_, run_underlying hTd] at hst ⊢
      exact hst
    | some A =>
      by_cases h0 : len = 0
      · subst h0
        simp [Builtin.clear_, run_underlying hTd] at hst ⊢
        exact hst
      · simp only [h0, if_false] at hst
        obtain ⟨k, rfl⟩ : ∃ k, len = k + 1 := ⟨len - 1, by omega⟩
        simp [Builtin.clear_, run_underlying hTd, zeroValue, typeInfo, hi, hz, ← hus0, hst]
  have hes := (h.ent e hl).1
  have hes' := hes
  rw [hsz] at hes'
  cases hr
  by_cases hm0 : len = 0
  · subst hm0
    have rb := h.bump (e := e) (E' := { (σ.en e) with wr := (σ.en e).wr + 1, elems := (σ.en e).elems.take off ++ List.replicate 0 (mkV U.desc.isStruct U.zero) ++ (σ.en e).elems.drop (off + 0) }) hl ⟨hl, rfl, rfl, by simp⟩ (by simp) (by simp)
    refine ⟨_, w, .inl (run (w' := w) ?_), F, μ, fp, rb.putO hd (v := .tuple #[]) (x := .tup []) ⟨#[], rfl, trivial⟩⟩
    cases A1 with
    | none => rfl
    | some A => simp
  · obtain ⟨b, cur, et, fr, hμ, rfl, hb1, hb2⟩ := hblk (by clear hblk; omega)
    have hent := (h.ent e hl).2
    obtain rfl : fr = (0, 0) := by
      rcases hent with ⟨e0, _⟩ | ⟨b', cur', et', fr', us', f1', e6, e7, _, _, e10⟩ | hm
      rotate_right 1
      · exact (hm.noCells (by assumption) (by assumption)).elim
      · rw [hμ] at e0; cases e0
      · rw [hμ] at e6; cases e6
        rw [hb1] at e7; cases e7
        rcases e10 with ⟨e10, _⟩ | ⟨_, e10, _⟩
        · rw [hfz] at e10; cases e10
        · exact e10
    rw [hsz] at hb2 hA1 hol
    have hmul : (off + len) * U.sz ≤ (off + c1) * U.sz := Nat.mul_le_mul_right _ (by omega)
    have hmul2 : off * U.sz ≤ (σ.en e).elems.length * U.sz := Nat.mul_le_mul_right _ (by omega)
    rw [Nat.add_mul] at hmul
    have hnf := flat_length hns
    rw [List.length_replicate] at hnf
    have hfo := flat_over (l := (σ.en e).elems) off hes' hns
    rw [List.length_replicate] at hfo
    have hel : ((σ.en e).elems.take off ++ List.replicate len (mkV U.desc.isStruct U.zero) ++ (σ.en e).elems.drop (off + len)).length ≤ (σ.en e).elems.length := by simp; omega
    obtain ⟨fp2, q1, q2, q3⟩ := Rel.writeRange (f := []) (L := []) (e := e) (off := off * U.sz) (E' := { (σ.en e) with wr := (σ.en e).wr + 1, elems := (σ.en e).elems.take off ++ List.replicate len (mkV U.desc.isStruct U.zero) ++ (σ.en e).elems.drop (off + len) }) (by simpa using h) hl hfz hμ hb1 hus
      (by rw [flat_length hes']; exact hmul2) (by rw [hnf]; omega) hl hfz rfl (by simp) (by simp) (fun _ => hel) (fun z hz => by
        show _ = (σ.en e).sz
        rw [hsz]
        rcases List.mem_append.1 hz with hz | hz
        · rcases List.mem_append.1 hz with hz | hz
          · exact hes' z (List.mem_of_mem_take hz)
          · exact hns z hz
        · exact hes' z (List.mem_of_mem_drop hz)) hfo
    refine ⟨_, _, .inl (run (w' := w.setCells b (off * U.sz) us) ?_), F, μ, fp2, q1.putO hd (v := .tuple #[]) (x := .tup []) ⟨#[], rfl, trivial⟩⟩
    show (if len = 0 then pure () else storeCells ⟨b, off * (σ.en e).sz, none⟩ us).run C.P w = _
    rw [if_neg hm0, hsz]
    have := run_storeCells_cells (P := C.P) b (off * U.sz) us 0 w (fun j hj => by
      rw [cell_of_row w b _ cur et (0, 0) hb1, Array.getElem?_eq_getElem (by omega)]; rfl) (fun j hj => by simp [World.frozen?, hb1]) (fun u hu => hus.ones u hu)
    simpa using this
end
end Go.Vm
end
section
/- Maps of whole numbers to bools. -/
namespace Go.Vm
section
variable {C : Cfg} {n : Nat} {w0 : World} {F0 S0 F : Nat → Prop} {G : Value → AV → Prop} {μ : Nat → Option Nat} {fp : Nat → List Nat} {L : List Nat} {σ σ' : St} {a : Act} {w w' : World} {o : Oper}
theorem mapT_ok (hC : CfgOk C) {t : Nat} (h : mapT C t = some ()) : ∃ k e, C.P.underlying t = some (.map k e) ∧ C.P.underlying k = some (.int .i64) ∧ ∀ w, (zeroValue e).run C.P w = .ok (.bool false) w := by
  unfold mapT at h
  simp only [Option.bind_eq_bind, Option.bind_eq_some_iff] at h
  obtain ⟨T, hT, h⟩ := h
  have hd := (hC.tt t T hT).desc
  split at h
  case h_2 => cases h
  rename_i k e hTd
  rw [hTd] at hd
  simp only [Option.bind_eq_some_iff] at h
  obtain ⟨K, hK, E, hE, h⟩ := h
  have h1 := (hC.tt k K hK).desc
  obtain ⟨i, z, hi, _, _, hz, _, hzr, hz1⟩ := (hC.tt e E hE).info
  split at h
  case h_2 => cases h
  rename_i hk he hz0
  rw [hk] at h1
  have h3 := hzr (fun _ => False) default
  rw [hz1 (by rw [he]; rfl), hz0] at h3
  have h4 : z = .bool false := by cases h3; rfl
  subst h4
  exact ⟨k, e, hd, h1, fun w => by simp [zeroValue, typeInfo, hi, hz]⟩
theorem findNow_rep (k : Int) : ∀ (L : List MapEntry) (l : List (Int × Bool)) (i : Nat), L.map (fun e => (e.key, e.val)) = l.map (fun p => (Value.int .i64 p.1, Value.bool p.2)) →
    Instr.findNow (.int .i64) (.int .i64 k) L i = some ((idxM l k).map fun p => (i + p.1, Value.bool p.2))
  | [], [], i, _ => rfl
  | [], _ :: _, i, h => by simp at h
  | _ :: _, [], i, h => by simp at h
  | e :: L, (k', v) :: l, i, h => by
    simp only [List.map_cons, List.cons.injEq, Prod.mk.injEq] at h
    obtain ⟨⟨h1, h2⟩, h3⟩ := h
    have ih := findNow_rep k L l (i + 1) h3
    unfold Instr.findNow idxM
    rw [h1]
    by_cases hk : k' = k
    · subst hk
      simp [Instr.sameNow, h2]
    · have hk2 : ¬ k = k' := fun h => hk h.symm
      simp only [Instr.sameNow, if_true, hk, if_false]
      rw [show (k == k') = false by simpa using hk2]
      simp only [ih, Option.map_map]
      congr 2
      funext p
      simp; omega
theorem idxM_lt : ∀ {l : List (Int × Bool)} {k : Int} {p : Nat × Bool}, idxM l k = some p → p.1 < l.length ∧ ∃ v, l[p.1]? = some (k, v)
  | [], _, _, h => by cases h
  | (k', v) :: l, k, p, h => by
    unfold idxM at h
    split at h
    · rename_i hk; cases h; subst hk; exact ⟨by simp, v, by simp⟩
    · obtain ⟨q, hq, rfl⟩ := Option.map_eq_some_iff.1 h
      obtain ⟨h1, v', h2⟩ := idxM_lt hq
      exact ⟨by simpa using h1, v', by simpa using h2⟩
theorem op_lookup (hC : CfgOk C) (h : Rel n w0 F0 S0 G F μ fp [] σ a w) {t : TypeId} {m x : Operand} (ho : o.op = .lookup t m x false) {r : AV} (hr : lookupF C σ t (σ.get m) (σ.get x) = some r) : OpPure C F μ fp σ o a w (σ.put o.dst r) := by
  unfold lookupF at hr
  simp only [Option.bind_eq_bind, Option.bind_eq_some_iff] at hr
  obtain ⟨_, hm, hr⟩ := hr
  obtain ⟨tk, te, ht, hk, hzt⟩ := mapT_ok hC hm
  split at hr
  case h_2 => cases hr
  rename_i e wv l k hxm hxk
  simp only [Option.bind_eq_some_iff, Option.some.injEq] at hr
  obtain ⟨_, hv, rfl⟩ := hr
  obtain ⟨hl, hw⟩ : (σ.en e).live = true ∧ (σ.en e).wr = wv := by
    unfold St.valid at hv
    exact ensure_some hv
  have hm1 : SLeaf F w σ.en μ fp (a.eval m) (.mp e wv l) := by have := h.get m; rw [hxm] at this; exact this
  have hk1 : a.eval x = .int .i64 k := SRep.int_inv (hxk ▸ h.get x)
  obtain ⟨b, es, clock, hv, hb, hrep, _, hin⟩ := hm1.2 hl hw
  refine .mk' (v := .bool (getM l k)) (fun w' hkw => ?_) (RepL.bool .nil)
  have hbl : b < w.heap.size := (Array.getElem?_eq_some_iff.1 hb).1
  have hb' : w'.heap[b]? = some (.map es clock) := (hkw.block b hbl (fun h => h)).trans hb
  have hf := findNow_rep k es.toList l 0 hrep
  have hz := hzt w'
  simp only [execOp, ho, Instr.lookup, hv, hk1, Sem.run_bind, run_underlying ht, Result.andThen, MapKept.run_getObj_map hb', MapKept.run_checkKey hk (show MapKept.IsKey (.int .i64) (.int .i64 k) from rfl), MapKept.run_findKey hk hf, Sem.run_pure]
  unfold getM
  cases hi : idxM l k with
  | none => simp [hz]
  | some p => simp
theorem op_makeMap (_hC : CfgOk C) (h : Rel n w0 F0 S0 G F μ fp [] σ a w) (hd : ∀ k, o.dst = some k → k < n) {t : TypeId} (ho : o.op = .makeMap t none) (hr : makeMapF C σ o.dst t = some σ') : OpOk C n w0 F0 S0 G o a w σ' := by
  unfold makeMapF at hr
  simp only [Option.bind_eq_bind, Option.bind_eq_some_iff] at hr
  obtain ⟨_, _, hr⟩ := hr
  cases hdd : o.dst with
  | none => rw [hdd] at hr; cases hr
  | some d =>
  rw [hdd] at hr
  simp only [Option.some.injEq] at hr
  subst hr
  obtain ⟨w1, hw1⟩ : ∃ w1 : World, w1 = { w with heap := w.heap.push (.map #[] 0) } := ⟨_, rfl⟩
  have hnew : w1.heap[w.heap.size]? = some (.map #[] 0) := by rw [hw1]; simp
  have hold : ∀ b, b < w.heap.size → w1.heap[b]? = w.heap[b]? := fun b hb => by rw [hw1]; simp only [Array.getElem?_push]; rw [if_neg (by omega)]
  have hs1 : w1.heap.size = w.heap.size + 1 := by rw [hw1]; simp
  have kept : KeptS w w1 (fun _ => False) := ⟨by rw [hw1], by rw [hw1], by rw [hw1], by omega, fun b hb _ => hold b hb, fun b cur et fr hb => ⟨cur, (hold b (Array.getElem?_eq_some_iff.1 hb).1).trans hb, rfl⟩⟩
  obtain ⟨r1, _⟩ := h.fresh (w' := w1) (L' := []) (m := some w.heap.size) (f := [w.heap.size]) (eid d 0) 0 [] (fun b hb => .inr ⟨by simp at hb; rw [hb], by simpa using hb⟩) (List.nil_sublist _) (fun b hb => by simp) (by simp) kept (fun b hb => by cases hb; omega)
    ⟨by simp, .inr <| .inr ⟨rfl, w.heap.size, #[], 0, rfl, hnew, .inr ⟨rfl, rfl⟩⟩⟩
  have r2 : SLeaf F w1 (σ.fresh (eid d 0) 0 []).en (upd μ (eid d 0) (some w.heap.size)) (upd fp (eid d 0) [w.heap.size]) (.map (some w.heap.size)) (.mp (eid d 0) ((σ.en (eid d 0)).wr + 1) []) := by
    refine ⟨by simp [St.fresh, St.ent, upd], fun _ _ => ⟨w.heap.size, #[], 0, rfl, hnew, rfl, fun _ => by simp [upd], .inl (by simp [upd])⟩⟩
  refine ⟨.map (some w.heap.size), w1, .inl ?_, F, upd μ (eid d 0) (some w.heap.size), upd fp (eid d 0) [w.heap.size], ?_⟩
  rotate_left
  · rw [hdd]; exact r1.put (hd d hdd) (x := .mp (eid d 0) ((σ.en (eid d 0)).wr + 1) []) r2
  subst hw1
  have hmk : (Instr.makeMap t none).run C.P w = .ok (.map (some w.heap.size)) { w with heap := w.heap.push (.map #[] 0) } := rfl
  simp only [execOp, ho, Option.map_none, hmk, Sem.run_bind, Result.andThen, Sem.run_pure]
theorem noMp {v : Value} {x : AV} (h : SRep F w σ.en μ fp v x) (st : Step F w σ.en μ fp F w' σ'.en μ fp) {e wv : Nat} {l' : List (Int × Bool)} (hm : ∀ l, x = .mp e wv l → SLeaf F w' σ'.en μ fp v (.mp e (wv + 1) l')) : SRep F w' σ'.en μ fp v (reM e wv l' x) := by
  unfold reM
  split
  · rename_i e' w1 l
    split
    · rename_i hh
      obtain ⟨rfl, rfl⟩ := hh
      exact hm l rfl
    · exact h.step st
  · exact h.step st
theorem setM_rep {es : Array MapEntry} {l : List (Int × Bool)} (h : MapRep es l) (k : Int) (v : Bool) (clock : Nat) :
    (idxM l k = none → MapRep (es.push { key := .int .i64 k, val := .bool v, born := clock }) (setM l k v)) ∧
    ∀ p, idxM l k = some p → MapRep (es.modify p.1 fun e => { e with key := .int .i64 k, val := .bool v }) (setM l k v) ∧ ((es[p.1]?).map (·.key)).getD (.int .i64 k) = .int .i64 k := by
  unfold MapRep at h ⊢
  refine ⟨fun hi => ?_, fun p hp => ?_⟩
  · unfold setM
    rw [hi]
    simp [h]
  · unfold setM
    rw [hp]
    obtain ⟨h1, v', h2⟩ := idxM_lt hp
    have hl : es.toList.length = l.length := by have := congrArg List.length h; simpa using this
    have hlt : p.1 < es.size := by simpa using (by omega : p.1 < es.toList.length)
    constructor
    · rw [Array.toList_modify, List.map_set, ← h]
      refine List.ext_getElem? fun j => ?_
      rw [List.getElem?_map, List.getElem?_modify, List.getElem?_set, List.getElem?_map]
      by_cases hj : p.1 = j
      · subst hj
        simp [hlt]
      · simp [hj]
    · have h3 : (es.toList.map fun e => (e.key, e.val))[p.1]? = (l.map fun p => (Value.int .i64 p.1, Value.bool p.2))[p.1]? := by rw [h]
      rw [List.getElem?_map, List.getElem?_map, h2] at h3
      simp only [Array.getElem?_toList, Option.map_some] at h3
      obtain ⟨e0, he0, h4⟩ := Option.map_eq_some_iff.1 h3
      rw [he0]
      simp only [Prod.mk.injEq] at h4
      simp [h4.1]
theorem op_mapUpdate (hC : CfgOk C) (h : Rel n w0 F0 S0 G F μ fp [] σ a w) (hd : ∀ k, o.dst = some k → k < n) {t : TypeId} {m x y : Operand} (ho : o.op = .mapUpdate t m x y) (hr : mapUpdateF C σ t (σ.get m) (σ.get x) (σ.get y) = some σ') : OpOk C n w0 F0 S0 G o a w (σ'.put o.dst (.tup [])) := by
  unfold mapUpdateF at hr
  simp only [Option.bind_eq_bind, Option.bind_eq_some_iff] at hr
  obtain ⟨_, hm, hr⟩ := hr
  obtain ⟨tk, te, ht, hk, _⟩ := mapT_ok hC hm
  split at hr
  case h_2 => cases hr
  rename_i e wv l k v hxm hxk hxv
  simp only [Option.bind_eq_some_iff, Option.some.injEq] at hr
  obtain ⟨_, hv, _, hfz, rfl⟩ := hr
  have hfz := ensure_some hfz
  obtain ⟨hl, hw⟩ : (σ.en e).live = true ∧ (σ.en e).wr = wv := by
    unfold St.valid at hv
    exact ensure_some hv
  have hm1 : SLeaf F w σ.en μ fp (a.eval m) (.mp e wv l) := by have := h.get m; rw [hxm] at this; exact this
  have hk1 : a.eval x = .int .i64 k := SRep.int_inv (hxk ▸ h.get x)
  have hv1 : a.eval y = .bool v := SRep.bool_inv (hxv ▸ h.get y)
  obtain ⟨b, es, clock, hvm, hb, hrep, hμ, _⟩ := hm1.2 hl hw
  have hμ := hμ hfz
  have hfp : fp e = [b] := by
    rcases (h.ent e hl).2 with ⟨e1, _⟩ | ⟨b', cur, et, fr, us, f1, e1, e2, _⟩ | ⟨_, b', _, _, e1, _, e5⟩
    · rw [hμ] at e1; cases e1
    · rw [hμ] at e1; cases e1; rw [hb] at e2; cases e2
    · rw [hμ] at e1; cases e1
      rcases e5 with ⟨e5, _⟩ | ⟨_, e5⟩
      · rw [hfz] at e5; cases e5
      · exact e5
  have hel : (σ.en e).elems = [] := by
    rcases (h.ent e hl).2 with ⟨_, e2, _⟩ | ⟨b', cur, et, fr, us, f1, e1, e2, _⟩ | ⟨e2, _⟩
    · exact e2
    · rw [hμ] at e1; cases e1; rw [hb] at e2; cases e2
    · exact e2
  have hbl : b < w.heap.size := (Array.getElem?_eq_some_iff.1 hb).1
  obtain ⟨hbF, _, hb0⟩ := h.own e hl b (by rw [hfp]; simp)
  have hrun : ∃ es' clock', (Instr.mapUpdate t (.map (some b)) (.int .i64 k) (.bool v)).run C.P w = .ok () { w with heap := w.heap.setIfInBounds b (.map es' clock') } ∧ MapRep es' (setM l k v) := by
    have hf := findNow_rep k es.toList l 0 hrep
    obtain ⟨s1, s2⟩ := setM_rep hrep k v clock
    cases hi : idxM l k with
    | none =>
      rw [hi] at hf
      refine ⟨es.push { key := .int .i64 k, val := .bool v, born := clock }, clock + 1, ?_, s1 hi⟩
      simp only [Instr.mapUpdate, Sem.run_bind, run_underlying ht, Result.andThen, MapKept.run_getObj_map hb, MapKept.run_checkKey hk (show MapKept.IsKey (.int .i64) (.int .i64 k) from rfl), MapKept.run_findKey hk hf, Option.map_none, MapKept.run_setObj_map _ hb]
    | some p =>
      rw [hi] at hf
      obtain ⟨s3, s4⟩ := s2 p hi
      refine ⟨es.modify p.1 fun e => { e with key := .int .i64 k, val := .bool v }, clock, ?_, s3⟩
      simp only [Instr.mapUpdate, Sem.run_bind, run_underlying ht, Result.andThen, MapKept.run_getObj_map hb, MapKept.run_checkKey hk (show MapKept.IsKey (.int .i64) (.int .i64 k) from rfl), MapKept.run_findKey hk hf, Option.map_some, MapKept.run_setObj_map _ hb, Nat.zero_add, s4,
        MapKept.run_keyThatStays (show MapKept.IsKey (.int .i64) (.int .i64 k) from rfl)]
  obtain ⟨es', clock', hrun, hrep'⟩ := hrun
  obtain ⟨w1, hw1⟩ : ∃ w1 : World, w1 = { w with heap := w.heap.setIfInBounds b (.map es' clock') } := ⟨_, rfl⟩
  rw [← hw1] at hrun
  have hnew : w1.heap[b]? = some (.map es' clock') := by rw [hw1]; exact (MapKept.heap_set hb).1
  have hoth : ∀ b', b' ≠ b → w1.heap[b']? = w.heap[b']? := fun b' hb' => by rw [hw1]; exact (MapKept.heap_set hb).2 b' hb'
  have hsz : w1.heap.size = w.heap.size := by rw [hw1]; simp
  obtain ⟨E', hE'⟩ : ∃ E' : Ent, E' = { σ.en e with wr := (σ.en e).wr + 1 } := ⟨_, rfl⟩
  have en' : ∀ e', e' ≠ e → (σ.ent e E').en e' = σ.en e' := fun e' he => by simp [St.ent, upd, he]
  have ene : (σ.ent e E').en e = E' := by simp [St.ent, upd]
  have live' : ∀ e', ((σ.ent e E').en e').live = (σ.en e').live := fun e' => by
    by_cases he : e' = e
    · subst he; rw [ene, hE']
    · rw [en' e' he]
  have sz' : ∀ b', sameSize w w1 b' := by
    intro b' c et' fr hc
    have hb' : b' ≠ b := fun hx => by subst hx; rw [hb] at hc; cases hc
    exact ⟨c, by rw [hoth b' hb']; exact hc, rfl⟩
  have hne : ∀ e', e' ≠ e → (σ.en e').live = true → ∀ b', b' ∈ fp e' → b' ≠ b := fun e' he hle b' hb' hx => h.apart e' e hle hl he b' hb' (by rw [hfp, hx]; simp)
  have μne : ∀ e', e' ≠ e → (σ.en e').live = true → ∀ b', μ e' = some b' → b' ≠ b := by
    intro e' he hle b' hm hx
    subst hx
    rcases (h.ent e' hle).2 with ⟨e1, _⟩ | ⟨b2, _, _, _, _, f2, e1, e2, _⟩ | ⟨_, b2, _, _, e1, _, e5⟩
    · rw [hm] at e1; cases e1
    · rw [hm] at e1; cases e1; rw [hb] at e2; cases e2
    · rw [hm] at e1; cases e1
      rcases e5 with ⟨_, _, e6⟩ | ⟨_, e6⟩
      · exact hbF e6
      · exact hne e' he hle b' (by rw [e6]; simp) rfl
  have hF : ∀ b', F b' → w1.heap[b']? = w.heap[b']? := fun b' hb' => hoth b' (fun e => hbF (e ▸ hb'))
  have st : Step F w σ.en μ fp F w1 (σ.ent e E').en μ fp := by
    refine ⟨fun _ h => h, hF, fun e' => ?_, fun e' => ?_, fun e' h' hg => ?_, fun e' h' hg => ?_⟩
    · by_cases he : e' = e
      · subst he; rw [ene, hE']; exact Nat.le_refl _
      · rw [en' e' he]; exact Nat.le_refl _
    · by_cases he : e' = e
      · subst he; rw [ene, hE']; exact Nat.le_succ _
      · rw [en' e' he]; exact Nat.le_refl _
    · rw [live'] at h'
      by_cases he : e' = e
      · subst he; rw [ene, hE']; exact ⟨h', rfl, rfl, Nat.le_refl _, fun b' _ => sz' b'⟩
      · rw [en' e' he]; exact ⟨h', rfl, rfl, Nat.le_refl _, fun b' _ => sz' b'⟩
    · rw [live'] at h'
      by_cases he : e' = e
      · subst he; rw [ene, hE'] at hg; simp at hg
      · rw [en' e' he]
        exact ⟨h', fun b' hb' => ⟨hoth b' (hne e' he h' b' hb'), .inl hb'⟩, fun hf => ⟨hf, rfl, rfl, rfl, fun b' hm => hoth b' (μne e' he h' b' hm)⟩⟩
  have r1 := h.move (en' := (σ.ent e E').en) (w' := w1) (μ' := μ) (fp' := fp) (L' := []) st ⟨by rw [hw1], by rw [hw1], by rw [hw1], by omega, fun b' _ hn => hoth b' (fun hx => hn (hx ▸ hb0)), sz'⟩ (fun b' hb' => by rw [hsz]; exact h.free b' hb') (fun e' h' => ?_) (fun e' h' b' hb' => ?_) (fun e' h' => ?_) (fun e' e2 h' h2 => ?_) (fun b' hb' => by cases hb') List.nodup_nil
  rotate_left
  · rw [live'] at h'
    by_cases he : e' = e
    · subst he
      rw [ene, hE']
      exact ⟨by rw [hel]; simp, .inr <| .inr ⟨hel, b, es', clock', hμ, hnew, .inr ⟨hfz, hfp⟩⟩⟩
    · rw [en' e' he]
      exact (h.ent e' h').mono (fun _ h => h) (fun b' hb' => hb'.elim (hF b') (fun hb' => hoth b' (hne e' he h' b' hb')))
  · rw [live'] at h'; rw [hsz]; exact h.own e' h' b' hb'
  · rw [live'] at h'; exact h.nodup e' h'
  · rw [live'] at h' h2; exact h.apart e' e2 h' h2
  have hmp : ∀ v', (∃ l2, SLeaf F w σ.en μ fp v' (.mp e wv l2)) → SLeaf F w1 (σ.ent e E').en μ fp v' (.mp e (wv + 1) (setM l k v)) := by
    rintro v' ⟨l2, h1, h2⟩
    obtain ⟨b2, es2, cl2, g1, g2, g3, g4, _⟩ := h2 hl hw
    have := g4 hfz
    rw [hμ] at this; cases this
    refine ⟨by rw [ene, hE', hw]; exact Nat.le_refl _, fun _ _ => ⟨b, es', clock', g1, hnew, hrep', fun _ => hμ, .inl (by rw [hfp]; simp)⟩⟩
  have r2 : Rel n w0 F0 S0 G F μ fp [] ((σ.ent e E').remap e wv (setM l k v)) a w1 :=
    ⟨r1.defers, r1.size, r1.kept, r1.base, r1.free, r1.ent, r1.own, r1.nodup, r1.apart, r1.loose, r1.looseNodup, fun s => noMp (σ' := σ.ent e E') (h.slots s) st (fun l2 hx => hmp _ ⟨l2, by have := h.slots s; rw [hx] at this; exact this⟩), r1.ghost⟩
  subst hE'
  refine ⟨undef, w1, .inr ⟨?_, rfl⟩, F, μ, fp, r2.putO hd (SRep.unit _ _ _ _ _)⟩
  simp only [execOp, ho, hvm, hk1, hv1, Sem.run_bind, hrun, Result.andThen, Sem.run_pure]
end
end Go.Vm
end
section
/- Functions' values; all operations that are no calls. -/
namespace Go.Vm
section
variable {C : Cfg} {n : Nat} {w0 : World} {F0 S0 F : Nat → Prop} {G : Value → AV → Prop} {μ : Nat → Option Nat} {fp : Nat → List Nat} {L : List Nat} {σ σ' : St} {a : Act} {w w' : World} {o : Oper}
theorem capture_ok (h : Rel n w0 F0 S0 G F μ fp L σ a w) {x : Operand} {y : AV} (hc : capture σ x = some (y, σ')) :
    ∃ F' fp', Rel n w0 F0 S0 G F' μ fp' L σ' a w ∧ RepL F' w [a.eval x] [y] [] ∧ (∀ b, F b → F' b) := by
  have hx := h.get x
  unfold capture at hc
  split at hc
  · rename_i e g i j hxe
    rw [hxe] at hx
    simp only [Option.bind_eq_bind, Option.bind_eq_some_iff] at hc
    obtain ⟨E, hE, z, hz, hc⟩ := hc
    simp only [Option.some.injEq, Prod.mk.injEq] at hc
    obtain ⟨rfl, rfl⟩ := hc
    obtain ⟨hl, hg, rfl⟩ := cur_some hE
    obtain ⟨b, cur, et, fr, us, f1, hμ, hb, hcell, hrep, hf, hfz⟩ := h.cells hl hz
    obtain ⟨b', hμ', hv, _, _, _, hcb⟩ := hx.2 hl hg
    rw [hμ] at hμ'; cases hμ'
    obtain ⟨fa, fb, rfl, _, h2⟩ := hrep.take j
    have hent := (h.ent e hl).2
    have hin : ∀ b' ∈ fa ++ fb, b' ∈ fp e := hf
    have mk : ∀ F' : Nat → Prop, (∀ b, F b → F' b) → (∀ b ∈ fp e, F' b) → F' b → RepL F' w [a.eval x] [.cptr none (((leaves z).drop j).map froize)] [] := by
      intro F' h1 h3 h4
      rw [hv]
      refine .cptr h4 (us := us.drop j) (fun q hq => ?_) ((h2.froized).mono (fun b hb => hb.elim (h1 b) fun hb => h3 b (hin b (by simp [hb]))) (fun _ _ => rfl)) .nil
      rw [List.length_drop] at hq
      rw [cell_of_row w b _ cur et fr hb, Nat.add_assoc, hcell _ (by omega), List.getElem?_drop]
    split
    · rename_i hfrz
      rcases hent with ⟨e1, _⟩ | ⟨b', cur', et', fr', us', f1', e1, e2, e3, e4, e5⟩ | hm
      rotate_right 1
      · exact (hm.noCells (by assumption) (by assumption)).elim
      · rw [hμ] at e1; cases e1
      rw [hμ] at e1; cases e1
      rcases e5 with ⟨_, e5, _, e6⟩ | ⟨e5, _⟩
      · exact ⟨F, fp, h, mk F (fun _ h => h) (fun b hb => by rw [e5] at hb; cases hb) e6, fun _ h => h⟩
      · rw [hfrz] at e5; cases e5
    · rename_i hfrz
      have hfrz : (σ.en e).frz = false := by simpa using hfrz
      rcases hent with ⟨e1, _⟩ | ⟨b', cur', et', fr', us', f1', e1, e2, e3, e4, e5⟩ | hm
      rotate_right 1
      · exact (hm.noCells (by assumption) (by assumption)).elim
      · rw [hμ] at e1; cases e1
      rw [hμ] at e1; cases e1
      rcases e5 with ⟨e5, _⟩ | ⟨_, _, e5⟩
      · rw [hfrz] at e5; cases e5
      · exact ⟨_, _, (h.freeze e hl hfrz).1, mk _ (fun _ h => .inl h) (fun b hb => .inr hb) (.inr (by rw [e5]; simp)), fun _ h => .inl h⟩
  · rename_i c hxe
    rw [hxe] at hx
    cases hc
    exact ⟨F, fp, h, hx, fun _ h => h⟩
  · cases hc
theorem captureL_ok : ∀ {xs : List Operand} {ys : List AV} {σ σ' : St} {F : Nat → Prop} {fp : Nat → List Nat}, Rel n w0 F0 S0 G F μ fp L σ a w → captureL xs σ = some (ys, σ') →
    ∃ F' fp', Rel n w0 F0 S0 G F' μ fp' L σ' a w ∧ RepL F' w (xs.map a.eval) ys [] ∧ (∀ b, F b → F' b)
  | [], ys, σ, σ', F, fp, h, hc => by
    simp only [captureL, Option.some.injEq, Prod.mk.injEq] at hc
    obtain ⟨rfl, rfl⟩ := hc
    exact ⟨F, fp, h, .nil, fun _ h => h⟩
  | x :: xs, ys, σ, σ', F, fp, h, hc => by
    simp only [captureL, Option.bind_eq_bind, Option.bind_eq_some_iff] at hc
    obtain ⟨⟨y, σ1⟩, hy, ⟨ys', σ2⟩, hys, he⟩ := hc
    simp only [Option.some.injEq, Prod.mk.injEq] at he
    obtain ⟨rfl, rfl⟩ := he
    obtain ⟨F1, fp1, r1, r2, r3⟩ := capture_ok h hy
    obtain ⟨F2, fp2, s1, s2, s3⟩ := captureL_ok r1 hys
    exact ⟨F2, fp2, s1, by simpa using (r2.mono (F' := F2) (w' := w) s3 (fun _ _ => rfl)).cons s2, fun b hb => s3 b (r3 b hb)⟩
theorem op_makeFunc (h : Rel n w0 F0 S0 G F μ fp [] σ a w) (hd : ∀ k, o.dst = some k → k < n) {f : Nat} {first cap : Array Operand} (ho : o.op = .makeFunc (.func f) first cap) (hr : opF C o σ = some σ') : OpOk C n w0 F0 S0 G o a w σ' := by
  simp only [opF, ho, Option.bind_eq_bind, Option.bind_eq_some_iff] at hr
  obtain ⟨_, hf, ⟨cs, σ1⟩, hc, hr⟩ := hr
  obtain rfl := ensure_some hf
  cases hr
  obtain ⟨F1, fp1, r1, r2, _⟩ := captureL_ok h hc
  refine ⟨.func (.func f) #[] (cap.map a.eval), w, .inl ?_, F1, μ, fp1, r1.putO hd (x := .clo f cs) ?_⟩
  · simp [execOp, ho, Instr.makeFunc]
  · have : cap.map a.eval = (cap.toList.map a.eval).toArray := by apply Array.ext'; simp
    rw [this]
    exact RepL.clo r2 .nil
theorem Rel.extend {newF : Nat → Prop} {g : List Nat} (h : Rel n w0 F0 S0 G F μ fp L σ a w) (hk : KeptS w w' (fun _ => False)) (hn : ∀ b, newF b → w.heap.size ≤ b ∧ b < w'.heap.size) (hg : ∀ b ∈ g, w.heap.size ≤ b ∧ b < w'.heap.size ∧ ¬ newF b) (hnd : g.Nodup) :
    Rel n w0 F0 S0 G (fun b => F b ∨ newF b) μ fp (g ++ L) σ a w' := by
  have old : ∀ b, b < w.heap.size → w'.heap[b]? = w.heap[b]? := fun b hb => hk.block b hb (fun h => h)
  have base := h.kept.size
  have hFo : ∀ b, F b → w'.heap[b]? = w.heap[b]? := fun b hb => old b (h.free b hb).1
  have hμ : ∀ e b, (σ.en e).live = true → μ e = some b → w'.heap[b]? = w.heap[b]? := fun e b hl hm => by
    rcases (h.ent e hl).2 with ⟨e1, _⟩ | ⟨b', cur, et, fr, us, f1, e1, e2, _⟩ | ⟨_, b', _, _, e1, e2, _⟩
    rotate_right 1
    · rw [hm] at e1; cases e1; exact old b (Array.getElem?_eq_some_iff.1 e2).1
    · rw [hm] at e1; cases e1
    · rw [hm] at e1; cases e1; exact old b (Array.getElem?_eq_some_iff.1 e2).1
  refine h.move (en' := σ.en) (w' := w') (μ' := μ) (fp' := fp) ⟨fun _ h => .inl h, hFo, fun _ => Nat.le_refl _, fun _ => Nat.le_refl _, fun e hl _ => ⟨hl, rfl, rfl, Nat.le_refl _, fun b _ => hk.same b⟩,
    fun e hl _ => ⟨hl, fun b hb => ⟨old b (h.own e hl b hb).2.1, .inl hb⟩, fun hf => ⟨hf, rfl, rfl, rfl, fun b hm => hμ e b hl hm⟩⟩⟩ ⟨hk.os, hk.tape, hk.output, hk.size, fun b hb _ => old b hb, hk.same⟩ (fun b hb => ?_) (fun e hl => ?_) (fun e hl b hb => ?_) h.nodup h.apart (fun b hb => ?_) ?_
  · rcases hb with hb | hb
    · exact ⟨Nat.lt_of_lt_of_le (h.free b hb).1 hk.size, (h.free b hb).2⟩
    · exact ⟨(hn b hb).2, .inr (.inr (by have := (hn b hb).1; omega))⟩
  · exact (h.ent e hl).mono (fun b hb => .inl hb) (fun b hb => hb.elim (hFo b) (fun hb => old b (h.own e hl b hb).2.1))
  · obtain ⟨h1, h2, h3⟩ := h.own e hl b hb
    refine ⟨fun hx => hx.elim h1 fun hx => ?_, Nat.lt_of_lt_of_le h2 hk.size, h3⟩
    have := (hn b hx).1; omega
  · rcases List.mem_append.1 hb with hb | hb
    · obtain ⟨h1, h2, h3⟩ := hg b hb
      refine ⟨fun hx => hx.elim (fun hx => ?_) h3, h2, .inr (by omega), fun e hl hx => ?_⟩
      · have := (h.free b hx).1; omega
      · have := (h.own e hl b hx).2.1; omega
    · obtain ⟨h1, h2, h3, h4⟩ := h.loose b hb
      refine ⟨fun hx => hx.elim h1 fun hx => ?_, Nat.lt_of_lt_of_le h2 hk.size, h3, h4⟩
      have := (hn b hx).1; omega
  · refine List.nodup_append.2 ⟨hnd, h.looseNodup, fun x hx y hy hxy => ?_⟩
    subst hxy
    have := (hg x hx).1
    have := (h.loose x hy).2.1
    omega
theorem op_convB (hC : CfgOk C) (h : Rel n w0 F0 S0 G F μ fp [] σ a w) (hd : ∀ k, o.dst = some k → k < n) {s t : TypeId} {x : Operand} {r : AV} (ho : o.op = .convert s t x) (hr : convB C s t (σ.get x) = some r) :
    OpOk C n w0 F0 S0 G o a w (σ.put o.dst r) := by
  simp only [convB, Option.bind_eq_bind, Option.bind_eq_some_iff] at hr
  obtain ⟨T, hT, U, hU, hr⟩ := hr
  have hTd := (hC.tt s T hT).desc
  have hUd := (hC.tt t U hU).desc
  have hx := h.get x
  split at hr
  case h_2 => cases hr
  rename_i el b h1 h2 h3
  rw [h1] at hTd
  rw [h2] at hUd
  rw [h3] at hx
  have hTd : C.P.underlying s = some .string := hTd
  have hUd : C.P.underlying t = some (.slice el) := hUd
  simp only [Option.bind_eq_some_iff] at hr
  obtain ⟨V, hV, hr⟩ := hr
  have hVd := (hC.tt el V hV).desc
  split at hr
  case h_2 => cases hr
  rename_i h4
  rw [h4] at hVd
  have hVd : C.P.underlying el = some (.int .u8) := hVd
  cases hr
  have hrun := run_bytes_of_string (P := C.P) w s t el b hTd hUd hVd
  generalize hcap : grownCap w b.size 0 el = cap at hrun
  have hle : b.size ≤ cap := by rw [← hcap]; exact grownCap_ge w _ _ _
  have hk : KeptS w (w.drew.alloc (.cells (bytesRow b cap) el ((bytesRow b cap).size, (bytesRow b cap).size + 1))) (fun _ => False) := keptS_push rfl rfl rfl rfl
  have hsz : (w.drew.alloc (.cells (bytesRow b cap) el ((bytesRow b cap).size, (bytesRow b cap).size + 1))).heap.size = w.heap.size + 1 := by
    show (w.heap.push _).size = _
    simp
  have hlen : (b.data.toList.map fun b => AV.int .u8 b.toNat).length = b.size := by rw [List.length_map, Array.length_toList]; rfl
  have hrb := fun F w => repl_bytes F w b.data.toList
  have r1 := h.extend (newF := fun k => k = w.heap.size) (g := []) hk (fun k hk => by subst hk; rw [hsz]; omega) (by simp) List.nodup_nil
  refine ⟨.slice (some ⟨w.heap.size, 0, none⟩) b.size cap, _, .inl ?_, _, _, _, r1.putO hd (x := .fro none false (b.data.toList.map fun b => .int .u8 b.toNat)) ?_⟩
  · simp only [execOp, ho, SRep.str_inv hx, Sem.run_bind, hrun, Result.andThen_ok, Sem.run_pure]
  · refine RepL.fro (sz := 1) (us := b.data.toList.map fun b => Value.int .u8 b.toNat) hlen hle (by simp) (.inr rfl) (fun q hq => ?_) (fun z hz => ?_) ?_ .nil
    · have hb : (w.drew.alloc (.cells (bytesRow b cap) el ((bytesRow b cap).size, (bytesRow b cap).size + 1))).heap[w.heap.size]? = some (.cells (bytesRow b cap) el ((bytesRow b cap).size, (bytesRow b cap).size + 1)) := by
        show (w.heap.push _)[w.heap.size]? = _
        simp
      rw [Nat.zero_add, cell_of_row _ _ q _ _ _ hb]
      have hq' : q < (b.data.map fun b => Value.int .u8 b.toNat).size := by simpa using hq
      unfold bytesRow
      rw [Array.getElem?_append_left hq']
      simp
    · obtain ⟨c, _, rfl⟩ := List.mem_map.1 hz; rfl
    · rw [(hrb F w).flat]; exact hrb _ _
theorem op_ok (hC : CfgOk C) (h : Rel n w0 F0 S0 G F μ fp [] σ a w) (hd : ∀ k, o.dst = some k → k < n) (hr : opF C o σ = some σ') : OpOk C n w0 F0 S0 G o a w σ' := by
  have hr0 := hr
  unfold opF at hr
  split at hr
  · rename_i x ho; cases hr; exact (op_move h (.inl ho)).ok h hd
  · rename_i x ho; cases hr; exact (op_move h (.inr ho)).ok h hd
  · rename_i c x y ho
    split at hr
    · rename_i b hb; cases hr; exact (op_pick h ho hb).ok h hd
    · cases hr
  · rename_i t ho; exact op_alloc hC h hd ho hr0
  · rename_i t x ho; exact op_box hC h hd ho hr0
  · rename_i t ps ho; exact (op_build hC h ho hr0).ok h hd
  · rename_i t n ps ho; exact op_buildSlice hC h hd ho hr0
  · rename_i t x ho
    simp only [Option.bind_eq_bind, Option.bind_eq_some_iff] at hr
    obtain ⟨v, hv, hr⟩ := hr; cases hr; exact (op_load hC h ho hv).ok h hd
  · rename_i t p x ho
    simp only [Option.bind_eq_bind, Option.bind_eq_some_iff] at hr
    obtain ⟨v, hv, hr⟩ := hr; cases hr; exact op_storeR hC h hd ho hv
  · rename_i x ho; exact (op_nilCheck h ho hr0).ok h hd
  · rename_i op t x y t' ho
    simp only [Option.bind_eq_bind, Option.bind_eq_some_iff] at hr
    obtain ⟨v, hv, hr⟩ := hr; cases hr; exact (op_bin hC h ho hv).ok h hd
  · rename_i op t x ho
    simp only [Option.bind_eq_bind, Option.bind_eq_some_iff] at hr
    obtain ⟨v, hv, hr⟩ := hr; cases hr; exact (op_un h ho hv).ok h hd
  · rename_i s t x ho
    split at hr
    · rename_i v hv; cases hr; exact (op_convert hC h ho hv).ok h hd
    · split at hr
      · rename_i v hv; cases hr; exact (op_convS hC h ho hv).ok h hd
      · simp only [Option.bind_eq_bind, Option.bind_eq_some_iff] at hr
        obtain ⟨v, hv, hr⟩ := hr; cases hr; exact op_convB hC h hd ho hv
  · rename_i f first cap ho; exact op_makeFunc h hd ho hr0
  · rename_i t l c ho; exact op_makeSlice hC h hd ho hr0
  · rename_i t x lo hi mx ho
    simp only [Option.bind_eq_bind, Option.bind_eq_some_iff] at hr
    obtain ⟨v, hv, hr⟩ := hr; cases hr; exact (op_slice hC h ho hv).ok h hd
  · rename_i s x f ho
    simp only [Option.bind_eq_bind, Option.bind_eq_some_iff] at hr
    obtain ⟨v, hv, hr⟩ := hr; cases hr; exact (op_fieldAddr hC h ho hv).ok h hd
  · rename_i s x f ho
    simp only [Option.bind_eq_bind, Option.bind_eq_some_iff] at hr
    obtain ⟨v, hv, hr⟩ := hr; cases hr; exact (op_field hC h ho hv).ok h hd
  · rename_i t x ix ho
    simp only [Option.bind_eq_bind, Option.bind_eq_some_iff] at hr
    obtain ⟨v, hv, hr⟩ := hr; cases hr; exact (op_idxG hC h ho hv).ok h hd
  · rename_i t x ix ho; exact (op_index hC h ho hr0).ok h hd
  · rename_i x i ho
    split at hr
    · rename_i vs hx
      simp only [Option.bind_eq_bind, Option.bind_eq_some_iff] at hr
      obtain ⟨v, hv, hr⟩ := hr; cases hr; exact (op_extract h ho hx hv).ok h hd
    · cases hr
  · rename_i b args ts ho
    split at hr
    · rename_i x t ha ht
      simp only [Option.bind_eq_bind, Option.bind_eq_some_iff] at hr
      obtain ⟨T, hT, m, hm, hr⟩ := hr; cases hr; exact (op_len hC h ho ha ht hT hm).ok h hd
    · rename_i x t ha ht
      simp only [Option.bind_eq_bind, Option.bind_eq_some_iff] at hr
      obtain ⟨T, hT, m, hm, hr⟩ := hr; cases hr; exact (op_cap hC h ho ha ht hT hm).ok h hd
    · rename_i x y t t2 ha ht; exact op_append hC h hd ho ha ht hr
    · rename_i x y t t2 ha ht; exact op_copy hC h hd ho ha ht hr
    · rename_i x t ha ht
      simp only [Option.bind_eq_bind, Option.bind_eq_some_iff] at hr
      obtain ⟨σ1, hv, hr⟩ := hr; cases hr; exact op_clear hC h hd ho ha ht hv
    · rename_i x xs _ ha
      simp only [Option.bind_eq_bind, Option.bind_eq_some_iff] at hr
      obtain ⟨v, hv, hr⟩ := hr; cases hr; exact (op_min h ho ha hv).ok h hd
    · rename_i x xs _ ha
      simp only [Option.bind_eq_bind, Option.bind_eq_some_iff] at hr
      obtain ⟨v, hv, hr⟩ := hr; cases hr; exact (op_max h ho ha hv).ok h hd
    · cases hr
  · rename_i t ho; exact op_makeMap hC h hd ho hr
  · rename_i t m x ho
    simp only [Option.bind_eq_bind, Option.bind_eq_some_iff] at hr
    obtain ⟨v, hv, hr⟩ := hr; cases hr; exact (op_lookup hC h ho hv).ok h hd
  · rename_i t m x v ho
    simp only [Option.bind_eq_bind, Option.bind_eq_some_iff] at hr
    obtain ⟨s1, hv, hr⟩ := hr; cases hr; exact op_mapUpdate hC h hd ho hv
  · cases hr
end
end Go.Vm
end
