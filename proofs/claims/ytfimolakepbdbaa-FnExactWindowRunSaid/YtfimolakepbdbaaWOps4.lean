/- What lies behind an address, read. -/
import Derived.Test.YtfimolakepbdbaaWOps3
namespace Go.Vm

section
variable {C : Cfg} {n : Nat} {w0 : World} {F0 S0 F : Nat → Prop} {G : Value → AV → Prop} {μ : Nat → Option Nat} {fp : Nat → List Nat} {L : List Nat} {σ σ' : St} {a : Act} {w w' : World} {o : Oper}

theorem run_loadAt {t : TypeId} {T : TI} (hT : TIok C.P t T) {b o' : Nat} {vs : List Value} (hl : vs.length = T.sz) (hc : ∀ q, q < vs.length → w.cell? ⟨b, o' + q, none⟩ = vs[q]?) :
    (Instr.loadAt t (.pointer (some ⟨b, o', none⟩))).run C.P w = .ok (if T.desc.isStruct then .agg vs.toArray else vs.headD undef) w := by
  simp only [Instr.loadAt, Instr.sureAddr, Sem.run_bind, Sem.run_pure, Result.andThen_ok, loadVar, hT.isAgg w]
  cases hs : T.desc.isStruct
  · cases vs with
    | nil => have := hT.pos.1; simp at hl; omega
    | cons v vs =>
      have := hc 0 (by simp)
      simp at this
      simp [this]
  · have := run_loadCells_list (P := C.P) w ⟨b, o', none⟩ vs (fun j v hv => by
      obtain ⟨hj, _⟩ := List.getElem?_eq_some_iff.1 hv
      rw [Addr.add_lit, hc j hj, hv])
    simp [hT.size, ← hl, this]

theorem RepL.one {v : Value} {x : AV} {f : List Nat} (h : RepL F w [v] [x] f) : v.oneCell' = true := by
  cases h <;> first | rfl | assumption

theorem RepL.ones {vs : List Value} {xs : List AV} {f : List Nat} (h : RepL F w vs xs f) : ∀ v ∈ vs, v.oneCell' = true := by
  induction h with
  | nil => simp
  | und hv t ih => simp; exact ⟨hv, by simpa using ih⟩
  | _ => simp_all [Value.oneCell']

theorem RepL.leaves1 {v : Value} {x : AV} {f : List Nat} (h : RepL F w [v] [x] f) : leaves x = [x] := by
  cases h <;> rfl

theorem RepL.flat {vs : List Value} {xs : List AV} {f : List Nat} (h : RepL F w vs xs f) : xs.flatMap leaves = xs := by
  induction h with
  | nil => rfl
  | _ => simp_all [List.flatMap_cons, leaves]

theorem RepL.leaf_nil {v : Value} {x : AV} {f : List Nat} (h : RepL F w [v] [x] f) (hx : ∀ sz l, x ≠ .own sz l) : f = [] := by
  cases h with
  | own => exact absurd rfl (hx _ _)
  | own0 => exact absurd rfl (hx _ _)
  | und hv t => cases t; rfl
  | int t => cases t; rfl
  | bool t => cases t; rfl
  | str t => cases t; rfl
  | fro0 hc t => cases t; rfl
  | fro hn hnc hc hF hcell hsz hu t => cases t; rfl
  | cptr hF hcell hu t => cases t; rfl
  | clo hu t => cases t; rfl

theorem RepL.sleaf {en : Nat → Ent} {v : Value} {x : AV} {f : List Nat} (h : RepL F w [v] [x] f) (hx : ∀ sz l, x ≠ .own sz l) : SLeaf F w en μ fp v x := by
  obtain rfl := h.leaf_nil hx
  cases x <;> first | exact h | exact absurd rfl (hx _ _) | (cases h; done) | skip
  · rename_i tg clip l
    cases tg with
    | none => exact h
    | some tg => cases h
  · rename_i tg c
    cases tg with
    | none => exact h
    | some tg => cases h

theorem seen_leaf {e i j b : Nat} {z x : AV} {v : Value} {f : List Nat} {cur : Array Value} {et : TypeId} {fr : Nat × Nat} (hz : (σ.en e).elems[i]? = some z) (hx : (leaves z)[j]? = some x) (hμ : μ e = some b)
    (hb : w.heap[b]? = some (.cells cur et fr)) (hv : cur[i * (σ.en e).sz + j]? = some v) (hr : RepL F w [v] [x] f) (hf : ∀ b ∈ f, b ∈ fp e) : SLeaf F w σ.en μ fp v (seen e (σ.en e).wr i j x) := by
  cases x with
  | own sz l =>
    refine ⟨Nat.le_refl _, fun _ _ => ⟨?_, fun _ i' j' hij => ?_⟩⟩
    · have := hr.froized
      simp only [List.map_cons, List.map_nil, froize, froizeL_eq] at this
      exact this.mono (fun b hb => hb.imp id (hf b)) (fun _ _ => rfl)
    · cases hij
      exact ⟨z, b, cur, et, fr, sz, hz, hx, hμ, hb, hv⟩
  | _ => exact hr.sleaf (by simp)

theorem seenL_get {e w' i : Nat} : ∀ {ls : List AV} {j q : Nat}, (seenL e w' i j ls)[q]? = (ls[q]?).map (seen e w' i (j + q))
  | [], j, q => by simp [seenL]
  | x :: xs, j, 0 => by simp [seenL]
  | x :: xs, j, q + 1 => by simp [seenL, seenL_get (ls := xs)]; congr 2; omega

theorem seenL_length {e w' i : Nat} : ∀ {ls : List AV} {j : Nat}, (seenL e w' i j ls).length = ls.length
  | [], _ => rfl
  | x :: xs, j => by simp [seenL, seenL_length (ls := xs)]

theorem RepL.at {vs : List Value} {xs : List AV} {f : List Nat} {q : Nat} {v : Value} {x : AV} (h : RepL F w vs xs f) (hv : vs[q]? = some v) (hx : xs[q]? = some x) : ∃ g, RepL F w [v] [x] g ∧ ∀ b ∈ g, b ∈ f := by
  obtain ⟨v', f1, f2, f3, hv', rfl, h2, _⟩ := h.get hx
  rw [hv] at hv'; cases hv'
  exact ⟨f2, h2, fun b hb => by simp [hb]⟩

theorem seenC_none_leaf {en : Nat → Ent} {v : Value} {x : AV} (h : RepL F w [v] [x] []) : SLeaf F w en μ fp v (seenC none x) := by
  cases x with
  | own sz l => cases h; exact RepL.fro0 (by simp) .nil
  | fro tg clip l =>
    cases tg with
    | none => exact h
    | some tg => cases h
  | _ => exact h.sleaf (by simp)

theorem RepL.fro_froize {v : Value} {clip : Bool} {l : List AV} (h : RepL F w [v] [.fro none clip l] []) : RepL F w [v] [.fro none clip (l.map froize)] [] := by
  obtain ⟨_, ⟨rfl, A, c, rfl, hc⟩ | ⟨b, o, c, sz, us, rfl, hlc, hc, hF, hcell, hs, hu⟩⟩ := h.fro_inv
  · exact h
  · have := hu.froized.mono (F' := F) (fun b hb => hb.elim id (by simp)) (fun _ _ => rfl)
    rw [← flat_froize] at this
    refine .fro (by simp) hlc hc hF hcell (sz := sz) (fun a ha => ?_) this .nil
    obtain ⟨z, hz, rfl⟩ := List.mem_map.1 ha
    rw [leaves_froize]; simpa using hs z hz

theorem seenC_some_leaf {e wv : Nat} {v : Value} {x : AV} (hg : wv ≤ (σ.en e).wr) (h : (σ.en e).live = true → (σ.en e).wr = wv → RepL (fun b => F b ∨ b ∈ fp e) w [v] [froize x] [])
    (hl : (σ.en e).live = true) (hw : (σ.en e).wr = wv) : SLeaf F w σ.en μ fp v (seenC (some (e, wv)) x) := by
  cases x with
  | own sz l =>
    refine ⟨hg, fun h1 h2 => ⟨?_, fun _ i j hij => by cases hij⟩⟩
    have := h h1 h2
    simpa only [froize, froizeL_eq] using this
  | fro tg clip l =>
    cases tg with
    | none => exact ⟨hg, fun h1 h2 => ⟨(h h1 h2).fro_froize, fun _ i j hij => by cases hij⟩⟩
    | some tg => exact RepL.und (h hl hw).one .nil
  | int k i => have := h hl hw; simp only [froize] at this; cases this; exact RepL.int .nil
  | bool b => have := h hl hw; simp only [froize] at this; cases this; exact RepL.bool .nil
  | str s => have := h hl hw; simp only [froize] at this; cases this; exact RepL.str .nil
  | _ => exact RepL.und (h hl hw).one .nil

/-- The cells of a live entry's element. -/
theorem Rel.cells (h : Rel n w0 F0 S0 G F μ fp L σ a w) {e i : Nat} {z : AV} (hl : (σ.en e).live = true) (hz : (σ.en e).elems[i]? = some z) : ∃ b cur et fr us f1, μ e = some b ∧ w.heap[b]? = some (.cells cur et fr) ∧
    (∀ q, q < us.length → cur[i * (σ.en e).sz + q]? = us[q]?) ∧ RepL F w us (leaves z) f1 ∧ (∀ b ∈ f1, b ∈ fp e) ∧ ((σ.en e).frz = true → f1 = []) := by
  obtain ⟨hs, he⟩ := h.ent e hl
  obtain ⟨hi, rfl⟩ := List.getElem?_eq_some_iff.1 hz
  rcases he with ⟨_, h0, _⟩ | ⟨b, cur, et, fr, us, f1, e1, e2, e3, e4, e5⟩
  · rw [h0] at hi; simp at hi
  · obtain ⟨fa, fb, rfl, _, h2⟩ := e4.take (i * (σ.en e).sz)
    obtain ⟨fc, fd, rfl, h3, _⟩ := h2.take (σ.en e).sz
    rw [flat_get hs hz] at h3
    refine ⟨b, cur, et, fr, _, fc, e1, e2, fun q hq => ?_, h3, fun b hb => ?_, fun hf => ?_⟩
    · rw [List.length_take, List.length_drop] at hq
      rw [e3 _ (by omega), List.getElem?_take, if_pos (by omega), List.getElem?_drop]
    · rcases e5 with ⟨_, _, e5, _⟩ | ⟨_, _, e5⟩
      · simp at e5; simp [e5] at hb
      · rw [e5]; simp [hb]
    · rcases e5 with ⟨_, _, e5, _⟩ | ⟨e5, _⟩
      · simp at e5; exact e5.2.1
      · rw [hf] at e5; cases e5

theorem op_load (hC : CfgOk C) (h : Rel n w0 F0 S0 G F μ fp [] σ a w) {t : TypeId} {x : Operand} {r : AV} (ho : o.op = .load t x) (hr : loadF C σ t (σ.get x) = some r) :
    OpPure C F μ fp σ o a w (σ.put o.dst r) := by
  have hx := h.get x
  have run : ∀ {T : TI} {b o' : Nat} {vs : List Value} (w' : World), KeptS w w' (fun _ => False) → TIok C.P t T → a.eval x = .pointer (some ⟨b, o', none⟩) → vs.length = T.sz → (∀ q, q < vs.length → w.cell? ⟨b, o' + q, none⟩ = vs[q]?) →
      (execOp a.eval o).run C.P w' = .ok (.value (if T.desc.isStruct then .agg vs.toArray else vs.headD undef)) w' := by
    intro T b o' vs w' hk hT hv hl hc
    have hc' : ∀ q, q < vs.length → w'.cell? ⟨b, o' + q, none⟩ = vs[q]? := fun q hq => by
      have h1 := hc q hq
      have hb := World.block_lt_of_cell? w ⟨b, o' + q, none⟩ (h1.trans (List.getElem?_eq_getElem hq))
      rw [cell?_congr (hk.block b hb (fun h => h)), h1]
    simp only [execOp, ho, hv, Sem.run_bind, run_loadAt hT hl hc', Result.andThen_ok, Sem.run_pure]
  unfold loadF at hr
  split at hr
  · rename_i e g i j hxe
    rw [hxe] at hx
    simp only [Option.bind_eq_bind, Option.bind_eq_some_iff] at hr
    obtain ⟨T, hT, E, hE, z, hz, _, hlen, hr⟩ := hr
    cases hr
    have hT' := hC.tt t T hT
    have hlen := ensure_some hlen
    obtain ⟨hl, he, rfl⟩ := cur_some hE
    obtain ⟨b, cur, et, fr, us, f1, hμ, hb, hcell, hrep, hf, hfz⟩ := h.cells hl hz
    obtain ⟨b', hμ', hv⟩ := hx.2 hl he
    rw [hμ] at hμ'; cases hμ'
    obtain ⟨fa, fb, rfl, _, h2⟩ := hrep.take j
    obtain ⟨fc, fd, rfl, h3, _⟩ := h2.take T.sz
    have hvl := h3.length
    rw [hlen] at hvl
    have hget : ∀ q u, ((us.drop j).take T.sz)[q]? = some u → cur[i * (σ.en e).sz + (j + q)]? = some u := by
      intro q u hu
      rw [List.getElem?_take] at hu
      split at hu
      · rw [List.getElem?_drop] at hu
        have hlt := (List.getElem?_eq_some_iff.1 hu).1
        rw [hcell _ hlt, hu]
      · cases hu
    refine .mk' (fun w' hk => run w' hk hT' hv hvl fun q hq => ?_) (SRep.mkV (All2.mk ?_ fun q v y hv hy => ?_) fun _ hx => ?_)
    · have hq' := List.getElem?_eq_getElem hq
      rw [hq', Nat.add_assoc, cell_of_row w b _ cur et fr hb, hget q _ hq']
    · split
      · rw [hvl, List.length_map, hlen]
      · rw [hvl, seenL_length, hlen]
    · split at hy
      · rename_i hfrz
        rw [List.getElem?_map] at hy
        obtain ⟨x', hx', rfl⟩ := Option.map_eq_some_iff.1 hy
        obtain ⟨g', hg', hsub⟩ := h3.at hv hx'
        have hnil := hfz hfrz
        obtain rfl : fc = [] := (List.append_eq_nil_iff.1 (List.append_eq_nil_iff.1 hnil).2).1
        obtain rfl : g' = [] := List.eq_nil_iff_forall_not_mem.2 fun b hb => by simpa using hsub b hb
        exact seenC_none_leaf hg'
      · rw [seenL_get] at hy
        obtain ⟨x', hx', rfl⟩ := Option.map_eq_some_iff.1 hy
        obtain ⟨g', hg', hsub⟩ := h3.at hv hx'
        refine seen_leaf hz ?_ hμ hb (hget q v hv) hg' (fun b hb => hf b ?_)
        · rw [List.getElem?_take] at hx'
          split at hx'
          · rwa [List.getElem?_drop] at hx'
          · cases hx'
        · simp [hsub b hb]
    · have := congrArg List.length hx
      have hp := hT'.pos.1
      split at this
      · rw [List.length_map, hlen, List.length_nil] at this; omega
      · rw [seenL_length, hlen, List.length_nil] at this; omega
  · rename_i tg c hxe
    rw [hxe] at hx
    simp only [Option.bind_eq_bind, Option.bind_eq_some_iff] at hr
    obtain ⟨T, hT, _, hv, _, hlen, hr⟩ := hr
    cases hr
    have hT' := hC.tt t T hT
    have hlen := ensure_some hlen
    have nn : T.desc.isStruct = false → (c.take T.sz).map (seenC tg) ≠ [] := fun _ hx => by
      have := congrArg List.length hx
      have hp := hT'.pos.1
      simp only [List.length_map, List.length_nil] at this; omega
    cases tg with
    | none =>
      obtain ⟨b, o', us, hv, hF, hcell, hu⟩ := RepL.cptr_inv (show RepL F w [a.eval x] [.cptr none c] [] from hx)
      obtain ⟨fa, fb, hf, h3, _⟩ := hu.take T.sz
      obtain ⟨rfl, rfl⟩ := List.append_eq_nil_iff.1 hf.symm
      have hvl := h3.length
      rw [hlen] at hvl
      refine .mk' (fun w' hk => run w' hk hT' hv hvl fun q hq => ?_) (SRep.mkV (All2.mk (by rw [hvl, List.length_map, hlen]) fun q v y hv hy => ?_) nn)
      · rw [List.length_take] at hq
        rw [hcell q (by omega), List.getElem?_take, if_pos (by omega)]
      · rw [List.getElem?_map] at hy
        obtain ⟨x', hx', rfl⟩ := Option.map_eq_some_iff.1 hy
        obtain ⟨g', hg', hsub⟩ := h3.at hv hx'
        obtain rfl : g' = [] := List.eq_nil_iff_forall_not_mem.2 fun b hb => by simpa using hsub b hb
        exact seenC_none_leaf hg'
    | some p =>
      obtain ⟨e, wv⟩ := p
      obtain ⟨hl, hw⟩ := ensure_some hv
      obtain ⟨b, o', us, hv, hF, hcell, hu⟩ := (hx.2 hl hw).cptr_inv
      obtain ⟨fa, fb, hf, h3, _⟩ := hu.take T.sz
      obtain ⟨rfl, rfl⟩ := List.append_eq_nil_iff.1 hf.symm
      have hvl := h3.length
      rw [← List.map_take, List.length_map, hlen] at hvl
      refine .mk' (fun w' hk => run w' hk hT' hv hvl fun q hq => ?_) (SRep.mkV (All2.mk (by rw [hvl, List.length_map, hlen]) fun q v y hv hy => ?_) nn)
      · rw [List.length_take] at hq
        rw [hcell q (by omega), List.getElem?_take, if_pos (by omega)]
      · rw [List.getElem?_map] at hy
        obtain ⟨x', hx', rfl⟩ := Option.map_eq_some_iff.1 hy
        obtain ⟨g', hg', hsub⟩ := h3.at hv (x := froize x') (by rw [← List.map_take, List.getElem?_map, hx']; rfl)
        obtain rfl : g' = [] := List.eq_nil_iff_forall_not_mem.2 fun b hb => by simpa using hsub b hb
        exact seenC_some_leaf hx.1 (fun _ _ => hg') hl hw
  · cases hr

end
end Go.Vm
