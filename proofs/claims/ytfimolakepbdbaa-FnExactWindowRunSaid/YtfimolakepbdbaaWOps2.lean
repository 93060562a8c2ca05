/- Reads. -/
import Derived.Test.YtfimolakepbdbaaWOps1
namespace Go.Vm

section
variable {C : Cfg} {n : Nat} {w0 : World} {F0 S0 F : Nat → Prop} {G : Value → AV → Prop} {μ : Nat → Option Nat} {fp : Nat → List Nat} {L : List Nat} {σ σ' : St} {a : Act} {w w' : World} {o : Oper}

theorem All2.drop {α β : Type} {R : α → β → Prop} : ∀ (k : Nat) {as : List α} {bs : List β}, All2 R as bs → All2 R (as.drop k) (bs.drop k)
  | 0, _, _, h => h
  | _ + 1, [], [], _ => trivial
  | k + 1, _ :: _, _ :: _, ⟨_, h⟩ => by simpa using All2.drop k h
  | _ + 1, [], _ :: _, h => h.elim
  | _ + 1, _ :: _, [], h => h.elim

theorem All2.take {α β : Type} {R : α → β → Prop} : ∀ (k : Nat) {as : List α} {bs : List β}, All2 R as bs → All2 R (as.take k) (bs.take k)
  | 0, _, _, _ => trivial
  | _ + 1, [], [], _ => trivial
  | k + 1, _ :: _, _ :: _, ⟨h1, h⟩ => ⟨h1, by simpa using All2.take k h⟩
  | _ + 1, [], _ :: _, h => h.elim
  | _ + 1, _ :: _, [], h => h.elim

theorem ensure_some {c : Prop} [Decidable c] {u : Unit} (h : ensure c = some u) : c := by
  unfold ensure at h; split at h <;> first | assumption | cases h

theorem TIok.size {t : TypeId} {T : TI} (h : TIok C.P t T) (w : World) : (sizeOf t).run C.P w = .ok T.sz w := by
  obtain ⟨i, z, hi, hs, _⟩ := h.info
  simp [sizeOf, typeInfo, hi, hs]

theorem TIok.isAgg {t : TypeId} {T : TI} (h : TIok C.P t T) (w : World) : (isAgg t).run C.P w = .ok T.desc.isStruct w := by
  have hd := h.desc
  unfold Go.isAgg
  cases ht : T.desc <;> rw [ht] at hd <;> simp only [descOk] at hd
  case struct fs => obtain ⟨fields, hd, _⟩ := hd; simp [run_underlying hd, TD.isStruct]
  case other => obtain ⟨d, hd, hr⟩ := hd; cases d <;> simp_all [run_underlying hd, TD.isStruct, TypeDesc.isRow]
  all_goals simp [run_underlying hd, TD.isStruct]

/-- A value out of cells, and how it stands. -/
theorem SRep.mkV {s : Bool} {vs : List Value} {ls : List AV} (h : All2 (SLeaf F w σ.en μ fp) vs ls) (hs : s = false → ls ≠ []) :
    SRep F w σ.en μ fp (if s then .agg vs.toArray else vs.headD undef) (mkV s ls) := by
  cases s
  · cases ls with
    | nil => exact absurd rfl (hs rfl)
    | cons x xs =>
      cases vs with
      | nil => exact h.elim
      | cons v vs =>
        have h1 : SLeaf F w σ.en μ fp v x := h.1
        show SRep F w σ.en μ fp v x
        cases x <;> first | exact h1.elim | exact h1
  · exact ⟨vs.toArray, rfl, by simpa using h⟩

theorem SRep.leaf {v : Value} {x : AV} (h : SRep F w σ.en μ fp v x) (ha : ∀ fs, x ≠ .agg fs) (ht : ∀ vs, x ≠ .tup vs) (hp : ∀ a b c d, x ≠ .pt a b c d) : SLeaf F w σ.en μ fp v x := by
  cases x <;> first | exact absurd rfl (ha _) | exact absurd rfl (ht _) | exact absurd rfl (hp _ _ _ _) | exact h

theorem SRep.of_leaf {v : Value} {x : AV} (h : SLeaf F w σ.en μ fp v x) : SRep F w σ.en μ fp v x := by
  cases x <;> first | exact h.elim | exact h

/-- The cells of a value. -/
theorem SRep.leaves {v : Value} {x : AV} (h : SRep F w σ.en μ fp v x) (ht : ∀ vs, x ≠ .tup vs) (hp : ∀ a b c d, x ≠ .pt a b c d) (hone : (∀ fs, x ≠ .agg fs) → v.cells = #[v]) : All2 (SLeaf F w σ.en μ fp) v.cells.toList (leaves x) := by
  cases x with
  | agg fs => obtain ⟨cs, rfl, hc⟩ := h; exact hc
  | tup vs => exact absurd rfl (ht _)
  | pt => exact absurd rfl (hp _ _ _ _)
  | _ =>
    rw [hone (by simp)]
    exact ⟨h.leaf (by simp) (by simp) (by simp), trivial⟩

theorem run_part {t : TypeId} {T : TI} (hT : TIok C.P t T) (cs : Array Value) (off : Nat) (h : off + T.sz ≤ cs.size) :
    (part t cs off).run C.P w = .ok (if T.desc.isStruct then .agg ((cs.toList.drop off).take T.sz).toArray else ((cs.toList.drop off).take T.sz).headD undef) w := by
  have hp := hT.pos.1
  unfold part
  rw [Sem.run_bind, hT.isAgg w]
  cases hs : T.desc.isStruct
  · have hlt : off < cs.size := by omega
    have e : ((cs.toList.drop off).take T.sz).headD undef = cs[off] := by
      rw [List.headD_eq_head?_getD, List.head?_take]
      rw [if_neg (by omega)]
      simp [hlt]
    simp only [Bool.false_eq_true, if_false, e, Result.andThen_ok]
    simp [hlt]
  · have e : cs.extract off (off + T.sz) = ((cs.toList.drop off).take T.sz).toArray := by
      apply Array.ext'
      simp [Array.toList_extract]
    simp [hT.size, e]

theorem op_field (hC : CfgOk C) (h : Rel n w0 F0 S0 G F μ fp [] σ a w) {s : TypeId} {x : Operand} {f : Nat} {r : AV} (ho : o.op = .field s x f) (hr : fieldF C s (σ.get x) f = some r) :
    OpPure C F μ fp σ o a w (σ.put o.dst r) := by
  simp only [fieldF, Option.bind_eq_bind, Option.bind_eq_some_iff] at hr
  obtain ⟨T, hT, hr⟩ := hr
  have hTd := (hC.tt s T hT).desc
  split at hr
  case h_2 => cases hr
  rename_i fs hfs
  rw [hfs] at hTd
  obtain ⟨fields, hu, hfl, hfd⟩ := hTd
  simp only [Option.bind_eq_some_iff] at hr
  obtain ⟨⟨off, ty⟩, hf, U, hU, hr⟩ := hr
  obtain ⟨fd, hfd1, rfl, rfl⟩ := hfd f off ty hf
  have hx := h.get x
  split at hr
  case h_2 => cases hr
  rename_i ls hls
  rw [hls] at hx
  obtain ⟨cs, hcs, hall⟩ := hx
  simp only [Option.bind_eq_some_iff] at hr
  obtain ⟨_, hen, hr⟩ := hr
  cases hr
  have hlen := ensure_some hen
  have hsz : cs.size = ls.length := by simpa using hall.length
  have hU' := hC.tt fd.type U hU
  refine .mk' (v := _) ?_ (SRep.mkV ((hall.drop fd.offset).take U.sz) (fun _ hx => ?_))
  · intro w' _
    simp only [execOp, ho, hcs, Instr.field, Sem.run_bind, run_underlying hu, Result.andThen_ok, hfd1, asAgg, Sem.run_pure, run_part hU' cs fd.offset (by omega)]
  · have := congrArg List.length hx
    have hp := hU'.pos.1
    simp at this; omega

theorem op_extract (h : Rel n w0 F0 S0 G F μ fp [] σ a w) {x : Operand} {i : Nat} {vs : List AV} {r : AV} (ho : o.op = .extract x i) (hx : σ.get x = .tup vs) (hr : vs[i]? = some r) :
    OpPure C F μ fp σ o a w (σ.put o.dst r) := by
  have hg := h.get x
  rw [hx] at hg
  obtain ⟨us, hus, hall⟩ := hg
  obtain ⟨u, hu, hru⟩ := hall.get hr
  refine .mk' (v := u) ?_ ?_
  · intro w' _
    have : us[i]? = some u := by simpa using hu
    simp only [execOp, ho, hus, Instr.extract, this, Sem.run_bind, Sem.run_pure, Result.andThen_ok]
  · cases r <;> first | exact hru.elim | exact hru

theorem cptr_valid {tg : Option (Nat × Nat)} {c : List AV} {v : Value} (h : SRep F w σ.en μ fp v (.cptr tg c)) (hv : σ.validC tg = some ()) : ∃ F', (∀ b, F b → F' b) ∧ RepL F' w [v] [.cptr none (if tg.isSome then c.map froize else c)] [] ∧
    ∀ b, F' b → F b ∨ ∃ e wv, tg = some (e, wv) ∧ b ∈ fp e := by
  cases tg with
  | none => exact ⟨F, fun _ h => h, h, fun _ h => .inl h⟩
  | some p =>
    obtain ⟨e, wv⟩ := p
    obtain ⟨hl, hw⟩ := ensure_some hv
    exact ⟨_, fun _ h => .inl h, h.2 hl hw, fun b hb => hb.imp id fun hb => ⟨e, wv, rfl, hb⟩⟩

theorem RepL.cptr_inv {v : Value} {c : List AV} {f : List Nat} (h : RepL F w [v] [.cptr none c] f) : ∃ b o us, v = .pointer (some ⟨b, o, none⟩) ∧ F b ∧ (∀ q, q < us.length → w.cell? ⟨b, o + q, none⟩ = us[q]?) ∧ RepL F w us c [] := by
  cases h with
  | cptr hF hcell hu t => exact ⟨_, _, _, rfl, hF, hcell, hu⟩

theorem RepL.clo_inv {v : Value} {fn : Nat} {c : List AV} {f : List Nat} (h : RepL F w [v] [.clo fn c] f) : ∃ us : List Value, v = .func (.func fn) #[] us.toArray ∧ RepL F w us c [] := by
  cases h with
  | clo hu t => exact ⟨_, rfl, hu⟩

theorem cur_some {e g : Nat} {E : Ent} (h : σ.cur e g = some E) : (σ.en e).live = true ∧ (σ.en e).gen = g ∧ E = σ.en e := by
  unfold St.cur at h
  split at h
  · rename_i hc; cases h; exact ⟨hc.1, hc.2, rfl⟩
  · cases h

theorem op_nilCheck (h : Rel n w0 F0 S0 G F μ fp [] σ a w) {x : Operand} (ho : o.op = .nilCheck x) (hr : opF C o σ = some σ') : OpPure C F μ fp σ o a w σ' := by
  have hg := h.get x
  simp only [opF, ho] at hr
  split at hr
  · rename_i e g i j hx
    rw [hx] at hg
    simp only [Option.bind_eq_bind, Option.bind_eq_some_iff] at hr
    obtain ⟨E, hE, hr⟩ := hr
    cases hr
    obtain ⟨hl, he, _⟩ := cur_some hE
    obtain ⟨b, _, hv⟩ := hg.2 hl he
    exact .mk' (v := a.eval x) (fun w' _ => by simp [execOp, ho, hv]) hg
  · rename_i tg c hx
    rw [hx] at hg
    simp only [Option.bind_eq_bind, Option.bind_eq_some_iff] at hr
    obtain ⟨_, hE, hr⟩ := hr
    cases hr
    obtain ⟨F', _, hv, _⟩ := cptr_valid hg hE
    obtain ⟨b, o', us, hv, _⟩ := hv.cptr_inv
    exact .mk' (v := a.eval x) (fun w' _ => by simp [execOp, ho, hv]) hg
  · rename_i f c hx
    rw [hx] at hg
    cases hr
    obtain ⟨us, hv, _⟩ := RepL.clo_inv hg
    exact .mk' (v := a.eval x) (fun w' _ => by simp [execOp, ho, hv]) hg
  · cases hr

theorem RepL.cptr_drop {v : Value} {c : List AV} (k : Nat) (h : RepL F w [v] [.cptr none c] []) : ∃ b o, v = .pointer (some ⟨b, o, none⟩) ∧ RepL F w [.pointer (some ⟨b, o + k, none⟩)] [.cptr none (c.drop k)] [] := by
  obtain ⟨b, o, us, rfl, hF, hcell, hu⟩ := h.cptr_inv
  obtain ⟨f1, f2, hf, _, h2⟩ := hu.take k
  obtain ⟨rfl, rfl⟩ := List.append_eq_nil_iff.1 hf.symm
  refine ⟨b, o, rfl, .cptr hF (us := us.drop k) (fun q hq => ?_) h2 .nil⟩
  rw [List.length_drop] at hq
  have := hcell (k + q) (by omega)
  rw [show o + k + q = o + (k + q) by omega, this]
  simp

theorem op_fieldAddr (hC : CfgOk C) (h : Rel n w0 F0 S0 G F μ fp [] σ a w) {s : TypeId} {x : Operand} {f : Nat} {r : AV} (ho : o.op = .fieldAddr s x f) (hr : fieldAddrF C σ s (σ.get x) f = some r) :
    OpPure C F μ fp σ o a w (σ.put o.dst r) := by
  simp only [fieldAddrF, Option.bind_eq_bind, Option.bind_eq_some_iff] at hr
  obtain ⟨T, hT, hr⟩ := hr
  have hTd := (hC.tt s T hT).desc
  split at hr
  case h_2 => cases hr
  rename_i fs hfs
  rw [hfs] at hTd
  obtain ⟨fields, hu, hfl, hfd⟩ := hTd
  simp only [Option.bind_eq_some_iff] at hr
  obtain ⟨⟨off, ty⟩, hf, U, hU, hr⟩ := hr
  obtain ⟨fd, hfd1, rfl, rfl⟩ := hfd f off ty hf
  have hU' := hC.tt fd.type U hU
  have hp := hU'.pos.1
  have run : ∀ w' b o', a.eval x = .pointer (some ⟨b, o', none⟩) → (execOp a.eval o).run C.P w' = .ok (.value (.pointer (some ⟨b, o' + fd.offset, none⟩))) w' := by
    intro w' b o' hv
    simp only [execOp, ho, hv, Instr.fieldAt, Sem.run_bind, run_underlying hu, Result.andThen_ok, hfd1, Instr.sureAddr, Sem.run_pure, fieldPlace, hU'.size, if_neg (by omega : ¬ U.sz = 0), Addr.add_lit]
  have hx := h.get x
  split at hr
  · rename_i e g i j hls
    rw [hls] at hx
    simp only [Option.bind_eq_some_iff] at hr
    obtain ⟨E, hE, hr⟩ := hr
    cases hr
    obtain ⟨hl, he, _⟩ := cur_some hE
    obtain ⟨hg, hv⟩ := hx
    obtain ⟨b, hμ, hv'⟩ := hv hl he
    refine .mk' (v := .pointer (some ⟨b, i * (σ.en e).sz + j + fd.offset, none⟩)) (fun w' hk => run w' _ _ hv') (x := .ptr e g i (j + fd.offset)) ⟨hg, fun _ _ => ⟨b, hμ, by rw [Nat.add_assoc]⟩⟩
  · rename_i tg c hls
    rw [hls] at hx
    simp only [Option.bind_eq_some_iff] at hr
    obtain ⟨_, hv, _, hoff, hr⟩ := hr
    cases hr
    cases tg with
    | none =>
      obtain ⟨b, o', hv, h2⟩ := RepL.cptr_drop fd.offset (show RepL F w [a.eval x] [.cptr none c] [] from hx)
      exact .mk' (fun w' _ => run w' _ _ hv) h2
    | some p =>
      obtain ⟨e, wv⟩ := p
      obtain ⟨hl, hw⟩ := ensure_some hv
      obtain ⟨b, o', hv, h2⟩ := RepL.cptr_drop fd.offset (hx.2 hl hw)
      refine .mk' (fun w' hk => run w' _ _ hv) (x := .cptr (some (e, wv)) (c.drop fd.offset)) ⟨hx.1, fun _ _ => ?_⟩
      rw [List.map_drop]; exact h2
  · cases hr

theorem RepL.fro_inv {v : Value} {clip : Bool} {l : List AV} {f : List Nat} (h : RepL F w [v] [.fro none clip l] f) : f = [] ∧ ((l = [] ∧ ∃ A c, v = .slice A 0 c ∧ (clip = true → c = 0)) ∨
    ∃ b o c sz us, v = .slice (some ⟨b, o, none⟩) l.length c ∧ l.length ≤ c ∧ (clip = true → c = l.length) ∧ F b ∧ (∀ q, q < us.length → w.cell? ⟨b, o + q, none⟩ = us[q]?) ∧ (∀ a ∈ l, (leaves a).length = sz) ∧ RepL F w us (l.flatMap leaves) []) := by
  cases h with
  | fro0 hc t => cases t; exact ⟨rfl, .inl ⟨rfl, _, _, rfl, hc⟩⟩
  | fro hn hnc hc hF hcell hsz hu t => cases t; subst hn; exact ⟨rfl, .inr ⟨_, _, _, _, _, rfl, hnc, hc, hF, hcell, hsz, hu⟩⟩

/-- A slice that may be read, while it may be read. -/
theorem fro_valid {tg : Option (Nat × Nat × Option (Nat × Nat))} {clip : Bool} {l : List AV} {v : Value} (h : SRep F w σ.en μ fp v (.fro tg clip l)) (hv : σ.validT tg = some ()) :
    ∃ F', RepL F' w [v] [.fro none clip (if tg.isSome then l.map froize else l)] [] ∧ (∀ b, F b → F' b) ∧ (∀ b, F' b → F b ∨ ∃ e wv oo, tg = some (e, wv, oo) ∧ b ∈ fp e ∧ (σ.en e).live = true ∧ (σ.en e).wr = wv) := by
  cases tg with
  | none => exact ⟨F, h, fun _ h => h, fun _ h => .inl h⟩
  | some p =>
    obtain ⟨e, wv, oo⟩ := p
    obtain ⟨hl, hw⟩ := ensure_some hv
    exact ⟨_, (h.2 hl hw).1, fun _ h => .inl h, fun b hb => hb.imp id fun hb => ⟨e, wv, oo, rfl, hb, hl, hw⟩⟩

/-- What is cut out of a slice that may be read is one again; so are its elements. -/
theorem fro_retag {tg : Option (Nat × Nat × Option (Nat × Nat))} {clip : Bool} {l : List AV} {v : Value} (h : SRep F w σ.en μ fp v (.fro tg clip l)) (hv : σ.validT tg = some ()) (v' : Value) (clip' : Bool) (l' : List AV)
    (hr : ∀ F', RepL F' w [v] [.fro none clip (if tg.isSome then l.map froize else l)] [] → RepL F' w [v'] [.fro none clip' (if tg.isSome then l'.map froize else l')] []) :
    SRep F w σ.en μ fp v' (.fro (tg.map fun p => (p.1, p.2.1, none)) clip' l') := by
  cases tg with
  | none => exact hr F h
  | some p =>
    obtain ⟨e, wv, oo⟩ := p
    obtain ⟨hl, hw⟩ := ensure_some hv
    exact ⟨h.1, fun h1 h2 => ⟨hr _ (h.2 h1 h2).1, fun _ i j hx => by cases hx⟩⟩

theorem fro_cptr {tg : Option (Nat × Nat × Option (Nat × Nat))} {clip : Bool} {l : List AV} {v : Value} (h : SRep F w σ.en μ fp v (.fro tg clip l)) (hv : σ.validT tg = some ()) (v' : Value) (c : List AV)
    (hr : ∀ F', RepL F' w [v] [.fro none clip (if tg.isSome then l.map froize else l)] [] → RepL F' w [v'] [.cptr none (if tg.isSome then c.map froize else c)] []) :
    SRep F w σ.en μ fp v' (.cptr (tg.map fun p => (p.1, p.2.1)) c) := by
  cases tg with
  | none => exact hr F h
  | some p =>
    obtain ⟨e, wv, oo⟩ := p
    obtain ⟨hl, hw⟩ := ensure_some hv
    exact ⟨h.1, fun h1 h2 => hr _ (h.2 h1 h2).1⟩

theorem run_indexAt {t el : TypeId} {U : TI} (ht : C.P.underlying t = some (.slice el)) (hU : TIok C.P el U) (b o' len cap : Nat) (k : IntKind) (i : Int) (h0 : 0 ≤ i) (h1 : i < len) :
    (Instr.indexAt t (.slice (some ⟨b, o', none⟩) len cap) (.int k i)).run C.P w = .ok (.pointer (some ⟨b, o' + i.toNat * U.sz, none⟩)) w := by
  simp [Instr.indexAt, run_underlying ht, asIntOf, h0, h1, hU.size, Addr.add_lit]

theorem RepL.fro_at {v : Value} {clip : Bool} {l : List AV} {i sz : Nat} {y : AV} (h : RepL F w [v] [.fro none clip l] []) (hy : l[i]? = some y) (hsz : (leaves y).length = sz) :
    ∃ b o c, v = .slice (some ⟨b, o, none⟩) l.length c ∧ RepL F w [.pointer (some ⟨b, o + i * sz, none⟩)] [.cptr none (leaves y)] [] := by
  obtain ⟨hi, rfl⟩ := List.getElem?_eq_some_iff.1 hy
  obtain ⟨_, ⟨rfl, _⟩ | ⟨b, o, c, sz', us, rfl, hlc, hc, hF, hcell, hs, hu⟩⟩ := h.fro_inv
  · simp at hi
  · obtain rfl : sz' = sz := by rw [← hsz]; exact (hs _ (List.getElem_mem hi)).symm
    refine ⟨b, o, c, rfl, ?_⟩
    obtain ⟨f1, f2, hf, _, h2⟩ := hu.take (i * sz')
    obtain ⟨rfl, rfl⟩ := List.append_eq_nil_iff.1 hf.symm
    obtain ⟨f1, f2, hf, h3, _⟩ := h2.take sz'
    obtain ⟨rfl, rfl⟩ := List.append_eq_nil_iff.1 hf.symm
    rw [flat_get hs hy] at h3
    refine .cptr hF (fun q hq => ?_) h3 .nil
    rw [List.length_take, List.length_drop] at hq
    have := hcell (i * sz' + q) (by omega)
    rw [Nat.add_assoc, this, List.getElem?_take, if_pos (by omega), List.getElem?_drop]

theorem op_indexAddr (hC : CfgOk C) (h : Rel n w0 F0 S0 G F μ fp [] σ a w) {t : TypeId} {x ix : Operand} {r : AV} (ho : o.op = .indexAddr t x ix) (hr : indexAddrF C σ t (σ.get x) (σ.get ix) = some r) :
    OpPure C F μ fp σ o a w (σ.put o.dst r) := by
  simp only [indexAddrF, Option.bind_eq_bind, Option.bind_eq_some_iff] at hr
  obtain ⟨T, hT, hr⟩ := hr
  have hTd := (hC.tt t T hT).desc
  split at hr
  case h_2 => cases hr
  rename_i el k i hel hix
  rw [hel] at hTd
  have hTd : C.P.underlying t = some (.slice el) := hTd
  simp only [Option.bind_eq_some_iff] at hr
  obtain ⟨U, hU, hr⟩ := hr
  have hU' := hC.tt el U hU
  have hi : a.eval ix = .int k i := SRep.int_inv (hix ▸ h.get ix)
  have hx := h.get x
  have run : ∀ w' b o' len cap, a.eval x = .slice (some ⟨b, o', none⟩) len cap → 0 ≤ i → i < len → (execOp a.eval o).run C.P w' = .ok (.value (.pointer (some ⟨b, o' + i.toNat * U.sz, none⟩))) w' := by
    intro w' b o' len cap hv h0 h1
    simp only [execOp, ho, hv, hi, Sem.run_bind, run_indexAt hTd hU' b o' len cap k i h0 h1, Result.andThen_ok, Sem.run_pure]
  split at hr
  · rename_i tg clip l hxe
    rw [hxe] at hx
    simp only [Option.bind_eq_some_iff] at hr
    obtain ⟨_, hv, _, hb, y, hy, _, hs, hr⟩ := hr
    cases hr
    obtain ⟨h0, h1⟩ := ensure_some hb
    have hs := ensure_some hs
    obtain ⟨F', hF', _⟩ := fro_valid hx hv
    have key : ∀ F', RepL F' w [a.eval x] [.fro none clip (if tg.isSome then l.map froize else l)] [] → ∃ b o' c, a.eval x = .slice (some ⟨b, o', none⟩) l.length c ∧ RepL F' w [.pointer (some ⟨b, o' + i.toNat * U.sz, none⟩)] [.cptr none (if tg.isSome then (leaves y).map froize else leaves y)] [] := by
      intro F' hF'
      cases tg with
      | none => simpa using hF'.fro_at (sz := U.sz) hy hs
      | some p => simpa [leaves_froize] using hF'.fro_at (sz := U.sz) (i := i.toNat) (y := froize y) (by simp [hy]) (by simp [leaves_froize, hs])
    obtain ⟨b, o', c, hv', _⟩ := key F' hF'
    refine .mk' (fun w' hk => run w' _ _ _ _ hv' h0 h1) (fro_cptr hx hv _ _ fun F'' hF'' => ?_)
    obtain ⟨b2, o2, c2, hv2, h2⟩ := key F'' hF''
    rw [hv'] at hv2
    cases hv2
    exact h2
  · rename_i e g off len clip hxe
    rw [hxe] at hx
    simp only [Option.bind_eq_some_iff] at hr
    obtain ⟨E, hE, _, hb, hr⟩ := hr
    cases hr
    obtain ⟨h0, h1, h2, h3⟩ := ensure_some hb
    obtain ⟨hl, he, rfl⟩ := cur_some hE
    obtain ⟨hg, hv⟩ := hx
    obtain ⟨A, c, hv, hlc, _, _, hblk⟩ := hv hl he
    obtain ⟨b, cur, et, fr, hμ, rfl, _⟩ := hblk (by omega)
    refine .mk' (fun w' hk => run w' _ _ _ _ hv h0 h1) (x := .ptr e g (off + i.toNat) 0) ⟨hg, fun _ _ => ⟨b, hμ, ?_⟩⟩
    rw [h3, Nat.add_mul, Nat.add_zero]
  · cases hr

theorem op_index (hC : CfgOk C) (h : Rel n w0 F0 S0 G F μ fp [] σ a w) {t : TypeId} {x ix : Operand} (ho : o.op = .index t x ix) (hr : opF C o σ = some σ') : OpPure C F μ fp σ o a w σ' := by
  simp only [opF, ho, Option.bind_eq_bind, Option.bind_eq_some_iff] at hr
  obtain ⟨T, hT, hr⟩ := hr
  have hTd := (hC.tt t T hT).desc
  split at hr
  case h_2 => cases hr
  rename_i s k i hel hx hix
  rw [hel] at hTd
  have hTd : C.P.underlying t = some .string := hTd
  simp only [Option.bind_eq_some_iff] at hr
  obtain ⟨_, hb, hr⟩ := hr
  cases hr
  obtain ⟨h0, h1⟩ := ensure_some hb
  have hi : a.eval ix = .int k i := SRep.int_inv (hix ▸ h.get ix)
  have hs : a.eval x = .string s := SRep.str_inv (hx ▸ h.get x)
  have hlt : i.toNat < s.size := by omega
  have e : s[i.toNat]? = some s[i.toNat] := getElem?_pos s i.toNat hlt
  have e2 : s.data[i.toNat]? = some s[i.toNat] := by
    have : i.toNat < s.data.size := hlt
    rw [Array.getElem?_eq_getElem this]; rfl
  refine .mk' (v := .int .u8 (s[i.toNat]).toNat) ?_ ?_
  · intro w' _
    simp [execOp, ho, hi, hs, Instr.index, asIntOf, run_underlying hTd, h0, e]
  · rw [e2]; exact RepL.int .nil

end
end Go.Vm
