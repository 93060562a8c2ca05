/- A part of the evaluator of the walks. Conditions: none but those ahead of each theorem. -/
import Derived.Test.YtklhdnjhgbglhaaGreatYLib4
import Derived.Deep.Quiet
import Derived.OrdersHeld
/- The logic is sound. -/
namespace Go.Vm
section
variable {C : Cfg} {D : Spec} {n : Nat} {w0 : World} {F0 S0 F : Nat → Prop} {G : Value → AV → Prop} {μ : Nat → Option Nat} {fp : Nat → List Nat} {L : List Nat} {σ σ' : St} {a : Act} {w w' : World} {o : Oper}
def noisyOp (o : Oper) : Bool := match o.op with
  | .buildSlice _ _ _ => true
  | .store _ _ _ => true
  | .makeMap _ _ => true
  | .mapUpdate _ _ _ _ => true
  | .call { callee := .builtin .append, .. } => true
  | .call { callee := .builtin .copy, .. } => true
  | .call { callee := .builtin .clear, .. } => true
  | _ => false
def noisy (ops : Array Oper) : Bool := ops.any noisyOp
def okCode (n : Nat) : Code → Bool
  | .seq a b => okCode n a && okCode n b
  | .cond _ a b => okCode n a && okCode n b
  | .block _ c => okCode n c
  | .loop c => okCode n c
  | .region _ ops q => ops.all (fun o => match o.dst with | some d => decide (d < n) | none => true) && (!q || Region.lexB .any ops) && !(q && noisy ops)
  | .scope _ => false
  | _ => true
theorem St.put_same {d : Tmp} {x : AV} (h : σ.sl d = x) : σ.put (some d) x = σ := by
  cases σ with
  | mk sl en =>
    simp only [St.put]
    congr 1
    funext k
    simp only [upd]
    split
    · rename_i e; subst e; exact h.symm
    · rfl
theorem guard_ok (h : Rel n w0 F0 S0 G F μ fp L σ a w) {ops : Array Oper} (hdst : ∀ d o, o ∈ ops → o.dst = some d → d < n) {yes no : St → Prop} (hg : guardW (guardOf ops o) σ yes no) :
    (Region.wanted o (yielded ops a.tmps) = true ∧ yes σ) ∨ (Region.wanted o (yielded ops a.tmps) = false ∧ no σ) := by
  unfold guardOf at hg
  unfold Region.wanted
  cases hgd : o.guard with
  | none => rw [hgd] at hg; exact .inl ⟨rfl, hg⟩
  | some g =>
    obtain ⟨j, want⟩ := g
    rw [hgd] at hg
    simp only [Option.map_some] at hg
    simp only [yielded]
    cases hd : (ops[j]?).bind (·.dst) with
    | none =>
      rw [hd] at hg
      exact .inr ⟨by simp, hg⟩
    | some d =>
      rw [hd] at hg
      have hlt : d < a.tmps.size := by
        rw [h.size]
        obtain ⟨o', ho', hd'⟩ := Option.bind_eq_some_iff.1 hd
        exact hdst d o' (Array.mem_of_getElem? ho') hd'
      have hs := h.slots d
      have hgd' : a.tmps.getD d undef = a.tmps[d] := by simp [hlt]
      have hq : a.tmps[d]? = some (a.tmps.getD d undef) := by rw [hgd']; exact Array.getElem?_eq_getElem hlt
      simp only [Option.bind_some, hq]
      simp only [guardW] at hg
      split at hg
      · rename_i b hb
        rw [hb] at hs
        have hv : a.tmps.getD d undef = .bool b := SRep.bool_inv hs
        rw [hv]
        cases b <;> cases want
        · exact .inl ⟨rfl, by have := hg.2 rfl; rwa [St.put_same hb] at this⟩
        · exact .inr ⟨rfl, by have := hg.2 rfl; rwa [St.put_same hb] at this⟩
        · exact .inr ⟨rfl, by have := hg.1 rfl; rwa [St.put_same hb] at this⟩
        · exact .inl ⟨rfl, by have := hg.1 rfl; rwa [St.put_same hb] at this⟩
      · rename_i ht
        rw [ht] at hs
        obtain ⟨us, hv, _⟩ := hs
        rw [hv]
        exact .inr ⟨rfl, hg⟩
      · exact hg.elim
def Stands (n : Nat) (w0 : World) (F0 S0 : Nat → Prop) (G : Value → AV → Prop) (σ : St) (a : Act) (w : World) : Prop := ∃ F μ fp, Rel n w0 F0 S0 G F μ fp [] σ a w
theorem op_loadS (hC : CfgOk C) (h : Rel n w0 F0 S0 G F μ fp [] σ a w) (hd : ∀ k, o.dst = some k → k < n) {t : TypeId} {x : Operand} (ho : o.op = .load t x) (hr : loadSD C σ o.dst t (σ.get x) = some σ') :
    ∃ v μ' fp', Rel n w0 F0 S0 G F μ' fp' [] σ' (a.put o.dst v) w ∧ ∀ w', KeptS w w' (fun _ => False) → (execOp a.eval o).run C.P w' = .ok (.value v) w' := by
  have hx := h.get x
  cases hdd : o.dst with
  | none => rw [hdd] at hr; cases hr
  | some d =>
  rw [hdd] at hr
  simp only [loadSD, Option.bind_eq_bind, Option.bind_eq_some_iff, Option.some.injEq] at hr
  obtain ⟨⟨y, σ1⟩, hr, rfl⟩ := hr
  unfold loadSF at hr
  split at hr
  case h_2 => cases hr
  rename_i e g i j hxe
  rw [hxe] at hx
  simp only [Option.bind_eq_bind, Option.bind_eq_some_iff] at hr
  obtain ⟨T, hT, E, hE, _, hfz, z, hz, _, hlen, hr⟩ := hr
  have htk := Option.some.inj hr
  have hT' := hC.tt t T hT
  have hfz := ensure_some hfz
  have hlen := ensure_some hlen
  obtain ⟨hl, he, rfl⟩ := cur_some hE
  obtain ⟨b', hμ', hv, _, _, _, hcb⟩ := hx.2 hl he
  obtain ⟨hsz, hent⟩ := h.ent e hl
  rcases hent with ⟨e6, _⟩ | ⟨b, cur, et, fr, us, f1, hμ, hb, hcell, hrep, hown⟩ | hm
  rotate_right 1
  · exact (hm.noCells (by assumption) (by assumption)).elim
  · rw [hμ'] at e6; cases e6
  rw [hμ'] at hμ; cases hμ
  obtain ⟨rfl, hfp⟩ : fr = (0, 0) ∧ fp e = b' :: f1 := by
    rcases hown with ⟨e10, _⟩ | ⟨_, e1, e2⟩
    · rw [hfz] at e10; cases e10
    · exact ⟨e1, e2⟩
  obtain ⟨hi, hze⟩ := List.getElem?_eq_some_iff.1 hz
  have hzl : (leaves z).length = (σ.en e).sz := hsz z (hze ▸ List.getElem_mem hi)
  have hj : j + T.sz ≤ (σ.en e).sz := by
    rw [List.length_take, List.length_drop, hzl] at hlen
    have := hT'.pos.1
    omega
  have hfg := flat_get hsz hz
  have hfl := flat_length hsz
  have e11 : (i + 1) * (σ.en e).sz = i * (σ.en e).sz + (σ.en e).sz := by rw [Nat.add_mul, Nat.one_mul]
  have hmul : (i + 1) * (σ.en e).sz ≤ (σ.en e).elems.length * (σ.en e).sz := Nat.mul_le_mul_right _ hi
  obtain ⟨ls, hls⟩ : ∃ ls, ((leaves z).drop j).take T.sz = ls := ⟨_, rfl⟩
  rw [hls] at hlen htk
  obtain ⟨fa, fb, rfl, h1, h2⟩ := hrep.take (i * (σ.en e).sz + j)
  obtain ⟨fc, fd, rfl, h3, h4⟩ := h2.take T.sz
  have hflat : (((σ.en e).elems.flatMap leaves).drop (i * (σ.en e).sz + j)).take T.sz = ls := by
    rw [← hls, ← hfg, List.drop_take, List.drop_drop, List.take_take, Nat.min_eq_left (by omega)]
  rw [hflat] at h3
  have hvl := h3.length
  rw [hlen] at hvl
  have hle : leaves (reEl z (setRange (leaves z) j (ls.map hole))) = setRange (leaves z) j (ls.map hole) := by
    refine leaves_reEl fun hna => ?_
    have hz1 := leaves_length_of hna
    have hs1 : (σ.en e).sz = 1 := by rw [← hzl, hz1]; rfl
    have hp := hT'.pos.1
    obtain rfl : j = 0 := by omega
    have hT1 : T.sz = 1 := by omega
    rw [hz1]
    cases ls with
    | nil => simp at hlen; omega
    | cons y t => cases t with
      | cons => simp at hlen; omega
      | nil =>
        refine ⟨hole y, by simp [setRange], ?_⟩
        have := h3.holes.flat
        simpa [List.flatMap_cons] using this
  have hnd0 := h.nodup e hl
  rw [hfp] at hnd0
  have hnd1 := (List.nodup_cons.1 hnd0).2
  have hperm : ((fa ++ fd) ++ fc).Perm (fa ++ (fc ++ fd)) := by
    rw [List.append_assoc]
    exact (List.perm_append_comm).append_left fa
  obtain ⟨r1, _⟩ := h.write (w' := w) (cur' := cur) (us' := us) (f' := fa ++ fd) (L' := fc) (E' := { σ.en e with wr := (σ.en e).wr + 1, elems := (σ.en e).elems.set i (reEl z (setRange (leaves z) j (ls.map hole))) }) hl hfz hμ' hb hfp hl hfz rfl (Nat.le_refl _) (Nat.lt_succ_self _) (fun _ => by simp)
    hb rfl (fun _ _ => rfl) rfl rfl rfl rfl (fun y hy => by
      rcases List.mem_or_eq_of_mem_set hy with hy | rfl
      · exact hsz y hy
      · rw [hle]
        simp only [setRange, List.length_append, List.length_take, List.length_drop, List.length_map]
        show _ = (σ.en e).sz
        omega) hcell (by
      show RepL F w us (((σ.en e).elems.set i (reEl z (setRange (leaves z) j (ls.map hole)))).flatMap leaves) _
      rw [flat_set hsz hi, hle, e11, splice_flat hfg (by rw [List.length_map]; omega), List.length_map, hlen]
      have hus : us = us.take (i * (σ.en e).sz + j) ++ ((us.drop (i * (σ.en e).sz + j)).take T.sz ++ (us.drop (i * (σ.en e).sz + j)).drop T.sz) := by rw [List.take_append_drop, List.take_append_drop]
      rw [hus]
      have h5 := (h1.append (h3.holes.append h4))
      simpa [List.append_assoc, List.drop_drop] using h5) (fun b hb => by
      rw [List.append_nil]
      exact hperm.mem_iff.1 hb) (hperm.nodup_iff.2 hnd1)
  obtain ⟨v, hvd⟩ : ∃ v, (if T.desc.isStruct then .agg ((us.drop (i * (σ.en e).sz + j)).take T.sz).toArray else ((us.drop (i * (σ.en e).sz + j)).take T.sz).headD undef) = v := ⟨_, rfl⟩
  have hval : ValRep F w v (mkV T.desc.isStruct ls) fc := by
    rw [← hvd]
    have hmk := hT'.leaves h3 hlen
    cases hs : T.desc.isStruct with
    | true =>
      rw [if_pos rfl]
      exact ⟨_, rfl, h3⟩
    | false =>
      rw [hs] at hmk
      have hsz1 : T.sz = 1 := by
        obtain ⟨_, z', _, _, _, _, hz', _, h1⟩ := hT'.info
        rw [h1 hs] at hz'
        simpa using hz'.symm
      rw [hsz1] at hlen hvl
      cases ls with
      | nil => simp at hlen
      | cons y0 t => cases t with
        | cons => simp at hlen
        | nil =>
          generalize (us.drop (i * (σ.en e).sz + j)).take T.sz = vs at h3 hvl
          have hv1 := h3.length
          cases vs with
          | nil => simp at hv1
          | cons v0 t => cases t with
            | cons => simp at hv1
            | nil =>
              have : ValRep F w v0 y0 fc := by
                cases y0 with
                | agg => cases h3
                | _ => exact h3
              simpa [mkV] using this
  obtain ⟨μ', fp', r2, r3, _⟩ := takeV_ok (L := []) (by simpa using r1) hval htk
  refine ⟨v, μ', fp', r2.put (hd d hdd) (SRep.of_agg r3), fun w' hk => ?_⟩
  have hc' : ∀ q, q < ((us.drop (i * (σ.en e).sz + j)).take T.sz).length → w'.cell? ⟨b', i * (σ.en e).sz + j + q, none⟩ = ((us.drop (i * (σ.en e).sz + j)).take T.sz)[q]? := fun q hq => by
    have hbl := (Array.getElem?_eq_some_iff.1 hb).1
    rw [cell?_congr (hk.block b' hbl (fun h => h)), cell_of_row w b' _ cur et (0, 0) hb]
    have hq2 := hq
    rw [List.length_take, List.length_drop] at hq2
    rw [List.getElem?_take, if_pos (by omega), List.getElem?_drop, ← hcell _ (by omega)]
  rw [← hvd]
  simp only [execOp, ho, hv, Sem.run_bind, run_loadAt hT' hvl hc', Result.andThen_ok, Sem.run_pure]
theorem looks_pure (hC : CfgOk C) (h : Rel n w0 F0 S0 G F μ fp [] σ a w) (hl : looks C o = true) (hr : opF C o σ = some σ') : OpPure C F μ fp σ o a w σ' := by
  have hr0 := hr
  unfold opF at hr
  split at hr
  · rename_i x ho; cases hr; exact op_move h (.inl ho)
  · rename_i x ho; cases hr; exact op_move h (.inr ho)
  · rename_i c x y ho
    split at hr
    · rename_i b hb; cases hr; exact op_pick h ho hb
    · cases hr
  · rename_i t ho; simp [looks, ho] at hl
  · rename_i t x ho; simp [looks, ho] at hl
  · rename_i t ps ho; exact op_build hC h ho hr0
  · rename_i t n ps ho; simp [looks, ho] at hl
  · rename_i t x ho
    simp only [Option.bind_eq_bind, Option.bind_eq_some_iff] at hr
    obtain ⟨v, hv, hr⟩ := hr; cases hr; exact op_load hC h ho hv
  · rename_i t p x ho; simp [looks, ho] at hl
  · rename_i x ho; exact op_nilCheck h ho hr0
  · rename_i op t x y t' ho
    simp only [Option.bind_eq_bind, Option.bind_eq_some_iff] at hr
    obtain ⟨v, hv, hr⟩ := hr; cases hr; exact op_bin hC h ho hv
  · rename_i op t x ho
    simp only [Option.bind_eq_bind, Option.bind_eq_some_iff] at hr
    obtain ⟨v, hv, hr⟩ := hr; cases hr; exact op_un h ho hv
  · rename_i s t x ho
    split at hr
    · rename_i v hv; cases hr; exact op_convert hC h ho hv
    · split at hr
      · rename_i v hv; cases hr; exact op_convS hC h ho hv
      simp only [Option.bind_eq_bind, Option.bind_eq_some_iff] at hr
      obtain ⟨v, hv, hr⟩ := hr
      simp only [convB, Option.bind_eq_bind, Option.bind_eq_some_iff] at hv
      obtain ⟨T, hT, U, hU, hv⟩ := hv
      split at hv
      · rename_i el b h1 h2 h3
        simp [looks, ho, hU, h2] at hl
      · cases hv
  · rename_i f first cap ho; simp [looks, ho] at hl
  · rename_i t l c ho; simp [looks, ho] at hl
  · rename_i t x lo hi mx ho
    simp only [Option.bind_eq_bind, Option.bind_eq_some_iff] at hr
    obtain ⟨v, hv, hr⟩ := hr; cases hr; exact op_slice hC h ho hv
  · rename_i s x f ho
    simp only [Option.bind_eq_bind, Option.bind_eq_some_iff] at hr
    obtain ⟨v, hv, hr⟩ := hr; cases hr; exact op_fieldAddr hC h ho hv
  · rename_i s x f ho
    simp only [Option.bind_eq_bind, Option.bind_eq_some_iff] at hr
    obtain ⟨v, hv, hr⟩ := hr; cases hr; exact op_field hC h ho hv
  · rename_i t x ix ho
    simp only [Option.bind_eq_bind, Option.bind_eq_some_iff] at hr
    obtain ⟨v, hv, hr⟩ := hr; cases hr; exact op_idxG hC h ho hv
  · rename_i t x ix ho; exact op_index hC h ho hr0
  · rename_i x i ho
    split at hr
    · rename_i vs hx
      simp only [Option.bind_eq_bind, Option.bind_eq_some_iff] at hr
      obtain ⟨v, hv, hr⟩ := hr; cases hr; exact op_extract h ho hx hv
    · cases hr
  · rename_i b args ts ho
    split at hr
    · rename_i x t ha ht
      simp only [Option.bind_eq_bind, Option.bind_eq_some_iff] at hr
      obtain ⟨T, hT, m, hm, hr⟩ := hr; cases hr; exact op_len hC h ho ha ht hT hm
    · rename_i x t ha ht
      simp only [Option.bind_eq_bind, Option.bind_eq_some_iff] at hr
      obtain ⟨T, hT, m, hm, hr⟩ := hr; cases hr; exact op_cap hC h ho ha ht hT hm
    · rename_i x y t t2 ha ht; simp [looks, ho] at hl
    · rename_i x y t t2 ha ht; simp [looks, ho] at hl
    · rename_i x t ha ht; simp [looks, ho] at hl
    · rename_i x xs _ ha
      simp only [Option.bind_eq_bind, Option.bind_eq_some_iff] at hr
      obtain ⟨v, hv, hr⟩ := hr; cases hr; exact op_min h ho ha hv
    · rename_i x xs _ ha
      simp only [Option.bind_eq_bind, Option.bind_eq_some_iff] at hr
      obtain ⟨v, hv, hr⟩ := hr; cases hr; exact op_max h ho ha hv
    · cases hr
  · rename_i t ho; simp [looks, ho] at hl
  · rename_i t m x ho
    simp only [Option.bind_eq_bind, Option.bind_eq_some_iff] at hr
    obtain ⟨v, hv, hr⟩ := hr; cases hr; exact op_lookup hC h ho hv
  · rename_i t m x v ho; simp [looks, ho] at hl
  · cases hr
def keepOp (wr : Nat → Option Nat) (o : Oper) : Bool := match o.op with
  | .call { callee := .value (.func f), .. } => (wr f).isNone
  | .alloc _ => true
  | .buildSlice _ _ _ => true
  | .load _ _ => true
  | .fieldAddr _ _ _ => true
  | .indexAddr _ _ _ => true
  | .move _ => true
  | _ => false
theorem alloc_keeps (hC : CfgOk C) {t : TypeId} (ho : o.op = .alloc t) (hs : opF C o σ = some σ') (hr : ∃ y, (execOp a.eval o).run C.P w = .ok y w') : KeptS w w' (fun _ => False) := by
  obtain ⟨y, hr⟩ := hr
  simp only [opF, ho, Option.bind_eq_bind, Option.bind_eq_some_iff] at hs
  obtain ⟨T, hT, hs⟩ := hs
  have hT' := hC.tt t T hT
  obtain ⟨i, z, hi, _, _, hz, _, _, _⟩ := hT'.info
  simp [execOp, ho, Instr.alloc, zeroValue, typeInfo, hi, hz, Go.newVar, newRow] at hr
  obtain ⟨_, rfl⟩ := hr
  exact keptS_push rfl rfl rfl rfl
theorem op_wpK (hC : CfgOk C) (hD : SpecOk C D) (h : Stands n w0 F0 S0 G σ a w) (hd : ∀ k, o.dst = some k → k < n) {q : Bool} {K : St → Prop} (hW : opW C D q o K σ) {next : Act → World → Prop} {Q : Exit → Act → World → Prop}
    (hn : ∀ σ' a' w', K σ' → Stands n w0 F0 S0 G σ' a' w' → (keepOp C.wrt o = true → KeptS w w' (fun _ => False)) → next a' w') : o.wp C.P a w next Q := by
  obtain ⟨F, μ, fp, h⟩ := h
  rcases opW_cases hW with ⟨x, args, ts, ho, hW⟩ | ⟨t, x, ho, _, σ1, hs, hK⟩ | ⟨fm, first, cap, ho, hW⟩ | ⟨hno, hW⟩
  · obtain ⟨f, vals, h1, h2⟩ := call_ok hD h hd ho hW
    unfold Oper.wp
    rw [h1]
    refine h2.mono fun e w' ⟨v, σ', F', μ', fp', he, hK, hr, hk⟩ => ?_
    subst he
    refine hn _ _ _ hK ⟨F', μ', fp', hr⟩ fun hkp => hk fun p hp => ?_
    cases x with
    | func g =>
      have hg : target σ (.func g) = some (g, []) := rfl
      rw [hg] at hp
      cases hp
      simpa [keepOp, ho] using hkp
    | _ => simp [keepOp, ho] at hkp
  · obtain ⟨v, μ', fp', hrel, hr⟩ := op_loadS hC h hd ho hs
    unfold Oper.wp
    rw [hr w (KeptS.refl _ _)]
    exact hn _ _ _ hK ⟨F, μ', fp', hrel⟩ fun _ => KeptS.refl _ _
  · obtain ⟨σ1, hs, hK⟩ := hW
    obtain ⟨v, w', hr, F', μ', fp', hrel⟩ := op_ok hC h hd hs
    unfold Oper.wp
    rcases hr with hr | ⟨hr, rfl⟩ <;> rw [hr] <;> exact hn _ _ _ hK ⟨F', μ', fp', hrel⟩ fun hx => by simp [keepOp, ho] at hx
  · obtain ⟨σ1, hs, hK⟩ := hW.2
    obtain ⟨v, w', hr, F', μ', fp', hrel⟩ := op_ok hC h hd hs
    have hlk : looks C o = true → KeptS w w' (fun _ => False) := fun hl => by
      obtain ⟨v2, x, _, _, hr2⟩ := looks_pure (a := a) hC h hl hs
      have h2 := hr2 w (KeptS.refl _ _)
      rcases hr with hr | ⟨hr, _⟩
      · rw [h2] at hr; cases hr; exact KeptS.refl _ _
      · rw [h2] at hr; cases hr
    have hkp : keepOp C.wrt o = true → KeptS w w' (fun _ => False) := fun hx => by
      unfold keepOp at hx
      split at hx
      · rename_i ho; exact absurd ho (hno _ _ _)
      · rename_i ho
        rcases hr with hr | ⟨hr, rfl⟩
        · exact alloc_keeps hC ho hs ⟨_, hr⟩
        · exact alloc_keeps hC ho hs ⟨_, hr⟩
      · rename_i ho
        rcases hr with hr | ⟨hr, rfl⟩
        · exact buildSlice_keeps hC h ho hs ⟨_, hr⟩
        · exact buildSlice_keeps hC h ho hs ⟨_, hr⟩
      · rename_i ho; exact hlk (by simp [looks, ho])
      · rename_i ho; exact hlk (by simp [looks, ho])
      · rename_i ho; exact hlk (by simp [looks, ho])
      · rename_i ho; exact hlk (by simp [looks, ho])
      · cases hx
    unfold Oper.wp
    rcases hr with hr | ⟨hr, rfl⟩
    · rw [hr]; exact hn _ _ _ hK ⟨F', μ', fp', hrel⟩ hkp
    · rw [hr]; exact hn _ _ _ hK ⟨F', μ', fp', hrel⟩ hkp
theorem op_wp (hC : CfgOk C) (hD : SpecOk C D) (h : Stands n w0 F0 S0 G σ a w) (hd : ∀ k, o.dst = some k → k < n) {q : Bool} {K : St → Prop} (hW : opW C D q o K σ) {next : Act → World → Prop} {Q : Exit → Act → World → Prop}
    (hn : ∀ σ' a' w', K σ' → Stands n w0 F0 S0 G σ' a' w' → next a' w') : o.wp C.P a w next Q := op_wpK hC hD h hd hW fun _ _ _ h1 h2 _ => hn _ _ _ h1 h2
theorem skip_ok (h : Stands n w0 F0 S0 G σ a w) (hd : ∀ k, o.dst = some k → k < n) : Stands n w0 F0 S0 G (σ.put o.dst (.tup [])) (a.put o.dst undef) w := by
  obtain ⟨F, μ, fp, h⟩ := h
  exact ⟨F, μ, fp, h.putO hd (SRep.unit _ _ _ _ _)⟩
theorem ops_wp (hC : CfgOk C) (hD : SpecOk C D) {ops : Array Oper} (hdst : ∀ d o, o ∈ ops → o.dst = some d → d < n) {q : Bool} {K : St → Prop} {Q : Exit → Act → World → Prop} (hn : ∀ σ' a' w', K σ' → Stands n w0 F0 S0 G σ' a' w' → Q .normal a' w') :
    ∀ (l : List Oper) (i : Nat) (σ : St) (a : Act) (w : World), ops.toList.drop i = l → Stands n w0 F0 S0 G σ a w → opsW C D q ops K l σ → wpOps C.P ops Q (List.range' i (ops.size - i)) a w
  | [], i, σ, a, w, hl, h, hW => by
    have : ops.size - i = 0 := by have := congrArg List.length hl; simpa using this
    rw [this]
    exact hn _ _ _ hW h
  | o :: l, i, σ, a, w, hl, h, hW => by
    have hlen : ops.size - i = l.length + 1 := by have := congrArg List.length hl; simpa using this
    have ho : ops[i]? = some o := by
      have : (ops.toList.drop i)[0]? = some o := by rw [hl]; rfl
      simpa using this
    have hl' : ops.toList.drop (i + 1) = l := by
      rw [← List.drop_drop, hl]; rfl
    have hm : o ∈ ops := Array.mem_of_getElem? ho
    rw [hlen, List.range'_succ]
    simp only [wpOps, ho]
    have hle : l.length = ops.size - (i + 1) := by omega
    obtain ⟨F, μ, fp, hr⟩ := h
    rcases guard_ok hr hdst hW with ⟨hw, hy⟩ | ⟨hw, hy⟩
    · rw [hw, if_pos rfl, hle]
      exact .inl (op_wp hC hD ⟨F, μ, fp, hr⟩ (fun k hk => hdst k o hm hk) hy fun σ' a' w' hK h' => ops_wp hC hD hdst hn l (i + 1) σ' a' w' hl' h' hK)
    · rw [hw, if_neg (by simp), hle]
      exact ops_wp hC hD hdst hn l (i + 1) _ _ w hl' (skip_ok ⟨F, μ, fp, hr⟩ (fun k hk => hdst k o hm hk)) hy
/-! ### A region whose order is drawn -/
theorem Rel.later (h : Rel n w0 F0 S0 G F μ fp [] σ a w) (hk : KeptS w w' (fun _ => False)) : Stands n w0 F0 S0 G σ a w' := by
  have := h.extend (newF := fun _ => False) (g := []) hk (fun _ h => h.elim) (by simp) List.nodup_nil
  exact ⟨_, _, _, this⟩
theorem quiet_makeFunc (h : Rel n w0 F0 S0 G F μ fp [] σ a w) (hd : ∀ k, o.dst = some k → k < n) {f : Nat} {first cap : Array Operand} (ho : o.op = .makeFunc (.func f) first cap) (hr : opF C o σ = some σ') :
    ∃ v F' μ' fp', Rel n w0 F0 S0 G F' μ' fp' [] σ' (a.put o.dst v) w ∧ ∀ w', (execOp a.eval o).run C.P w' = .ok (.value v) w' := by
  simp only [opF, ho, Option.bind_eq_bind, Option.bind_eq_some_iff] at hr
  obtain ⟨_, hf, ⟨cs, σ1⟩, hc, hr⟩ := hr
  obtain rfl := ensure_some hf
  cases hr
  obtain ⟨F1, fp1, r1, r2, _⟩ := captureL_ok h hc
  refine ⟨.func (.func f) #[] (cap.map a.eval), F1, μ, fp1, r1.putO hd (x := .clo f cs) ?_, fun w' => by simp [execOp, ho, Instr.makeFunc]⟩
  have : cap.map a.eval = (cap.toList.map a.eval).toArray := by apply Array.ext'; simp
  rw [this]
  exact RepL.clo r2 .nil
theorem opQ_ok (hC : CfgOk C) (hD : SpecOk C D) (h : Rel n w0 F0 S0 G F μ fp [] σ a w) (hd : ∀ k, o.dst = some k → k < n) {K : St → Prop} (hW : opW C D true o K σ) :
    ∃ v σ' F' μ' fp', K σ' ∧ Rel n w0 F0 S0 G F' μ' fp' [] σ' (a.put o.dst v) w ∧ ∀ w', KeptS w w' (fun _ => False) → o.quietAt C.P a (fun w' => KeptS w w' (fun _ => False)) w' v := by
  rcases opW_cases hW with ⟨x, args, ts, ho, hW⟩ | ⟨t, x, ho, _, σ1, hs, hK⟩ | ⟨fm, first, cap, ho, hW⟩ | ⟨hno, hW⟩
  · obtain ⟨f, vals, v, r, h1, h2, h3, h4⟩ := callQ_ok hD h ho hW
    refine ⟨v, _, _, _, _, h4, h.putO hd h3, fun w' hk => ?_⟩
    unfold Oper.quietAt
    rw [h1 w']
    exact ⟨rfl, (h2 w' hk).mono fun e w'' hx => hx⟩
  · obtain ⟨v, μ', fp', hrel, hr⟩ := op_loadS hC h hd ho hs
    refine ⟨v, _, _, μ', fp', hK, hrel, fun w' hk => ?_⟩
    unfold Oper.quietAt
    rw [hr w' hk]
    exact ⟨rfl, rfl⟩
  · obtain ⟨σ1, hs, hK⟩ := hW
    obtain ⟨v, F', μ', fp', hrel, hr⟩ := quiet_makeFunc h hd ho hs
    refine ⟨v, _, F', μ', fp', hK, hrel, fun w' hk => ?_⟩
    unfold Oper.quietAt
    rw [hr w']
    exact ⟨rfl, rfl⟩
  · obtain ⟨σ1, hs, hK⟩ := hW.2
    obtain ⟨v, x, rfl, hx, hr⟩ := looks_pure (a := a) hC h (hW.1 rfl) hs
    refine ⟨v, _, _, _, _, hK, h.putO hd hx, fun w' hk => ?_⟩
    unfold Oper.quietAt
    rw [hr w' hk]
    exact ⟨rfl, rfl⟩
theorem opsQ_wp (hC : CfgOk C) (hD : SpecOk C D) {ops : Array Oper} (hdst : ∀ d o, o ∈ ops → o.dst = some d → d < n) {K : St → Prop} {Q : Exit → Act → World → Prop} (hn : ∀ σ' a' w', K σ' → Stands n w0 F0 S0 G σ' a' w' → Q .normal a' w') :
    ∀ (l : List Oper) (σ : St) (a : Act) (F : Nat → Prop) (μ : Nat → Option Nat) (fp : Nat → List Nat), (∀ o ∈ l, o ∈ ops) → Rel n w0 F0 S0 G F μ fp [] σ a w → opsW C D true ops K l σ → wpQuiet C.P ops (fun w' => KeptS w w' (fun _ => False)) (fun a' => ∀ w', KeptS w w' (fun _ => False) → Q .normal a' w') l a
  | [], σ, a, F, μ, fp, _, h, hW => fun w' hk => hn _ _ _ hW (h.later hk)
  | o :: l, σ, a, F, μ, fp, hm, h, hW => by
    have hmo := hm o (by simp)
    simp only [wpQuiet]
    rcases guard_ok h hdst hW with ⟨hw, hy⟩ | ⟨hw, hy⟩
    · rw [hw, if_pos rfl]
      obtain ⟨v, σ', F', μ', fp', hK, hr, hq⟩ := opQ_ok hC hD h (fun k hk => hdst k o hmo hk) hy
      exact ⟨v, hq, opsQ_wp hC hD hdst hn l σ' _ _ _ _ (fun o' ho' => hm o' (by simp [ho'])) hr hK⟩
    · rw [hw, if_neg (by simp)]
      exact opsQ_wp hC hD hdst hn l _ _ _ _ _ (fun o' ho' => hm o' (by simp [ho'])) (h.putO (fun k hk => hdst k o hmo hk) (SRep.unit _ _ _ _ _)) hy
/-! ### A region whose order is drawn, and that makes something -/
def mv0 (o : Oper) : Bool := (o.after.all fun e => !Region.binds .any e) && (match o.op with
  | .move _ => true
  | .assign _ => true
  | _ => false)
def isMv (ops : Array Oper) (o : Oper) : Bool := mv0 o || ((o.after.all fun e => !Region.binds .any e || (match ops[e.on]? with | some p => mv0 p | none => false)) && (match o.op with
  | .move _ => true
  | .assign _ => true
  | .binOp _ _ _ _ _ => true
  | .slice _ _ _ _ _ => true
  | _ => false))
def depOn (ops : Array Oper) (i c : Nat) : Bool := match ops[c]? with
  | some oc => oc.after.any fun e => Region.binds .any e && e.on == i
  | none => false
def needB (ops : Array Oper) (k : List Nat) (listed : Array Bool) : Bool := k.any fun i => match ops[i]? with
  | some oi => !isMv ops oi && (List.range ops.size).all fun c => !depOn ops i c || !listed.getD c false
  | none => false
theorem depOn_iff {ops : Array Oper} {i c : Nat} : depOn ops i c = true ↔ ∃ oc, ops[c]? = some oc ∧ ∃ e ∈ oc.after, Region.binds .any e = true ∧ e.on = i := by
  unfold depOn
  split
  · rename_i oc h
    simp only [h, Option.some.injEq, exists_eq_left', Array.any_eq_true', Bool.and_eq_true, beq_iff_eq]
  · rename_i h; simp [h]
theorem needB_iff {ops : Array Oper} {k : List Nat} {listed : Array Bool} : needB ops k listed = true ↔ ∃ i oi, i ∈ k ∧ ops[i]? = some oi ∧ isMv ops oi = false ∧ ∀ c, depOn ops i c = true → listed.getD c false = false := by
  unfold needB
  simp only [List.any_eq_true]
  constructor
  · rintro ⟨i, hi, h⟩
    split at h
    · rename_i oi hoi
      simp only [Bool.and_eq_true, Bool.not_eq_true', List.all_eq_true, List.mem_range, Bool.or_eq_true] at h
      refine ⟨i, oi, hi, hoi, h.1, fun c hc => ?_⟩
      obtain ⟨oc, h1, _⟩ := depOn_iff.1 hc
      have := h.2 c (Array.getElem?_eq_some_iff.1 h1).1
      rcases this with h2 | h2
      · rw [hc] at h2; cases h2
      · exact h2
    · cases h
  · rintro ⟨i, oi, hi, hoi, h1, h2⟩
    refine ⟨i, hi, ?_⟩
    simp only [hoi, h1, Bool.not_false, Bool.true_and, List.all_eq_true, List.mem_range, Bool.or_eq_true, Bool.not_eq_true']
    intro c _
    cases hc : depOn ops i c
    · exact .inl rfl
    · exact .inr (h2 c hc)
section
variable {P : Program} {ops : Array Oper} {Q : Exit → Act → World → Prop} {S : World → Prop} {k : List Nat}
def wpAnyT (P : Program) (ops : Array Oper) (Q : Exit → Act → World → Prop) (S : World → Prop) (k : List Nat) : Nat → Array Bool → Act → World → Prop
  | 0, listed, a, w => Region.ready .any ops listed = [] ∧ Q .normal a w
  | fuel + 1, listed, a, w => (Region.ready .any ops listed = [] → Q .normal a w) ∧
    ∀ i ∈ Region.ready .any ops listed, wpOp P ops Q i (fun a' w' => (needB ops k (listed.setIfInBounds i true) = true → S w') ∧ wpAnyT P ops Q S k fuel (listed.setIfInBounds i true) a' w') a w
theorem wpAny_of_T : ∀ (fuel : Nat) (listed : Array Bool) (a : Act) (w : World), wpAnyT P ops Q S k fuel listed a w → wpAny P .any ops Q fuel listed a w
  | 0, _, _, _, h => h
  | fuel + 1, _, _, _, h => ⟨h.1, fun i hi => wpOp_mono (fun a' w' h' => wpAny_of_T fuel _ a' w' h'.2) (h.2 i hi)⟩
theorem ready_dep {listed : Array Bool} {i j : Nat} (hi : listed.getD i true = false) (hj : j ∈ Region.ready .any ops listed) : depOn ops i j = false := by
  cases hd : depOn ops i j with
  | false => rfl
  | true =>
    obtain ⟨oc, h1, e, he, hb, hon⟩ := depOn_iff.1 hd
    obtain ⟨_, o, ho, hall⟩ := mem_ready.1 hj
    rw [h1] at ho; cases ho
    have h2 := hall e he hb
    rw [hon] at h2
    rcases Nat.lt_or_ge i listed.size with h' | h'
    · simp [h'] at hi h2; rw [hi] at h2; cases h2
    · simp [Array.getElem?_eq_none h'] at h2
theorem getD_set_false {listed : Array Bool} {i c : Nat} (h : listed.getD c false = false) (hne : c ≠ i) : (listed.setIfInBounds i true).getD c false = false := by rw [getD_set_ne false (Ne.symm hne)]; exact h
theorem getD_unset {listed : Array Bool} {i c : Nat} (h : (listed.setIfInBounds i true).getD c false = false) : listed.getD c false = false := by
  cases hx : listed.getD c false with
  | false => rfl
  | true => rw [getD_set_true hx] at h; cases h
theorem wpAnyT_first {i : Nat} {oi : Oper} {v : Value} (hi : ops[i]? = some oi) (hik : i ∈ k) (hsel : ∀ (j : Nat) (o : Oper) cs b, ops[j]? = some o → o.op ≠ .select cs b) (hQ : ∀ c a w, ¬ Q (.panic c) a w) :
    ∀ (fuel : Nat) (listed : Array Bool) (a : Act) (w : World),
      (∀ j oj, ops[j]? = some oj → j ≠ i → listed.getD j true = false → (∀ e ∈ oj.after, Region.binds .any e = true → e.on ≠ i) → oi.apart ops oj = true) →
      i ∈ Region.ready .any ops listed → (∀ c, depOn ops i c = true → listed.getD c false = false) → YieldsIf P ops (fun w => isMv ops oi = false → S w) oi v a → (needB ops k listed = true → S w) →
      wpAnyT P ops Q S k fuel (listed.setIfInBounds i true) (a.put oi.dst v) w → wpAnyT P ops Q S k (fuel + 1) listed a w := by
  have hT : ∀ (listed : Array Bool) (w : World), (∀ c, depOn ops i c = true → listed.getD c false = false) → (needB ops k listed = true → S w) → isMv ops oi = false → S w := fun listed w hdep hreq hm => hreq (needB_iff.2 ⟨i, oi, hik, hi, hm, hdep⟩)
  have hanti : ∀ (listed : Array Bool) (j : Nat), needB ops k (listed.setIfInBounds j true) = true → needB ops k listed = true := fun listed j hx => by
    obtain ⟨i0, o0, h1, h2, h3, h4⟩ := needB_iff.1 hx
    exact needB_iff.2 ⟨i0, o0, h1, h2, h3, fun c hc => getD_unset (h4 c hc)⟩
  intro fuel
  induction fuel with
  | zero =>
    intro listed a w _ hr hdep hy hreq H
    refine ⟨fun h => (by rw [h] at hr; cases hr), fun j hj => ?_⟩
    by_cases hji : j = i
    · subst hji; exact hy.wpOp hi (hT listed w hdep hreq) ⟨fun hx => hreq (hanti _ _ hx), H⟩
    · have := ready_mono hj hji
      rw [H.1] at this
      cases this
  | succ fuel ih =>
    intro listed a w hfree hr hdep hy hreq H
    refine ⟨fun h => (by rw [h] at hr; cases hr), fun j hj => ?_⟩
    by_cases hji : j = i
    · subst hji; exact hy.wpOp hi (hT listed w hdep hreq) ⟨fun hx => hreq (hanti _ _ hx), H⟩
    · have h1 := H.2 j (ready_mono hj hji)
      obtain ⟨hjun, oj, hoj, hall⟩ := mem_ready.1 hj
      have hiun := (mem_ready.1 hr).1
      have hdj : depOn ops i j = false := ready_dep hiun hj
      have hdi : depOn ops i i = false := ready_dep hiun hr
      have hnot : ∀ e ∈ oj.after, Region.binds .any e = true → e.on ≠ i := fun e he hb heq => by
        have : depOn ops i j = true := depOn_iff.2 ⟨oj, hoj, e, he, hb, heq⟩
        rw [hdj] at this; cases this
      have h2 := wpOp_putIf hoj (hfree j oj hoj hji hjun hnot) (fun cs b => hsel i oi cs b hi) (fun cs b => hsel j oj cs b hoj) (fun c a w h => absurd h (hQ c _ w)) hy h1
      have hfree' : ∀ m om, ops[m]? = some om → m ≠ i → (listed.setIfInBounds j true).getD m true = false →
          (∀ e ∈ om.after, Region.binds .any e = true → e.on ≠ i) → oi.apart ops om = true := fun m om hm hmi hun hno => by
        refine hfree m om hm hmi ?_ hno
        by_cases hjm : j = m
        · subst hjm; exact hjun
        · rw [getD_set_ne true hjm] at hun; exact hun
      have hdep' : ∀ c, depOn ops i c = true → (listed.setIfInBounds j true).getD c false = false := fun c hc =>
        getD_set_false (hdep c hc) (fun h => by subst h; rw [hdj] at hc; cases hc)
      have hreq' : needB ops k (listed.setIfInBounds j true) = true → needB ops k ((listed.setIfInBounds i true).setIfInBounds j true) = true := fun hx => by
        rw [Array.setIfInBounds_comm _ _ (Ne.symm hji)]
        obtain ⟨i0, o0, q1, q2, q3, q4⟩ := needB_iff.1 hx
        cases hd0 : depOn ops i0 i with
        | false =>
          exact needB_iff.2 ⟨i0, o0, q1, q2, q3, fun c hc => getD_set_false (q4 c hc) (fun h => by subst h; rw [hd0] at hc; cases hc)⟩
        | true =>
          refine needB_iff.2 ⟨i, oi, hik, hi, ?_, fun c hc => getD_set_false (hdep' c hc) (fun h => by subst h; rw [hdi] at hc; cases hc)⟩
          obtain ⟨oc, e1, hex⟩ := depOn_iff.1 hd0
          rw [hi] at e1; cases e1
          cases hm0 : isMv ops oi with
          | false => rfl
          | true =>
            obtain ⟨e, he, hb, hon⟩ := ‹∃ e ∈ oi.after, Region.binds .any e = true ∧ e.on = i0›
            simp only [isMv, mv0, Bool.or_eq_true, Bool.and_eq_true, Array.all_eq_true_iff_forall_mem, Bool.not_eq_true'] at hm0
            rcases hm0 with hm0 | hm0
            · have := hm0.1 e he
              rw [hb] at this; cases this
            · rcases hm0.1 e he with h4 | h4
              · rw [hb] at h4; cases h4
              · rw [hon, q2] at h4
                have : isMv ops o0 = true := by
                  simp only [isMv, mv0, Bool.or_eq_true, Bool.and_eq_true, Array.all_eq_true_iff_forall_mem, Bool.not_eq_true']
                  exact .inl (by simpa only [mv0, Bool.and_eq_true, Array.all_eq_true_iff_forall_mem, Bool.not_eq_true'] using h4)
                rw [this] at q3; cases q3
      refine wpOp_mono (fun a' w' h3 => ⟨fun hx => h3.2.1 (hreq' hx), ih (listed.setIfInBounds j true) a' w' hfree' (ready_mono hr (Ne.symm hji)) hdep' h3.1 (fun hx => h3.2.1 (hreq' hx)) ?_⟩) h2
      rw [Array.setIfInBounds_comm _ _ hji]
      exact h3.2.2
end
def pureOp (o : Oper) : Bool := match o.op with
  | .call { callee := .value _, .. } => false
  | .makeFunc (.func _) _ _ => false
  | _ => true
def lst (ops : Array Oper) : Nat → Array Bool
  | 0 => Array.replicate ops.size false
  | m + 1 => (lst ops m).setIfInBounds m true
def mixB (wr : Nat → Option Nat) (ops : Array Oper) (k : Nat) : Bool :=
  (Region.noSelect ops && ops.all (fun o => o.guard.isNone) && decide (k ≤ ops.size)) &&
  (List.range k).all (fun i => Region.free .any ops (lst ops i) i && (Region.ready .any ops (lst ops i)).contains i && (List.range ops.size).all (fun c => !depOn ops i c || !(lst ops i).getD c false) && (match ops[i]? with | some o => pureOp o | none => false)) &&
  (List.range ops.size).all (fun m => decide (m < k) || (Region.ready .any ops (lst ops m) == [m] && (!needB ops (List.range k) (lst ops (m + 1)) || (match ops[m]? with | some o => keepOp wr o | none => false)))) &&
  Region.ready .any ops (lst ops ops.size) == []
def cutL : List Oper → Nat
  | [] => 0
  | o :: l => if pureOp o && !noisyOp o then cutL l + 1 else 0
def cutK (ops : Array Oper) : Nat := cutL ops.toList
def cutQL : List Oper → Nat
  | [] => 0
  | o :: l => if !noisyOp o then cutQL l + 1 else 0
def cutQ (ops : Array Oper) : Nat := cutQL ops.toList
def lowB (ops : Array Oper) (k : Nat) : Bool := (List.range k).all fun i => match ops[i]? with
  | some o => o.after.all fun e => !Region.binds .any e || decide (e.on < i)
  | none => false
def mixQ (ops : Array Oper) (k : Nat) : Bool :=
  (Region.noSelect ops && ops.all (fun o => o.guard.isNone) && decide (k < ops.size)) && Region.lexB .any ⟨ops.toList.take k⟩ && lowB ops k &&
  (List.range k).all (fun i => (List.range (k + 1)).any fun j => decide (i < j) && depOn ops i j) &&
  (List.range ops.size).all (fun m => decide (m ≤ k) || (List.range m).any fun j => decide (k ≤ j) && depOn ops j m) &&
  (List.range ops.size).all (fun m => decide (m < k) || Region.ready .any ops (lst ops m) == [m]) && Region.ready .any ops (lst ops ops.size) == []
def pickL (ops : Array Oper) : List Nat → List Oper
  | [] => []
  | i :: l => match ops[i]? with
    | some o => o :: pickL ops l
    | none => pickL ops l
def chainOk (wr : Nat → Option Nat) (ops : Array Oper) (ks : List Nat) : List Nat → Array Bool → Bool
  | [], L => Region.ready .any ops L == []
  | i :: l, L => Region.ready .any ops L == [i] && (match ops[i]? with
    | some o => (!needB ops ks (L.setIfInBounds i true) || keepOp wr o)
    | none => false) && chainOk wr ops ks l (L.setIfInBounds i true)
def preOk (wr : Nat → Option Nat) (ops : Array Oper) (ks s : List Nat) : List Nat → Array Bool → Bool
  | [], L => chainOk wr ops ks s L
  | i :: p, L => Region.free .any ops L i && (Region.ready .any ops L).contains i && (List.range ops.size).all (fun c => !depOn ops i c || !L.getD c false) && (match ops[i]? with
    | some o => pureOp o
    | none => false) && ks.contains i && preOk wr ops ks s p (L.setIfInBounds i true)
def mixP (wr : Nat → Option Nat) (ops : Array Oper) (p s : List Nat) : Bool :=
  (Region.noSelect ops && ops.all (fun o => o.guard.isNone) && p.length + s.length == ops.size) && preOk wr ops p s p (Array.replicate ops.size false)
/-! ### In one order, where looks may come late -/
def lookOp (o : Oper) : Bool := match o.op with
  | .move _ | .assign _ | .pick _ _ _ | .load _ _ | .fieldAddr _ _ _ | .field _ _ _ | .indexAddr _ _ _ | .index _ _ _ | .nilCheck _ | .binOp _ _ _ _ _ | .unOp _ _ _ | .extract _ _ | .build _ _ | .slice _ _ _ _ _ | .convert _ _ _ => true
  | .call { callee := .builtin .len, .. } => true
  | .call { callee := .builtin .cap, .. } => true
  | .call { callee := .builtin .min, .. } => true
  | .call { callee := .builtin .max, .. } => true
  | _ => false
def lookI (ops : Array Oper) (i : Nat) : Bool := match ops[i]? with
  | some o => lookOp o
  | none => false
def dstI (ops : Array Oper) (i : Nat) : Option Tmp := (ops[i]?).bind (·.dst)
def usesI (ops : Array Oper) (j : Nat) (d : Tmp) : Bool := match ops[j]? with
  | some o => (o.looksAt ops).contains d
  | none => false
def edgesIn (ops : Array Oper) (done : List Nat) (i : Nat) : Bool := match ops[i]? with
  | some o => o.after.all fun e => !Region.binds .any e || done.contains e.on
  | none => false
def ordOk (ops : Array Oper) : List Nat → List Nat → Bool
  | _, [] => true
  | done, i :: s => edgesIn ops done i && (lookI ops i || (List.range ops.size).all fun j => j == i || done.contains j || !edgesIn ops done j) && ordOk ops (i :: done) s
def forcedL (ops : Array Oper) : List Nat → List Nat → List Nat
  | [], acc => acc
  | i :: l, acc => if (!lookI ops i || acc.any fun c => depOn ops i c) = true then forcedL ops l (i :: acc) else forcedL ops l acc
def pendA (ops : Array Oper) (done : List Nat) : List Nat := done.reverse.filter fun i => !(forcedL ops done []).contains i
def slotsOk (ops : Array Oper) : Bool := (List.range ops.size).all fun i => !lookI ops i || match dstI ops i with
  | some d => (List.range ops.size).all fun j => (j == i || dstI ops j != some d) && (!usesI ops j d || depOn ops i j)
  | none => false
def anyOk (ops : Array Oper) (s : List Nat) : Bool :=
  Region.noSelect ops && ops.all (fun o => o.guard.isNone) && s.length == ops.size && (List.range ops.size).all (fun i => s.contains i) && s.all (fun i => decide (i < ops.size)) && decide s.Nodup && slotsOk ops && ordOk ops [] s
def stepsA (ops : Array Oper) : List Nat → List Nat → List (Nat × List Nat × Nat)
  | done, [] => [(2, pendA ops done, 0)]
  | done, i :: s => (if lookI ops i = true then (0, [], i) else (1, pendA ops done, i)) :: stepsA ops (i :: done) s
def codeA (ops : Array Oper) : List (Nat × List Nat × Nat) → Code
  | [] => .skip
  | (0, _, i) :: l => .seq (.scope (.region 1 ⟨pickL ops [i]⟩ true)) (codeA ops l)
  | (1, p, i) :: l => .seq (.scope (.region 0 ⟨pickL ops p⟩ true)) (.seq (.region 0 ⟨pickL ops [i]⟩ false) (codeA ops l))
  | (_, p, _) :: l => .seq (.scope (.region 0 ⟨pickL ops p⟩ true)) (codeA ops l)
abbrev Ways := List (Nat × List Nat × List Nat)
def isQ (rs : Ways) (i : Nat) : Bool := (List.lookup i rs).isSome
def permR (rs : Ways) (i : Nat) : Option (List Nat × List Nat) := match List.lookup i rs with
  | some (x :: p, s) => some (x :: p, s)
  | _ => none
def anyR (rs : Ways) (i : Nat) : Option (List Nat) := match List.lookup i rs with
  | some ([], x :: s) => some (x :: s)
  | _ => none
def cutR (rs : Ways) (i : Nat) (ops : Array Oper) : Nat := if isQ rs i = true then cutQ ops else cutK ops
/-! Every order. -/
inductive Ord | leaf | both (i : Nat) (t r : Ord)
deriving DecidableEq
def ordT (ops : Array Oper) : Nat → Array Bool → Ord
  | 0, _ => .leaf
  | m + 1, L => (Region.ready .any ops L).foldr (fun i r => .both i (ordT ops m (L.setIfInBounds i true)) r) .leaf
def ordC (ops : Array Oper) : Ord → Code
  | .leaf => .skip
  | .both i t .leaf => .seq (.region 0 ⟨pickL ops [i]⟩ false) (ordC ops t)
  | .both i t r => .scope (.seq (.seq (.region 0 ⟨pickL ops [i]⟩ false) (ordC ops t)) (ordC ops r))
def treeOk (wr : Nat → Option Nat) (ops : Array Oper) (ks : List Nat) : Nat → Array Bool → Bool
  | 0, L => Region.ready .any ops L == []
  | m + 1, L => !(Region.ready .any ops L).isEmpty && (Region.ready .any ops L).all fun i => (match ops[i]? with
    | some o => (!needB ops ks (L.setIfInBounds i true) || keepOp wr o)
    | none => false) && treeOk wr ops ks m (L.setIfInBounds i true)
def preOkT (wr : Nat → Option Nat) (ops : Array Oper) (ks : List Nat) (m : Nat) : List Nat → Array Bool → Bool
  | [], L => treeOk wr ops ks m L
  | i :: p, L => Region.free .any ops L i && (Region.ready .any ops L).contains i && (List.range ops.size).all (fun c => !depOn ops i c || !L.getD c false) && (match ops[i]? with
    | some o => pureOp o
    | none => false) && ks.contains i && preOkT wr ops ks m p (L.setIfInBounds i true)
def setL : List Nat → Array Bool → Array Bool
  | [], L => L
  | i :: p, L => setL p (L.setIfInBounds i true)
def treeP (ops : Array Oper) (p : List Nat) : Code := .seq (.region 0 ⟨pickL ops p⟩ true) (ordC ops (ordT ops (ops.size - p.length) (setL p (Array.replicate ops.size false))))
def treeK (wr : Nat → Option Nat) (ops : Array Oper) (p : List Nat) : Bool :=
  (Region.noSelect ops && ops.all (fun o => o.guard.isNone) && decide (p.length ≤ ops.size)) && preOkT wr ops p (ops.size - p.length) p (Array.replicate ops.size false)
def isTree (s : List Nat) : Bool := s.head? == some 1000
def anyC (ops : Array Oper) (s : List Nat) : Code := if isTree s = true then treeP ops s.tail else codeA ops (stepsA ops [] s)
def anyK (wr : Nat → Option Nat) (ops : Array Oper) (s : List Nat) : Bool := if isTree s = true then treeK wr ops s.tail else anyOk ops s
def tr (rs : Ways) : Code → Code
  | .seq a b => .seq (tr rs a) (tr rs b)
  | .cond c a b => .cond c (tr rs a) (tr rs b)
  | .block i c => .block i (tr rs c)
  | .loop c => .loop (tr rs c)
  | .region i ops q => if q = true then (match anyR rs i with
    | some s => anyC ops s
    | none => if noisy ops = true then (match permR rs i with
      | some (p, s) => .seq (.region i ⟨pickL ops p⟩ true) (.region i ⟨pickL ops s⟩ false)
      | none => .seq (.region i ⟨ops.toList.take (cutR rs i ops)⟩ true) (.region i ⟨ops.toList.drop (cutR rs i ops)⟩ false)) else .region i ops true) else .region i ops false
  | c => c
def okCodeX (rs : Ways) (wr : Nat → Option Nat) (n : Nat) : Code → Bool
  | .seq a b => okCodeX rs wr n a && okCodeX rs wr n b
  | .cond _ a b => okCodeX rs wr n a && okCodeX rs wr n b
  | .block _ c => okCodeX rs wr n c
  | .loop c => okCodeX rs wr n c
  | .region i ops q => ops.all (fun o => match o.dst with | some d => decide (d < n) | none => true) && (if q = true then (match anyR rs i with
    | some s => anyK wr ops s
    | none => if noisy ops = true then (match permR rs i with
      | some (p, s) => mixP wr ops p s
      | none => if isQ rs i = true then mixQ ops (cutQ ops) else mixB wr ops (cutK ops)) else Region.lexB .any ops) else true)
  | .scope _ => false
  | _ => true
theorem move_any {ops : Array Oper} (hC : CfgOk C) (hR : Rel n w0 F0 S0 G F μ fp [] σ a w) (h : isMv ops o = true) (hs : opF C o σ = some σ') : ∃ v, ∀ w', (execOp a.eval o).run C.P w' = .ok (.value v) w' := by
  have h1 : (∃ x, o.op = .move x) ∨ (∃ x, o.op = .assign x) ∨ (∃ b t x y t', o.op = .binOp b t x y t') ∨ ∃ t x lo hi mx, o.op = .slice t x lo hi mx := by
    simp only [isMv, mv0, Bool.or_eq_true, Bool.and_eq_true] at h
    rcases h with ⟨_, h⟩ | ⟨_, h⟩
    · split at h
      · rename_i x ho; exact .inl ⟨x, ho⟩
      · rename_i x ho; exact .inr (.inl ⟨x, ho⟩)
      · cases h
    · split at h
      · rename_i x ho; exact .inl ⟨x, ho⟩
      · rename_i x ho; exact .inr (.inl ⟨x, ho⟩)
      · rename_i b t x y t' ho; exact .inr (.inr (.inl ⟨b, t, x, y, t', ho⟩))
      · rename_i t x lo hi mx ho; exact .inr (.inr (.inr ⟨t, x, lo, hi, mx, ho⟩))
      · cases h
  rcases h1 with ⟨x, ho⟩ | ⟨x, ho⟩ | ⟨b, t, x, y, t', ho⟩ | ⟨t, x, lo, hi, mx, ho⟩
  · exact ⟨a.eval x, fun w' => by simp [execOp, ho]⟩
  · exact ⟨a.eval x, fun w' => by simp [execOp, ho]⟩
  · have hr : ∃ r, binF C b t (σ.get x) (σ.get y) = some r := by
      simp only [opF, ho, Option.bind_eq_bind, Option.bind_eq_some_iff] at hs
      obtain ⟨v, hv, _⟩ := hs
      exact ⟨v, hv⟩
    obtain ⟨r, hr⟩ := hr
    obtain ⟨⟨v, hv, _⟩, hg⟩ := run_binF (F := F) (μ := μ) (fp := fp) (w := w) hC x y (hR.get x) (hR.get y) hr
    exact ⟨v, fun w' => by simp only [execOp, ho, Sem.run_bind, hg w', Result.andThen_ok, hv w', Sem.run_pure]⟩
  · have hr : ∃ r, sliceF C σ t (σ.get x) (lo.map σ.get) (hi.map σ.get) (mx.map σ.get) = some r := by
      simp only [opF, ho, Option.bind_eq_bind, Option.bind_eq_some_iff] at hs
      obtain ⟨v, hv, _⟩ := hs
      exact ⟨v, hv⟩
    obtain ⟨r, hr⟩ := hr
    obtain ⟨v, _, _, _, hv⟩ := op_sliceX hC hR ho hr
    exact ⟨v, hv⟩
theorem guard_none {ops : Array Oper} (h : (ops.all fun o => o.guard.isNone) = true) {o : Oper} (ho : o ∈ ops) : o.guard = none := by
  have := Array.all_eq_true_iff_forall_mem.1 h o ho
  simpa using this
theorem chain_wp (hC : CfgOk C) (hD : SpecOk C D) {ops ops2 : Array Oper} {k : Nat} (hmix : mixB C.wrt ops k = true) (hdst : ∀ d o, o ∈ ops → o.dst = some d → d < n) {K : St → Prop} {Q : Exit → Act → World → Prop} (hn : ∀ σ' a' w', K σ' → Stands n w0 F0 S0 G σ' a' w' → Q .normal a' w') (w1 : World) :
    ∀ (l : List Oper) (i : Nat) (σ : St) (a : Act) (w : World), ops.toList.drop i = l → k ≤ i → i ≤ ops.size → Stands n w0 F0 S0 G σ a w → (needB ops (List.range k) (lst ops i) = true → KeptS w1 w (fun _ => False)) → opsW C D false ops2 K l σ →
      wpAnyT C.P ops Q (fun w' => KeptS w1 w' (fun _ => False)) (List.range k) (ops.size - i) (lst ops i) a w
  | [], i, σ, a, w, hl, hk, hi, h, hreq, hW => by
    have hlen : ops.size - i = 0 := by have := congrArg List.length hl; simpa using this
    have : i = ops.size := by omega
    subst this
    rw [Nat.sub_self]
    simp only [mixB, Bool.and_eq_true, beq_iff_eq] at hmix
    exact ⟨hmix.2, hn _ _ _ hW h⟩
  | o :: l, i, σ, a, w, hl, hk, hi, h, hreq, hW => by
    have hlen : ops.size - i = l.length + 1 := by have := congrArg List.length hl; simpa using this
    have ho : ops[i]? = some o := by
      have : (ops.toList.drop i)[0]? = some o := by rw [hl]; rfl
      simpa using this
    have hl' : ops.toList.drop (i + 1) = l := by rw [← List.drop_drop, hl]; rfl
    have hm : o ∈ ops := Array.mem_of_getElem? ho
    have hmix0 := hmix
    simp only [mixB, Bool.and_eq_true, List.all_eq_true, List.mem_range, Bool.or_eq_true, decide_eq_true_eq, beq_iff_eq, Bool.not_eq_true'] at hmix
    obtain ⟨⟨⟨⟨⟨hsel, hg⟩, hkl⟩, hpre⟩, hch⟩, hend⟩ := hmix
    obtain ⟨hrd, hneed⟩ := (hch i (by omega)).resolve_left (by omega)
    have hgn := guard_none hg hm
    have hle : l.length = ops.size - (i + 1) := by omega
    rw [hlen]
    refine ⟨fun h0 => (by rw [hrd] at h0; cases h0), fun j hj => ?_⟩
    rw [hrd] at hj
    obtain rfl : j = i := by simpa using hj
    unfold wpOp
    simp only [ho]
    rw [if_pos (by unfold Region.wanted; rw [hgn])]
    have hW : opW C D false o (opsW C D false ops2 K l) σ := by
      simp only [opsW, guardOf, hgn, Option.map_none, guardW] at hW; exact hW
    refine .inl (op_wpK hC hD h (fun k hk => hdst k o hm hk) hW fun σ' a' w' hK h' hkeep => ?_)
    have hreq' : needB ops (List.range k) (lst ops (j + 1)) = true → KeptS w1 w' (fun _ => False) := fun hx => by
      have h1 : keepOp C.wrt o = true := by
        rcases hneed with h2 | h2
        · rw [hx] at h2; cases h2
        · rw [ho] at h2; exact h2
      have h3 : needB ops (List.range k) (lst ops j) = true := by
        obtain ⟨i0, o0, q1, q2, q3, q4⟩ := needB_iff.1 hx
        exact needB_iff.2 ⟨i0, o0, q1, q2, q3, fun c hc => getD_unset (q4 c hc)⟩
      exact (hreq h3).trans (hkeep h1) (fun _ _ h => h)
    refine ⟨hreq', ?_⟩
    rw [hle]
    exact chain_wp hC hD hmix0 hdst hn w1 l (j + 1) σ' a' w' hl' (by omega) (by omega) h' hreq' hK
theorem pre_wp (hC : CfgOk C) (hD : SpecOk C D) {ops ops1 ops2 : Array Oper} {k : Nat} (hmix : mixB C.wrt ops k = true) (hdst : ∀ d o, o ∈ ops → o.dst = some d → d < n) {K : St → Prop} {Q : Exit → Act → World → Prop} (hn : ∀ σ' a' w', K σ' → Stands n w0 F0 S0 G σ' a' w' → Q .normal a' w') (hQ : ∀ c a w, ¬ Q (.panic c) a w) (w1 : World) :
    ∀ (l : List Oper) (i : Nat) (σ : St) (a : Act) (μ : Nat → Option Nat) (fp : Nat → List Nat), (ops.toList.take k).drop i = l → i ≤ k → Rel n w0 F0 S0 G F μ fp [] σ a w1 → opsW C D true ops1 (opsW C D false ops2 K (ops.toList.drop k)) l σ →
      wpAnyT C.P ops Q (fun w' => KeptS w1 w' (fun _ => False)) (List.range k) (ops.size - i) (lst ops i) a w1
  | [], i, σ, a, μ, fp, hl, hi, h, hW => by
    have hmix0 := hmix
    simp only [mixB, Bool.and_eq_true, decide_eq_true_eq] at hmix
    obtain ⟨⟨⟨⟨_, hkl⟩, _⟩, _⟩, _⟩ := hmix
    have hlen : min k ops.size - i = 0 := by have := congrArg List.length hl; simpa using this
    obtain rfl : i = k := by omega
    exact chain_wp hC hD hmix0 hdst hn w1 _ i σ a w1 rfl (Nat.le_refl _) hkl ⟨_, _, _, h⟩ (fun _ => KeptS.refl _ _) hW
  | o :: l, i, σ, a, μ, fp, hl, hi, h, hW => by
    have hmix0 := hmix
    simp only [mixB, Bool.and_eq_true, List.all_eq_true, List.mem_range, Bool.or_eq_true, decide_eq_true_eq, beq_iff_eq, Bool.not_eq_true'] at hmix
    obtain ⟨⟨⟨⟨⟨hsel, hg⟩, hkl⟩, hpre⟩, hch⟩, hend⟩ := hmix
    have hlen : min k ops.size - i = l.length + 1 := by have := congrArg List.length hl; simpa using this
    have ho : ops[i]? = some o := by
      have : ((ops.toList.take k).drop i)[0]? = some o := by rw [hl]; rfl
      rw [List.getElem?_drop, List.getElem?_take_of_lt (by omega)] at this
      simpa using this
    have hl' : (ops.toList.take k).drop (i + 1) = l := by rw [← List.drop_drop, hl]; rfl
    have hm : o ∈ ops := Array.mem_of_getElem? ho
    have hgn := guard_none hg hm
    obtain ⟨⟨⟨hfree, hready⟩, hdep⟩, hpure⟩ := hpre i (by omega)
    rw [ho] at hpure
    have hW : opW C D true o (opsW C D true ops1 (opsW C D false ops2 K (ops.toList.drop k)) l) σ := by
      simp only [opsW, guardOf, hgn, Option.map_none, guardW] at hW; exact hW
    have hle : ops.size - i = (ops.size - (i + 1)) + 1 := by omega
    have hdp : ∀ c, depOn ops i c = true → (lst ops i).getD c false = false := fun c hc => by
      obtain ⟨oc, h1, _⟩ := depOn_iff.1 hc
      rcases hdep c (Array.getElem?_eq_some_iff.1 h1).1 with h2 | h2
      · rw [hc] at h2; cases h2
      · exact h2
    rcases opW_cases hW with ⟨x, args, ts, ho', hW⟩ | ⟨t, x, ho', _, σ1, hs, hK⟩ | ⟨fm, first, cap, ho', hW⟩ | ⟨hno, hW⟩
    · simp [pureOp, ho'] at hpure
    rotate_left
    · simp [pureOp, ho'] at hpure
    rotate_left
    · obtain ⟨v, μ', fp', hrel, hr⟩ := op_loadS hC h (fun k hk => hdst k o hm hk) ho' hs
      rw [hle]
      refine wpAnyT_first ho (List.mem_range.2 (by omega)) (Region.noSelect_spec hsel) hQ _ (lst ops i) a w1 (Region.free_spec ho hfree) (by simpa using hready) hdp (v := v) (.inl ⟨by unfold Region.wanted; rw [hgn], fun w' hT => hr w' (hT (by simp [isMv, mv0, ho']))⟩) (fun _ => KeptS.refl _ _) ?_
      exact pre_wp hC hD hmix0 hdst hn hQ w1 l (i + 1) _ _ _ _ hl' (by omega) hrel hK
    obtain ⟨hlk, σ1, hs, hK⟩ := hW
    obtain ⟨v, x, rfl, hx, hr⟩ := looks_pure (a := a) hC h (hlk rfl) hs
    rw [hle]
    refine wpAnyT_first ho (List.mem_range.2 (by omega)) (Region.noSelect_spec hsel) hQ _ (lst ops i) a w1 (Region.free_spec ho hfree) (by simpa using hready) hdp (v := v) (.inl ⟨by unfold Region.wanted; rw [hgn], fun w' hT => ?_⟩) (fun _ => KeptS.refl _ _) ?_
    · cases hmv : isMv ops o with
      | false => exact hr w' (hT hmv)
      | true =>
        obtain ⟨v', hv'⟩ := move_any hC h hmv hs
        have h1 := hr w1 (KeptS.refl _ _)
        rw [hv' w1] at h1
        have : v' = v := by simpa using h1
        rw [hv' w', this]
    · exact pre_wp hC hD hmix0 hdst hn hQ w1 l (i + 1) _ _ _ _ hl' (by omega) (h.putO (fun k hk => hdst k o hm hk) hx) hK
theorem exists_leastQ {p : Nat → Prop} (h : ∃ k, p k) : ∃ k, p k ∧ ∀ m, p m → k ≤ m := by
  obtain ⟨k, hk⟩ := h
  induction k using Nat.strongRecOn with
  | _ k ih =>
    by_cases hx : ∃ m, m < k ∧ p m
    · obtain ⟨m, hm, hp⟩ := hx
      exact ih m hm hp
    · exact ⟨k, hk, fun m hm => Nat.le_of_not_lt fun hlt => hx ⟨m, hlt, hm⟩⟩
/-! ### In a given order -/
theorem chainP_wp (hC : CfgOk C) (hD : SpecOk C D) {ops ops2 : Array Oper} {ks : List Nat} (hsel : ops.all (fun o => o.guard.isNone) = true) (hdst : ∀ d o, o ∈ ops → o.dst = some d → d < n) {K : St → Prop} {Q : Exit → Act → World → Prop} (hn : ∀ σ' a' w', K σ' → Stands n w0 F0 S0 G σ' a' w' → Q .normal a' w') (w1 : World) :
    ∀ (l : List Nat) (L : Array Bool) (σ : St) (a : Act) (w : World), chainOk C.wrt ops ks l L = true → Stands n w0 F0 S0 G σ a w → (needB ops ks L = true → KeptS w1 w (fun _ => False)) → opsW C D false ops2 K (pickL ops l) σ →
      wpAnyT C.P ops Q (fun w' => KeptS w1 w' (fun _ => False)) ks l.length L a w
  | [], L, σ, a, w, hk, h, _, hW => by
    simp only [chainOk, beq_iff_eq] at hk
    exact ⟨hk, hn _ _ _ hW h⟩
  | i :: l, L, σ, a, w, hk, h, hreq, hW => by
    simp only [chainOk, Bool.and_eq_true, beq_iff_eq] at hk
    obtain ⟨⟨hrd, hneed⟩, hk⟩ := hk
    cases ho : ops[i]? with
    | none => rw [ho] at hneed; cases hneed
    | some o =>
    rw [ho] at hneed
    have hm : o ∈ ops := Array.mem_of_getElem? ho
    have hgn := guard_none hsel hm
    refine ⟨fun h0 => (by rw [hrd] at h0; cases h0), fun j hj => ?_⟩
    rw [hrd] at hj
    obtain rfl : j = i := by simpa using hj
    unfold wpOp
    simp only [ho]
    rw [if_pos (by unfold Region.wanted; rw [hgn])]
    have hW : opW C D false o (opsW C D false ops2 K (pickL ops l)) σ := by
      simp only [pickL, ho, opsW, guardOf, hgn, Option.map_none, guardW] at hW; exact hW
    refine .inl (op_wpK hC hD h (fun k hk => hdst k o hm hk) hW fun σ' a' w' hK h' hkeep => ?_)
    have hreq' : needB ops ks (L.setIfInBounds j true) = true → KeptS w1 w' (fun _ => False) := fun hx => by
      have h1 : keepOp C.wrt o = true := by
        rw [hx] at hneed
        simpa using hneed
      have h3 : needB ops ks L = true := by
        obtain ⟨i0, o0, q1, q2, q3, q4⟩ := needB_iff.1 hx
        exact needB_iff.2 ⟨i0, o0, q1, q2, q3, fun c hc => getD_unset (q4 c hc)⟩
      exact (hreq h3).trans (hkeep h1) (fun _ _ h => h)
    exact ⟨hreq', chainP_wp hC hD hsel hdst hn w1 l _ σ' a' w' hk h' hreq' hK⟩
theorem preP_wp (hC : CfgOk C) (hD : SpecOk C D) {ops ops1 ops2 : Array Oper} {ks s : List Nat} (hns : Region.noSelect ops = true) (hsel : ops.all (fun o => o.guard.isNone) = true) (hdst : ∀ d o, o ∈ ops → o.dst = some d → d < n) {K : St → Prop} {Q : Exit → Act → World → Prop} (hn : ∀ σ' a' w', K σ' → Stands n w0 F0 S0 G σ' a' w' → Q .normal a' w') (hQ : ∀ c a w, ¬ Q (.panic c) a w) (w1 : World) :
    ∀ (p : List Nat) (L : Array Bool) (σ : St) (a : Act) (μ : Nat → Option Nat) (fp : Nat → List Nat), preOk C.wrt ops ks s p L = true → Rel n w0 F0 S0 G F μ fp [] σ a w1 → opsW C D true ops1 (opsW C D false ops2 K (pickL ops s)) (pickL ops p) σ →
      wpAnyT C.P ops Q (fun w' => KeptS w1 w' (fun _ => False)) ks (s.length + p.length) L a w1
  | [], L, σ, a, μ, fp, hk, h, hW => by
    simp only [preOk] at hk
    exact chainP_wp hC hD hsel hdst hn w1 s L σ a w1 hk ⟨_, _, _, h⟩ (fun _ => KeptS.refl _ _) hW
  | i :: p, L, σ, a, μ, fp, hk, h, hW => by
    simp only [preOk, Bool.and_eq_true, List.all_eq_true, List.mem_range, Bool.or_eq_true, Bool.not_eq_true'] at hk
    obtain ⟨⟨⟨⟨⟨hfree, hready⟩, hdep⟩, hpure⟩, hik⟩, hk⟩ := hk
    have hik : i ∈ ks := by simpa using hik
    cases ho : ops[i]? with
    | none => rw [ho] at hpure; cases hpure
    | some o =>
    rw [ho] at hpure
    have hm : o ∈ ops := Array.mem_of_getElem? ho
    have hgn := guard_none hsel hm
    have hW : opW C D true o (opsW C D true ops1 (opsW C D false ops2 K (pickL ops s)) (pickL ops p)) σ := by
      simp only [pickL, ho, opsW, guardOf, hgn, Option.map_none, guardW] at hW; exact hW
    have hdp : ∀ c, depOn ops i c = true → L.getD c false = false := fun c hc => by
      obtain ⟨oc, h1, _⟩ := depOn_iff.1 hc
      rcases hdep c (Array.getElem?_eq_some_iff.1 h1).1 with h2 | h2
      · rw [hc] at h2; cases h2
      · exact h2
    show wpAnyT C.P ops Q (fun w' => KeptS w1 w' (fun _ => False)) ks ((s.length + p.length) + 1) L a w1
    rcases opW_cases hW with ⟨x, args, ts, ho', hW⟩ | ⟨t, x, ho', _, σ1, hs, hK⟩ | ⟨fm, first, cap, ho', hW⟩ | ⟨hno, hW⟩
    · simp [pureOp, ho'] at hpure
    rotate_left
    · simp [pureOp, ho'] at hpure
    rotate_left
    · obtain ⟨v, μ', fp', hrel, hr⟩ := op_loadS hC h (fun k hk => hdst k o hm hk) ho' hs
      refine wpAnyT_first ho hik (Region.noSelect_spec hns) hQ _ L a w1 (Region.free_spec ho hfree) (by simpa using hready) hdp (v := v) (.inl ⟨by unfold Region.wanted; rw [hgn], fun w' hT => hr w' (hT (by simp [isMv, mv0, ho']))⟩) (fun _ => KeptS.refl _ _) ?_
      exact preP_wp hC hD hns hsel hdst hn hQ w1 p _ _ _ _ _ hk hrel hK
    obtain ⟨hlk, σ1, hs, hK⟩ := hW
    obtain ⟨v, x, rfl, hx, hr⟩ := looks_pure (a := a) hC h (hlk rfl) hs
    refine wpAnyT_first ho hik (Region.noSelect_spec hns) hQ _ L a w1 (Region.free_spec ho hfree) (by simpa using hready) hdp (v := v) (.inl ⟨by unfold Region.wanted; rw [hgn], fun w' hT => ?_⟩) (fun _ => KeptS.refl _ _) ?_
    · cases hmv : isMv ops o with
      | false => exact hr w' (hT hmv)
      | true =>
        obtain ⟨v', hv'⟩ := move_any hC h hmv hs
        have h1 := hr w1 (KeptS.refl _ _)
        rw [hv' w1] at h1
        have : v' = v := by simpa using h1
        rw [hv' w', this]
    · exact preP_wp hC hD hns hsel hdst hn hQ w1 p _ _ _ _ _ hk (h.putO (fun k hk => hdst k o hm hk) hx) hK
/-! ### In every order -/
theorem ordC_all {ops : Array Oper} {f : Nat → Ord} {Q : Ex → St → Prop} {σ : St} : ∀ {is : List Nat}, is ≠ [] → W C D (ordC ops (is.foldr (fun i r => .both i (f i) r) .leaf)) Q σ → ∀ i ∈ is, W C D (.seq (.region 0 ⟨pickL ops [i]⟩ false) (ordC ops (f i))) Q σ
  | [], h, _, _, _ => absurd rfl h
  | [i], _, h, j, hj => by
    obtain rfl : j = i := by simpa using hj
    exact h
  | i :: i2 :: is, _, h, j, hj => by
    have h : W C D (.scope (.seq (.seq (.region 0 ⟨pickL ops [i]⟩ false) (ordC ops (f i))) (ordC ops ((i2 :: is).foldr (fun i r => .both i (f i) r) .leaf)))) Q σ := h
    rcases List.mem_cons.1 hj with rfl | hj
    · exact h.1
    · exact ordC_all (by simp) h.2 j hj
theorem tree_wp (hC : CfgOk C) (hD : SpecOk C D) {ops : Array Oper} {ks : List Nat} (hsel : ops.all (fun o => o.guard.isNone) = true) (hdst : ∀ d o, o ∈ ops → o.dst = some d → d < n) {Q' : Ex → St → Prop} {Q : Exit → Act → World → Prop} (hn : ∀ σ' a' w', Q' .normal σ' → Stands n w0 F0 S0 G σ' a' w' → Q .normal a' w') (w1 : World) :
    ∀ (m : Nat) (L : Array Bool) (σ : St) (a : Act) (w : World), treeOk C.wrt ops ks m L = true → Stands n w0 F0 S0 G σ a w → (needB ops ks L = true → KeptS w1 w (fun _ => False)) → W C D (ordC ops (ordT ops m L)) Q' σ →
      wpAnyT C.P ops Q (fun w' => KeptS w1 w' (fun _ => False)) ks m L a w
  | 0, L, σ, a, w, hk, h, _, hW => by
    simp only [treeOk, beq_iff_eq] at hk
    exact ⟨hk, hn _ _ _ hW h⟩
  | m + 1, L, σ, a, w, hk, h, hreq, hW => by
    simp only [treeOk, Bool.and_eq_true, List.all_eq_true, Bool.not_eq_true', List.isEmpty_eq_false_iff] at hk
    obtain ⟨hne, hk⟩ := hk
    refine ⟨fun h0 => absurd h0 hne, fun i hi => ?_⟩
    obtain ⟨hneed, hk⟩ := hk i hi
    have hWi := ordC_all (f := fun i => ordT ops m (L.setIfInBounds i true)) hne hW i hi
    cases ho : ops[i]? with
    | none => rw [ho] at hneed; cases hneed
    | some o =>
    rw [ho] at hneed
    have hm : o ∈ ops := Array.mem_of_getElem? ho
    have hgn := guard_none hsel hm
    unfold wpOp
    simp only [ho]
    rw [if_pos (by unfold Region.wanted; rw [hgn])]
    have hW : opW C D false o (W C D (ordC ops (ordT ops m (L.setIfInBounds i true))) Q') σ := by
      have hWi : opsW C D false ⟨pickL ops [i]⟩ (W C D (ordC ops (ordT ops m (L.setIfInBounds i true))) Q') (pickL ops [i]) σ := hWi
      simp only [pickL, ho, opsW, guardOf, hgn, Option.map_none, guardW] at hWi; exact hWi
    refine .inl (op_wpK hC hD h (fun k hk => hdst k o hm hk) hW fun σ' a' w' hK h' hkeep => ?_)
    have hreq' : needB ops ks (L.setIfInBounds i true) = true → KeptS w1 w' (fun _ => False) := fun hx => by
      have h1 : keepOp C.wrt o = true := by
        rw [hx] at hneed
        simpa using hneed
      have h3 : needB ops ks L = true := by
        obtain ⟨i0, o0, q1, q2, q3, q4⟩ := needB_iff.1 hx
        exact needB_iff.2 ⟨i0, o0, q1, q2, q3, fun c hc => getD_unset (q4 c hc)⟩
      exact (hreq h3).trans (hkeep h1) (fun _ _ h => h)
    exact ⟨hreq', tree_wp hC hD hsel hdst hn w1 m _ σ' a' w' hk h' hreq' hK⟩
theorem preT_wp (hC : CfgOk C) (hD : SpecOk C D) {ops ops1 : Array Oper} {ks : List Nat} (hns : Region.noSelect ops = true) (hsel : ops.all (fun o => o.guard.isNone) = true) (hdst : ∀ d o, o ∈ ops → o.dst = some d → d < n) {Q' : Ex → St → Prop} {Q : Exit → Act → World → Prop} (hn : ∀ σ' a' w', Q' .normal σ' → Stands n w0 F0 S0 G σ' a' w' → Q .normal a' w') (hQ : ∀ c a w, ¬ Q (.panic c) a w) (w1 : World) (m : Nat) :
    ∀ (p : List Nat) (L : Array Bool) (σ : St) (a : Act) (μ : Nat → Option Nat) (fp : Nat → List Nat), preOkT C.wrt ops ks m p L = true → Rel n w0 F0 S0 G F μ fp [] σ a w1 → opsW C D true ops1 (W C D (ordC ops (ordT ops m (setL p L))) Q') (pickL ops p) σ →
      wpAnyT C.P ops Q (fun w' => KeptS w1 w' (fun _ => False)) ks (m + p.length) L a w1
  | [], L, σ, a, μ, fp, hk, h, hW => by
    simp only [preOkT] at hk
    exact tree_wp hC hD hsel hdst hn w1 m L σ a w1 hk ⟨_, _, _, h⟩ (fun _ => KeptS.refl _ _) hW
  | i :: p, L, σ, a, μ, fp, hk, h, hW => by
    simp only [preOkT, Bool.and_eq_true, List.all_eq_true, List.mem_range, Bool.or_eq_true, Bool.not_eq_true'] at hk
    obtain ⟨⟨⟨⟨⟨hfree, hready⟩, hdep⟩, hpure⟩, hik⟩, hk⟩ := hk
    have hik : i ∈ ks := by simpa using hik
    cases ho : ops[i]? with
    | none => rw [ho] at hpure; cases hpure
    | some o =>
    rw [ho] at hpure
    have hm : o ∈ ops := Array.mem_of_getElem? ho
    have hgn := guard_none hsel hm
    have hW : opW C D true o (opsW C D true ops1 (W C D (ordC ops (ordT ops m (setL p (L.setIfInBounds i true)))) Q') (pickL ops p)) σ := by
      simp only [pickL, ho, opsW, guardOf, hgn, Option.map_none, guardW] at hW; exact hW
    have hdp : ∀ c, depOn ops i c = true → L.getD c false = false := fun c hc => by
      obtain ⟨oc, h1, _⟩ := depOn_iff.1 hc
      rcases hdep c (Array.getElem?_eq_some_iff.1 h1).1 with h2 | h2
      · rw [hc] at h2; cases h2
      · exact h2
    show wpAnyT C.P ops Q (fun w' => KeptS w1 w' (fun _ => False)) ks ((m + p.length) + 1) L a w1
    rcases opW_cases hW with ⟨x, args, ts, ho', hW⟩ | ⟨t, x, ho', _, σ1, hs, hK⟩ | ⟨fm, first, cap, ho', hW⟩ | ⟨hno, hW⟩
    · simp [pureOp, ho'] at hpure
    rotate_left
    · simp [pureOp, ho'] at hpure
    rotate_left
    · obtain ⟨v, μ', fp', hrel, hr⟩ := op_loadS hC h (fun k hk => hdst k o hm hk) ho' hs
      refine wpAnyT_first ho hik (Region.noSelect_spec hns) hQ _ L a w1 (Region.free_spec ho hfree) (by simpa using hready) hdp (v := v) (.inl ⟨by unfold Region.wanted; rw [hgn], fun w' hT => hr w' (hT (by simp [isMv, mv0, ho']))⟩) (fun _ => KeptS.refl _ _) ?_
      exact preT_wp hC hD hns hsel hdst hn hQ w1 m p _ _ _ _ _ hk hrel hK
    obtain ⟨hlk, σ1, hs, hK⟩ := hW
    obtain ⟨v, x, rfl, hx, hr⟩ := looks_pure (a := a) hC h (hlk rfl) hs
    refine wpAnyT_first ho hik (Region.noSelect_spec hns) hQ _ L a w1 (Region.free_spec ho hfree) (by simpa using hready) hdp (v := v) (.inl ⟨by unfold Region.wanted; rw [hgn], fun w' hT => ?_⟩) (fun _ => KeptS.refl _ _) ?_
    · cases hmv : isMv ops o with
      | false => exact hr w' (hT hmv)
      | true =>
        obtain ⟨v', hv'⟩ := move_any hC h hmv hs
        have h1 := hr w1 (KeptS.refl _ _)
        rw [hv' w1] at h1
        have : v' = v := by simpa using h1
        rw [hv' w', this]
    · exact preT_wp hC hD hns hsel hdst hn hQ w1 m p _ _ _ _ _ hk (h.putO (fun k hk => hdst k o hm hk) hx) hK
/-! ### Calls ahead of a chain -/
theorem chainQ_wp (hC : CfgOk C) (hD : SpecOk C D) {ops ops2 : Array Oper} {k : Nat} (hmix : mixQ ops k = true) (hdst : ∀ d o, o ∈ ops → o.dst = some d → d < n) {K : St → Prop} {Q : Exit → Act → World → Prop} (hn : ∀ σ' a' w', K σ' → Stands n w0 F0 S0 G σ' a' w' → Q .normal a' w') :
    ∀ (l : List Oper) (i : Nat) (σ : St) (a : Act) (w : World), ops.toList.drop i = l → k ≤ i → i ≤ ops.size → Stands n w0 F0 S0 G σ a w → opsW C D false ops2 K l σ →
      wpAny C.P .any ops Q (ops.size - i) (lst ops i) a w
  | [], i, σ, a, w, hl, hk, hi, h, hW => by
    have hlen : ops.size - i = 0 := by have := congrArg List.length hl; simpa using this
    have : i = ops.size := by omega
    subst this
    rw [Nat.sub_self]
    simp only [mixQ, Bool.and_eq_true, beq_iff_eq] at hmix
    exact ⟨hmix.2, hn _ _ _ hW h⟩
  | o :: l, i, σ, a, w, hl, hk, hi, h, hW => by
    have hlen : ops.size - i = l.length + 1 := by have := congrArg List.length hl; simpa using this
    have ho : ops[i]? = some o := by
      have : (ops.toList.drop i)[0]? = some o := by rw [hl]; rfl
      simpa using this
    have hl' : ops.toList.drop (i + 1) = l := by rw [← List.drop_drop, hl]; rfl
    have hm : o ∈ ops := Array.mem_of_getElem? ho
    have hmix0 := hmix
    simp only [mixQ, Bool.and_eq_true, List.all_eq_true, List.mem_range, Bool.or_eq_true, decide_eq_true_eq, beq_iff_eq] at hmix
    obtain ⟨⟨⟨⟨⟨⟨⟨⟨hsel, hg⟩, hkl⟩, _⟩, _⟩, _⟩, _⟩, hch⟩, hend⟩ := hmix
    have hrd := (hch i (by omega)).resolve_left (by omega)
    have hgn := guard_none hg hm
    have hle : l.length = ops.size - (i + 1) := by omega
    rw [hlen]
    refine ⟨fun h0 => (by rw [hrd] at h0; cases h0), fun j hj => ?_⟩
    rw [hrd] at hj
    obtain rfl : j = i := by simpa using hj
    unfold wpOp
    simp only [ho]
    rw [if_pos (by unfold Region.wanted; rw [hgn])]
    have hW : opW C D false o (opsW C D false ops2 K l) σ := by
      simp only [opsW, guardOf, hgn, Option.map_none, guardW] at hW; exact hW
    refine .inl (op_wp hC hD h (fun k hk => hdst k o hm hk) hW fun σ' a' w' hK h' => ?_)
    rw [hle]
    exact chainQ_wp hC hD hmix0 hdst hn l (j + 1) σ' a' w' hl' (by omega) (by omega) h' hK
section
variable {P : Program} {ops : Array Oper} {S : World → Prop} {k : Nat}
def Closed (ops : Array Oper) (L : Array Bool) : Prop := ∀ c, L.getD c false = true → ∀ i, depOn ops i c = true → L.getD i false = true
theorem all_needed (hcl : (List.range k).all (fun i => (List.range (k + 1)).any fun j => decide (i < j) && depOn ops i j) = true) {L : Array Bool} (hL : Closed ops L) (hk : ∀ i, depOn ops i k = true → L.getD i false = true) : ∀ d i, i + d + 1 = k → L.getD i false = true := by
  intro d
  induction d using Nat.strongRecOn with
  | _ d ih =>
    intro i hi
    simp only [List.all_eq_true, List.any_eq_true, List.mem_range, Bool.and_eq_true, decide_eq_true_eq] at hcl
    obtain ⟨j, hj, hij, hdep⟩ := hcl i (by omega)
    by_cases h : j = k
    · subst h; exact hk i hdep
    · exact hL j (ih (k - j - 1) (by omega) j (by omega)) i hdep
theorem getD_take {L L1 : Array Bool} (hc : ∀ i, i < k → L[i]? = L1[i]?) (hf : ∀ i, k ≤ i → L.getD i false = false) {i : Nat} (h : L.getD i false = true) : i < k ∧ L1.getD i false = true := by
  by_cases hi : i < k
  · refine ⟨hi, ?_⟩
    rw [Array.getD_eq_getD_getElem?] at h ⊢
    rw [← hc i hi]; exact h
  · rw [hf i (by omega)] at h; cases h
theorem embedQ {Qa : Act → Prop} {Q : Exit → Act → World → Prop} (hmix : mixQ ops k = true) (hchain : ∀ a w, S w → Qa a → wpAny P .any ops Q (ops.size - k) (lst ops k) a w) (hlst : ∀ L : Array Bool, L.size = ops.size → (∀ i, i < k → L[i]? = some true) → (∀ i, k ≤ i → L.getD i false = false) → L = lst ops k) :
    ∀ (fuel : Nat) (L1 L : Array Bool) (a : Act) (w : World), L1.size = k → L.size = ops.size → (∀ i, i < k → L[i]? = L1[i]?) → (∀ i, k ≤ i → L.getD i false = false) → Closed ops L → L1.toList.count false = fuel → S w →
      wpAnyQ P .any ⟨ops.toList.take k⟩ S Qa fuel L1 a → wpAny P .any ops Q (fuel + (ops.size - k)) L a w := by
  have hmix0 := hmix
  simp only [mixQ, Bool.and_eq_true, List.all_eq_true, List.mem_range, Bool.or_eq_true, decide_eq_true_eq, beq_iff_eq] at hmix
  obtain ⟨⟨⟨⟨⟨⟨⟨⟨hsel, hg⟩, hkl⟩, hlex⟩, hlow⟩, hcl⟩, hdep⟩, hch⟩, hend⟩ := hmix
  have hcl' : (List.range k).all (fun i => (List.range (k + 1)).any fun j => decide (i < j) && depOn ops i j) = true := by
    simp only [List.all_eq_true, List.mem_range]; exact hcl
  have at1 : ∀ i, i < k → (⟨ops.toList.take k⟩ : Array Oper)[i]? = ops[i]? := fun i hi => by
    simp [List.getElem?_take_of_lt hi]
  intro fuel
  induction fuel with
  | zero =>
    intro L1 L a w h1 h2 hc hf hcd hcnt hS h
    have hall : ∀ i, i < k → L[i]? = some true := fun i hi => by
      rw [hc i hi, Array.getElem?_eq_getElem (by omega)]
      have := List.count_eq_zero.1 hcnt
      cases hx : L1[i] with
      | true => rfl
      | false => exact absurd (by rw [← hx]; simp) this
    rw [Nat.zero_add, hlst L h2 hall hf]
    exact hchain a w hS h.2
  | succ fuel ih =>
    intro L1 L a w h1 h2 hc hf hcd hcnt hS h
    have hex : ∃ i, i < k ∧ L1[i]? = some false := by
      have : false ∈ L1.toList := List.count_pos_iff.1 (by omega)
      obtain ⟨i, hi, he⟩ := List.mem_iff_getElem.1 this
      exact ⟨i, by simpa [h1] using hi, by simpa [Array.getElem?_eq_getElem (by simpa using hi)] using he⟩
    obtain ⟨i0, ⟨hi0, he0⟩, hmin⟩ := exists_leastQ (p := fun i => i < k ∧ L1[i]? = some false) hex
    have key : ∀ i, i < k → (i ∈ Region.ready .any ops L ↔ i ∈ Region.ready .any (⟨ops.toList.take k⟩ : Array Oper) L1) := fun i hi => by
      rw [mem_ready, mem_ready, at1 i hi]
      have e1 : L.getD i true = L1.getD i true := by rw [Array.getD_eq_getD_getElem?, Array.getD_eq_getD_getElem?, hc i hi]
      rw [e1]
      refine and_congr Iff.rfl (exists_congr fun o => and_congr Iff.rfl (forall_congr' fun e => forall_congr' fun he => forall_congr' fun hb => ?_))
      constructor
      · exact fun h => (getD_take hc hf h).2
      · intro h
        rw [Array.getD_eq_getD_getElem?] at h ⊢
        by_cases hl : e.on < k
        · rw [hc _ hl]; exact h
        · rw [Array.getElem?_eq_none (by omega)] at h; cases h
    have hnk : ∀ i, i ∈ Region.ready .any ops L → i < k := fun i hi => by
      refine Nat.lt_of_not_le fun hge => ?_
      obtain ⟨_, o, ho, hall⟩ := mem_ready.1 hi
      have hdi : ∀ j, depOn ops j i = true → L.getD j false = true := fun j hj => by
        obtain ⟨oc, q1, e, q2, q3, q4⟩ := depOn_iff.1 hj
        rw [ho] at q1; cases q1
        rw [← q4]; exact hall e q2 q3
      have hil : i < ops.size := (Array.getElem?_eq_some_iff.1 ho).1
      rcases hdep i hil with hd | hd
      · obtain rfl : i = k := by omega
        have := all_needed hcl' hcd hdi (i - i0 - 1) i0 (by omega)
        rw [Array.getD_eq_getD_getElem?, hc i0 hi0, he0] at this
        cases this
      · simp only [List.any_eq_true, List.mem_range, Bool.and_eq_true, decide_eq_true_eq] at hd
        obtain ⟨j, _, hkj, hji⟩ := hd
        have := hdi j hji
        rw [hf j hkj] at this; cases this
    have hr0 : i0 ∈ Region.ready .any ops L := by
      refine (key i0 hi0).2 (mem_ready.2 ⟨by rw [Array.getD_eq_getD_getElem?, he0]; rfl, ?_⟩)
      rw [at1 i0 hi0]
      have hil : i0 < ops.size := by omega
      refine ⟨ops[i0], Array.getElem?_eq_getElem hil, fun e he hb => ?_⟩
      have hlw := hlow
      simp only [lowB, List.all_eq_true, List.mem_range] at hlw
      have := hlw i0 hi0
      rw [Array.getElem?_eq_getElem hil] at this
      have := (Array.all_eq_true_iff_forall_mem.1 this) e he
      rw [hb] at this
      have hlt : e.on < i0 := by simpa using this
      rw [Array.getD_eq_getD_getElem?, Array.getElem?_eq_getElem (by omega)]
      cases hx : L1[e.on]'(by omega) with
      | true => rfl
      | false =>
        have := hmin e.on ⟨by omega, by rw [Array.getElem?_eq_getElem (by omega), hx]⟩
        omega
    rw [Nat.add_right_comm]
    refine ⟨fun h0 => (by rw [h0] at hr0; cases hr0), fun i hi => ?_⟩
    have hik := hnk i hi
    have hi1 := (key i hik).1 hi
    have hq := h.2 i hi1
    obtain ⟨hun, o, ho, hall⟩ := mem_ready.1 hi
    have hgn : o.guard = none := guard_none hg (Array.mem_of_getElem? ho)
    unfold qOp at hq
    rw [at1 i hik, ho] at hq
    simp only at hq
    rw [if_pos (by unfold Region.wanted; rw [hgn])] at hq
    unfold wpOp
    simp only [ho]
    rw [if_pos (by unfold Region.wanted; rw [hgn])]
    have hL1i : L1[i]? = some false := by
      have : L.getD i true = false := hun
      rw [Array.getD_eq_getD_getElem?, hc i hik, Array.getElem?_eq_getElem (by omega)] at this
      rw [Array.getElem?_eq_getElem (by omega)]
      simpa using this
    refine .inl (Oper.wp_of_quiet hS (fun a' w' hS' hK => ih _ _ a' w' (by simpa using h1) (by simpa using h2) (fun j hj => ?_) (fun j hj => ?_) (fun c hcl2 j hj => ?_) ?_ hS' hK) hq)
    · by_cases hji : i = j
      · subst hji
        rw [Array.getElem?_setIfInBounds_self_of_lt (by omega), Array.getElem?_setIfInBounds_self_of_lt (by omega)]
      · rw [Array.getElem?_setIfInBounds_ne hji, Array.getElem?_setIfInBounds_ne hji]; exact hc j hj
    · rw [getD_set_ne false (by omega)]; exact hf j hj
    · have hset : ∀ x, L.getD x false = true → (L.setIfInBounds i true).getD x false = true := fun x hx => by
        by_cases hxi : i = x
        · subst hxi; rw [Array.getD_eq_getD_getElem?, Array.getElem?_setIfInBounds_self_of_lt (by omega)]; rfl
        · rw [getD_set_ne false hxi]; exact hx
      by_cases hci : i = c
      · subst hci
        refine hset j ?_
        obtain ⟨oc, q1, e, q2, q3, q4⟩ := depOn_iff.1 hj
        rw [ho] at q1; cases q1
        rw [← q4]; exact hall e q2 q3
      · rw [getD_set_ne false hci] at hcl2
        exact hset j (hcd c hcl2 j hj)
    · rw [Array.toList_setIfInBounds, List.count_set (by simpa using (show i < L1.size by omega))]
      have : L1.toList[i]'(by simpa using (show i < L1.size by omega)) = false := by
        rw [Array.getElem?_eq_getElem (by omega)] at hL1i
        simpa using hL1i
      rw [this]
      have h9 := hcnt
      simp at h9 ⊢
      omega
end
theorem lst_get {ops : Array Oper} : ∀ m, (lst ops m).size = ops.size ∧ ∀ i, i < ops.size → (lst ops m)[i]? = some (decide (i < m))
  | 0 => by
    refine ⟨by simp [lst], fun i hi => ?_⟩
    simp [lst, hi]
  | m + 1 => by
    obtain ⟨h1, h2⟩ := lst_get (ops := ops) m
    refine ⟨by simpa [lst] using h1, fun i hi => ?_⟩
    simp only [lst]
    by_cases hm : m = i
    · subst hm
      rw [Array.getElem?_setIfInBounds_self_of_lt (by omega)]
      simp
    · rw [Array.getElem?_setIfInBounds_ne hm, h2 i hi]
      congr 1
      have : (i < m) = (i < m + 1) := by apply propext; omega
      simp [this]
theorem regionQ_wp (hC : CfgOk C) (hD : SpecOk C D) {ops : Array Oper} {k : Nat} (hmix : mixQ ops k = true) (hdst : ∀ d o, o ∈ ops → o.dst = some d → d < n) {K : St → Prop} {Q : Exit → Act → World → Prop} {id : Nat} (hn : ∀ σ' a' w', K σ' → Stands n w0 F0 S0 G σ' a' w' → Q .normal a' w')
    {σ : St} {a : Act} {w : World} (h : Stands n w0 F0 S0 G σ a w) (hW : opsW C D true ⟨ops.toList.take k⟩ (opsW C D false ⟨ops.toList.drop k⟩ K (ops.toList.drop k)) (ops.toList.take k) σ) : (Code.region id ops true).wp C.P Q a w := by
  obtain ⟨F, μ, fp, hr⟩ := h
  have hkw : KeptS w { w with drawn := w.drawn + 1 } (fun _ => False) := ⟨rfl, rfl, rfl, Nat.le_refl _, fun _ _ _ => rfl, fun _ cur _ _ h => ⟨cur, h, rfl⟩⟩
  obtain ⟨F', μ', fp', hr'⟩ := hr.later hkw
  have hmix0 := hmix
  simp only [mixQ, Bool.and_eq_true] at hmix
  obtain ⟨⟨⟨⟨⟨⟨⟨⟨hsel, hg⟩, hkl⟩, hlex⟩, hlow⟩, hcl⟩, hdep⟩, hch⟩, hend⟩ := hmix
  have hkl : k < ops.size := by simpa using hkl
  have hq := opsQ_wp hC hD (ops := ⟨ops.toList.take k⟩) (fun d o hm hd => hdst d o (by
    have : o ∈ ops.toList.take k := by simpa using hm
    simpa using List.mem_of_mem_take this) hd) (Q := fun _ a' w' => ∃ σ', opsW C D false ⟨ops.toList.drop k⟩ K (ops.toList.drop k) σ' ∧ Stands n w0 F0 S0 G σ' a' w') (fun σ' a' w' hK hs => ⟨σ', hK, hs⟩) (ops.toList.take k) σ a _ _ _ (fun o ho => by simpa using ho) hr' hW
  simp only [Region.lexB, Bool.and_eq_true] at hlex
  have hany := wpAnyQ_lex (P := C.P) (md := .any) hlex.1 (ops.toList.take k) 0 (Array.replicate k false) a (by simp) (by
    have e : (ops.toList.take k).length = k := by rw [List.length_take]; simp; omega
    have e2 : (⟨ops.toList.take k⟩ : Array Oper).size = k := by simp; omega
    rw [e]; rw [e2] at hlex; exact hlex.2) hq
  have e : (ops.toList.take k).length = k := by rw [List.length_take]; simp; omega
  rw [e] at hany
  refine wp_region_any hC.mixed ?_
  have := embedQ (P := C.P) (Q := Q) (S := fun w' => KeptS { w with drawn := w.drawn + 1 } w' (fun _ => False)) hmix0 (fun a' w' hS hQa => by
    obtain ⟨σ', hK, hs⟩ := hQa w' hS
    exact chainQ_wp hC hD hmix0 hdst hn _ k σ' a' w' rfl (Nat.le_refl _) (by omega) hs hK) (fun L h1 h2 h3 => by
    obtain ⟨q1, q2⟩ := lst_get (ops := ops) k
    refine Array.ext (by omega) fun i hi1 hi2 => ?_
    have h4 := q2 i (by omega)
    rw [Array.getElem?_eq_getElem hi2] at h4
    by_cases hik : i < k
    · have h5 := h2 i hik
      rw [Array.getElem?_eq_getElem hi1] at h5
      rw [Option.some.injEq] at h4 h5
      rw [h4, h5]; simp [hik]
    · have h5 := h3 i (by omega)
      rw [Array.getD_eq_getD_getElem?, Array.getElem?_eq_getElem hi1] at h5
      rw [Option.some.injEq] at h4
      rw [h4]; simpa [hik] using h5) k (Array.replicate k false) (Array.replicate ops.size false) a { w with drawn := w.drawn + 1 } (by simp) (by simp) (fun i hi => by rw [Array.getElem?_replicate, Array.getElem?_replicate, if_pos (by omega), if_pos hi]) (fun i hi => by rw [Array.getD_eq_getD_getElem?, Array.getElem?_replicate]; split <;> rfl) (fun c hc => by rw [Array.getD_eq_getD_getElem?, Array.getElem?_replicate] at hc; split at hc <;> cases hc) (by simp) (KeptS.refl _ _) hany
  rwa [show k + (ops.size - k) = ops.size by omega] at this
theorem edgesIn_iff {ops : Array Oper} {done : List Nat} {i : Nat} : edgesIn ops done i = true ↔ ∃ o, ops[i]? = some o ∧ ∀ e ∈ o.after, Region.binds .any e = true → e.on ∈ done := by
  unfold edgesIn
  split
  · rename_i o ho
    simp only [Array.all_eq_true_iff_forall_mem, Bool.or_eq_true, Bool.not_eq_true', List.contains_iff_mem, ho, Option.some.injEq, exists_eq_left']
    constructor
    · intro h e he hb
      rcases h e he with h1 | h1
      · rw [hb] at h1; cases h1
      · exact h1
    · intro h e he
      cases hb : Region.binds .any e
      · exact .inl rfl
      · exact .inr (h e he hb)
  · rename_i h; simp [h]
theorem set_mem {L : Array Bool} {i j : Nat} (hi : i < L.size) : (L.setIfInBounds i true).getD j false = true ↔ (j = i ∨ L.getD j false = true) := by
  by_cases h : j = i
  · subst h; simp [hi]
  · rw [getD_set_ne false (Ne.symm h)]; simp [h]
theorem forcedL_sub {ops : Array Oper} {p : Nat → Prop} (hc : ∀ i c, depOn ops i c = true → p c → p i) : ∀ (l acc : List Nat), (∀ i ∈ l, lookI ops i = false → p i) → (∀ i ∈ acc, p i) → ∀ i ∈ forcedL ops l acc, p i
  | [], acc, _, h, i, hi => h i hi
  | j :: l, acc, h1, h2, i, hi => by
    simp only [forcedL] at hi
    split at hi
    · rename_i hj
      refine forcedL_sub hc l (j :: acc) (fun i hi => h1 i (by simp [hi])) (fun k hk => ?_) i hi
      rcases List.mem_cons.1 hk with rfl | hk
      · simp only [Bool.or_eq_true, Bool.not_eq_true', List.any_eq_true] at hj
        rcases hj with hj | ⟨c, hc1, hc2⟩
        · exact h1 _ (by simp) hj
        · exact hc _ c hc2 (h2 c hc1)
      · exact h2 k hk
    · exact forcedL_sub hc l acc (fun i hi => h1 i (by simp [hi])) h2 i hi
theorem upon_move {P : Program} {o : Oper} {a af : Act} {next next' : Act → World → Prop} {Q : Exit → Act → World → Prop} (hQ : ∀ c a w, ¬ Q (.panic c) a w) (hv : ∀ v w, next (af.put o.dst v) w → next' (a.put o.dst v) w)
    (hd : ∀ d w, ¬ next ({ af with defers := d :: af.defers }.put o.dst undef) w) (r : Result Next) (h : o.upon P af next Q r) : o.upon P a next' Q r := by
  cases r with
  | ok m w' =>
    cases m <;> simp only [Oper.upon] at h ⊢ <;> first
      | exact hv _ _ h
      | exact absurd h (hd _ _)
      | exact Calls.mono h (fun e w'' he => by cases e <;> first | exact hv _ _ he | exact absurd he (hQ _ _ _) | exact he)
      | exact Rows.mono h (fun _ _ he => hv _ _ he)
  | halt x w' => cases x <;> simp only [Oper.upon] at h ⊢ <;> first | exact absurd h (hQ _ _ _) | exact h
structure AInv (ops : Array Oper) (L : Array Bool) (done s pend : List Nat) (a af : Act) : Prop where
  size : L.size = ops.size
  mem : ∀ i, L.getD i false = true ↔ (i ∈ done ∧ i ∉ pend)
  sub : ∀ i ∈ pend, i ∈ done ∧ lookI ops i = true
  pnd : pend.Nodup
  cov : ∀ i, i < ops.size → i ∈ done ∨ i ∈ s
  lt : ∀ i, i ∈ done ∨ i ∈ s → i < ops.size
  nd : (done.reverse ++ s).Nodup
  pre : ordOk ops [] done.reverse = true
  ord : ordOk ops done s = true
  closed : ∀ i c, depOn ops i c = true → L.getD c false = true → L.getD i false = true
  tsz : a.tmps.size = af.tmps.size
  dfr : a.defers = af.defers
  agree : ∀ x, (∀ i ∈ pend, dstI ops i ≠ some x) → a.tmps[x]? = af.tmps[x]?
def chainA (C : Cfg) (D : Spec) (ops : Array Oper) (K : St → Prop) : List Nat → List Nat → St → Prop
  | done, [], σ => stabW C D (pickL ops (pendA ops done)) σ ∧ K σ
  | done, i :: s, σ => if lookI ops i = true then noStl C (pickL ops [i]) ∧ opsW C D true ⟨pickL ops [i]⟩ (chainA C D ops K (i :: done) s) (pickL ops [i]) σ else stabW C D (pickL ops (pendA ops done)) σ ∧ opsW C D false ⟨pickL ops [i]⟩ (chainA C D ops K (i :: done) s) (pickL ops [i]) σ
theorem stabW_cons {C : Cfg} {D : Spec} {σ : St} (o : Oper) (l : List Oper) : stabW C D (o :: l) σ = ((stlD C o.dst = false ∧ opsW C D true #[] (sameD o σ) [o] σ) ∧ stabW C D l σ) := rfl
theorem stabW_mem {C : Cfg} {D : Spec} {σ : St} {o' : Oper} (l : List Oper) : stabW C D l σ → o' ∈ l → stlD C o'.dst = false ∧ opsW C D true #[] (sameD o' σ) [o'] σ := by
  induction l with
  | nil => intro _ h; cases h
  | cons o l ih =>
    intro h ho
    rw [stabW_cons] at h
    rcases List.mem_cons.1 ho with e | ho
    · rw [e]; exact h.1
    · exact ih h.2 ho
theorem pickL_mem {ops : Array Oper} {i : Nat} {o : Oper} (ho : ops[i]? = some o) : ∀ {l : List Nat}, i ∈ l → o ∈ pickL ops l
  | j :: l, h => by
    rcases List.mem_cons.1 h with rfl | h
    · simp [pickL, ho]
    · simp only [pickL]
      split
      · exact List.mem_cons_of_mem _ (pickL_mem ho h)
      · exact pickL_mem ho h
theorem opW_look {C : Cfg} {D : Spec} {o : Oper} {K : St → Prop} {σ : St} (hl : lookOp o = true) (hs : stlD C o.dst = false) (h : opW C D true o K σ) : looks C o = true ∧ ∃ σ1, opF C o σ = some σ1 ∧ K σ1 := by
  rcases opW_cases h with ⟨x, args, ts, ho, _⟩ | ⟨t, x, _, hst, _⟩ | ⟨fm, first, cap, ho, _⟩ | ⟨_, hg⟩
  · simp [lookOp, ho] at hl
  · rw [hst] at hs; cases hs
  · simp [lookOp, ho] at hl
  · exact ⟨hg.1 rfl, hg.2⟩
theorem ops_one {C : Cfg} {D : Spec} {q : Bool} {ops' : Array Oper} {K : St → Prop} {o : Oper} (hg : o.guard = none) (h : opsW C D q ops' K [o] σ) : opW C D q o K σ := by
  simp only [opsW, guardOf, hg, Option.map_none, guardW] at h; exact h
theorem look_again (hC : CfgOk C) {af : Act} (h : Stands n w0 F0 S0 G σ af w) (hl : lookOp o = true) (hg : o.guard = none) {d : Tmp} (hd : o.dst = some d) (hdn : d < n) (hs : stlD C o.dst = false ∧ opsW C D true #[] (sameD o σ) [o] σ) :
    ∃ v, (execOp af.eval o).run C.P w = .ok (.value v) w ∧ Stands n w0 F0 S0 G σ (af.put (some d) v) w := by
  obtain ⟨hlk, σ1, h1, h2⟩ := opW_look hl hs.1 (ops_one hg hs.2)
  obtain ⟨F, μ, fp, hr⟩ := h
  obtain ⟨v, x, rfl, hx, hrun⟩ := looks_pure (a := af) hC hr hlk h1
  refine ⟨v, hrun w (KeptS.refl _ _), F, μ, fp, ?_⟩
  have := hr.putO (d := some d) (fun k hk => by cases hk; exact hdn) hx
  rw [hd] at h2
  have hx2 : σ.sl d = x := by
    have h3 : sameD o σ (σ.put (some d) x) := h2
    unfold sameD at h3
    rw [hd] at h3
    change (σ.put (some d) x).sl d = σ.sl d at h3
    have h4 : (σ.put (some d) x).sl d = x := by simp [St.put, upd]
    rw [h4] at h3
    exact h3.symm
  rwa [St.put_same hx2] at this
theorem look_once (hC : CfgOk C) {af : Act} (h : Stands n w0 F0 S0 G σ af w) (hl : lookOp o = true) (hg : o.guard = none) {d : Tmp} (hd : o.dst = some d) (hdn : d < n) {K : St → Prop} {ops' : Array Oper} (hst : stlD C o.dst = false) (hW : opsW C D true ops' K [o] σ) :
    ∃ v σ', K σ' ∧ Stands n w0 F0 S0 G σ' (af.put (some d) v) w := by
  obtain ⟨hlk, σ1, h1, h2⟩ := opW_look hl hst (ops_one hg hW)
  obtain ⟨F, μ, fp, hr⟩ := h
  obtain ⟨v, x, rfl, hx, hrun⟩ := looks_pure (a := af) hC hr hlk h1
  rw [hd] at h2
  exact ⟨v, _, h2, F, μ, fp, hr.putO (d := some d) (fun k hk => by cases hk; exact hdn) hx⟩
theorem ordOk_snoc {ops : Array Oper} {i : Nat} : ∀ {l d : List Nat}, ordOk ops d l = true → ordOk ops (l.reverse ++ d) [i] = true → ordOk ops d (l ++ [i]) = true
  | [], d, _, h => h
  | j :: l, d, h1, h2 => by
    simp only [ordOk, Bool.and_eq_true, List.cons_append] at h1 ⊢
    refine ⟨h1.1, ordOk_snoc h1.2 ?_⟩
    simpa using h2
theorem first_pend {ops : Array Oper} {p : Nat → Prop} [DecidablePred p] : ∀ {l d : List Nat}, ordOk ops d l = true → (∃ i ∈ l, p i) → (∀ i ∈ d, ¬ p i) → ∃ i ∈ l, p i ∧ ∃ d', edgesIn ops d' i = true ∧ (∀ j ∈ d', (j ∈ d ∨ j ∈ l) ∧ ¬ p j)
  | [], _, _, ⟨i, hi, _⟩, _ => by cases hi
  | j :: l, d, h, ⟨i, hi, hp⟩, hd => by
    simp only [ordOk, Bool.and_eq_true] at h
    by_cases hj : p j
    · exact ⟨j, by simp, hj, d, h.1.1, fun k hk => ⟨.inl hk, hd k hk⟩⟩
    · have hi' : i ∈ l := by
        rcases List.mem_cons.1 hi with rfl | hi
        · exact absurd hp hj
        · exact hi
      obtain ⟨k, hk, hpk, d', h1, h2⟩ := first_pend (p := p) h.2 ⟨i, hi', hp⟩ (fun k hk => by
        rcases List.mem_cons.1 hk with rfl | hk
        · exact hj
        · exact hd k hk)
      refine ⟨k, by simp [hk], hpk, d', h1, fun m hm => ⟨?_, (h2 m hm).2⟩⟩
      rcases (h2 m hm).1 with h3 | h3
      · rcases List.mem_cons.1 h3 with rfl | h3
        · exact .inr (by simp)
        · exact .inl h3
      · exact .inr (by simp [h3])
section
variable {ops : Array Oper} {La : Array Bool} {done s pend : List Nat} {af : Act}
theorem AInv.ready (h : AInv ops La done s pend a af) {i : Nat} {d' : List Nat} (hi : i < ops.size) (hn : La.getD i false = false) (he : edgesIn ops d' i = true) (hd : ∀ j ∈ d', j ∈ done ∧ j ∉ pend) : i ∈ Region.ready .any ops La := by
  obtain ⟨o, ho, hall⟩ := edgesIn_iff.1 he
  refine mem_ready.2 ⟨?_, o, ho, fun e hee hb => (h.mem _).2 (hd _ (hall e hee hb))⟩
  have : i < La.size := by rw [h.size]; exact hi
  simpa [this] using hn
theorem AInv.cases (h : AInv ops La done s pend a af) {i : Nat} (hi : i ∈ Region.ready .any ops La) : i < ops.size ∧ La.getD i false = false ∧ edgesIn ops done i = true ∧ ((i ∈ done ∧ i ∈ pend) ∨ (i ∉ done ∧ i ∈ s)) := by
  obtain ⟨h0, o, ho, hall⟩ := mem_ready.1 hi
  have hlt : i < ops.size := (Array.getElem?_eq_some_iff.1 ho).1
  have hlt2 : i < La.size := by rw [h.size]; exact hlt
  have hf : La.getD i false = false := by simpa [hlt2] using h0
  refine ⟨hlt, hf, edgesIn_iff.2 ⟨o, ho, fun e he hb => ((h.mem _).1 (hall e he hb)).1⟩, ?_⟩
  by_cases hd : i ∈ done
  · refine .inl ⟨hd, ?_⟩
    by_cases hp : i ∈ pend
    · exact hp
    · have := (h.mem i).2 ⟨hd, hp⟩
      rw [hf] at this; cases this
  · exact .inr ⟨hd, (h.cov i hlt).resolve_left hd⟩
theorem ready_listed {i j : Nat} (hj : j ∈ Region.ready .any ops La) (hd : depOn ops i j = true) : La.getD i false = true := by
  obtain ⟨_, o, ho, hall⟩ := mem_ready.1 hj
  obtain ⟨oc, h1, e, he, hb, hon⟩ := depOn_iff.1 hd
  rw [ho] at h1; cases h1
  exact hon ▸ hall e he hb
theorem slots_at (hsl : slotsOk ops = true) {i : Nat} (hi : i < ops.size) (hl : lookI ops i = true) : ∃ d, dstI ops i = some d ∧ ∀ j, j < ops.size → (j = i ∨ dstI ops j ≠ some d) ∧ (usesI ops j d = true → depOn ops i j = true) := by
  simp only [slotsOk, List.all_eq_true, List.mem_range, Bool.or_eq_true, Bool.not_eq_true'] at hsl
  have h := hsl i hi
  rw [hl] at h
  rcases h with h | h
  · cases h
  · split at h
    · rename_i d hd
      simp only [List.all_eq_true, List.mem_range, Bool.or_eq_true, Bool.and_eq_true, Bool.not_eq_true', beq_iff_eq, bne_iff_ne, ne_eq] at h
      refine ⟨d, hd, fun j hj => ⟨(h j hj).1, fun hu => ?_⟩⟩
      rcases (h j hj).2 with h2 | h2
      · rw [hu] at h2; cases h2
      · exact h2
    · cases h
theorem AInv.same (h : AInv ops La done s pend a af) (hsl : slotsOk ops = true) {j : Nat} {o : Oper} (hj : j ∈ Region.ready .any ops La) (ho : ops[j]? = some o) (hs : ∀ cs b, o.op ≠ .select cs b) : execOp a.eval o = execOp af.eval o := by
  refine execOp_congr o hs fun x hx => ?_
  cases x with
  | tmp t =>
    have := h.agree t fun i hi hd => by
      obtain ⟨hid, hil⟩ := h.sub i hi
      obtain ⟨d, hd2, hall⟩ := slots_at hsl (h.lt i (.inl hid)) hil
      rw [hd] at hd2; cases hd2
      have hjl : j < ops.size := (Array.getElem?_eq_some_iff.1 ho).1
      have hu : usesI ops j t = true := by
        unfold usesI
        rw [ho]
        simp only [List.contains_iff_mem, Oper.looksAt]
        exact List.mem_append_left _ (List.mem_filterMap.2 ⟨.tmp t, by simpa using hx, rfl⟩)
      have h2 := ready_listed hj ((hall j hjl).2 hu)
      exact ((h.mem i).1 h2).2 hi
    simp only [Act.eval]
    rw [Array.getD_eq_getD_getElem?, Array.getD_eq_getD_getElem?, this]
  | _ => rfl
theorem put_get (a : Act) (d x : Tmp) (v : Value) : (a.put (some d) v).tmps[x]? = if d = x then (if x < a.tmps.size then some v else none) else a.tmps[x]? := by
  simp only [Act.put, Array.getElem?_setIfInBounds]
  split
  · rename_i h; subst h; rfl
  · rfl
theorem put_size (a : Act) (d : Option Tmp) (v : Value) : (a.put d v).tmps.size = a.tmps.size := by cases d <;> simp [Act.put]
theorem put_dfr (a : Act) (d : Option Tmp) (v : Value) : (a.put d v).defers = a.defers := by cases d <;> rfl
theorem looks_adv (hC : CfgOk C) (hg : ops.all (fun o => o.guard.isNone) = true) (hsl : slotsOk ops = true) (hdst : ∀ d o, o ∈ ops → o.dst = some d → d < n) {K : St → Prop} :
    ∀ (s done pend : List Nat) (σ : St) (af : Act), AInv ops La done s pend a af → Stands n w0 F0 S0 G σ af w → chainA C D ops K done s σ →
    ∃ done' s' pend' σ' af', AInv ops La done' s' pend' a af' ∧ s'.length + pend'.length = s.length + pend.length ∧ (s' = [] ∨ ∃ i t, s' = i :: t ∧ lookI ops i = false) ∧ Stands n w0 F0 S0 G σ' af' w ∧ chainA C D ops K done' s' σ'
  | [], done, pend, σ, af, h, hs, hW => ⟨done, [], pend, σ, af, h, rfl, .inl rfl, hs, hW⟩
  | i :: s, done, pend, σ, af, h, hs, hW => by
    cases hl : lookI ops i with
    | false => exact ⟨done, i :: s, pend, σ, af, h, rfl, .inr ⟨i, s, rfl, hl⟩, hs, hW⟩
    | true =>
      have hi : i < ops.size := h.lt i (.inr (by simp))
      obtain ⟨d, hd, hall⟩ := slots_at hsl hi hl
      have ho : ops[i]? = some ops[i] := by simp [hi]
      have hm : ops[i] ∈ ops := Array.getElem_mem hi
      have hd' : ops[i].dst = some d := by simpa [dstI, ho] using hd
      have hl' : lookOp ops[i] = true := by simpa [lookI, ho] using hl
      simp only [chainA, hl, if_true] at hW
      have hW : noStl C [ops[i]] ∧ opsW C D true ⟨[ops[i]]⟩ (chainA C D ops K (i :: done) s) [ops[i]] σ := by simpa only [pickL, ho] using hW
      obtain ⟨v, σ', hK, hst⟩ := look_once hC hs hl' (guard_none hg hm) hd' (hdst d _ hm hd') hW.1.1 hW.2
      have hnd := h.nd
      have hid : i ∉ done := fun hx => by
        have := (List.nodup_append.1 hnd).2.2 i (by simpa using hx) i (by simp)
        exact this rfl
      have hip : i ∉ pend := fun hx => hid (h.sub i hx).1
      have inv : AInv ops La (i :: done) s (i :: pend) a (af.put (some d) v) := by
        refine ⟨h.size, fun j => ?_, fun j hj => ?_, List.nodup_cons.2 ⟨hip, h.pnd⟩, fun j hj => ?_, fun j hj => ?_, by simpa using hnd, ?_, ?_, h.closed, by rw [put_size]; exact h.tsz, by rw [put_dfr]; exact h.dfr, fun x hx => ?_⟩
        · rw [h.mem j]
          by_cases hji : j = i
          · subst hji; simp [hid]
          · simp [hji]
        · rcases List.mem_cons.1 hj with rfl | hj
          · exact ⟨by simp, hl⟩
          · exact ⟨by simp [(h.sub j hj).1], (h.sub j hj).2⟩
        · rcases h.cov j hj with h1 | h1
          · exact .inl (by simp [h1])
          · rcases List.mem_cons.1 h1 with rfl | h1
            · exact .inl (by simp)
            · exact .inr h1
        · refine h.lt j ?_
          rcases hj with hj | hj
          · rcases List.mem_cons.1 hj with rfl | hj
            · exact .inr (by simp)
            · exact .inl hj
          · exact .inr (by simp [hj])
        · rw [List.reverse_cons]
          refine ordOk_snoc h.pre ?_
          have := h.ord
          simp only [ordOk, Bool.and_eq_true] at this ⊢
          simpa using this.1
        · have := h.ord
          simp only [ordOk, Bool.and_eq_true] at this
          exact this.2
        · have hxd : ¬ d = x := fun e => hx i (by simp) (by rw [hd, e])
          rw [put_get, if_neg hxd]
          exact h.agree x fun j hj => hx j (by simp [hj])
      obtain ⟨done', s', pend', σ2, af2, k1, k2, k3, k4, k5⟩ := looks_adv hC hg hsl hdst s (i :: done) (i :: pend) σ' _ inv hst hK
      exact ⟨done', s', pend', σ2, af2, k1, by rw [k2]; simp; omega, k3, k4, k5⟩
theorem AInv.stab {K : St → Prop} (h : AInv ops La done s pend a af) (hcan : s = [] ∨ ∃ i t, s = i :: t ∧ lookI ops i = false) (hW : chainA C D ops K done s σ) {j : Nat} {o : Oper} (hj : j ∈ pend) (ho : ops[j]? = some o) : stlD C o.dst = false ∧ opsW C D true #[] (sameD o σ) [o] σ := by
  have hst : stabW C D (pickL ops (pendA ops done)) σ := by
    rcases hcan with rfl | ⟨i, t, rfl, hl⟩
    · simp only [chainA] at hW; exact hW.1
    · simp only [chainA, hl] at hW
      exact (by simpa using hW : _ ∧ _).1
  refine stabW_mem _ hst (pickL_mem ho ?_)
  unfold pendA
  refine List.mem_filter.2 ⟨by simpa using (h.sub j hj).1, ?_⟩
  simp only [Bool.not_eq_true', ← Bool.not_eq_true, List.contains_iff_mem]
  intro hf
  have := forcedL_sub (ops := ops) (p := fun i => La.getD i false = true) (fun i c hd hc => h.closed i c hd hc) done [] (fun i hi hl => (h.mem i).2 ⟨hi, fun hp => by have := (h.sub i hp).2; rw [hl] at this; cases this⟩) (by simp) j hf
  exact ((h.mem j).1 this).2 hj
theorem anyS_wp (hC : CfgOk C) (hD : SpecOk C D) (hns : Region.noSelect ops = true) (hg : ops.all (fun o => o.guard.isNone) = true) (hsl : slotsOk ops = true) (hdst : ∀ d o, o ∈ ops → o.dst = some d → d < n) {K : St → Prop} {Q : Exit → Act → World → Prop}
    (hn : ∀ σ' a' w', K σ' → Stands n w0 F0 S0 G σ' a' w' → Q .normal a' w') (hQ : ∀ c a w, ¬ Q (.panic c) a w) :
    ∀ (fuel : Nat) (La : Array Bool) (done s pend : List Nat) (σ : St) (a af : Act) (w : World), AInv ops La done s pend a af → s.length + pend.length = fuel → (s = [] ∨ ∃ i t, s = i :: t ∧ lookI ops i = false) → Stands n w0 F0 S0 G σ af w → chainA C D ops K done s σ →
      wpAny C.P .any ops Q fuel La a w
  | 0, La, done, s, pend, σ, a, af, w, h, hf, hcan, hs, hW => by
    obtain rfl : s = [] := List.eq_nil_of_length_eq_zero (by omega)
    obtain rfl : pend = [] := List.eq_nil_of_length_eq_zero (by simp at hf; simp [hf])
    refine ⟨?_, ?_⟩
    · refine List.eq_nil_iff_forall_not_mem.2 fun i hi => ?_
      obtain ⟨_, _, _, h1 | h1⟩ := h.cases hi
      · exact absurd h1.2 (by simp)
      · exact absurd h1.2 (by simp)
    · simp only [chainA] at hW
      have : a = af := by
        have h1 : a.tmps = af.tmps := Array.ext_getElem? fun i => h.agree i (by simp)
        have h2 := h.dfr
        cases a; cases af; simp_all
      subst this
      exact hn _ _ _ hW.2 hs
  | fuel + 1, La, done, s, pend, σ, a, af, w, h, hf, hcan, hs, hW => by
    refine ⟨fun h0 => ?_, fun i hi => ?_⟩
    · exfalso
      by_cases hp : pend = []
      · subst hp
        rcases hcan with rfl | ⟨i, t, rfl, hl⟩
        · simp at hf
        · have ho := h.ord
          simp only [ordOk, Bool.and_eq_true] at ho
          have hid : i ∉ done := fun hx => (List.nodup_append.1 h.nd).2.2 i (by simpa using hx) i (by simp) rfl
          have := h.ready (h.lt i (.inr (by simp))) (by
            cases hx : La.getD i false with
            | false => rfl
            | true => exact absurd ((h.mem i).1 hx).1 hid) ho.1.1 (fun j hj => ⟨hj, by simp⟩)
          rw [h0] at this; cases this
      · obtain ⟨j, hj⟩ := List.exists_mem_of_ne_nil _ hp
        obtain ⟨k, hk, hpk, d', h1, h2⟩ := first_pend (p := fun i => i ∈ pend) h.pre ⟨j, by simpa using (h.sub j hj).1, hj⟩ (by simp)
        have := h.ready (h.lt k (.inl (by simpa using hk))) (by
            cases hx : La.getD k false with
            | false => rfl
            | true => exact absurd hpk ((h.mem k).1 hx).2) h1 (fun m hm => ⟨by have := (h2 m hm).1; simpa using this, (h2 m hm).2⟩)
        rw [h0] at this; cases this
    · obtain ⟨hlt, hnl, hed, hc⟩ := h.cases hi
      have ho : ops[i]? = some ops[i] := by simp [hlt]
      have hm : ops[i] ∈ ops := Array.getElem_mem hlt
      have hgn := guard_none hg hm
      have hsame := h.same hsl hi ho (fun cs b => Region.noSelect_spec hns i _ cs b ho)
      unfold wpOp
      simp only [ho]
      rw [if_pos (by unfold Region.wanted; rw [hgn])]
      refine .inl ?_
      rcases hc with ⟨hid, hip⟩ | ⟨hid, his⟩
      · -- a look that comes late
        have hl := (h.sub i hip).2
        have hl' : lookOp ops[i] = true := by simpa [lookI, ho] using hl
        obtain ⟨d, hd, hall⟩ := slots_at hsl hlt hl
        have hd' : ops[i].dst = some d := by simpa [dstI, ho] using hd
        obtain ⟨v, hrun, hst⟩ := look_again (D := D) hC hs hl' hgn hd' (hdst d _ hm hd') (h.stab hcan hW hip ho)
        unfold Oper.wp
        rw [hsame, hrun, Oper.upon_value, hd']
        refine anyS_wp hC hD hns hg hsl hdst hn hQ fuel _ done s (pend.erase i) σ _ _ w ?_ (by rw [List.length_erase_of_mem hip]; have := List.length_pos_of_mem hip; omega) hcan hst hW
        refine ⟨by simpa using h.size, fun j => ?_, fun j hj => h.sub j (List.mem_of_mem_erase hj), h.pnd.erase i, h.cov, h.lt, h.nd, h.pre, h.ord, fun j c hdj hc => ?_, by rw [put_size, put_size]; exact h.tsz, by rw [put_dfr, put_dfr]; exact h.dfr, fun x hx => ?_⟩
        · rw [set_mem (by rw [h.size]; exact hlt), h.mem j, h.pnd.mem_erase_iff]
          by_cases hji : j = i
          · subst hji; simp [hid]
          · simp [hji]
        · rw [set_mem (by rw [h.size]; exact hlt)] at hc ⊢
          rcases hc with rfl | hc
          · exact .inr (ready_listed hi hdj)
          · exact .inr (h.closed j c hdj hc)
        · rw [put_get, put_get, h.tsz]
          split
          · rfl
          · rename_i hdx
            exact h.agree x fun j hj hjx => by
              by_cases hji : j = i
              · subst hji; rw [hd] at hjx; cases hjx; exact hdx rfl
              · exact hx j (h.pnd.mem_erase_iff.2 ⟨hji, hj⟩) hjx
      · -- the next of the chain
        rcases hcan with rfl | ⟨i', t, rfl, hl⟩
        · cases his
        have hord := h.ord
        simp only [ordOk, Bool.and_eq_true, hl, Bool.false_or, List.all_eq_true, List.mem_range, Bool.or_eq_true, beq_iff_eq, List.contains_iff_mem, Bool.not_eq_true'] at hord
        obtain rfl : i = i' := by
          rcases hord.1.2 i hlt with (h1 | h1) | h1
          · exact h1
          · exact absurd h1 hid
          · rw [hed] at h1; cases h1
        simp only [chainA, hl, Bool.false_eq_true, if_false] at hW
        have hW2 : opsW C D false ⟨[ops[i]]⟩ (chainA C D ops K (i :: done) t) [ops[i]] σ := by simpa only [pickL, ho] using hW.2
        have hwp := op_wp hC hD hs (fun k hk => hdst k _ hm hk) (ops_one hgn hW2) (Q := Q) (next := fun a' w' => ∃ σ', chainA C D ops K (i :: done) t σ' ∧ Stands n w0 F0 S0 G σ' a' w') (fun σ' a' w' hK hs' => ⟨σ', hK, hs'⟩)
        unfold Oper.wp at hwp ⊢
        rw [hsame]
        refine upon_move hQ (fun v w' hx => ?_) (fun dd w' hx => ?_) _ hwp
        · obtain ⟨σ', hK, hs'⟩ := hx
          have hip : i ∉ pend := fun hx => hid (h.sub i hx).1
          have inv : AInv ops (La.setIfInBounds i true) (i :: done) t pend (a.put ops[i].dst v) (af.put ops[i].dst v) := by
            refine ⟨by simpa using h.size, fun j => ?_, fun j hj => ⟨by simp [(h.sub j hj).1], (h.sub j hj).2⟩, h.pnd, fun j hj => ?_, fun j hj => ?_, by simpa using h.nd, ?_, hord.2, fun j c hdj hc => ?_, by rw [put_size, put_size]; exact h.tsz, by rw [put_dfr, put_dfr]; exact h.dfr, fun x hx => ?_⟩
            · rw [set_mem (by rw [h.size]; exact hlt), h.mem j]
              by_cases hji : j = i
              · subst hji; simp [hip]
              · simp [hji]
            · rcases h.cov j hj with h1 | h1
              · exact .inl (by simp [h1])
              · rcases List.mem_cons.1 h1 with rfl | h1
                · exact .inl (by simp)
                · exact .inr h1
            · refine h.lt j ?_
              rcases hj with hj | hj
              · rcases List.mem_cons.1 hj with rfl | hj
                · exact .inr (by simp)
                · exact .inl hj
              · exact .inr (by simp [hj])
            · rw [List.reverse_cons]
              refine ordOk_snoc h.pre ?_
              have := h.ord
              simp only [ordOk, Bool.and_eq_true] at this ⊢
              simpa using this.1
            · rw [set_mem (by rw [h.size]; exact hlt)] at hc ⊢
              rcases hc with rfl | hc
              · exact .inr (ready_listed hi hdj)
              · exact .inr (h.closed j c hdj hc)
            · cases hdd : ops[i].dst with
              | none => exact h.agree x hx
              | some d =>
                rw [put_get, put_get, h.tsz]
                split
                · rfl
                · exact h.agree x hx
          obtain ⟨done', s', pend', σ2, af2, k1, k2, k3, k4, k5⟩ := looks_adv hC hg hsl hdst t (i :: done) pend σ' _ inv hs' hK
          exact anyS_wp hC hD hns hg hsl hdst hn hQ fuel _ done' s' pend' σ2 _ af2 w' k1 (by rw [k2]; simp at hf; omega) k3 k4 k5
        · obtain ⟨σ', _, F, μ, fp, hr⟩ := hx
          have := hr.defers
          rw [put_dfr] at this
          cases this
end
theorem guardW_map {g : Option (Option Tmp × Bool)} {y m y' m' : St → Prop} (hy : ∀ σ, y σ → y' σ) (hn : ∀ σ, m σ → m' σ) (h : guardW g σ y m) : guardW g σ y' m' := by
  unfold guardW at *
  split
  · exact hy _ h
  · exact hn _ h
  · rename_i d want
    simp only at h
    split
    · rename_i b hb
      rw [hb] at h
      refine ⟨fun e => ?_, fun e => ?_⟩
      · have := h.1 e
        cases want
        · exact hn _ this
        · exact hy _ this
      · have := h.2 e
        cases want
        · exact hy _ this
        · exact hn _ this
    · rename_i ht
      rw [ht] at h
      exact hn _ h
    · rename_i h1 h2
      split at h
      · rename_i b hb; exact absurd hb (h1 b)
      · rename_i ht; exact absurd ht h2
      · exact h
theorem opW_map {q : Bool} {o : Oper} {K K' : St → Prop} (hK : ∀ σ, K σ → K' σ) (h : opW C D q o K σ) : opW C D q o K' σ := by
  have hx : ∀ {α : Type} {x : Option α} {k k' : α → Prop}, (∀ a, k a → k' a) → exP x k → exP x k' := fun hk ⟨a, h1, h2⟩ => ⟨a, h1, hk a h2⟩
  unfold opW at *
  split
  · rename_i ho; simp only [ho] at h
    unfold callP at *
    split
    · rename_i hc
      rw [if_pos hc] at h
      obtain ⟨h1, h⟩ := h
      refine ⟨h1, ?_⟩
      split at h
      · obtain ⟨k1, k2, r, k3, as, k4, R, k5, k6, k7⟩ := h
        exact ⟨k1, k2, r, k3, as, k4, R, k5, k6, fun r l h => ⟨(k7 r l h).1, hK _ (k7 r l h).2⟩⟩
      · exact h.elim
    · rename_i hc
      rw [if_neg hc] at h
      unfold callP0 at *
      refine hx (fun p hp => hx (fun as has => ⟨has.1, ?_⟩) hp) h
      obtain ⟨R, r1, r2, r3⟩ := has.2
      exact ⟨R, r1, r2, fun r l hr => hK _ (r3 r l hr)⟩
  · rename_i t x ho
    simp only [ho] at h
    split
    · rename_i hs; rw [if_pos hs] at h; exact hx hK h
    · rename_i hs; rw [if_neg hs] at h; exact ⟨h.1, hx hK h.2⟩
  · rename_i f first cap ho
    simp only [ho] at h
    exact hx hK h
  · rename_i h1 h2 h3
    split at h
    · rename_i ho; exact absurd ho (h1 _ _ _)
    · rename_i ho; exact absurd ho (h2 _ _)
    · rename_i ho; exact absurd ho (h3 _ _ _)
    · exact ⟨h.1, hx hK h.2⟩
theorem opsW_map {q : Bool} {ops' : Array Oper} {K K' : St → Prop} (hK : ∀ σ, K σ → K' σ) : ∀ {l : List Oper} {σ : St}, opsW C D q ops' K l σ → opsW C D q ops' K' l σ
  | [], _, h => hK _ h
  | _ :: _, _, h => guardW_map (fun _ h => opW_map (fun _ h => opsW_map hK h) h) (fun _ h => opsW_map hK h) h
theorem codeA_W {ops : Array Oper} {Q : Ex → St → Prop} : ∀ (s done : List Nat) (σ : St), W C D (codeA ops (stepsA ops done s)) Q σ → chainA C D ops (Q .normal) done s σ
  | [], done, σ, h => h
  | i :: s, done, σ, h => by
    simp only [stepsA] at h
    simp only [chainA]
    split
    · rename_i hl
      rw [if_pos hl] at h
      have h : noStl C (pickL ops [i]) ∧ opsW C D true ⟨pickL ops [i]⟩ (fun σ => W C D (codeA ops (stepsA ops (i :: done) s)) Q σ) (pickL ops [i]) σ := h
      refine ⟨h.1, opsW_map (fun σ h => codeA_W s (i :: done) σ h) h.2⟩
    · rename_i hl
      rw [if_neg hl] at h
      have h : stabW C D (pickL ops (pendA ops done)) σ ∧ opsW C D false ⟨pickL ops [i]⟩ (fun σ => W C D (codeA ops (stepsA ops (i :: done) s)) Q σ) (pickL ops [i]) σ := h
      exact ⟨h.1, opsW_map (fun σ h => codeA_W s (i :: done) σ h) h.2⟩
theorem anyR_wp (hC : CfgOk C) (hD : SpecOk C D) {ops : Array Oper} {s : List Nat} (hok : anyOk ops s = true) (hdst : ∀ d o, o ∈ ops → o.dst = some d → d < n) {K : St → Prop} {Q : Exit → Act → World → Prop}
    (hn : ∀ σ' a' w', K σ' → Stands n w0 F0 S0 G σ' a' w' → Q .normal a' w') (hQ : ∀ c a w, ¬ Q (.panic c) a w) (h : Stands n w0 F0 S0 G σ a w) (hW : chainA C D ops K [] s σ) : wpAny C.P .any ops Q ops.size (Array.replicate ops.size false) a w := by
  simp only [anyOk, Bool.and_eq_true, beq_iff_eq, List.all_eq_true, List.mem_range, List.contains_iff_mem] at hok
  obtain ⟨⟨⟨⟨⟨⟨⟨hns, hg⟩, hlen⟩, hcov⟩, hlt⟩, hnd⟩, hsl⟩, hord⟩ := hok
  have inv : AInv ops (Array.replicate ops.size false) [] s [] a a := by
    refine ⟨by simp, fun i => ?_, by simp, by simp, fun i hi => .inr (hcov i hi), fun i hi => ?_, ?_, rfl, hord, fun i c _ hc => ?_, rfl, rfl, fun _ _ => rfl⟩
    · rw [Array.getD_eq_getD_getElem?, Array.getElem?_replicate]; split <;> simp
    · rcases hi with hi | hi
      · cases hi
      · exact of_decide_eq_true (hlt i hi)
    · simpa using of_decide_eq_true hnd
    · rw [Array.getD_eq_getD_getElem?, Array.getElem?_replicate] at hc; split at hc <;> cases hc
  obtain ⟨done', s', pend', σ2, af2, k1, k2, k3, k4, k5⟩ := looks_adv hC hg hsl hdst s [] [] σ a inv h hW
  exact anyS_wp hC hD hns hg hsl hdst hn hQ ops.size _ done' s' pend' σ2 a af2 w k1 (by rw [k2]; simp; omega) k3 k4 k5
/-! ### All code -/
def Ex.to : Ex → Exit
  | .normal => .normal
  | .exit i => .exit i
  | .ret => .ret
def post (n : Nat) (w0 : World) (F0 S0 : Nat → Prop) (G : Value → AV → Prop) (Q : Ex → St → Prop) : Exit → Act → World → Prop := fun e a w => ∃ e' σ, e = e'.to ∧ Q e' σ ∧ Stands n w0 F0 S0 G σ a w
theorem exists_least {p : Nat → Prop} (h : ∃ k, p k) : ∃ k, p k ∧ ∀ m, p m → k ≤ m := by
  obtain ⟨k, hk⟩ := h
  induction k using Nat.strongRecOn with
  | _ k ih =>
    by_cases hx : ∃ m, m < k ∧ p m
    · obtain ⟨m, hm, hp⟩ := hx
      exact ih m hm hp
    · exact ⟨k, hk, fun m hm => Nat.le_of_not_lt fun hlt => hx ⟨m, hlt, hm⟩⟩
open Classical in
noncomputable def leastOf (p : Nat → Prop) : Nat := if h : ∃ k, p k then Classical.choose (exists_least h) else 0
theorem leastOf_spec {p : Nat → Prop} {k : Nat} (hk : p k) : p (leastOf p) ∧ leastOf p ≤ k := by
  have h : ∃ k, p k := ⟨k, hk⟩
  have hs := Classical.choose_spec (exists_least h)
  unfold leastOf
  rw [dif_pos h]
  exact ⟨hs.1, hs.2 k hk⟩
theorem nil_ok {F : Nat → Prop} {μ : Nat → Option Nat} {fp : Nat → List Nat} {σ : St} {a : Act} {w : World} {s sz : Nat} (hr : Rel n w0 F0 S0 G F μ fp [] σ a w) (e0 : σ.sl s = .fro none true []) : Stands n w0 F0 S0 G (takeRes (some s) σ (.own sz [])) a w := by
  have h : RepL F w [a.tmps.getD s undef] [.fro none true []] [] := by
    have := hr.slots s
    rw [e0] at this
    exact this
  have h2 : RepL F w [a.tmps.getD s undef] [.own sz []] [] := by
    generalize a.tmps.getD s undef = v at h
    generalize hg : ([] : List Nat) = g at h
    cases h with
    | fro0 hc t =>
      cases t
      obtain rfl := hc rfl
      exact RepL.own0 .nil
    | fro hn hnc hc hb hcell hsz hu t =>
      cases t
      simp only [List.length_nil] at hn
      subst hn
      obtain rfl := hc rfl
      exact RepL.own0 .nil
  by_cases hs : s < n
  · obtain ⟨μ', fp', h3⟩ := takeRes_ok hr (dst := some s) (fun k hk => by cases hk; exact hs) (v := a.tmps.getD s undef) (r := .own sz []) h2
    have hp : a.put (some s) (a.tmps.getD s undef) = a := by
      have hlt : s < a.tmps.size := by rw [hr.size]; exact hs
      cases a
      simp only [Act.put] at hlt ⊢
      congr 1
      apply Array.ext
      · simp
      · intro i hi h
        rw [Array.getElem_setIfInBounds]
        split
        · rename_i hi; subst hi; simp
        · rfl
    rw [hp] at h3
    exact ⟨F, μ', fp', h3⟩
  · have hv : a.tmps.getD s undef = undef := by
      have hlt : ¬ s < a.tmps.size := by rw [hr.size]; exact hs
      simp [hlt]
    rw [hv] at h
    unfold undef at h
    generalize hg : ([] : List Nat) = g at h
    cases h
theorem put_same {a : Act} {s : Nat} (hlt : s < a.tmps.size) : a.put (some s) (a.tmps.getD s undef) = a := by
  cases a
  simp only [Act.put] at hlt ⊢
  congr 1
  apply Array.ext
  · simp
  · intro i hi h
    rw [Array.getElem_setIfInBounds]
    split
    · rename_i hi; subst hi; simp
    · rfl
theorem told_ok {σ σ' : St} {a : Act} {w : World} (h : Stands n w0 F0 S0 G σ a w) (ht : told σ σ') : Stands n w0 F0 S0 G σ' a w := by
  rcases ht with rfl | ⟨s, sz, e0, rfl⟩ | ⟨s, e, g, off, len, clip, sz, l, σ1, e0, hc, rfl⟩
  · exact h
  · obtain ⟨F, μ, fp, hr⟩ := h
    exact nil_ok hr e0
  · obtain ⟨F, μ, fp, hr⟩ := h
    have hx : SLeaf F w σ.en μ fp (a.tmps.getD s undef) (.hd e g off len clip) := by
      have := hr.slots s
      rw [e0] at this
      exact this
    obtain ⟨F', fp', f, r1, r2, _⟩ := hr.close hx hc
    by_cases hs : s < n
    · obtain ⟨μ', fp2, h3⟩ := takeRes_ok (by simpa using r1) (dst := some s) (fun k hk => by cases hk; exact hs) (v := a.tmps.getD s undef) (r := .own sz l) r2
      rw [put_same (by rw [hr.size]; exact hs)] at h3
      exact ⟨F', μ', fp2, h3⟩
    · have hv : a.tmps.getD s undef = undef := by
        have hlt : ¬ s < a.tmps.size := by rw [hr.size]; exact hs
        simp [hlt]
      rw [hv] at r2
      unfold undef at r2
      cases r2
theorem W_soundX {rs : Ways} (hC : CfgOk C) (hD : SpecOk C D) : ∀ (c : Code) (Q : Ex → St → Prop) (σ : St) (a : Act) (w : World), okCodeX rs C.wrt n c = true → Stands n w0 F0 S0 G σ a w → W C D (tr rs c) Q σ → c.wp C.P (post n w0 F0 S0 G Q) a w
  | .skip, Q, σ, a, w, _, h, hW => wp_skip ⟨.normal, σ, rfl, hW, h⟩
  | .exit id, Q, σ, a, w, _, h, hW => wp_exit ⟨.exit id, σ, rfl, hW, h⟩
  | .ret, Q, σ, a, w, _, h, hW => wp_ret ⟨.ret, σ, rfl, hW, h⟩
  | .seq x y, Q, σ, a, w, ho, h, hW => by
    simp only [okCodeX, Bool.and_eq_true] at ho
    refine wp_seq (wp_mono (W_soundX hC hD x _ σ a w ho.1 h hW) ?_)
    rintro e a' w' ⟨e', σ', rfl, hq, hs⟩
    cases e' with
    | normal => exact W_soundX hC hD y Q σ' a' w' ho.2 hs hq
    | exit i => exact ⟨.exit i, σ', rfl, hq, hs⟩
    | ret => exact ⟨.ret, σ', rfl, hq, hs⟩
  | .cond c x y, Q, σ, a, w, ho, h, hW => by
    simp only [okCodeX, Bool.and_eq_true] at ho
    simp only [tr, W, condW] at hW
    obtain ⟨F, μ, fp, hr⟩ := h
    split at hW
    · rename_i d
      split at hW
      · rename_i b hb
        have hg := hr.get (.tmp d)
        have hv : a.eval (.tmp d) = .bool b := SRep.bool_inv (by simpa only [St.get, hb] using hg)
        refine wp_cond hv ?_
        cases b
        · have := hW.2 rfl
          rw [St.put_same hb] at this
          exact W_soundX hC hD y Q σ a w ho.2 ⟨F, μ, fp, hr⟩ this
        · have := hW.1 rfl
          rw [St.put_same hb] at this
          exact W_soundX hC hD x Q σ a w ho.1 ⟨F, μ, fp, hr⟩ this
      · exact hW.elim
    · rename_i b
      refine wp_cond (t := b) rfl ?_
      cases b
      · exact W_soundX hC hD y Q σ a w ho.2 ⟨F, μ, fp, hr⟩ (by simpa using hW)
      · exact W_soundX hC hD x Q σ a w ho.1 ⟨F, μ, fp, hr⟩ (by simpa using hW)
    · exact hW.elim
  | .block id c, Q, σ, a, w, ho, h, hW => by
    refine wp_block (wp_mono (W_soundX hC hD c _ σ a w ho h hW) ?_)
    rintro e a' w' ⟨e', σ', rfl, hq, hs⟩
    cases e' with
    | normal => exact ⟨.normal, σ', rfl, hq, hs⟩
    | exit i =>
      simp only [Ex.to, Exit.inBlock]
      split
      · rename_i hi
        exact ⟨.normal, σ', rfl, by simpa [hi] using hq, hs⟩
      · rename_i hi
        exact ⟨.exit i, σ', rfl, by simpa [hi] using hq, hs⟩
    | ret => exact ⟨.ret, σ', rfl, hq, hs⟩
  | .loop c, Q, σ, a, w, ho, h, hW => by
    simp only [tr, W] at hW
    obtain ⟨I, m, hI, hround⟩ := hW
    obtain ⟨σ, hI, h⟩ : ∃ σ, I σ ∧ Stands n w0 F0 S0 G σ a w := by
      obtain ⟨σ0, ht, hI⟩ := hI
      exact ⟨σ0, hI, told_ok h ht⟩
    refine wp_loop (I := fun a w => ∃ σ, I σ ∧ Stands n w0 F0 S0 G σ a w) (μ := fun a w => leastOf fun k => ∃ σ, I σ ∧ Stands n w0 F0 S0 G σ a w ∧ m σ = k) ⟨σ, hI, h⟩ ?_
    rintro a w ⟨σ1, hI1, hs1⟩
    obtain ⟨⟨σ2, hI2, hs2, hm2⟩, _⟩ := leastOf_spec (p := fun k => ∃ σ, I σ ∧ Stands n w0 F0 S0 G σ a w ∧ m σ = k) ⟨σ1, hI1, hs1, rfl⟩
    refine wp_mono (W_soundX hC hD c _ σ2 a w ho hs2 (hround σ2 hI2)) ?_
    rintro e a' w' ⟨e', σ', rfl, hq, hs⟩
    cases e' with
    | normal =>
      obtain ⟨σ0, ht, hq, hlt⟩ := hq
      have hs := told_ok hs ht
      refine ⟨⟨σ0, hq, hs⟩, ?_⟩
      obtain ⟨_, hle⟩ := leastOf_spec (p := fun k => ∃ σ, I σ ∧ Stands n w0 F0 S0 G σ a' w' ∧ m σ = k) ⟨σ0, hq, hs, rfl⟩
      omega
    | exit i => exact ⟨.exit i, σ', rfl, hq, hs⟩
    | ret => exact ⟨.ret, σ', rfl, hq, hs⟩
  | .region id ops q, Q, σ, a, w, ho, h, hW => by
    simp only [okCodeX, Bool.and_eq_true] at ho
    obtain ⟨h1, h2⟩ := ho
    have hdst : ∀ d o, o ∈ ops → o.dst = some d → d < n := by
      intro d o hm hd
      have := Array.all_eq_true_iff_forall_mem.1 h1 o hm
      rw [hd] at this
      simpa using this
    have hn : ∀ σ' a' w', Q .normal σ' → Stands n w0 F0 S0 G σ' a' w' → post n w0 F0 S0 G Q .normal a' w' := fun σ' a' w' hq hs => ⟨.normal, σ', rfl, hq, hs⟩
    cases q with
    | false =>
      refine wp_region ?_
      have hW : W C D (.region id ops false) Q σ := hW
      have := ops_wp hC hD hdst hn ops.toList 0 σ a w rfl h hW
      rw [List.range_eq_range']
      simpa using this
    | true =>
      obtain ⟨F, μ, fp, hr⟩ := h
      have hkw : KeptS w { w with drawn := w.drawn + 1 } (fun _ => False) := ⟨rfl, rfl, rfl, Nat.le_refl _, fun _ _ _ => rfl, fun _ cur _ _ h => ⟨cur, h, rfl⟩⟩
      have h2 : (match anyR rs id with
        | some s => anyK C.wrt ops s
        | none => if noisy ops = true then (match permR rs id with
          | some (p, s) => mixP C.wrt ops p s
          | none => if isQ rs id = true then mixQ ops (cutQ ops) else mixB C.wrt ops (cutK ops)) else Region.lexB .any ops) = true := by simpa using h2
      cases hany : anyR rs id with
      | some s =>
        rw [hany] at h2
        have h2 : anyK C.wrt ops s = true := h2
        have hW : W C D (tr rs (.region id ops true)) Q σ := hW
        have htr : tr rs (.region id ops true) = anyC ops s := by simp only [tr, hany, if_true]
        rw [htr] at hW
        obtain ⟨F', μ', fp', hr'⟩ := hr.later hkw
        unfold anyC at hW
        unfold anyK at h2
        by_cases htree : isTree s = true
        · rw [if_pos htree] at h2 hW
          simp only [treeK, Bool.and_eq_true, decide_eq_true_eq] at h2
          obtain ⟨⟨⟨q1, q2⟩, q3⟩, q4⟩ := h2
          refine wp_region_any hC.mixed (wpAny_of_T (S := fun w' => KeptS { w with drawn := w.drawn + 1 } w' (fun _ => False)) (k := s.tail) _ _ _ _ ?_)
          have hW : opsW C D true ⟨pickL ops s.tail⟩ (W C D (ordC ops (ordT ops (ops.size - s.tail.length) (setL s.tail (Array.replicate ops.size false)))) Q) (pickL ops s.tail) σ := hW
          have := preT_wp hC hD q1 q2 hdst (Q' := Q) hn (fun c a w ⟨e', _, h, _⟩ => by cases e' <;> cases h) _ _ s.tail (Array.replicate ops.size false) σ a _ _ q4 hr' hW
          rwa [show (ops.size - s.tail.length) + s.tail.length = ops.size by omega] at this
        rw [if_neg htree] at h2 hW
        exact wp_region_any hC.mixed (anyR_wp hC hD h2 hdst hn (fun c a w ⟨e', _, h, _⟩ => by cases e' <;> cases h) ⟨F', μ', fp', hr'⟩ (codeA_W _ _ _ hW))
      | none =>
        rw [hany] at h2
        have h2 : (if noisy ops = true then (match permR rs id with
          | some (p, s) => mixP C.wrt ops p s
          | none => if isQ rs id = true then mixQ ops (cutQ ops) else mixB C.wrt ops (cutK ops)) else Region.lexB .any ops) = true := h2
        by_cases hno : noisy ops = true
        · rw [if_pos hno] at h2
          have h2 : (match permR rs id with
            | some (p, s) => mixP C.wrt ops p s
            | none => if isQ rs id = true then mixQ ops (cutQ ops) else mixB C.wrt ops (cutK ops)) = true := h2
          have hW : W C D (tr rs (.region id ops true)) Q σ := hW
          have htr : tr rs (.region id ops true) = (match permR rs id with
            | some (p, s) => .seq (.region id ⟨pickL ops p⟩ true) (.region id ⟨pickL ops s⟩ false)
            | none => .seq (.region id ⟨ops.toList.take (cutR rs id ops)⟩ true) (.region id ⟨ops.toList.drop (cutR rs id ops)⟩ false)) := by
            simp only [tr, hno, hany, if_true]
          rw [htr] at hW
          cases hp : permR rs id with
          | some ps =>
            obtain ⟨p, s⟩ := ps
            rw [hp] at h2 hW
            have h2 : mixP C.wrt ops p s = true := h2
            simp only [mixP, Bool.and_eq_true, beq_iff_eq] at h2
            obtain ⟨⟨⟨q1, q2⟩, q3⟩, q4⟩ := h2
            have hW : opsW C D true ⟨pickL ops p⟩ (opsW C D false ⟨pickL ops s⟩ (Q .normal) (pickL ops s)) (pickL ops p) σ := hW
            obtain ⟨F', μ', fp', hr'⟩ := hr.later hkw
            refine wp_region_any hC.mixed (wpAny_of_T (S := fun w' => KeptS { w with drawn := w.drawn + 1 } w' (fun _ => False)) (k := p) _ _ _ _ ?_)
            have := preP_wp hC hD q1 q2 hdst hn (fun c a w ⟨e', _, h, _⟩ => by cases e' <;> cases h) _ p _ σ a _ _ q4 hr' hW
            rwa [show s.length + p.length = ops.size by omega] at this
          | none =>
          rw [hp] at h2 hW
          have h2 : (if isQ rs id = true then mixQ ops (cutQ ops) else mixB C.wrt ops (cutK ops)) = true := h2
          have hW : W C D (.seq (.region id ⟨ops.toList.take (cutR rs id ops)⟩ true) (.region id ⟨ops.toList.drop (cutR rs id ops)⟩ false)) Q σ := hW
          unfold cutR at hW
          by_cases hrs : isQ rs id = true
          · rw [if_pos hrs] at h2 hW
            exact regionQ_wp hC hD h2 hdst hn ⟨F, μ, fp, hr⟩ hW
          rw [if_neg hrs] at h2 hW
          have hW : opsW C D true ⟨ops.toList.take (cutK ops)⟩ (opsW C D false ⟨ops.toList.drop (cutK ops)⟩ (Q .normal) (ops.toList.drop (cutK ops))) (ops.toList.take (cutK ops)) σ := hW
          obtain ⟨F', μ', fp', hr'⟩ := hr.later hkw
          refine wp_region_any hC.mixed (wpAny_of_T (S := fun w' => KeptS { w with drawn := w.drawn + 1 } w' (fun _ => False)) (k := List.range (cutK ops)) _ _ _ _ ?_)
          exact pre_wp hC hD h2 hdst hn (fun c a w ⟨e', _, h, _⟩ => by cases e' <;> cases h) _ _ 0 σ a _ _ rfl (Nat.zero_le _) hr' hW
        · have hno : noisy ops = false := by simpa using hno
          rw [hno] at h2
          have h2 : Region.lexB .any ops = true := by simpa using h2
          have hW : W C D (tr rs (.region id ops true)) Q σ := hW
          have htr : tr rs (.region id ops true) = .region id ops true := by simp [tr, hno, hany]
          rw [htr] at hW
          refine wp_region_quiet (C := fun w' => KeptS w w' (fun _ => False)) hC.mixed h2 hkw ?_
          exact opsQ_wp hC hD hdst hn ops.toList σ a _ _ _ (fun o ho => by simpa using ho) hr hW

theorem okCode_tr : ∀ (c : Code) (wr : Nat → Option Nat), okCode n c = true → okCodeX [] wr n c = true ∧ tr [] c = c
  | .seq x y, wr, h => by
    simp only [okCode, Bool.and_eq_true] at h
    obtain ⟨h1, h2⟩ := okCode_tr x wr h.1
    obtain ⟨h3, h4⟩ := okCode_tr y wr h.2
    simp only [okCodeX, tr, h1, h2, h3, h4, Bool.and_self, and_self]
  | .cond c x y, wr, h => by
    simp only [okCode, Bool.and_eq_true] at h
    obtain ⟨h1, h2⟩ := okCode_tr x wr h.1
    obtain ⟨h3, h4⟩ := okCode_tr y wr h.2
    simp only [okCodeX, tr, h1, h2, h3, h4, Bool.and_self, and_self]
  | .block _ c, wr, h => by
    simp only [okCode] at h
    obtain ⟨h1, h2⟩ := okCode_tr c wr h
    simp only [okCodeX, tr, h1, h2, and_self]
  | .loop c, wr, h => by
    simp only [okCode] at h
    obtain ⟨h1, h2⟩ := okCode_tr c wr h
    simp only [okCodeX, tr, h1, h2, and_self]
  | .region i ops q, wr, h => by
    simp only [okCode, Bool.and_eq_true, Bool.not_eq_true'] at h
    obtain ⟨⟨h1, h2⟩, h3⟩ := h
    cases q with
    | false => simp [okCodeX, tr, h1]
    | true =>
      have h3 : noisy ops = false := by simpa using h3
      have h2 : Region.lexB .any ops = true := by simpa using h2
      have h4 : anyR [] i = none := rfl
      simp [okCodeX, tr, h1, h2, h3, h4]
  | .scope _, _, h => by cases h
  | .skip, _, _ | .exit _, _, _ | .ret, _, _ | .rangeFunc _ _ _ _, _, _ | .label _, _, _ | .goto _, _, _ | .refuse _, _, _ => ⟨rfl, rfl⟩
end
end Go.Vm
