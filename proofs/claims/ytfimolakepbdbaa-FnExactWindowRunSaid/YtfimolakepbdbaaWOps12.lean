/- Functions' values; all operations that are no calls. -/
import Derived.Test.YtfimolakepbdbaaWOps11
import Derived.Laws.IdiomStrings
namespace Go.Vm

section
variable {C : Cfg} {n : Nat} {w0 : World} {F0 S0 F : Nat → Prop} {G : Value → AV → Prop} {μ : Nat → Option Nat} {fp : Nat → List Nat} {L : List Nat} {σ σ' : St} {a : Act} {w w' : World} {o : Oper}

theorem capture_ok (h : Rel n w0 F0 S0 G F μ fp L σ a w) {x : Operand} {y : AV} (hc : capture σ x = some (y, σ')) :
    ∃ F' fp', Rel n w0 F0 S0 G F' μ fp' L σ' a w ∧ RepL F' w [a.eval x] [y] [] ∧ (∀ b, F b → F' b) := by
  have hx := h.get x
  unfold capture at hc
  split at hc
  · rename_i e g i j hxe
    rw [hxe] at hx
    simp only [Option.bind_eq_bind, Option.bind_eq_some_iff] at hc
    obtain ⟨E, hE, z, hz, hc⟩ := hc
    simp only [Option.some.injEq, Prod.mk.injEq] at hc
    obtain ⟨rfl, rfl⟩ := hc
    obtain ⟨hl, hg, rfl⟩ := cur_some hE
    obtain ⟨b, cur, et, fr, us, f1, hμ, hb, hcell, hrep, hf, hfz⟩ := h.cells hl hz
    obtain ⟨b', hμ', hv⟩ := hx.2 hl hg
    rw [hμ] at hμ'; cases hμ'
    obtain ⟨fa, fb, rfl, _, h2⟩ := hrep.take j
    have hent := (h.ent e hl).2
    have hin : ∀ b' ∈ fa ++ fb, b' ∈ fp e := hf
    have mk : ∀ F' : Nat → Prop, (∀ b, F b → F' b) → (∀ b ∈ fp e, F' b) → F' b → RepL F' w [a.eval x] [.cptr none (((leaves z).drop j).map froize)] [] := by
      intro F' h1 h3 h4
      rw [hv]
      refine .cptr h4 (us := us.drop j) (fun q hq => ?_) ((h2.froized).mono (fun b hb => hb.elim (h1 b) fun hb => h3 b (hin b (by simp [hb]))) (fun _ _ => rfl)) .nil
      rw [List.length_drop] at hq
      rw [cell_of_row w b _ cur et fr hb, Nat.add_assoc, hcell _ (by omega), List.getElem?_drop]
    split
    · rename_i hfrz
      rcases hent with ⟨e1, _⟩ | ⟨b', cur', et', fr', us', f1', e1, e2, e3, e4, e5⟩
      · rw [hμ] at e1; cases e1
      rw [hμ] at e1; cases e1
      rcases e5 with ⟨_, e5, _, e6⟩ | ⟨e5, _⟩
      · exact ⟨F, fp, h, mk F (fun _ h => h) (fun b hb => by rw [e5] at hb; cases hb) e6, fun _ h => h⟩
      · rw [hfrz] at e5; cases e5
    · rename_i hfrz
      have hfrz : (σ.en e).frz = false := by simpa using hfrz
      rcases hent with ⟨e1, _⟩ | ⟨b', cur', et', fr', us', f1', e1, e2, e3, e4, e5⟩
      · rw [hμ] at e1; cases e1
      rw [hμ] at e1; cases e1
      rcases e5 with ⟨e5, _⟩ | ⟨_, _, e5⟩
      · rw [hfrz] at e5; cases e5
      · exact ⟨_, _, (h.freeze e hl hfrz).1, mk _ (fun _ h => .inl h) (fun b hb => .inr hb) (.inr (by rw [e5]; simp)), fun _ h => .inl h⟩
  · rename_i c hxe
    rw [hxe] at hx
    cases hc
    exact ⟨F, fp, h, hx, fun _ h => h⟩
  · cases hc

theorem captureL_ok : ∀ {xs : List Operand} {ys : List AV} {σ σ' : St} {F : Nat → Prop} {fp : Nat → List Nat}, Rel n w0 F0 S0 G F μ fp L σ a w → captureL xs σ = some (ys, σ') →
    ∃ F' fp', Rel n w0 F0 S0 G F' μ fp' L σ' a w ∧ RepL F' w (xs.map a.eval) ys [] ∧ (∀ b, F b → F' b)
  | [], ys, σ, σ', F, fp, h, hc => by
    simp only [captureL, Option.some.injEq, Prod.mk.injEq] at hc
    obtain ⟨rfl, rfl⟩ := hc
    exact ⟨F, fp, h, .nil, fun _ h => h⟩
  | x :: xs, ys, σ, σ', F, fp, h, hc => by
    simp only [captureL, Option.bind_eq_bind, Option.bind_eq_some_iff] at hc
    obtain ⟨⟨y, σ1⟩, hy, ⟨ys', σ2⟩, hys, he⟩ := hc
    simp only [Option.some.injEq, Prod.mk.injEq] at he
    obtain ⟨rfl, rfl⟩ := he
    obtain ⟨F1, fp1, r1, r2, r3⟩ := capture_ok h hy
    obtain ⟨F2, fp2, s1, s2, s3⟩ := captureL_ok r1 hys
    exact ⟨F2, fp2, s1, by simpa using (r2.mono (F' := F2) (w' := w) s3 (fun _ _ => rfl)).cons s2, fun b hb => s3 b (r3 b hb)⟩

theorem op_makeFunc (h : Rel n w0 F0 S0 G F μ fp [] σ a w) (hd : ∀ k, o.dst = some k → k < n) {f : Nat} {first cap : Array Operand} (ho : o.op = .makeFunc (.func f) first cap) (hr : opF C o σ = some σ') : OpOk C n w0 F0 S0 G o a w σ' := by
  simp only [opF, ho, Option.bind_eq_bind, Option.bind_eq_some_iff] at hr
  obtain ⟨_, hf, ⟨cs, σ1⟩, hc, hr⟩ := hr
  obtain rfl := ensure_some hf
  cases hr
  obtain ⟨F1, fp1, r1, r2, _⟩ := captureL_ok h hc
  refine ⟨.func (.func f) #[] (cap.map a.eval), w, .inl ?_, F1, μ, fp1, r1.putO hd (x := .clo f cs) ?_⟩
  · simp [execOp, ho, Instr.makeFunc]
  · have : cap.map a.eval = (cap.toList.map a.eval).toArray := by apply Array.ext'; simp
    rw [this]
    exact RepL.clo r2 .nil

/-- The world has grown; nothing that was there has turned. -/
theorem Rel.extend {newF : Nat → Prop} {g : List Nat} (h : Rel n w0 F0 S0 G F μ fp L σ a w) (hk : KeptS w w' (fun _ => False)) (hn : ∀ b, newF b → w.heap.size ≤ b ∧ b < w'.heap.size) (hg : ∀ b ∈ g, w.heap.size ≤ b ∧ b < w'.heap.size ∧ ¬ newF b) (hnd : g.Nodup) :
    Rel n w0 F0 S0 G (fun b => F b ∨ newF b) μ fp (g ++ L) σ a w' := by
  have old : ∀ b, b < w.heap.size → w'.heap[b]? = w.heap[b]? := fun b hb => hk.block b hb (fun h => h)
  have base := h.kept.size
  have hFo : ∀ b, F b → w'.heap[b]? = w.heap[b]? := fun b hb => old b (h.free b hb).1
  have hμ : ∀ e b, (σ.en e).live = true → μ e = some b → w'.heap[b]? = w.heap[b]? := fun e b hl hm => by
    rcases (h.ent e hl).2 with ⟨e1, _⟩ | ⟨b', cur, et, fr, us, f1, e1, e2, _⟩
    · rw [hm] at e1; cases e1
    · rw [hm] at e1; cases e1; exact old b (Array.getElem?_eq_some_iff.1 e2).1
  refine h.move (en' := σ.en) (w' := w') (μ' := μ) (fp' := fp) ⟨fun _ h => .inl h, hFo, fun _ => Nat.le_refl _, fun _ => Nat.le_refl _, fun e hl _ => ⟨hl, rfl, rfl, Nat.le_refl _, fun b _ => hk.same b⟩,
    fun e hl _ => ⟨hl, fun b hb => ⟨old b (h.own e hl b hb).2.1, .inl hb⟩, fun hf => ⟨hf, rfl, rfl, rfl, fun b hm => hμ e b hl hm⟩⟩⟩ ⟨hk.os, hk.tape, hk.output, hk.size, fun b hb _ => old b hb, hk.same⟩ (fun b hb => ?_) (fun e hl => ?_) (fun e hl b hb => ?_) h.nodup h.apart (fun b hb => ?_) ?_
  · rcases hb with hb | hb
    · exact ⟨Nat.lt_of_lt_of_le (h.free b hb).1 hk.size, (h.free b hb).2⟩
    · exact ⟨(hn b hb).2, .inr (.inr (by have := (hn b hb).1; omega))⟩
  · exact (h.ent e hl).mono (fun b hb => .inl hb) (fun b hb => hb.elim (hFo b) (fun hb => old b (h.own e hl b hb).2.1))
  · obtain ⟨h1, h2, h3⟩ := h.own e hl b hb
    refine ⟨fun hx => hx.elim h1 fun hx => ?_, Nat.lt_of_lt_of_le h2 hk.size, h3⟩
    have := (hn b hx).1; omega
  · rcases List.mem_append.1 hb with hb | hb
    · obtain ⟨h1, h2, h3⟩ := hg b hb
      refine ⟨fun hx => hx.elim (fun hx => ?_) h3, h2, .inr (by omega), fun e hl hx => ?_⟩
      · have := (h.free b hx).1; omega
      · have := (h.own e hl b hx).2.1; omega
    · obtain ⟨h1, h2, h3, h4⟩ := h.loose b hb
      refine ⟨fun hx => hx.elim h1 fun hx => ?_, Nat.lt_of_lt_of_le h2 hk.size, h3, h4⟩
      have := (hn b hx).1; omega
  · refine List.nodup_append.2 ⟨hnd, h.looseNodup, fun x hx y hy hxy => ?_⟩
    subst hxy
    have := (hg x hx).1
    have := (h.loose x hy).2.1
    omega

theorem op_convB (hC : CfgOk C) (h : Rel n w0 F0 S0 G F μ fp [] σ a w) (hd : ∀ k, o.dst = some k → k < n) {s t : TypeId} {x : Operand} {r : AV} (ho : o.op = .convert s t x) (hr : convB C s t (σ.get x) = some r) :
    OpOk C n w0 F0 S0 G o a w (σ.put o.dst r) := by
  simp only [convB, Option.bind_eq_bind, Option.bind_eq_some_iff] at hr
  obtain ⟨T, hT, U, hU, hr⟩ := hr
  have hTd := (hC.tt s T hT).desc
  have hUd := (hC.tt t U hU).desc
  have hx := h.get x
  split at hr
  case h_2 => cases hr
  rename_i el b h1 h2 h3
  rw [h1] at hTd
  rw [h2] at hUd
  rw [h3] at hx
  have hTd : C.P.underlying s = some .string := hTd
  have hUd : C.P.underlying t = some (.slice el) := hUd
  simp only [Option.bind_eq_some_iff] at hr
  obtain ⟨V, hV, hr⟩ := hr
  have hVd := (hC.tt el V hV).desc
  split at hr
  case h_2 => cases hr
  rename_i h4
  rw [h4] at hVd
  have hVd : C.P.underlying el = some (.int .u8) := hVd
  cases hr
  have hrun := run_bytes_of_string (P := C.P) w s t el b hTd hUd hVd
  generalize hcap : grownCap w b.size 0 el = cap at hrun
  have hle : b.size ≤ cap := by rw [← hcap]; exact grownCap_ge w _ _ _
  have hk : KeptS w (w.drew.alloc (.cells (bytesRow b cap) el ((bytesRow b cap).size, (bytesRow b cap).size + 1))) (fun _ => False) := keptS_push rfl rfl rfl rfl
  have hsz : (w.drew.alloc (.cells (bytesRow b cap) el ((bytesRow b cap).size, (bytesRow b cap).size + 1))).heap.size = w.heap.size + 1 := by
    show (w.heap.push _).size = _
    simp
  have hlen : (b.data.toList.map fun b => AV.int .u8 b.toNat).length = b.size := by rw [List.length_map, Array.length_toList]; rfl
  have hrb := fun F w => repl_bytes F w b.data.toList
  have r1 := h.extend (newF := fun k => k = w.heap.size) (g := []) hk (fun k hk => by subst hk; rw [hsz]; omega) (by simp) List.nodup_nil
  refine ⟨.slice (some ⟨w.heap.size, 0, none⟩) b.size cap, _, .inl ?_, _, _, _, r1.putO hd (x := .fro none false (b.data.toList.map fun b => .int .u8 b.toNat)) ?_⟩
  · simp only [execOp, ho, SRep.str_inv hx, Sem.run_bind, hrun, Result.andThen_ok, Sem.run_pure]
  · refine RepL.fro (sz := 1) (us := b.data.toList.map fun b => Value.int .u8 b.toNat) hlen hle (by simp) (.inr rfl) (fun q hq => ?_) (fun z hz => ?_) ?_ .nil
    · have hb : (w.drew.alloc (.cells (bytesRow b cap) el ((bytesRow b cap).size, (bytesRow b cap).size + 1))).heap[w.heap.size]? = some (.cells (bytesRow b cap) el ((bytesRow b cap).size, (bytesRow b cap).size + 1)) := by
        show (w.heap.push _)[w.heap.size]? = _
        simp
      rw [Nat.zero_add, cell_of_row _ _ q _ _ _ hb]
      have hq' : q < (b.data.map fun b => Value.int .u8 b.toNat).size := by simpa using hq
      unfold bytesRow
      rw [Array.getElem?_append_left hq']
      simp
    · obtain ⟨c, _, rfl⟩ := List.mem_map.1 hz; rfl
    · rw [(hrb F w).flat]; exact hrb _ _

/-- Every operation that is no call. -/
theorem op_ok (hC : CfgOk C) (h : Rel n w0 F0 S0 G F μ fp [] σ a w) (hd : ∀ k, o.dst = some k → k < n) (hr : opF C o σ = some σ') : OpOk C n w0 F0 S0 G o a w σ' := by
  have hr0 := hr
  unfold opF at hr
  split at hr
  · rename_i x ho; cases hr; exact (op_move h (.inl ho)).ok h hd
  · rename_i x ho; cases hr; exact (op_move h (.inr ho)).ok h hd
  · rename_i c x y ho
    split at hr
    · rename_i b hb; cases hr; exact (op_pick h ho hb).ok h hd
    · cases hr
  · rename_i t ho; exact op_alloc hC h hd ho hr0
  · rename_i t x ho; exact op_box hC h hd ho hr0
  · rename_i t ps ho; exact (op_build hC h ho hr0).ok h hd
  · rename_i t n ps ho; exact op_buildSlice hC h hd ho hr0
  · rename_i t x ho
    simp only [Option.bind_eq_bind, Option.bind_eq_some_iff] at hr
    obtain ⟨v, hv, hr⟩ := hr; cases hr; exact (op_load hC h ho hv).ok h hd
  · rename_i t p x ho
    simp only [Option.bind_eq_bind, Option.bind_eq_some_iff] at hr
    obtain ⟨v, hv, hr⟩ := hr; cases hr; exact op_store hC h hd ho hv
  · rename_i x ho; exact (op_nilCheck h ho hr0).ok h hd
  · rename_i op t x y t' ho
    simp only [Option.bind_eq_bind, Option.bind_eq_some_iff] at hr
    obtain ⟨v, hv, hr⟩ := hr; cases hr; exact (op_bin hC h ho hv).ok h hd
  · rename_i op t x ho
    simp only [Option.bind_eq_bind, Option.bind_eq_some_iff] at hr
    obtain ⟨v, hv, hr⟩ := hr; cases hr; exact (op_un h ho hv).ok h hd
  · rename_i s t x ho
    split at hr
    · rename_i v hv; cases hr; exact (op_convert hC h ho hv).ok h hd
    · split at hr
      · rename_i v hv; cases hr; exact (op_convS hC h ho hv).ok h hd
      · simp only [Option.bind_eq_bind, Option.bind_eq_some_iff] at hr
        obtain ⟨v, hv, hr⟩ := hr; cases hr; exact op_convB hC h hd ho hv
  · rename_i f first cap ho; exact op_makeFunc h hd ho hr0
  · rename_i t l c ho; exact op_makeSlice hC h hd ho hr0
  · rename_i t x lo hi mx ho
    simp only [Option.bind_eq_bind, Option.bind_eq_some_iff] at hr
    obtain ⟨v, hv, hr⟩ := hr; cases hr; exact (op_slice hC h ho hv).ok h hd
  · rename_i s x f ho
    simp only [Option.bind_eq_bind, Option.bind_eq_some_iff] at hr
    obtain ⟨v, hv, hr⟩ := hr; cases hr; exact (op_fieldAddr hC h ho hv).ok h hd
  · rename_i s x f ho
    simp only [Option.bind_eq_bind, Option.bind_eq_some_iff] at hr
    obtain ⟨v, hv, hr⟩ := hr; cases hr; exact (op_field hC h ho hv).ok h hd
  · rename_i t x ix ho
    simp only [Option.bind_eq_bind, Option.bind_eq_some_iff] at hr
    obtain ⟨v, hv, hr⟩ := hr; cases hr; exact (op_indexAddr hC h ho hv).ok h hd
  · rename_i t x ix ho; exact (op_index hC h ho hr0).ok h hd
  · rename_i x i ho
    split at hr
    · rename_i vs hx
      simp only [Option.bind_eq_bind, Option.bind_eq_some_iff] at hr
      obtain ⟨v, hv, hr⟩ := hr; cases hr; exact (op_extract h ho hx hv).ok h hd
    · cases hr
  · rename_i b args ts ho
    split at hr
    · rename_i x t ha ht
      simp only [Option.bind_eq_bind, Option.bind_eq_some_iff] at hr
      obtain ⟨T, hT, m, hm, hr⟩ := hr; cases hr; exact (op_len hC h ho ha ht hT hm).ok h hd
    · rename_i x t ha ht
      simp only [Option.bind_eq_bind, Option.bind_eq_some_iff] at hr
      obtain ⟨T, hT, m, hm, hr⟩ := hr; cases hr; exact (op_cap hC h ho ha ht hT hm).ok h hd
    · rename_i x y t t2 ha ht; exact op_append hC h hd ho ha ht hr
    · rename_i x y t t2 ha ht; exact op_copy hC h hd ho ha ht hr
    · rename_i x xs _ ha
      simp only [Option.bind_eq_bind, Option.bind_eq_some_iff] at hr
      obtain ⟨v, hv, hr⟩ := hr; cases hr; exact (op_min h ho ha hv).ok h hd
    · rename_i x xs _ ha
      simp only [Option.bind_eq_bind, Option.bind_eq_some_iff] at hr
      obtain ⟨v, hv, hr⟩ := hr; cases hr; exact (op_max h ho ha hv).ok h hd
    · cases hr
  · cases hr

end
end Go.Vm
