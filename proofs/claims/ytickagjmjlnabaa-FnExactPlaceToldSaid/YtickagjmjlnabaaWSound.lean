/- The logic is sound. -/
import Derived.Test.YtickagjmjlnabaaWCall3
import Derived.Deep.Quiet
namespace Go.Vm

section
variable {C : Cfg} {D : Spec} {n : Nat} {w0 : World} {F0 S0 F : Nat → Prop} {G : Value → AV → Prop} {μ : Nat → Option Nat} {fp : Nat → List Nat} {L : List Nat} {σ σ' : St} {a : Act} {w w' : World} {o : Oper}

/-- What is seen of a function's text once: where its operations put their values; and that a region whose order is drawn may be walked in its own order. -/
def okCode (n : Nat) : Code → Bool
  | .seq a b => okCode n a && okCode n b
  | .cond _ a b => okCode n a && okCode n b
  | .block _ c => okCode n c
  | .loop c => okCode n c
  | .region _ ops q => ops.all (fun o => match o.dst with | some d => decide (d < n) | none => true) && (!q || Region.lexB .any ops)
  | _ => true

theorem St.put_same {d : Tmp} {x : AV} (h : σ.sl d = x) : σ.put (some d) x = σ := by
  cases σ with
  | mk sl en =>
    simp only [St.put]
    congr 1
    funext k
    simp only [upd]
    split
    · rename_i e; subst e; exact h.symm
    · rfl

/-- A guard, told by the machine. -/
theorem guard_ok (h : Rel n w0 F0 S0 G F μ fp L σ a w) {ops : Array Oper} (hdst : ∀ d o, o ∈ ops → o.dst = some d → d < n) {yes no : St → Prop} (hg : guardW (guardOf ops o) σ yes no) :
    (Region.wanted o (yielded ops a.tmps) = true ∧ yes σ) ∨ (Region.wanted o (yielded ops a.tmps) = false ∧ no σ) := by
  unfold guardOf at hg
  unfold Region.wanted
  cases hgd : o.guard with
  | none => rw [hgd] at hg; exact .inl ⟨rfl, hg⟩
  | some g =>
    obtain ⟨j, want⟩ := g
    rw [hgd] at hg
    simp only [Option.map_some] at hg
    simp only [yielded]
    cases hd : (ops[j]?).bind (·.dst) with
    | none =>
      rw [hd] at hg
      exact .inr ⟨by simp, hg⟩
    | some d =>
      rw [hd] at hg
      have hlt : d < a.tmps.size := by
        rw [h.size]
        obtain ⟨o', ho', hd'⟩ := Option.bind_eq_some_iff.1 hd
        exact hdst d o' (Array.mem_of_getElem? ho') hd'
      have hs := h.slots d
      have hgd' : a.tmps.getD d undef = a.tmps[d] := by simp [hlt]
      have hq : a.tmps[d]? = some (a.tmps.getD d undef) := by rw [hgd']; exact Array.getElem?_eq_getElem hlt
      simp only [Option.bind_some, hq]
      simp only [guardW] at hg
      split at hg
      · rename_i b hb
        rw [hb] at hs
        have hv : a.tmps.getD d undef = .bool b := SRep.bool_inv hs
        rw [hv]
        cases b <;> cases want
        · exact .inl ⟨rfl, by have := hg.2 rfl; rwa [St.put_same hb] at this⟩
        · exact .inr ⟨rfl, by have := hg.2 rfl; rwa [St.put_same hb] at this⟩
        · exact .inr ⟨rfl, by have := hg.1 rfl; rwa [St.put_same hb] at this⟩
        · exact .inl ⟨rfl, by have := hg.1 rfl; rwa [St.put_same hb] at this⟩
      · rename_i ht
        rw [ht] at hs
        obtain ⟨us, hv, _⟩ := hs
        rw [hv]
        exact .inr ⟨rfl, hg⟩
      · exact hg.elim

/-- The state stands for the machine's. -/
def Stands (n : Nat) (w0 : World) (F0 S0 : Nat → Prop) (G : Value → AV → Prop) (σ : St) (a : Act) (w : World) : Prop := ∃ F μ fp, Rel n w0 F0 S0 G F μ fp [] σ a w

theorem op_wp (hC : CfgOk C) (hD : SpecOk C D) (h : Stands n w0 F0 S0 G σ a w) (hd : ∀ k, o.dst = some k → k < n) {q : Bool} {K : St → Prop} (hW : opW C D q o K σ) {next : Act → World → Prop} {Q : Exit → Act → World → Prop}
    (hn : ∀ σ' a' w', K σ' → Stands n w0 F0 S0 G σ' a' w' → next a' w') : o.wp C.P a w next Q := by
  obtain ⟨F, μ, fp, h⟩ := h
  unfold opW at hW
  split at hW
  · rename_i x args ts ho
    obtain ⟨f, vals, h1, h2⟩ := call_ok hD h hd ho hW
    unfold Oper.wp
    rw [h1]
    exact h2.mono fun e w' ⟨v, σ', F', μ', fp', he, hK, hr⟩ => by subst he; exact hn _ _ _ hK ⟨F', μ', fp', hr⟩
  · obtain ⟨σ1, hs, hK⟩ := hW.2
    obtain ⟨v, w', hr, F', μ', fp', hrel⟩ := op_ok hC h hd hs
    unfold Oper.wp
    rcases hr with hr | ⟨hr, rfl⟩
    · rw [hr]; exact hn _ _ _ hK ⟨F', μ', fp', hrel⟩
    · rw [hr]; exact hn _ _ _ hK ⟨F', μ', fp', hrel⟩

theorem skip_ok (h : Stands n w0 F0 S0 G σ a w) (hd : ∀ k, o.dst = some k → k < n) : Stands n w0 F0 S0 G (σ.put o.dst (.tup [])) (a.put o.dst undef) w := by
  obtain ⟨F, μ, fp, h⟩ := h
  exact ⟨F, μ, fp, h.putO hd (SRep.unit _ _ _ _ _)⟩

theorem ops_wp (hC : CfgOk C) (hD : SpecOk C D) {ops : Array Oper} (hdst : ∀ d o, o ∈ ops → o.dst = some d → d < n) {q : Bool} {K : St → Prop} {Q : Exit → Act → World → Prop} (hn : ∀ σ' a' w', K σ' → Stands n w0 F0 S0 G σ' a' w' → Q .normal a' w') :
    ∀ (l : List Oper) (i : Nat) (σ : St) (a : Act) (w : World), ops.toList.drop i = l → Stands n w0 F0 S0 G σ a w → opsW C D q ops K l σ → wpOps C.P ops Q (List.range' i (ops.size - i)) a w
  | [], i, σ, a, w, hl, h, hW => by
    have : ops.size - i = 0 := by have := congrArg List.length hl; simpa using this
    rw [this]
    exact hn _ _ _ hW h
  | o :: l, i, σ, a, w, hl, h, hW => by
    have hlen : ops.size - i = l.length + 1 := by have := congrArg List.length hl; simpa using this
    have ho : ops[i]? = some o := by
      have : (ops.toList.drop i)[0]? = some o := by rw [hl]; rfl
      simpa using this
    have hl' : ops.toList.drop (i + 1) = l := by
      rw [← List.drop_drop, hl]; rfl
    have hm : o ∈ ops := Array.mem_of_getElem? ho
    rw [hlen, List.range'_succ]
    simp only [wpOps, ho]
    have hle : l.length = ops.size - (i + 1) := by omega
    obtain ⟨F, μ, fp, hr⟩ := h
    rcases guard_ok hr hdst hW with ⟨hw, hy⟩ | ⟨hw, hy⟩
    · rw [hw, if_pos rfl, hle]
      exact .inl (op_wp hC hD ⟨F, μ, fp, hr⟩ (fun k hk => hdst k o hm hk) hy fun σ' a' w' hK h' => ops_wp hC hD hdst hn l (i + 1) σ' a' w' hl' h' hK)
    · rw [hw, if_neg (by simp), hle]
      exact ops_wp hC hD hdst hn l (i + 1) _ _ w hl' (skip_ok ⟨F, μ, fp, hr⟩ (fun k hk => hdst k o hm hk)) hy

/-! ### A region whose order is drawn -/
theorem looks_pure (hC : CfgOk C) (h : Rel n w0 F0 S0 G F μ fp [] σ a w) (hl : looks C o = true) (hr : opF C o σ = some σ') : OpPure C F μ fp σ o a w σ' := by
  have hr0 := hr
  unfold opF at hr
  split at hr
  · rename_i x ho; cases hr; exact op_move h (.inl ho)
  · rename_i x ho; cases hr; exact op_move h (.inr ho)
  · rename_i c x y ho
    split at hr
    · rename_i b hb; cases hr; exact op_pick h ho hb
    · cases hr
  · rename_i t ho; simp [looks, ho] at hl
  · rename_i t x ho; simp [looks, ho] at hl
  · rename_i t ps ho; exact op_build hC h ho hr0
  · rename_i t n ps ho; simp [looks, ho] at hl
  · rename_i t x ho
    simp only [Option.bind_eq_bind, Option.bind_eq_some_iff] at hr
    obtain ⟨v, hv, hr⟩ := hr; cases hr; exact op_load hC h ho hv
  · rename_i t p x ho; simp [looks, ho] at hl
  · rename_i x ho; exact op_nilCheck h ho hr0
  · rename_i op t x y t' ho
    simp only [Option.bind_eq_bind, Option.bind_eq_some_iff] at hr
    obtain ⟨v, hv, hr⟩ := hr; cases hr; exact op_bin hC h ho hv
  · rename_i op t x ho
    simp only [Option.bind_eq_bind, Option.bind_eq_some_iff] at hr
    obtain ⟨v, hv, hr⟩ := hr; cases hr; exact op_un h ho hv
  · rename_i s t x ho
    split at hr
    · rename_i v hv; cases hr; exact op_convert hC h ho hv
    · split at hr
      · rename_i v hv; cases hr; exact op_convS hC h ho hv
      simp only [Option.bind_eq_bind, Option.bind_eq_some_iff] at hr
      obtain ⟨v, hv, hr⟩ := hr
      simp only [convB, Option.bind_eq_bind, Option.bind_eq_some_iff] at hv
      obtain ⟨T, hT, U, hU, hv⟩ := hv
      split at hv
      · rename_i el b h1 h2 h3
        simp [looks, ho, hU, h2] at hl
      · cases hv
  · rename_i f first cap ho; simp [looks, ho] at hl
  · rename_i t l c ho; simp [looks, ho] at hl
  · rename_i t x lo hi mx ho
    simp only [Option.bind_eq_bind, Option.bind_eq_some_iff] at hr
    obtain ⟨v, hv, hr⟩ := hr; cases hr; exact op_slice hC h ho hv
  · rename_i s x f ho
    simp only [Option.bind_eq_bind, Option.bind_eq_some_iff] at hr
    obtain ⟨v, hv, hr⟩ := hr; cases hr; exact op_fieldAddr hC h ho hv
  · rename_i s x f ho
    simp only [Option.bind_eq_bind, Option.bind_eq_some_iff] at hr
    obtain ⟨v, hv, hr⟩ := hr; cases hr; exact op_field hC h ho hv
  · rename_i t x ix ho
    simp only [Option.bind_eq_bind, Option.bind_eq_some_iff] at hr
    obtain ⟨v, hv, hr⟩ := hr; cases hr; exact op_indexAddr hC h ho hv
  · rename_i t x ix ho; exact op_index hC h ho hr0
  · rename_i x i ho
    split at hr
    · rename_i vs hx
      simp only [Option.bind_eq_bind, Option.bind_eq_some_iff] at hr
      obtain ⟨v, hv, hr⟩ := hr; cases hr; exact op_extract h ho hx hv
    · cases hr
  · rename_i b args ts ho
    split at hr
    · rename_i x t ha ht
      simp only [Option.bind_eq_bind, Option.bind_eq_some_iff] at hr
      obtain ⟨T, hT, m, hm, hr⟩ := hr; cases hr; exact op_len hC h ho ha ht hT hm
    · rename_i x t ha ht
      simp only [Option.bind_eq_bind, Option.bind_eq_some_iff] at hr
      obtain ⟨T, hT, m, hm, hr⟩ := hr; cases hr; exact op_cap hC h ho ha ht hT hm
    · rename_i x y t t2 ha ht; simp [looks, ho] at hl
    · rename_i x xs _ ha
      simp only [Option.bind_eq_bind, Option.bind_eq_some_iff] at hr
      obtain ⟨v, hv, hr⟩ := hr; cases hr; exact op_min h ho ha hv
    · rename_i x xs _ ha
      simp only [Option.bind_eq_bind, Option.bind_eq_some_iff] at hr
      obtain ⟨v, hv, hr⟩ := hr; cases hr; exact op_max h ho ha hv
    · cases hr
  · cases hr

theorem Rel.later (h : Rel n w0 F0 S0 G F μ fp [] σ a w) (hk : KeptS w w' (fun _ => False)) : Stands n w0 F0 S0 G σ a w' := by
  have := h.extend (newF := fun _ => False) (g := []) hk (fun _ h => h.elim) (by simp) List.nodup_nil
  exact ⟨_, _, _, this⟩

theorem opQ_ok (hC : CfgOk C) (hD : SpecOk C D) (h : Rel n w0 F0 S0 G F μ fp [] σ a w) (hd : ∀ k, o.dst = some k → k < n) {K : St → Prop} (hW : opW C D true o K σ) :
    ∃ v σ', K σ' ∧ Rel n w0 F0 S0 G F μ fp [] σ' (a.put o.dst v) w ∧ ∀ w', KeptS w w' (fun _ => False) → o.quietAt C.P a (fun w' => KeptS w w' (fun _ => False)) w' v := by
  unfold opW at hW
  split at hW
  · rename_i x args ts ho
    obtain ⟨f, vals, v, r, h1, h2, h3, h4⟩ := callQ_ok hD h ho hW
    refine ⟨v, _, h4, h.putO hd h3, fun w' hk => ?_⟩
    unfold Oper.quietAt
    rw [h1 w']
    exact ⟨rfl, (h2 w' hk).mono fun e w'' hx => hx⟩
  · obtain ⟨σ1, hs, hK⟩ := hW.2
    obtain ⟨v, x, rfl, hx, hr⟩ := looks_pure (a := a) hC h (hW.1 rfl) hs
    refine ⟨v, _, hK, h.putO hd hx, fun w' hk => ?_⟩
    unfold Oper.quietAt
    rw [hr w' hk]
    exact ⟨rfl, rfl⟩

theorem opsQ_wp (hC : CfgOk C) (hD : SpecOk C D) {ops : Array Oper} (hdst : ∀ d o, o ∈ ops → o.dst = some d → d < n) {K : St → Prop} {Q : Exit → Act → World → Prop} (hn : ∀ σ' a' w', K σ' → Stands n w0 F0 S0 G σ' a' w' → Q .normal a' w') :
    ∀ (l : List Oper) (σ : St) (a : Act), (∀ o ∈ l, o ∈ ops) → Rel n w0 F0 S0 G F μ fp [] σ a w → opsW C D true ops K l σ → wpQuiet C.P ops (fun w' => KeptS w w' (fun _ => False)) (fun a' => ∀ w', KeptS w w' (fun _ => False) → Q .normal a' w') l a
  | [], σ, a, _, h, hW => fun w' hk => hn _ _ _ hW (h.later hk)
  | o :: l, σ, a, hm, h, hW => by
    have hmo := hm o (by simp)
    simp only [wpQuiet]
    rcases guard_ok h hdst hW with ⟨hw, hy⟩ | ⟨hw, hy⟩
    · rw [hw, if_pos rfl]
      obtain ⟨v, σ', hK, hr, hq⟩ := opQ_ok hC hD h (fun k hk => hdst k o hmo hk) hy
      exact ⟨v, hq, opsQ_wp hC hD hdst hn l σ' _ (fun o' ho' => hm o' (by simp [ho'])) hr hK⟩
    · rw [hw, if_neg (by simp)]
      exact opsQ_wp hC hD hdst hn l _ _ (fun o' ho' => hm o' (by simp [ho'])) (h.putO (fun k hk => hdst k o hmo hk) (SRep.unit _ _ _ _ _)) hy

/-! ### All code -/
def Ex.to : Ex → Exit
  | .normal => .normal
  | .exit i => .exit i
  | .ret => .ret

def post (n : Nat) (w0 : World) (F0 S0 : Nat → Prop) (G : Value → AV → Prop) (Q : Ex → St → Prop) : Exit → Act → World → Prop := fun e a w => ∃ e' σ, e = e'.to ∧ Q e' σ ∧ Stands n w0 F0 S0 G σ a w

theorem exists_least {p : Nat → Prop} (h : ∃ k, p k) : ∃ k, p k ∧ ∀ m, p m → k ≤ m := by
  obtain ⟨k, hk⟩ := h
  induction k using Nat.strongRecOn with
  | _ k ih =>
    by_cases hx : ∃ m, m < k ∧ p m
    · obtain ⟨m, hm, hp⟩ := hx
      exact ih m hm hp
    · exact ⟨k, hk, fun m hm => Nat.le_of_not_lt fun hlt => hx ⟨m, hlt, hm⟩⟩

open Classical in
noncomputable def leastOf (p : Nat → Prop) : Nat := if h : ∃ k, p k then Classical.choose (exists_least h) else 0

theorem leastOf_spec {p : Nat → Prop} {k : Nat} (hk : p k) : p (leastOf p) ∧ leastOf p ≤ k := by
  have h : ∃ k, p k := ⟨k, hk⟩
  have hs := Classical.choose_spec (exists_least h)
  unfold leastOf
  rw [dif_pos h]
  exact ⟨hs.1, hs.2 k hk⟩

theorem W_sound (hC : CfgOk C) (hD : SpecOk C D) : ∀ (c : Code) (Q : Ex → St → Prop) (σ : St) (a : Act) (w : World), okCode n c = true → Stands n w0 F0 S0 G σ a w → W C D c Q σ → c.wp C.P (post n w0 F0 S0 G Q) a w
  | .skip, Q, σ, a, w, _, h, hW => wp_skip ⟨.normal, σ, rfl, hW, h⟩
  | .exit id, Q, σ, a, w, _, h, hW => wp_exit ⟨.exit id, σ, rfl, hW, h⟩
  | .ret, Q, σ, a, w, _, h, hW => wp_ret ⟨.ret, σ, rfl, hW, h⟩
  | .seq x y, Q, σ, a, w, ho, h, hW => by
    simp only [okCode, Bool.and_eq_true] at ho
    refine wp_seq (wp_mono (W_sound hC hD x _ σ a w ho.1 h hW) ?_)
    rintro e a' w' ⟨e', σ', rfl, hq, hs⟩
    cases e' with
    | normal => exact W_sound hC hD y Q σ' a' w' ho.2 hs hq
    | exit i => exact ⟨.exit i, σ', rfl, hq, hs⟩
    | ret => exact ⟨.ret, σ', rfl, hq, hs⟩
  | .cond c x y, Q, σ, a, w, ho, h, hW => by
    simp only [okCode, Bool.and_eq_true] at ho
    simp only [W, condW] at hW
    obtain ⟨F, μ, fp, hr⟩ := h
    split at hW
    · rename_i d
      split at hW
      · rename_i b hb
        have hg := hr.get (.tmp d)
        have hv : a.eval (.tmp d) = .bool b := SRep.bool_inv (by simpa only [St.get, hb] using hg)
        refine wp_cond hv ?_
        cases b
        · have := hW.2 rfl
          rw [St.put_same hb] at this
          exact W_sound hC hD y Q σ a w ho.2 ⟨F, μ, fp, hr⟩ this
        · have := hW.1 rfl
          rw [St.put_same hb] at this
          exact W_sound hC hD x Q σ a w ho.1 ⟨F, μ, fp, hr⟩ this
      · exact hW.elim
    · rename_i b
      refine wp_cond (t := b) rfl ?_
      cases b
      · exact W_sound hC hD y Q σ a w ho.2 ⟨F, μ, fp, hr⟩ (by simpa using hW)
      · exact W_sound hC hD x Q σ a w ho.1 ⟨F, μ, fp, hr⟩ (by simpa using hW)
    · exact hW.elim
  | .block id c, Q, σ, a, w, ho, h, hW => by
    refine wp_block (wp_mono (W_sound hC hD c _ σ a w ho h hW) ?_)
    rintro e a' w' ⟨e', σ', rfl, hq, hs⟩
    cases e' with
    | normal => exact ⟨.normal, σ', rfl, hq, hs⟩
    | exit i =>
      simp only [Ex.to, Exit.inBlock]
      split
      · rename_i hi
        exact ⟨.normal, σ', rfl, by simpa [hi] using hq, hs⟩
      · rename_i hi
        exact ⟨.exit i, σ', rfl, by simpa [hi] using hq, hs⟩
    | ret => exact ⟨.ret, σ', rfl, hq, hs⟩
  | .loop c, Q, σ, a, w, ho, h, hW => by
    obtain ⟨I, m, hI, hround⟩ := hW
    refine wp_loop (I := fun a w => ∃ σ, I σ ∧ Stands n w0 F0 S0 G σ a w) (μ := fun a w => leastOf fun k => ∃ σ, I σ ∧ Stands n w0 F0 S0 G σ a w ∧ m σ = k) ⟨σ, hI, h⟩ ?_
    rintro a w ⟨σ1, hI1, hs1⟩
    obtain ⟨⟨σ2, hI2, hs2, hm2⟩, _⟩ := leastOf_spec (p := fun k => ∃ σ, I σ ∧ Stands n w0 F0 S0 G σ a w ∧ m σ = k) ⟨σ1, hI1, hs1, rfl⟩
    refine wp_mono (W_sound hC hD c _ σ2 a w ho hs2 (hround σ2 hI2)) ?_
    rintro e a' w' ⟨e', σ', rfl, hq, hs⟩
    cases e' with
    | normal =>
      refine ⟨⟨σ', hq.1, hs⟩, ?_⟩
      obtain ⟨_, hle⟩ := leastOf_spec (p := fun k => ∃ σ, I σ ∧ Stands n w0 F0 S0 G σ a' w' ∧ m σ = k) ⟨σ', hq.1, hs, rfl⟩
      have := hq.2
      omega
    | exit i => exact ⟨.exit i, σ', rfl, hq, hs⟩
    | ret => exact ⟨.ret, σ', rfl, hq, hs⟩
  | .region id ops q, Q, σ, a, w, ho, h, hW => by
    simp only [okCode, Bool.and_eq_true] at ho
    obtain ⟨h1, h2⟩ := ho
    have hdst : ∀ d o, o ∈ ops → o.dst = some d → d < n := by
      intro d o hm hd
      have := Array.all_eq_true_iff_forall_mem.1 h1 o hm
      rw [hd] at this
      simpa using this
    have hn : ∀ σ' a' w', Q .normal σ' → Stands n w0 F0 S0 G σ' a' w' → post n w0 F0 S0 G Q .normal a' w' := fun σ' a' w' hq hs => ⟨.normal, σ', rfl, hq, hs⟩
    cases q with
    | false =>
      refine wp_region ?_
      have := ops_wp hC hD hdst hn ops.toList 0 σ a w rfl h hW
      rw [List.range_eq_range']
      simpa using this
    | true =>
      obtain ⟨F, μ, fp, hr⟩ := h
      refine wp_region_quiet (C := fun w' => KeptS w w' (fun _ => False)) hC.mixed (by simpa using h2) ⟨rfl, rfl, rfl, Nat.le_refl _, fun _ _ _ => rfl, fun _ cur _ _ h => ⟨cur, h, rfl⟩⟩ ?_
      exact opsQ_wp hC hD hdst hn ops.toList σ a (fun o ho => by simpa using ho) hr hW

end
end Go.Vm
