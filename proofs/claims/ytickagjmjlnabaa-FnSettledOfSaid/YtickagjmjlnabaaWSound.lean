/- The logic is sound. -/
import Derived.Test.YtickagjmjlnabaaWCall3
import Derived.Deep.Quiet
import Derived.OrdersHeld
namespace Go.Vm

section
variable {C : Cfg} {D : Spec} {n : Nat} {w0 : World} {F0 S0 F : Nat → Prop} {G : Value → AV → Prop} {μ : Nat → Option Nat} {fp : Nat → List Nat} {L : List Nat} {σ σ' : St} {a : Act} {w w' : World} {o : Oper}

def noisyOp (o : Oper) : Bool := match o.op with
  | .buildSlice _ _ _ => true
  | .store _ _ _ => true
  | .call { callee := .builtin .append, .. } => true
  | _ => false
def noisy (ops : Array Oper) : Bool := ops.any noisyOp
/-- What is seen of a function's text once: where its operations put their values; and that a region whose order is drawn may be walked in its own order. -/
def okCode (n : Nat) : Code → Bool
  | .seq a b => okCode n a && okCode n b
  | .cond _ a b => okCode n a && okCode n b
  | .block _ c => okCode n c
  | .loop c => okCode n c
  | .region _ ops q => ops.all (fun o => match o.dst with | some d => decide (d < n) | none => true) && (!q || Region.lexB .any ops) && !(q && noisy ops)
  | _ => true

theorem St.put_same {d : Tmp} {x : AV} (h : σ.sl d = x) : σ.put (some d) x = σ := by
  cases σ with
  | mk sl en =>
    simp only [St.put]
    congr 1
    funext k
    simp only [upd]
    split
    · rename_i e; subst e; exact h.symm
    · rfl

/-- A guard, told by the machine. -/
theorem guard_ok (h : Rel n w0 F0 S0 G F μ fp L σ a w) {ops : Array Oper} (hdst : ∀ d o, o ∈ ops → o.dst = some d → d < n) {yes no : St → Prop} (hg : guardW (guardOf ops o) σ yes no) :
    (Region.wanted o (yielded ops a.tmps) = true ∧ yes σ) ∨ (Region.wanted o (yielded ops a.tmps) = false ∧ no σ) := by
  unfold guardOf at hg
  unfold Region.wanted
  cases hgd : o.guard with
  | none => rw [hgd] at hg; exact .inl ⟨rfl, hg⟩
  | some g =>
    obtain ⟨j, want⟩ := g
    rw [hgd] at hg
    simp only [Option.map_some] at hg
    simp only [yielded]
    cases hd : (ops[j]?).bind (·.dst) with
    | none =>
      rw [hd] at hg
      exact .inr ⟨by simp, hg⟩
    | some d =>
      rw [hd] at hg
      have hlt : d < a.tmps.size := by
        rw [h.size]
        obtain ⟨o', ho', hd'⟩ := Option.bind_eq_some_iff.1 hd
        exact hdst d o' (Array.mem_of_getElem? ho') hd'
      have hs := h.slots d
      have hgd' : a.tmps.getD d undef = a.tmps[d] := by simp [hlt]
      have hq : a.tmps[d]? = some (a.tmps.getD d undef) := by rw [hgd']; exact Array.getElem?_eq_getElem hlt
      simp only [Option.bind_some, hq]
      simp only [guardW] at hg
      split at hg
      · rename_i b hb
        rw [hb] at hs
        have hv : a.tmps.getD d undef = .bool b := SRep.bool_inv hs
        rw [hv]
        cases b <;> cases want
        · exact .inl ⟨rfl, by have := hg.2 rfl; rwa [St.put_same hb] at this⟩
        · exact .inr ⟨rfl, by have := hg.2 rfl; rwa [St.put_same hb] at this⟩
        · exact .inr ⟨rfl, by have := hg.1 rfl; rwa [St.put_same hb] at this⟩
        · exact .inl ⟨rfl, by have := hg.1 rfl; rwa [St.put_same hb] at this⟩
      · rename_i ht
        rw [ht] at hs
        obtain ⟨us, hv, _⟩ := hs
        rw [hv]
        exact .inr ⟨rfl, hg⟩
      · exact hg.elim

/-- The state stands for the machine's. -/
def Stands (n : Nat) (w0 : World) (F0 S0 : Nat → Prop) (G : Value → AV → Prop) (σ : St) (a : Act) (w : World) : Prop := ∃ F μ fp, Rel n w0 F0 S0 G F μ fp [] σ a w

/-- A call by name of a function that writes nothing of what it is lent. -/
def keepOp (wr : Nat → Option Nat) (o : Oper) : Bool := match o.op with
  | .call { callee := .value (.func f), .. } => (wr f).isNone
  | _ => false
theorem op_wpK (hC : CfgOk C) (hD : SpecOk C D) (h : Stands n w0 F0 S0 G σ a w) (hd : ∀ k, o.dst = some k → k < n) {q : Bool} {K : St → Prop} (hW : opW C D q o K σ) {next : Act → World → Prop} {Q : Exit → Act → World → Prop}
    (hn : ∀ σ' a' w', K σ' → Stands n w0 F0 S0 G σ' a' w' → (keepOp C.wrt o = true → KeptS w w' (fun _ => False)) → next a' w') : o.wp C.P a w next Q := by
  obtain ⟨F, μ, fp, h⟩ := h
  unfold opW at hW
  split at hW
  · rename_i x args ts ho
    obtain ⟨f, vals, h1, h2⟩ := call_ok hD h hd ho hW
    unfold Oper.wp
    rw [h1]
    refine h2.mono fun e w' ⟨v, σ', F', μ', fp', he, hK, hr, hk⟩ => ?_
    subst he
    refine hn _ _ _ hK ⟨F', μ', fp', hr⟩ fun hkp => hk fun p hp => ?_
    cases x with
    | func g =>
      have hg : target σ (.func g) = some (g, []) := rfl
      rw [hg] at hp
      cases hp
      simpa [keepOp, ho] using hkp
    | _ => simp [keepOp, ho] at hkp
  · rename_i hno
    obtain ⟨σ1, hs, hK⟩ := hW.2
    obtain ⟨v, w', hr, F', μ', fp', hrel⟩ := op_ok hC h hd hs
    have hkp : keepOp C.wrt o = true → KeptS w w' (fun _ => False) := fun hx => by
      unfold keepOp at hx
      split at hx
      · rename_i ho; exact absurd ho (hno _ _ _)
      · cases hx
    unfold Oper.wp
    rcases hr with hr | ⟨hr, rfl⟩
    · rw [hr]; exact hn _ _ _ hK ⟨F', μ', fp', hrel⟩ hkp
    · rw [hr]; exact hn _ _ _ hK ⟨F', μ', fp', hrel⟩ hkp
theorem op_wp (hC : CfgOk C) (hD : SpecOk C D) (h : Stands n w0 F0 S0 G σ a w) (hd : ∀ k, o.dst = some k → k < n) {q : Bool} {K : St → Prop} (hW : opW C D q o K σ) {next : Act → World → Prop} {Q : Exit → Act → World → Prop}
    (hn : ∀ σ' a' w', K σ' → Stands n w0 F0 S0 G σ' a' w' → next a' w') : o.wp C.P a w next Q := op_wpK hC hD h hd hW fun _ _ _ h1 h2 _ => hn _ _ _ h1 h2

theorem skip_ok (h : Stands n w0 F0 S0 G σ a w) (hd : ∀ k, o.dst = some k → k < n) : Stands n w0 F0 S0 G (σ.put o.dst (.tup [])) (a.put o.dst undef) w := by
  obtain ⟨F, μ, fp, h⟩ := h
  exact ⟨F, μ, fp, h.putO hd (SRep.unit _ _ _ _ _)⟩

theorem ops_wp (hC : CfgOk C) (hD : SpecOk C D) {ops : Array Oper} (hdst : ∀ d o, o ∈ ops → o.dst = some d → d < n) {q : Bool} {K : St → Prop} {Q : Exit → Act → World → Prop} (hn : ∀ σ' a' w', K σ' → Stands n w0 F0 S0 G σ' a' w' → Q .normal a' w') :
    ∀ (l : List Oper) (i : Nat) (σ : St) (a : Act) (w : World), ops.toList.drop i = l → Stands n w0 F0 S0 G σ a w → opsW C D q ops K l σ → wpOps C.P ops Q (List.range' i (ops.size - i)) a w
  | [], i, σ, a, w, hl, h, hW => by
    have : ops.size - i = 0 := by have := congrArg List.length hl; simpa using this
    rw [this]
    exact hn _ _ _ hW h
  | o :: l, i, σ, a, w, hl, h, hW => by
    have hlen : ops.size - i = l.length + 1 := by have := congrArg List.length hl; simpa using this
    have ho : ops[i]? = some o := by
      have : (ops.toList.drop i)[0]? = some o := by rw [hl]; rfl
      simpa using this
    have hl' : ops.toList.drop (i + 1) = l := by
      rw [← List.drop_drop, hl]; rfl
    have hm : o ∈ ops := Array.mem_of_getElem? ho
    rw [hlen, List.range'_succ]
    simp only [wpOps, ho]
    have hle : l.length = ops.size - (i + 1) := by omega
    obtain ⟨F, μ, fp, hr⟩ := h
    rcases guard_ok hr hdst hW with ⟨hw, hy⟩ | ⟨hw, hy⟩
    · rw [hw, if_pos rfl, hle]
      exact .inl (op_wp hC hD ⟨F, μ, fp, hr⟩ (fun k hk => hdst k o hm hk) hy fun σ' a' w' hK h' => ops_wp hC hD hdst hn l (i + 1) σ' a' w' hl' h' hK)
    · rw [hw, if_neg (by simp), hle]
      exact ops_wp hC hD hdst hn l (i + 1) _ _ w hl' (skip_ok ⟨F, μ, fp, hr⟩ (fun k hk => hdst k o hm hk)) hy

/-! ### A region whose order is drawn -/
theorem looks_pure (hC : CfgOk C) (h : Rel n w0 F0 S0 G F μ fp [] σ a w) (hl : looks C o = true) (hr : opF C o σ = some σ') : OpPure C F μ fp σ o a w σ' := by
  have hr0 := hr
  unfold opF at hr
  split at hr
  · rename_i x ho; cases hr; exact op_move h (.inl ho)
  · rename_i x ho; cases hr; exact op_move h (.inr ho)
  · rename_i c x y ho
    split at hr
    · rename_i b hb; cases hr; exact op_pick h ho hb
    · cases hr
  · rename_i t ho; simp [looks, ho] at hl
  · rename_i t x ho; simp [looks, ho] at hl
  · rename_i t ps ho; exact op_build hC h ho hr0
  · rename_i t n ps ho; simp [looks, ho] at hl
  · rename_i t x ho
    simp only [Option.bind_eq_bind, Option.bind_eq_some_iff] at hr
    obtain ⟨v, hv, hr⟩ := hr; cases hr; exact op_load hC h ho hv
  · rename_i t p x ho; simp [looks, ho] at hl
  · rename_i x ho; exact op_nilCheck h ho hr0
  · rename_i op t x y t' ho
    simp only [Option.bind_eq_bind, Option.bind_eq_some_iff] at hr
    obtain ⟨v, hv, hr⟩ := hr; cases hr; exact op_bin hC h ho hv
  · rename_i op t x ho
    simp only [Option.bind_eq_bind, Option.bind_eq_some_iff] at hr
    obtain ⟨v, hv, hr⟩ := hr; cases hr; exact op_un h ho hv
  · rename_i s t x ho
    split at hr
    · rename_i v hv; cases hr; exact op_convert hC h ho hv
    · split at hr
      · rename_i v hv; cases hr; exact op_convS hC h ho hv
      simp only [Option.bind_eq_bind, Option.bind_eq_some_iff] at hr
      obtain ⟨v, hv, hr⟩ := hr
      simp only [convB, Option.bind_eq_bind, Option.bind_eq_some_iff] at hv
      obtain ⟨T, hT, U, hU, hv⟩ := hv
      split at hv
      · rename_i el b h1 h2 h3
        simp [looks, ho, hU, h2] at hl
      · cases hv
  · rename_i f first cap ho; simp [looks, ho] at hl
  · rename_i t l c ho; simp [looks, ho] at hl
  · rename_i t x lo hi mx ho
    simp only [Option.bind_eq_bind, Option.bind_eq_some_iff] at hr
    obtain ⟨v, hv, hr⟩ := hr; cases hr; exact op_slice hC h ho hv
  · rename_i s x f ho
    simp only [Option.bind_eq_bind, Option.bind_eq_some_iff] at hr
    obtain ⟨v, hv, hr⟩ := hr; cases hr; exact op_fieldAddr hC h ho hv
  · rename_i s x f ho
    simp only [Option.bind_eq_bind, Option.bind_eq_some_iff] at hr
    obtain ⟨v, hv, hr⟩ := hr; cases hr; exact op_field hC h ho hv
  · rename_i t x ix ho
    simp only [Option.bind_eq_bind, Option.bind_eq_some_iff] at hr
    obtain ⟨v, hv, hr⟩ := hr; cases hr; exact op_indexAddr hC h ho hv
  · rename_i t x ix ho; exact op_index hC h ho hr0
  · rename_i x i ho
    split at hr
    · rename_i vs hx
      simp only [Option.bind_eq_bind, Option.bind_eq_some_iff] at hr
      obtain ⟨v, hv, hr⟩ := hr; cases hr; exact op_extract h ho hx hv
    · cases hr
  · rename_i b args ts ho
    split at hr
    · rename_i x t ha ht
      simp only [Option.bind_eq_bind, Option.bind_eq_some_iff] at hr
      obtain ⟨T, hT, m, hm, hr⟩ := hr; cases hr; exact op_len hC h ho ha ht hT hm
    · rename_i x t ha ht
      simp only [Option.bind_eq_bind, Option.bind_eq_some_iff] at hr
      obtain ⟨T, hT, m, hm, hr⟩ := hr; cases hr; exact op_cap hC h ho ha ht hT hm
    · rename_i x y t t2 ha ht; simp [looks, ho] at hl
    · rename_i x xs _ ha
      simp only [Option.bind_eq_bind, Option.bind_eq_some_iff] at hr
      obtain ⟨v, hv, hr⟩ := hr; cases hr; exact op_min h ho ha hv
    · rename_i x xs _ ha
      simp only [Option.bind_eq_bind, Option.bind_eq_some_iff] at hr
      obtain ⟨v, hv, hr⟩ := hr; cases hr; exact op_max h ho ha hv
    · cases hr
  · cases hr

theorem Rel.later (h : Rel n w0 F0 S0 G F μ fp [] σ a w) (hk : KeptS w w' (fun _ => False)) : Stands n w0 F0 S0 G σ a w' := by
  have := h.extend (newF := fun _ => False) (g := []) hk (fun _ h => h.elim) (by simp) List.nodup_nil
  exact ⟨_, _, _, this⟩

theorem opQ_ok (hC : CfgOk C) (hD : SpecOk C D) (h : Rel n w0 F0 S0 G F μ fp [] σ a w) (hd : ∀ k, o.dst = some k → k < n) {K : St → Prop} (hW : opW C D true o K σ) :
    ∃ v σ', K σ' ∧ Rel n w0 F0 S0 G F μ fp [] σ' (a.put o.dst v) w ∧ ∀ w', KeptS w w' (fun _ => False) → o.quietAt C.P a (fun w' => KeptS w w' (fun _ => False)) w' v := by
  unfold opW at hW
  split at hW
  · rename_i x args ts ho
    obtain ⟨f, vals, v, r, h1, h2, h3, h4⟩ := callQ_ok hD h ho hW
    refine ⟨v, _, h4, h.putO hd h3, fun w' hk => ?_⟩
    unfold Oper.quietAt
    rw [h1 w']
    exact ⟨rfl, (h2 w' hk).mono fun e w'' hx => hx⟩
  · obtain ⟨σ1, hs, hK⟩ := hW.2
    obtain ⟨v, x, rfl, hx, hr⟩ := looks_pure (a := a) hC h (hW.1 rfl) hs
    refine ⟨v, _, hK, h.putO hd hx, fun w' hk => ?_⟩
    unfold Oper.quietAt
    rw [hr w' hk]
    exact ⟨rfl, rfl⟩

theorem opsQ_wp (hC : CfgOk C) (hD : SpecOk C D) {ops : Array Oper} (hdst : ∀ d o, o ∈ ops → o.dst = some d → d < n) {K : St → Prop} {Q : Exit → Act → World → Prop} (hn : ∀ σ' a' w', K σ' → Stands n w0 F0 S0 G σ' a' w' → Q .normal a' w') :
    ∀ (l : List Oper) (σ : St) (a : Act), (∀ o ∈ l, o ∈ ops) → Rel n w0 F0 S0 G F μ fp [] σ a w → opsW C D true ops K l σ → wpQuiet C.P ops (fun w' => KeptS w w' (fun _ => False)) (fun a' => ∀ w', KeptS w w' (fun _ => False) → Q .normal a' w') l a
  | [], σ, a, _, h, hW => fun w' hk => hn _ _ _ hW (h.later hk)
  | o :: l, σ, a, hm, h, hW => by
    have hmo := hm o (by simp)
    simp only [wpQuiet]
    rcases guard_ok h hdst hW with ⟨hw, hy⟩ | ⟨hw, hy⟩
    · rw [hw, if_pos rfl]
      obtain ⟨v, σ', hK, hr, hq⟩ := opQ_ok hC hD h (fun k hk => hdst k o hmo hk) hy
      exact ⟨v, hq, opsQ_wp hC hD hdst hn l σ' _ (fun o' ho' => hm o' (by simp [ho'])) hr hK⟩
    · rw [hw, if_neg (by simp)]
      exact opsQ_wp hC hD hdst hn l _ _ (fun o' ho' => hm o' (by simp [ho'])) (h.putO (fun k hk => hdst k o hmo hk) (SRep.unit _ _ _ _ _)) hy

/-! ### A region whose order is drawn, and that makes something -/
def mv0 (o : Oper) : Bool := (o.after.all fun e => !Region.binds .any e) && (match o.op with
  | .move _ => true
  | .assign _ => true
  | _ => false)
/-- It looks at no memory, and hangs on nothing but what looks at none. -/
def isMv (ops : Array Oper) (o : Oper) : Bool := mv0 o || ((o.after.all fun e => !Region.binds .any e || (match ops[e.on]? with | some p => mv0 p | none => false)) && (match o.op with
  | .move _ => true
  | .assign _ => true
  | .binOp _ _ _ _ _ => true
  | _ => false))
def depOn (ops : Array Oper) (i c : Nat) : Bool := match ops[c]? with
  | some oc => oc.after.any fun e => Region.binds .any e && e.on == i
  | none => false
/-- Somebody may still have to look. -/
def needB (ops : Array Oper) (k : Nat) (listed : Array Bool) : Bool := (List.range k).any fun i => match ops[i]? with
  | some oi => !isMv ops oi && (List.range ops.size).all fun c => !depOn ops i c || !listed.getD c false
  | none => false

theorem depOn_iff {ops : Array Oper} {i c : Nat} : depOn ops i c = true ↔ ∃ oc, ops[c]? = some oc ∧ ∃ e ∈ oc.after, Region.binds .any e = true ∧ e.on = i := by
  unfold depOn
  split
  · rename_i oc h
    simp only [h, Option.some.injEq, exists_eq_left', Array.any_eq_true', Bool.and_eq_true, beq_iff_eq]
  · rename_i h; simp [h]
theorem needB_iff {ops : Array Oper} {k : Nat} {listed : Array Bool} : needB ops k listed = true ↔ ∃ i oi, i < k ∧ ops[i]? = some oi ∧ isMv ops oi = false ∧ ∀ c, depOn ops i c = true → listed.getD c false = false := by
  unfold needB
  simp only [List.any_eq_true, List.mem_range]
  constructor
  · rintro ⟨i, hi, h⟩
    split at h
    · rename_i oi hoi
      simp only [Bool.and_eq_true, Bool.not_eq_true', List.all_eq_true, List.mem_range, Bool.or_eq_true] at h
      refine ⟨i, oi, hi, hoi, h.1, fun c hc => ?_⟩
      obtain ⟨oc, h1, _⟩ := depOn_iff.1 hc
      have := h.2 c (Array.getElem?_eq_some_iff.1 h1).1
      rcases this with h2 | h2
      · rw [hc] at h2; cases h2
      · exact h2
    · cases h
  · rintro ⟨i, oi, hi, hoi, h1, h2⟩
    refine ⟨i, hi, ?_⟩
    simp only [hoi, h1, Bool.not_false, Bool.true_and, List.all_eq_true, List.mem_range, Bool.or_eq_true, Bool.not_eq_true']
    intro c _
    cases hc : depOn ops i c
    · exact .inl rfl
    · exact .inr (h2 c hc)

section
variable {P : Program} {ops : Array Oper} {Q : Exit → Act → World → Prop} {S : World → Prop} {k : Nat}
/-- Whichever order comes up; and behind each operation S holds, if somebody may still have to look. -/
def wpAnyT (P : Program) (ops : Array Oper) (Q : Exit → Act → World → Prop) (S : World → Prop) (k : Nat) : Nat → Array Bool → Act → World → Prop
  | 0, listed, a, w => Region.ready .any ops listed = [] ∧ Q .normal a w
  | fuel + 1, listed, a, w => (Region.ready .any ops listed = [] → Q .normal a w) ∧
    ∀ i ∈ Region.ready .any ops listed, wpOp P ops Q i (fun a' w' => (needB ops k (listed.setIfInBounds i true) = true → S w') ∧ wpAnyT P ops Q S k fuel (listed.setIfInBounds i true) a' w') a w

theorem wpAny_of_T : ∀ (fuel : Nat) (listed : Array Bool) (a : Act) (w : World), wpAnyT P ops Q S k fuel listed a w → wpAny P .any ops Q fuel listed a w
  | 0, _, _, _, h => h
  | fuel + 1, _, _, _, h => ⟨h.1, fun i hi => wpOp_mono (fun a' w' h' => wpAny_of_T fuel _ a' w' h'.2) (h.2 i hi)⟩

theorem ready_dep {listed : Array Bool} {i j : Nat} (hi : listed.getD i true = false) (hj : j ∈ Region.ready .any ops listed) : depOn ops i j = false := by
  cases hd : depOn ops i j with
  | false => rfl
  | true =>
    obtain ⟨oc, h1, e, he, hb, hon⟩ := depOn_iff.1 hd
    obtain ⟨_, o, ho, hall⟩ := mem_ready.1 hj
    rw [h1] at ho; cases ho
    have h2 := hall e he hb
    rw [hon] at h2
    rcases Nat.lt_or_ge i listed.size with h' | h'
    · simp [h'] at hi h2; rw [hi] at h2; cases h2
    · simp [Array.getElem?_eq_none h'] at h2

theorem getD_set_false {listed : Array Bool} {i c : Nat} (h : listed.getD c false = false) (hne : c ≠ i) : (listed.setIfInBounds i true).getD c false = false := by rw [getD_set_ne false (Ne.symm hne)]; exact h
theorem getD_unset {listed : Array Bool} {i c : Nat} (h : (listed.setIfInBounds i true).getD c false = false) : listed.getD c false = false := by
  cases hx : listed.getD c false with
  | false => rfl
  | true => rw [getD_set_true hx] at h; cases h

/-- An operation that looks may be taken first. -/
theorem wpAnyT_first {i : Nat} {oi : Oper} {v : Value} (hi : ops[i]? = some oi) (hik : i < k) (hsel : ∀ (j : Nat) (o : Oper) cs b, ops[j]? = some o → o.op ≠ .select cs b) (hQ : ∀ c a w, ¬ Q (.panic c) a w) :
    ∀ (fuel : Nat) (listed : Array Bool) (a : Act) (w : World),
      (∀ j oj, ops[j]? = some oj → j ≠ i → listed.getD j true = false → (∀ e ∈ oj.after, Region.binds .any e = true → e.on ≠ i) → oi.apart ops oj = true) →
      i ∈ Region.ready .any ops listed → (∀ c, depOn ops i c = true → listed.getD c false = false) → YieldsIf P ops (fun w => isMv ops oi = false → S w) oi v a → (needB ops k listed = true → S w) →
      wpAnyT P ops Q S k fuel (listed.setIfInBounds i true) (a.put oi.dst v) w → wpAnyT P ops Q S k (fuel + 1) listed a w := by
  have hT : ∀ (listed : Array Bool) (w : World), (∀ c, depOn ops i c = true → listed.getD c false = false) → (needB ops k listed = true → S w) → isMv ops oi = false → S w := fun listed w hdep hreq hm => hreq (needB_iff.2 ⟨i, oi, hik, hi, hm, hdep⟩)
  have hanti : ∀ (listed : Array Bool) (j : Nat), needB ops k (listed.setIfInBounds j true) = true → needB ops k listed = true := fun listed j hx => by
    obtain ⟨i0, o0, h1, h2, h3, h4⟩ := needB_iff.1 hx
    exact needB_iff.2 ⟨i0, o0, h1, h2, h3, fun c hc => getD_unset (h4 c hc)⟩
  intro fuel
  induction fuel with
  | zero =>
    intro listed a w _ hr hdep hy hreq H
    refine ⟨fun h => (by rw [h] at hr; cases hr), fun j hj => ?_⟩
    by_cases hji : j = i
    · subst hji; exact hy.wpOp hi (hT listed w hdep hreq) ⟨fun hx => hreq (hanti _ _ hx), H⟩
    · have := ready_mono hj hji
      rw [H.1] at this
      cases this
  | succ fuel ih =>
    intro listed a w hfree hr hdep hy hreq H
    refine ⟨fun h => (by rw [h] at hr; cases hr), fun j hj => ?_⟩
    by_cases hji : j = i
    · subst hji; exact hy.wpOp hi (hT listed w hdep hreq) ⟨fun hx => hreq (hanti _ _ hx), H⟩
    · have h1 := H.2 j (ready_mono hj hji)
      obtain ⟨hjun, oj, hoj, hall⟩ := mem_ready.1 hj
      have hiun := (mem_ready.1 hr).1
      have hdj : depOn ops i j = false := ready_dep hiun hj
      have hdi : depOn ops i i = false := ready_dep hiun hr
      have hnot : ∀ e ∈ oj.after, Region.binds .any e = true → e.on ≠ i := fun e he hb heq => by
        have : depOn ops i j = true := depOn_iff.2 ⟨oj, hoj, e, he, hb, heq⟩
        rw [hdj] at this; cases this
      have h2 := wpOp_putIf hoj (hfree j oj hoj hji hjun hnot) (fun cs b => hsel i oi cs b hi) (fun cs b => hsel j oj cs b hoj) (fun c a w h => absurd h (hQ c _ w)) hy h1
      have hfree' : ∀ m om, ops[m]? = some om → m ≠ i → (listed.setIfInBounds j true).getD m true = false →
          (∀ e ∈ om.after, Region.binds .any e = true → e.on ≠ i) → oi.apart ops om = true := fun m om hm hmi hun hno => by
        refine hfree m om hm hmi ?_ hno
        by_cases hjm : j = m
        · subst hjm; exact hjun
        · rw [getD_set_ne true hjm] at hun; exact hun
      have hdep' : ∀ c, depOn ops i c = true → (listed.setIfInBounds j true).getD c false = false := fun c hc =>
        getD_set_false (hdep c hc) (fun h => by subst h; rw [hdj] at hc; cases hc)
      have hreq' : needB ops k (listed.setIfInBounds j true) = true → needB ops k ((listed.setIfInBounds i true).setIfInBounds j true) = true := fun hx => by
        rw [Array.setIfInBounds_comm _ _ (Ne.symm hji)]
        obtain ⟨i0, o0, q1, q2, q3, q4⟩ := needB_iff.1 hx
        cases hd0 : depOn ops i0 i with
        | false =>
          exact needB_iff.2 ⟨i0, o0, q1, q2, q3, fun c hc => getD_set_false (q4 c hc) (fun h => by subst h; rw [hd0] at hc; cases hc)⟩
        | true =>
          refine needB_iff.2 ⟨i, oi, hik, hi, ?_, fun c hc => getD_set_false (hdep' c hc) (fun h => by subst h; rw [hdi] at hc; cases hc)⟩
          obtain ⟨oc, e1, hex⟩ := depOn_iff.1 hd0
          rw [hi] at e1; cases e1
          cases hm0 : isMv ops oi with
          | false => rfl
          | true =>
            obtain ⟨e, he, hb, hon⟩ := ‹∃ e ∈ oi.after, Region.binds .any e = true ∧ e.on = i0›
            simp only [isMv, mv0, Bool.or_eq_true, Bool.and_eq_true, Array.all_eq_true_iff_forall_mem, Bool.not_eq_true'] at hm0
            rcases hm0 with hm0 | hm0
            · have := hm0.1 e he
              rw [hb] at this; cases this
            · rcases hm0.1 e he with h4 | h4
              · rw [hb] at h4; cases h4
              · rw [hon, q2] at h4
                have : isMv ops o0 = true := by
                  simp only [isMv, mv0, Bool.or_eq_true, Bool.and_eq_true, Array.all_eq_true_iff_forall_mem, Bool.not_eq_true']
                  exact .inl (by simpa only [mv0, Bool.and_eq_true, Array.all_eq_true_iff_forall_mem, Bool.not_eq_true'] using h4)
                rw [this] at q3; cases q3
      refine wpOp_mono (fun a' w' h3 => ⟨fun hx => h3.2.1 (hreq' hx), ih (listed.setIfInBounds j true) a' w' hfree' (ready_mono hr (Ne.symm hji)) hdep' h3.1 (fun hx => h3.2.1 (hreq' hx)) ?_⟩) h2
      rw [Array.setIfInBounds_comm _ _ hji]
      exact h3.2.2
end

def pureOp (o : Oper) : Bool := match o.op with
  | .call { callee := .value _, .. } => false
  | _ => true
def lst (ops : Array Oper) : Nat → Array Bool
  | 0 => Array.replicate ops.size false
  | m + 1 => (lst ops m).setIfInBounds m true
/-- Up to k the operations look, and none hangs on an order; from k on each waits for the one ahead. -/
def mixB (wr : Nat → Option Nat) (ops : Array Oper) (k : Nat) : Bool :=
  (Region.noSelect ops && ops.all (fun o => o.guard.isNone) && decide (k ≤ ops.size)) &&
  (List.range k).all (fun i => Region.free .any ops (lst ops i) i && (Region.ready .any ops (lst ops i)).contains i && (List.range ops.size).all (fun c => !depOn ops i c || !(lst ops i).getD c false) && (match ops[i]? with | some o => pureOp o | none => false)) &&
  (List.range ops.size).all (fun m => decide (m < k) || (Region.ready .any ops (lst ops m) == [m] && (!needB ops k (lst ops (m + 1)) || (match ops[m]? with | some o => keepOp wr o | none => false)))) &&
  Region.ready .any ops (lst ops ops.size) == []
def cutL : List Oper → Nat
  | [] => 0
  | o :: l => if pureOp o && !noisyOp o then cutL l + 1 else 0
def cutK (ops : Array Oper) : Nat := cutL ops.toList
/-- Such regions are cut in two. -/
def tr : Code → Code
  | .seq a b => .seq (tr a) (tr b)
  | .cond c a b => .cond c (tr a) (tr b)
  | .block i c => .block i (tr c)
  | .loop c => .loop (tr c)
  | .region i ops q => if (q && noisy ops) = true then .seq (.region i ⟨ops.toList.take (cutK ops)⟩ true) (.region i ⟨ops.toList.drop (cutK ops)⟩ false) else .region i ops q
  | c => c
def okCodeX (wr : Nat → Option Nat) (n : Nat) : Code → Bool
  | .seq a b => okCodeX wr n a && okCodeX wr n b
  | .cond _ a b => okCodeX wr n a && okCodeX wr n b
  | .block _ c => okCodeX wr n c
  | .loop c => okCodeX wr n c
  | .region _ ops q => ops.all (fun o => match o.dst with | some d => decide (d < n) | none => true) && (if (q && noisy ops) = true then mixB wr ops (cutK ops) else !q || Region.lexB .any ops)
  | _ => true

theorem move_any {ops : Array Oper} (hC : CfgOk C) (hR : Rel n w0 F0 S0 G F μ fp [] σ a w) (h : isMv ops o = true) (hs : opF C o σ = some σ') : ∃ v, ∀ w', (execOp a.eval o).run C.P w' = .ok (.value v) w' := by
  have h1 : (∃ x, o.op = .move x) ∨ (∃ x, o.op = .assign x) ∨ ∃ b t x y t', o.op = .binOp b t x y t' := by
    simp only [isMv, mv0, Bool.or_eq_true, Bool.and_eq_true] at h
    rcases h with ⟨_, h⟩ | ⟨_, h⟩
    · split at h
      · rename_i x ho; exact .inl ⟨x, ho⟩
      · rename_i x ho; exact .inr (.inl ⟨x, ho⟩)
      · cases h
    · split at h
      · rename_i x ho; exact .inl ⟨x, ho⟩
      · rename_i x ho; exact .inr (.inl ⟨x, ho⟩)
      · rename_i b t x y t' ho; exact .inr (.inr ⟨b, t, x, y, t', ho⟩)
      · cases h
  rcases h1 with ⟨x, ho⟩ | ⟨x, ho⟩ | ⟨b, t, x, y, t', ho⟩
  · exact ⟨a.eval x, fun w' => by simp [execOp, ho]⟩
  · exact ⟨a.eval x, fun w' => by simp [execOp, ho]⟩
  · have hr : ∃ r, binF C b t (σ.get x) (σ.get y) = some r := by
      simp only [opF, ho, Option.bind_eq_bind, Option.bind_eq_some_iff] at hs
      obtain ⟨v, hv, _⟩ := hs
      exact ⟨v, hv⟩
    obtain ⟨r, hr⟩ := hr
    obtain ⟨⟨v, hv, _⟩, hg⟩ := run_binF (F := F) (μ := μ) (fp := fp) (w := w) hC x y (hR.get x) (hR.get y) hr
    exact ⟨v, fun w' => by simp only [execOp, ho, Sem.run_bind, hg w', Result.andThen_ok, hv w', Sem.run_pure]⟩

theorem guard_none {ops : Array Oper} (h : (ops.all fun o => o.guard.isNone) = true) {o : Oper} (ho : o ∈ ops) : o.guard = none := by
  have := Array.all_eq_true_iff_forall_mem.1 h o ho
  simpa using this

theorem chain_wp (hC : CfgOk C) (hD : SpecOk C D) {ops ops2 : Array Oper} {k : Nat} (hmix : mixB C.wrt ops k = true) (hdst : ∀ d o, o ∈ ops → o.dst = some d → d < n) {K : St → Prop} {Q : Exit → Act → World → Prop} (hn : ∀ σ' a' w', K σ' → Stands n w0 F0 S0 G σ' a' w' → Q .normal a' w') (w1 : World) :
    ∀ (l : List Oper) (i : Nat) (σ : St) (a : Act) (w : World), ops.toList.drop i = l → k ≤ i → i ≤ ops.size → Stands n w0 F0 S0 G σ a w → (needB ops k (lst ops i) = true → KeptS w1 w (fun _ => False)) → opsW C D false ops2 K l σ →
      wpAnyT C.P ops Q (fun w' => KeptS w1 w' (fun _ => False)) k (ops.size - i) (lst ops i) a w
  | [], i, σ, a, w, hl, hk, hi, h, hreq, hW => by
    have hlen : ops.size - i = 0 := by have := congrArg List.length hl; simpa using this
    have : i = ops.size := by omega
    subst this
    rw [Nat.sub_self]
    simp only [mixB, Bool.and_eq_true, beq_iff_eq] at hmix
    exact ⟨hmix.2, hn _ _ _ hW h⟩
  | o :: l, i, σ, a, w, hl, hk, hi, h, hreq, hW => by
    have hlen : ops.size - i = l.length + 1 := by have := congrArg List.length hl; simpa using this
    have ho : ops[i]? = some o := by
      have : (ops.toList.drop i)[0]? = some o := by rw [hl]; rfl
      simpa using this
    have hl' : ops.toList.drop (i + 1) = l := by rw [← List.drop_drop, hl]; rfl
    have hm : o ∈ ops := Array.mem_of_getElem? ho
    have hmix0 := hmix
    simp only [mixB, Bool.and_eq_true, List.all_eq_true, List.mem_range, Bool.or_eq_true, decide_eq_true_eq, beq_iff_eq, Bool.not_eq_true'] at hmix
    obtain ⟨⟨⟨⟨⟨hsel, hg⟩, hkl⟩, hpre⟩, hch⟩, hend⟩ := hmix
    obtain ⟨hrd, hneed⟩ := (hch i (by omega)).resolve_left (by omega)
    have hgn := guard_none hg hm
    have hle : l.length = ops.size - (i + 1) := by omega
    rw [hlen]
    refine ⟨fun h0 => (by rw [hrd] at h0; cases h0), fun j hj => ?_⟩
    rw [hrd] at hj
    obtain rfl : j = i := by simpa using hj
    unfold wpOp
    simp only [ho]
    rw [if_pos (by unfold Region.wanted; rw [hgn])]
    have hW : opW C D false o (opsW C D false ops2 K l) σ := by
      simp only [opsW, guardOf, hgn, Option.map_none, guardW] at hW; exact hW
    refine .inl (op_wpK hC hD h (fun k hk => hdst k o hm hk) hW fun σ' a' w' hK h' hkeep => ?_)
    have hreq' : needB ops k (lst ops (j + 1)) = true → KeptS w1 w' (fun _ => False) := fun hx => by
      have h1 : keepOp C.wrt o = true := by
        rcases hneed with h2 | h2
        · rw [hx] at h2; cases h2
        · rw [ho] at h2; exact h2
      have h3 : needB ops k (lst ops j) = true := by
        obtain ⟨i0, o0, q1, q2, q3, q4⟩ := needB_iff.1 hx
        exact needB_iff.2 ⟨i0, o0, q1, q2, q3, fun c hc => getD_unset (q4 c hc)⟩
      exact (hreq h3).trans (hkeep h1) (fun _ _ h => h)
    refine ⟨hreq', ?_⟩
    rw [hle]
    exact chain_wp hC hD hmix0 hdst hn w1 l (j + 1) σ' a' w' hl' (by omega) (by omega) h' hreq' hK

theorem pre_wp (hC : CfgOk C) (hD : SpecOk C D) {ops ops1 ops2 : Array Oper} {k : Nat} (hmix : mixB C.wrt ops k = true) (hdst : ∀ d o, o ∈ ops → o.dst = some d → d < n) {K : St → Prop} {Q : Exit → Act → World → Prop} (hn : ∀ σ' a' w', K σ' → Stands n w0 F0 S0 G σ' a' w' → Q .normal a' w') (hQ : ∀ c a w, ¬ Q (.panic c) a w) (w1 : World) :
    ∀ (l : List Oper) (i : Nat) (σ : St) (a : Act), (ops.toList.take k).drop i = l → i ≤ k → Rel n w0 F0 S0 G F μ fp [] σ a w1 → opsW C D true ops1 (opsW C D false ops2 K (ops.toList.drop k)) l σ →
      wpAnyT C.P ops Q (fun w' => KeptS w1 w' (fun _ => False)) k (ops.size - i) (lst ops i) a w1
  | [], i, σ, a, hl, hi, h, hW => by
    have hmix0 := hmix
    simp only [mixB, Bool.and_eq_true, decide_eq_true_eq] at hmix
    obtain ⟨⟨⟨⟨_, hkl⟩, _⟩, _⟩, _⟩ := hmix
    have hlen : min k ops.size - i = 0 := by have := congrArg List.length hl; simpa using this
    obtain rfl : i = k := by omega
    exact chain_wp hC hD hmix0 hdst hn w1 _ i σ a w1 rfl (Nat.le_refl _) hkl ⟨_, _, _, h⟩ (fun _ => KeptS.refl _ _) hW
  | o :: l, i, σ, a, hl, hi, h, hW => by
    have hmix0 := hmix
    simp only [mixB, Bool.and_eq_true, List.all_eq_true, List.mem_range, Bool.or_eq_true, decide_eq_true_eq, beq_iff_eq, Bool.not_eq_true'] at hmix
    obtain ⟨⟨⟨⟨⟨hsel, hg⟩, hkl⟩, hpre⟩, hch⟩, hend⟩ := hmix
    have hlen : min k ops.size - i = l.length + 1 := by have := congrArg List.length hl; simpa using this
    have ho : ops[i]? = some o := by
      have : ((ops.toList.take k).drop i)[0]? = some o := by rw [hl]; rfl
      rw [List.getElem?_drop, List.getElem?_take_of_lt (by omega)] at this
      simpa using this
    have hl' : (ops.toList.take k).drop (i + 1) = l := by rw [← List.drop_drop, hl]; rfl
    have hm : o ∈ ops := Array.mem_of_getElem? ho
    have hgn := guard_none hg hm
    obtain ⟨⟨⟨hfree, hready⟩, hdep⟩, hpure⟩ := hpre i (by omega)
    rw [ho] at hpure
    have hW : opW C D true o (opsW C D true ops1 (opsW C D false ops2 K (ops.toList.drop k)) l) σ := by
      simp only [opsW, guardOf, hgn, Option.map_none, guardW] at hW; exact hW
    unfold opW at hW
    split at hW
    · rename_i ho'; simp [pureOp, ho'] at hpure
    obtain ⟨hlk, σ1, hs, hK⟩ := hW
    obtain ⟨v, x, rfl, hx, hr⟩ := looks_pure (a := a) hC h (hlk rfl) hs
    have hle : ops.size - i = (ops.size - (i + 1)) + 1 := by omega
    rw [hle]
    refine wpAnyT_first ho (by omega) (Region.noSelect_spec hsel) hQ _ (lst ops i) a w1 (Region.free_spec ho hfree) (by simpa using hready) (fun c hc => ?_) (v := v) (.inl ⟨by unfold Region.wanted; rw [hgn], fun w' hT => ?_⟩) (fun _ => KeptS.refl _ _) ?_
    · obtain ⟨oc, h1, _⟩ := depOn_iff.1 hc
      rcases hdep c (Array.getElem?_eq_some_iff.1 h1).1 with h2 | h2
      · rw [hc] at h2; cases h2
      · exact h2
    · cases hmv : isMv ops o with
      | false => exact hr w' (hT hmv)
      | true =>
        obtain ⟨v', hv'⟩ := move_any hC h hmv hs
        have h1 := hr w1 (KeptS.refl _ _)
        rw [hv' w1] at h1
        have : v' = v := by simpa using h1
        rw [hv' w', this]
    · exact pre_wp hC hD hmix0 hdst hn hQ w1 l (i + 1) _ _ hl' (by omega) (h.putO (fun k hk => hdst k o hm hk) hx) hK

/-! ### All code -/
def Ex.to : Ex → Exit
  | .normal => .normal
  | .exit i => .exit i
  | .ret => .ret

def post (n : Nat) (w0 : World) (F0 S0 : Nat → Prop) (G : Value → AV → Prop) (Q : Ex → St → Prop) : Exit → Act → World → Prop := fun e a w => ∃ e' σ, e = e'.to ∧ Q e' σ ∧ Stands n w0 F0 S0 G σ a w

theorem exists_least {p : Nat → Prop} (h : ∃ k, p k) : ∃ k, p k ∧ ∀ m, p m → k ≤ m := by
  obtain ⟨k, hk⟩ := h
  induction k using Nat.strongRecOn with
  | _ k ih =>
    by_cases hx : ∃ m, m < k ∧ p m
    · obtain ⟨m, hm, hp⟩ := hx
      exact ih m hm hp
    · exact ⟨k, hk, fun m hm => Nat.le_of_not_lt fun hlt => hx ⟨m, hlt, hm⟩⟩

open Classical in
noncomputable def leastOf (p : Nat → Prop) : Nat := if h : ∃ k, p k then Classical.choose (exists_least h) else 0

theorem leastOf_spec {p : Nat → Prop} {k : Nat} (hk : p k) : p (leastOf p) ∧ leastOf p ≤ k := by
  have h : ∃ k, p k := ⟨k, hk⟩
  have hs := Classical.choose_spec (exists_least h)
  unfold leastOf
  rw [dif_pos h]
  exact ⟨hs.1, hs.2 k hk⟩

/-- A slice that is nil may be told as an owned empty one. -/
theorem nil_ok {F : Nat → Prop} {μ : Nat → Option Nat} {fp : Nat → List Nat} {σ : St} {a : Act} {w : World} {s sz : Nat} (hr : Rel n w0 F0 S0 G F μ fp [] σ a w) (e0 : σ.sl s = .fro none true []) : Stands n w0 F0 S0 G (takeRes (some s) σ (.own sz [])) a w := by
  have h : RepL F w [a.tmps.getD s undef] [.fro none true []] [] := by
    have := hr.slots s
    rw [e0] at this
    exact this
  have h2 : RepL F w [a.tmps.getD s undef] [.own sz []] [] := by
    generalize a.tmps.getD s undef = v at h
    generalize hg : ([] : List Nat) = g at h
    cases h with
    | fro0 hc t =>
      cases t
      obtain rfl := hc rfl
      exact RepL.own0 .nil
    | fro hn hnc hc hb hcell hsz hu t =>
      cases t
      simp only [List.length_nil] at hn
      subst hn
      obtain rfl := hc rfl
      exact RepL.own0 .nil
  by_cases hs : s < n
  · obtain ⟨μ', fp', h3⟩ := takeRes_ok hr (dst := some s) (fun k hk => by cases hk; exact hs) (v := a.tmps.getD s undef) (r := .own sz []) h2
    have hp : a.put (some s) (a.tmps.getD s undef) = a := by
      have hlt : s < a.tmps.size := by rw [hr.size]; exact hs
      cases a
      simp only [Act.put] at hlt ⊢
      congr 1
      apply Array.ext
      · simp
      · intro i hi h
        rw [Array.getElem_setIfInBounds]
        split
        · rename_i hi; subst hi; simp
        · rfl
    rw [hp] at h3
    exact ⟨F, μ', fp', h3⟩
  · have hv : a.tmps.getD s undef = undef := by
      have hlt : ¬ s < a.tmps.size := by rw [hr.size]; exact hs
      simp [hlt]
    rw [hv] at h
    unfold undef at h
    generalize hg : ([] : List Nat) = g at h
    cases h

theorem W_soundX (hC : CfgOk C) (hD : SpecOk C D) : ∀ (c : Code) (Q : Ex → St → Prop) (σ : St) (a : Act) (w : World), okCodeX C.wrt n c = true → Stands n w0 F0 S0 G σ a w → W C D (tr c) Q σ → c.wp C.P (post n w0 F0 S0 G Q) a w
  | .skip, Q, σ, a, w, _, h, hW => wp_skip ⟨.normal, σ, rfl, hW, h⟩
  | .exit id, Q, σ, a, w, _, h, hW => wp_exit ⟨.exit id, σ, rfl, hW, h⟩
  | .ret, Q, σ, a, w, _, h, hW => wp_ret ⟨.ret, σ, rfl, hW, h⟩
  | .seq x y, Q, σ, a, w, ho, h, hW => by
    simp only [okCodeX, Bool.and_eq_true] at ho
    refine wp_seq (wp_mono (W_soundX hC hD x _ σ a w ho.1 h hW) ?_)
    rintro e a' w' ⟨e', σ', rfl, hq, hs⟩
    cases e' with
    | normal => exact W_soundX hC hD y Q σ' a' w' ho.2 hs hq
    | exit i => exact ⟨.exit i, σ', rfl, hq, hs⟩
    | ret => exact ⟨.ret, σ', rfl, hq, hs⟩
  | .cond c x y, Q, σ, a, w, ho, h, hW => by
    simp only [okCodeX, Bool.and_eq_true] at ho
    simp only [tr, W, condW] at hW
    obtain ⟨F, μ, fp, hr⟩ := h
    split at hW
    · rename_i d
      split at hW
      · rename_i b hb
        have hg := hr.get (.tmp d)
        have hv : a.eval (.tmp d) = .bool b := SRep.bool_inv (by simpa only [St.get, hb] using hg)
        refine wp_cond hv ?_
        cases b
        · have := hW.2 rfl
          rw [St.put_same hb] at this
          exact W_soundX hC hD y Q σ a w ho.2 ⟨F, μ, fp, hr⟩ this
        · have := hW.1 rfl
          rw [St.put_same hb] at this
          exact W_soundX hC hD x Q σ a w ho.1 ⟨F, μ, fp, hr⟩ this
      · exact hW.elim
    · rename_i b
      refine wp_cond (t := b) rfl ?_
      cases b
      · exact W_soundX hC hD y Q σ a w ho.2 ⟨F, μ, fp, hr⟩ (by simpa using hW)
      · exact W_soundX hC hD x Q σ a w ho.1 ⟨F, μ, fp, hr⟩ (by simpa using hW)
    · exact hW.elim
  | .block id c, Q, σ, a, w, ho, h, hW => by
    refine wp_block (wp_mono (W_soundX hC hD c _ σ a w ho h hW) ?_)
    rintro e a' w' ⟨e', σ', rfl, hq, hs⟩
    cases e' with
    | normal => exact ⟨.normal, σ', rfl, hq, hs⟩
    | exit i =>
      simp only [Ex.to, Exit.inBlock]
      split
      · rename_i hi
        exact ⟨.normal, σ', rfl, by simpa [hi] using hq, hs⟩
      · rename_i hi
        exact ⟨.exit i, σ', rfl, by simpa [hi] using hq, hs⟩
    | ret => exact ⟨.ret, σ', rfl, hq, hs⟩
  | .loop c, Q, σ, a, w, ho, h, hW => by
    simp only [tr, W] at hW
    obtain ⟨I, m, hI, hround⟩ := hW
    obtain ⟨σ, hI, h⟩ : ∃ σ, I σ ∧ Stands n w0 F0 S0 G σ a w := by
      rcases hI with hI | ⟨s, sz, e0, hI⟩
      · exact ⟨σ, hI, h⟩
      · obtain ⟨F, μ, fp, hr⟩ := h
        exact ⟨_, hI, nil_ok hr e0⟩
    refine wp_loop (I := fun a w => ∃ σ, I σ ∧ Stands n w0 F0 S0 G σ a w) (μ := fun a w => leastOf fun k => ∃ σ, I σ ∧ Stands n w0 F0 S0 G σ a w ∧ m σ = k) ⟨σ, hI, h⟩ ?_
    rintro a w ⟨σ1, hI1, hs1⟩
    obtain ⟨⟨σ2, hI2, hs2, hm2⟩, _⟩ := leastOf_spec (p := fun k => ∃ σ, I σ ∧ Stands n w0 F0 S0 G σ a w ∧ m σ = k) ⟨σ1, hI1, hs1, rfl⟩
    refine wp_mono (W_soundX hC hD c _ σ2 a w ho hs2 (hround σ2 hI2)) ?_
    rintro e a' w' ⟨e', σ', rfl, hq, hs⟩
    cases e' with
    | normal =>
      refine ⟨⟨σ', hq.1, hs⟩, ?_⟩
      obtain ⟨_, hle⟩ := leastOf_spec (p := fun k => ∃ σ, I σ ∧ Stands n w0 F0 S0 G σ a' w' ∧ m σ = k) ⟨σ', hq.1, hs, rfl⟩
      have := hq.2
      omega
    | exit i => exact ⟨.exit i, σ', rfl, hq, hs⟩
    | ret => exact ⟨.ret, σ', rfl, hq, hs⟩
  | .region id ops q, Q, σ, a, w, ho, h, hW => by
    simp only [okCodeX, Bool.and_eq_true] at ho
    obtain ⟨h1, h2⟩ := ho
    have hdst : ∀ d o, o ∈ ops → o.dst = some d → d < n := by
      intro d o hm hd
      have := Array.all_eq_true_iff_forall_mem.1 h1 o hm
      rw [hd] at this
      simpa using this
    have hn : ∀ σ' a' w', Q .normal σ' → Stands n w0 F0 S0 G σ' a' w' → post n w0 F0 S0 G Q .normal a' w' := fun σ' a' w' hq hs => ⟨.normal, σ', rfl, hq, hs⟩
    cases q with
    | false =>
      refine wp_region ?_
      have hW : W C D (.region id ops false) Q σ := hW
      have := ops_wp hC hD hdst hn ops.toList 0 σ a w rfl h hW
      rw [List.range_eq_range']
      simpa using this
    | true =>
      obtain ⟨F, μ, fp, hr⟩ := h
      have hkw : KeptS w { w with drawn := w.drawn + 1 } (fun _ => False) := ⟨rfl, rfl, rfl, Nat.le_refl _, fun _ _ _ => rfl, fun _ cur _ _ h => ⟨cur, h, rfl⟩⟩
      by_cases hno : noisy ops = true
      · rw [hno] at h2
        have h2 : mixB C.wrt ops (cutK ops) = true := h2
        have hW : W C D (tr (.region id ops true)) Q σ := hW
        have htr : tr (.region id ops true) = .seq (.region id ⟨ops.toList.take (cutK ops)⟩ true) (.region id ⟨ops.toList.drop (cutK ops)⟩ false) := by
          simp only [tr, hno, Bool.and_self, if_true]
        rw [htr] at hW
        have hW : opsW C D true ⟨ops.toList.take (cutK ops)⟩ (opsW C D false ⟨ops.toList.drop (cutK ops)⟩ (Q .normal) (ops.toList.drop (cutK ops))) (ops.toList.take (cutK ops)) σ := hW
        obtain ⟨F', μ', fp', hr'⟩ := hr.later hkw
        refine wp_region_any hC.mixed (wpAny_of_T (S := fun w' => KeptS { w with drawn := w.drawn + 1 } w' (fun _ => False)) (k := cutK ops) _ _ _ _ ?_)
        exact pre_wp hC hD h2 hdst hn (fun c a w ⟨e', _, h, _⟩ => by cases e' <;> cases h) _ _ 0 σ a rfl (Nat.zero_le _) hr' hW
      · have hno : noisy ops = false := by simpa using hno
        rw [hno] at h2
        have h2 : Region.lexB .any ops = true := by simpa using h2
        have hW : W C D (tr (.region id ops true)) Q σ := hW
        have htr : tr (.region id ops true) = .region id ops true := by simp [tr, hno]
        rw [htr] at hW
        refine wp_region_quiet (C := fun w' => KeptS w w' (fun _ => False)) hC.mixed h2 hkw ?_
        exact opsQ_wp hC hD hdst hn ops.toList σ a (fun o ho => by simpa using ho) hr hW

theorem okCode_tr : ∀ (c : Code) (wr : Nat → Option Nat), okCode n c = true → okCodeX wr n c = true ∧ tr c = c
  | .seq x y, wr, h => by
    simp only [okCode, Bool.and_eq_true] at h
    obtain ⟨h1, h2⟩ := okCode_tr x wr h.1
    obtain ⟨h3, h4⟩ := okCode_tr y wr h.2
    simp only [okCodeX, tr, h1, h2, h3, h4, Bool.and_self, and_self]
  | .cond c x y, wr, h => by
    simp only [okCode, Bool.and_eq_true] at h
    obtain ⟨h1, h2⟩ := okCode_tr x wr h.1
    obtain ⟨h3, h4⟩ := okCode_tr y wr h.2
    simp only [okCodeX, tr, h1, h2, h3, h4, Bool.and_self, and_self]
  | .block _ c, wr, h => by
    simp only [okCode] at h
    obtain ⟨h1, h2⟩ := okCode_tr c wr h
    simp only [okCodeX, tr, h1, h2, and_self]
  | .loop c, wr, h => by
    simp only [okCode] at h
    obtain ⟨h1, h2⟩ := okCode_tr c wr h
    simp only [okCodeX, tr, h1, h2, and_self]
  | .region _ ops q, wr, h => by
    simp only [okCode, Bool.and_eq_true, Bool.not_eq_true'] at h
    obtain ⟨⟨h1, h2⟩, h3⟩ := h
    simp only [okCodeX, tr, h3, Bool.false_eq_true, if_false, h1, h2, Bool.and_self, and_self]
  | .skip, _, _ | .exit _, _, _ | .ret, _, _ | .rangeFunc _ _ _ _, _, _ | .scope _, _, _ | .label _, _, _ | .goto _, _, _ | .refuse _, _, _ => ⟨rfl, rfl⟩

theorem W_sound (hC : CfgOk C) (hD : SpecOk C D) (c : Code) (Q : Ex → St → Prop) (σ : St) (a : Act) (w : World) (ho : okCode n c = true) (h : Stands n w0 F0 S0 G σ a w) (hW : W C D c Q σ) : c.wp C.P (post n w0 F0 S0 G Q) a w := by
  obtain ⟨h1, h2⟩ := okCode_tr c C.wrt ho
  exact W_soundX hC hD c Q σ a w h1 h (by rw [h2]; exact hW)

end
end Go.Vm
