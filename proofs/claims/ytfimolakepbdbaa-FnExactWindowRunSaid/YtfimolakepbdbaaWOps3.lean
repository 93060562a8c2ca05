/- Reads, continued: lengths, parts of slices and strings, what lies behind an address. -/
import Derived.Test.YtfimolakepbdbaaWOps2
import Derived.Laws.Slices
namespace Go.Vm

section
variable {C : Cfg} {n : Nat} {w0 : World} {F0 S0 F : Nat → Prop} {G : Value → AV → Prop} {μ : Nat → Option Nat} {fp : Nat → List Nat} {L : List Nat} {σ σ' : St} {a : Act} {w w' : World} {o : Oper}

theorem run_lenOp {v : Value} {m : Nat} {t : TypeId} {d : TD} {x : AV} (hd : descOk C.P t d) (hx : SRep F w σ.en μ fp v x) (hm : lenF σ d x = some m) (ty : TypeId) (w' : World) : (Builtin.len_ #[t] ty #[v]).run C.P w' = .ok (.int .i64 m) w' := by
  unfold lenF at hm
  split at hm
  · have hd : C.P.underlying t = some .string := hd
    obtain rfl := SRep.str_inv hx
    cases hm
    simp [Builtin.len_, run_underlying hd, goInt]
  · rename_i e tg clip l
    have hd : C.P.underlying t = some (.slice e) := hd
    simp only [Option.bind_eq_bind, Option.bind_eq_some_iff] at hm
    obtain ⟨_, hv, hm⟩ := hm
    cases hm
    obtain ⟨F', hF', _⟩ := fro_valid hx hv
    have hl : (if tg.isSome then l.map froize else l).length = l.length := by split <;> simp
    obtain ⟨_, ⟨he, A, c, rfl, _⟩ | ⟨b, o, c, sz, us, rfl, _⟩⟩ := hF'.fro_inv
    · rw [he] at hl
      simp [Builtin.len_, run_underlying hd, goInt, ← hl]
    · simp [Builtin.len_, run_underlying hd, goInt, hl]
  · rename_i e' e g off len clip
    have hd : C.P.underlying t = some (.slice e') := hd
    simp only [Option.bind_eq_bind, Option.bind_eq_some_iff] at hm
    obtain ⟨E, hE, hm⟩ := hm
    cases hm
    obtain ⟨hl, he, rfl⟩ := cur_some hE
    obtain ⟨A, c, rfl, _⟩ := hx.2 hl he
    simp [Builtin.len_, run_underlying hd, goInt]
  · cases hm

theorem run_capOp {v : Value} {m : Nat} {t : TypeId} {d : TD} {x : AV} (hd : descOk C.P t d) (hx : SRep F w σ.en μ fp v x) (hm : capF σ d x = some m) (ty : TypeId) (w' : World) : (Builtin.cap_ #[t] ty #[v]).run C.P w' = .ok (.int .i64 m) w' := by
  unfold capF at hm
  split at hm
  · rename_i e tg l
    have hd : C.P.underlying t = some (.slice e) := hd
    simp only [Option.bind_eq_bind, Option.bind_eq_some_iff] at hm
    obtain ⟨_, hv, hm⟩ := hm
    cases hm
    obtain ⟨F', hF', _⟩ := fro_valid hx hv
    have hl : (if tg.isSome then l.map froize else l).length = l.length := by split <;> simp
    obtain ⟨_, ⟨he, A, c, rfl, hc⟩ | ⟨b, o, c, sz, us, rfl, _, hc, _⟩⟩ := hF'.fro_inv
    · rw [he] at hl
      obtain rfl := hc rfl
      simp [Builtin.cap_, run_underlying hd, goInt, ← hl]
    · obtain rfl := hc rfl
      simp [Builtin.cap_, run_underlying hd, goInt, hl]
  · rename_i e' e g off len
    have hd : C.P.underlying t = some (.slice e') := hd
    simp only [Option.bind_eq_bind, Option.bind_eq_some_iff] at hm
    obtain ⟨E, hE, hm⟩ := hm
    cases hm
    obtain ⟨hl, he, rfl⟩ := cur_some hE
    obtain ⟨A, c, rfl, _, hc, _⟩ := hx.2 hl he
    obtain rfl := hc rfl
    simp [Builtin.cap_, run_underlying hd, goInt]
  · cases hm

theorem run_min : ∀ {xs : List AV} {vs : List Value} {x r : AV} {v : Value}, SRep F w σ.en μ fp v x → All2 (fun v x => SRep F w σ.en μ fp v x) vs xs → minF x xs = some r → ∃ u, (∀ w', (vs.foldlM Builtin.min2 v).run C.P w' = .ok u w') ∧ SRep F w σ.en μ fp u r
  | [], [], x, r, v, hx, _, hr => by cases hr; exact ⟨v, fun w' => by simp, hx⟩
  | y :: ys, u :: us, x, r, v, hx, ⟨h1, h2⟩, hr => by
    unfold minF at hr
    split at hr
    · rename_i heq; cases heq
    · rename_i k a' k' b rest heq
      cases heq
      split at hr
      · rename_i hk
        subst hk
        obtain rfl := SRep.int_inv hx
        obtain rfl := SRep.int_inv h1
        obtain ⟨u, hu, hur⟩ := run_min (x := .int k (if b < a' then b else a')) (v := .int k (if b < a' then b else a')) (RepL.int .nil) h2 hr
        exact ⟨u, fun w' => by simp only [List.foldlM_cons, Sem.run_bind, Builtin.min2, Sem.run_pure, Result.andThen_ok, hu], hur⟩
      · cases hr
    · cases hr
  | [], _ :: _, _, _, _, _, h, _ => h.elim
  | _ :: _, [], _, _, _, _, h, _ => h.elim

theorem run_max : ∀ {xs : List AV} {vs : List Value} {x r : AV} {v : Value}, SRep F w σ.en μ fp v x → All2 (fun v x => SRep F w σ.en μ fp v x) vs xs → maxF x xs = some r → ∃ u, (∀ w', (vs.foldlM Builtin.max2 v).run C.P w' = .ok u w') ∧ SRep F w σ.en μ fp u r
  | [], [], x, r, v, hx, _, hr => by cases hr; exact ⟨v, fun w' => by simp, hx⟩
  | y :: ys, u :: us, x, r, v, hx, ⟨h1, h2⟩, hr => by
    unfold maxF at hr
    split at hr
    · rename_i heq; cases heq
    · rename_i k a' k' b rest heq
      cases heq
      split at hr
      · rename_i hk
        subst hk
        obtain rfl := SRep.int_inv hx
        obtain rfl := SRep.int_inv h1
        obtain ⟨u, hu, hur⟩ := run_max (x := .int k (if a' < b then b else a')) (v := .int k (if a' < b then b else a')) (RepL.int .nil) h2 hr
        exact ⟨u, fun w' => by simp only [List.foldlM_cons, Sem.run_bind, Builtin.max2, Sem.run_pure, Result.andThen_ok, hu], hur⟩
      · cases hr
    · cases hr
  | [], _ :: _, _, _, _, _, h, _ => h.elim
  | _ :: _, [], _, _, _, _, h, _ => h.elim

theorem All2.of_map {α β γ : Type} {R : β → γ → Prop} {f : α → β} {g : α → γ} (h : ∀ x, R (f x) (g x)) : ∀ l : List α, All2 R (l.map f) (l.map g)
  | [] => trivial
  | x :: xs => ⟨h x, All2.of_map h xs⟩

theorem exec_builtin {b : Builtin} {args : Array Operand} {argTypes : Array TypeId} (ho : o.op = .call { callee := .builtin b, args, argTypes }) : (execOp a.eval o) = builtin b argTypes o.type (args.map fun | .const _ => true | _ => false) (args.map a.eval) := by
  simp only [execOp, ho, resolve, invoke, pure_bind]
  congr 1

theorem op_convert (hC : CfgOk C) (h : Rel n w0 F0 S0 G F μ fp [] σ a w) {s t : TypeId} {x : Operand} {r : AV} (ho : o.op = .convert s t x) (hr : convF C s t (σ.get x) = some r) :
    OpPure C F μ fp σ o a w (σ.put o.dst r) := by
  simp only [convF, Option.bind_eq_bind, Option.bind_eq_some_iff] at hr
  obtain ⟨T, hT, U, hU, hr⟩ := hr
  have hTd := (hC.tt s T hT).desc
  have hUd := (hC.tt t U hU).desc
  have hx := h.get x
  split at hr
  · rename_i k k' i j h1 h2 h3
    rw [h3] at hx
    rw [h1] at hTd
    rw [h2] at hUd
    have hTd : C.P.underlying s = some (.int k) := hTd
    have hUd : C.P.underlying t = some (.int k') := hUd
    cases hr
    refine .mk' (v := .int k' (k'.wrap j)) ?_ (RepL.int .nil)
    intro w' _
    simp only [execOp, ho, SRep.int_inv hx, Sem.run_bind, convert, run_underlying hTd, run_underlying hUd, Result.andThen_ok, Conv.intToInt, Sem.run_pure]
  · rename_i b h1 h2 h3
    rw [h3] at hx
    rw [h1] at hTd
    rw [h2] at hUd
    have hTd : C.P.underlying s = some .string := hTd
    have hUd : C.P.underlying t = some .string := hUd
    cases hr
    refine .mk' (v := .string b) ?_ (RepL.str .nil)
    intro w' _
    simp only [execOp, ho, SRep.str_inv hx, Sem.run_bind, convert, run_underlying hTd, run_underlying hUd, Result.andThen_ok, Sem.run_pure]
  · cases hr

/-! ### Slices of slices -/
theorem intO_some {x : Option AV} {r : Option Int} (h : intO x = some r) : (x = none ∧ r = none) ∨ ∃ k i, x = some (.int k i) ∧ r = some i := by
  unfold intO at h
  split at h
  · cases h; exact .inl ⟨rfl, rfl⟩
  · cases h; exact .inr ⟨_, _, rfl, rfl⟩
  · cases h

theorem intO_eval (h : Rel n w0 F0 S0 G F μ fp L σ a w) {x : Option Operand} {r : Option Int} (hx : intO (x.map σ.get) = some r) : (x.map a.eval = none ∧ r = none) ∨ ∃ k i, x.map a.eval = some (.int k i) ∧ r = some i := by
  rcases intO_some hx with ⟨h1, h2⟩ | ⟨k, i, h1, h2⟩
  · simp at h1; subst h1; exact .inl ⟨rfl, h2⟩
  · obtain ⟨y, rfl, hy⟩ := Option.map_eq_some_iff.1 h1
    refine .inr ⟨k, i, ?_, h2⟩
    simp [SRep.int_inv (hy ▸ h.get y)]

theorem run_sliceBounds_gen (isS : Bool) {len cap : Nat} {lo hi mx : Option Value} {l h : Option Int} {m : Option Int} (hlo : (lo = none ∧ l = none) ∨ ∃ k i, lo = some (.int k i) ∧ l = some i) (hhi : (hi = none ∧ h = none) ∨ ∃ k i, hi = some (.int k i) ∧ h = some i)
    (hmx : (mx = none ∧ m = none) ∨ ∃ k i, mx = some (.int k i) ∧ m = some i) (h0 : 0 ≤ l.getD 0) (h1 : l.getD 0 ≤ h.getD len) (h2 : h.getD len ≤ cap) (h3 : m = none ∨ (m = some (h.getD len) ∧ h = some (h.getD len))) :
    (Instr.sliceBounds isS len cap lo hi mx).run C.P w = .ok ((l.getD 0).toNat, (h.getD len).toNat, (m.getD cap).toNat) w := by
  have eh : ((h.getD len).toNat : Int) = h.getD len := Int.toNat_of_nonneg (by omega)
  rcases hlo with ⟨rfl, rfl⟩ | ⟨k1, i1, rfl, rfl⟩ <;> rcases hhi with ⟨rfl, rfl⟩ | ⟨k2, i2, rfl, rfl⟩ <;> rcases hmx with ⟨rfl, rfl⟩ | ⟨k3, i3, rfl, rfl⟩ <;> simp at h0 h1 h2 h3 eh
  all_goals first | (obtain ⟨h3, _⟩ := h3) | skip
  all_goals try subst h3
  all_goals first
    | (have h00 : 0 ≤ i2 := by omega
       simp [Instr.sliceBounds, run_sliceBound, *]; done)
    | (simp [Instr.sliceBounds, run_sliceBound, *]; done)
    | skip

theorem run_slice_slice {t el : TypeId} {U : TI} (ht : C.P.underlying t = some (.slice el)) (hU : TIok C.P el U) {A : Option Addr} {len cap : Nat} {lo hi mx : Option Value} {l h m : Nat}
    (hb : (Instr.sliceBounds true len cap lo hi mx).run C.P w = .ok (l, h, m) w) : (Instr.sliceAt t (.slice A len cap) lo hi mx).run C.P w = .ok (.slice (if m = l then A else A.map (·.add (l * U.sz))) (h - l) (m - l)) w := by
  have e : C.P.elem t = el := by simp [Program.elem, ht]
  have ht' : C.P.underlying t = some (.slice (C.P.elem t)) := by rw [e]; exact ht
  rw [run_sliceAt_slice w t _ lo hi mx ht', run_slice_any w t A len cap ht', hb]
  simp only [Result.andThen_ok, e, hU.size, sliced]

theorem RepL.fro_cut {v : Value} {clip : Bool} {xs : List AV} {l h sz : Nat} (hx : RepL F w [v] [.fro none clip xs] []) (hs : ∀ y ∈ xs, (leaves y).length = sz) (h1 : l ≤ h) (h2 : h ≤ xs.length) :
    ∃ A c, v = .slice A xs.length c ∧ xs.length ≤ c ∧ (clip = true → c = xs.length) ∧ ∀ (m : Nat) (clip' : Bool), h ≤ m → m ≤ c → (clip' = true → m = h) → RepL F w [.slice (if m = l then A else A.map (·.add (l * sz))) (h - l) (m - l)] [.fro none clip' ((xs.take h).drop l)] [] := by
  obtain ⟨_, ⟨rfl, A, c, rfl, hc⟩ | ⟨b, o, c, sz', us, rfl, hlc, hc, hF, hcell, hs', hu⟩⟩ := hx.fro_inv
  · simp at h2
    subst h2
    obtain rfl : l = 0 := by omega
    refine ⟨A, c, rfl, by simp, fun h => by simp [hc h], fun m _ _ _ hm => ?_⟩
    simp
    exact .fro0 (by simpa using hm) .nil
  · refine ⟨_, c, rfl, hlc, hc, fun m _ hm hmc hcl => ?_⟩
    by_cases hl : m = l
    · obtain rfl : h = l := by omega
      subst hl
      have e : (xs.take m).drop m = [] := by simp
      rw [e]
      simp
      exact .fro0 (by simp) .nil
    · by_cases hlh : h = l
      · subst hlh
        have e : (xs.take h).drop h = [] := by simp
        rw [e, Nat.sub_self]
        exact .fro0 (fun h => by have := hcl h; omega) .nil
      · obtain rfl : sz' = sz := by
          cases xs with
          | nil => simp at h2; omega
          | cons x xs => rw [← hs x (by simp), ← hs' x (by simp)]
        obtain ⟨f1, f2, f3, hf, h3⟩ := RepL.sub l (h - l) hs' hu
        have : f2 = [] := by
          have := congrArg List.length hf
          simp at this
          exact List.length_eq_zero_iff.1 (by omega)
        subst this
        rw [if_neg hl]
        have e : (xs.take h).drop l = (xs.drop l).take (h - l) := by rw [List.drop_take]
        rw [e]
        simp only [Option.map_some, Addr.add_lit]
        refine .fro (o := o + l * sz') (sz := sz') (us := (us.drop (l * sz')).take ((h - l) * sz')) ?_ (by omega) (fun h => by have := hcl h; omega) hF (fun q hq => ?_) (fun y hy => hs' y (List.mem_of_mem_drop (List.mem_of_mem_take hy))) h3 .nil
        · simp; omega
        · rw [List.length_take, List.length_drop] at hq
          have := hcell (l * sz' + q) (by omega)
          rw [Nat.add_assoc, this, List.getElem?_take, if_pos (by omega), List.getElem?_drop]

/-- Looked at nothing. -/
def OpPureX (C : Cfg) (F : Nat → Prop) (μ : Nat → Option Nat) (fp : Nat → List Nat) (σ : St) (o : Oper) (a : Act) (w : World) (σ' : St) : Prop :=
  ∃ v x, σ' = σ.put o.dst x ∧ SRep F w σ.en μ fp v x ∧ ∀ w', (execOp a.eval o).run C.P w' = .ok (.value v) w'
theorem OpPureX.mk' {v : Value} {x : AV} (hr : ∀ w', (execOp a.eval o).run C.P w' = .ok (.value v) w') (hx : SRep F w σ.en μ fp v x) : OpPureX C F μ fp σ o a w (σ.put o.dst x) := ⟨v, x, rfl, hx, hr⟩
theorem OpPureX.pure {σ' : St} (h : OpPureX C F μ fp σ o a w σ') : OpPure C F μ fp σ o a w σ' := by
  obtain ⟨v, x, h1, h2, h3⟩ := h
  exact ⟨v, x, h1, h2, fun w' _ => h3 w'⟩
theorem op_sliceX (hC : CfgOk C) (h : Rel n w0 F0 S0 G F μ fp [] σ a w) {t : TypeId} {x : Operand} {lo hi mx : Option Operand} {r : AV} (ho : o.op = .slice t x lo hi mx)
    (hr : sliceF C σ t (σ.get x) (lo.map σ.get) (hi.map σ.get) (mx.map σ.get) = some r) : OpPureX C F μ fp σ o a w (σ.put o.dst r) := by
  simp only [sliceF, Option.bind_eq_bind, Option.bind_eq_some_iff] at hr
  obtain ⟨T, hT, l, hl, u, hu, m, hm, hr⟩ := hr
  have el := intO_eval h hl
  have eu := intO_eval h hu
  have em := intO_eval h hm
  have hTd := (hC.tt t T hT).desc
  have hx := h.get x
  have run : ∀ v w', (Instr.sliceAt t (a.eval x) (lo.map a.eval) (hi.map a.eval) (mx.map a.eval)).run C.P w' = .ok v w' → (execOp a.eval o).run C.P w' = .ok (.value v) w' := by
    intro v w' hv
    simp only [execOp, ho, Sem.run_bind, hv, Result.andThen_ok, Sem.run_pure]
  split at hr
  · rename_i s hds hxe
    rw [hxe] at hx
    rw [hds] at hTd
    have hTd : C.P.underlying t = some .string := hTd
    simp only [Option.bind_eq_some_iff] at hr
    obtain ⟨_, hb, hr⟩ := hr
    cases hr
    obtain ⟨h0, h1, h2, rfl⟩ := ensure_some hb
    have hv := SRep.str_inv hx
    obtain ⟨hmx, _⟩ : mx.map a.eval = none ∧ True := by
      rcases em with ⟨h, _⟩ | ⟨_, _, _, h⟩
      · exact ⟨h, trivial⟩
      · cases h
    refine .mk' (fun w' => run _ w' ?_) (x := .str (s.extract (l.getD 0).toNat (u.getD s.size).toNat)) (RepL.str .nil)
    have hbb := fun w' => run_sliceBounds_gen (C := C) (w := w') false (len := s.size) (cap := s.size) el eu (.inl ⟨rfl, rfl⟩) h0 h1 h2 (.inl rfl)
    rw [run_sliceAt_string w' t _ _ _ _ hTd, hv, hmx]
    simp only [Instr.slice, Sem.run_bind, run_underlying hTd, Result.andThen_ok, Option.isSome_none, Bool.false_eq_true, if_false, hbb w', Sem.run_pure]
  · rename_i e tg clip xs hds hxe
    rw [hxe] at hx
    rw [hds] at hTd
    have hTd : C.P.underlying t = some (.slice e) := hTd
    simp only [Option.bind_eq_some_iff] at hr
    obtain ⟨U, hU, _, hv, _, hb, _, hs, hr⟩ := hr
    cases hr
    obtain ⟨h0, h1, h2, h3⟩ := ensure_some hb
    have hs := ensure_some hs
    have eh : ((u.getD xs.length).toNat : Int) = u.getD xs.length := Int.toNat_of_nonneg (by omega)
    have eqc : ∀ (F' : Nat → Prop), RepL F' w [a.eval x] [.fro none clip (if tg.isSome then xs.map froize else xs)] [] → ∃ A c, a.eval x = .slice A xs.length c ∧ xs.length ≤ c ∧ (clip = true → c = xs.length) ∧
        RepL F' w [.slice (if (m.getD c).toNat = (l.getD 0).toNat then A else A.map (·.add ((l.getD 0).toNat * U.sz))) ((u.getD xs.length).toNat - (l.getD 0).toNat) ((m.getD c).toNat - (l.getD 0).toNat)]
          [.fro none (if m = none then clip && decide (u = none) else true) (if tg.isSome then ((xs.take (u.getD xs.length).toNat).drop (l.getD 0).toNat).map froize else (xs.take (u.getD xs.length).toNat).drop (l.getD 0).toNat)] [] := by
      intro F' hF'
      have hs' : ∀ y ∈ (if tg.isSome then xs.map froize else xs), (leaves y).length = U.sz := by
        split
        · intro y hy
          obtain ⟨z, hz, rfl⟩ := List.mem_map.1 hy
          rw [leaves_froize]; simpa using hs z hz
        · exact hs
      have hl' : (if tg.isSome then xs.map froize else xs).length = xs.length := by split <;> simp
      obtain ⟨A, c, hv, hlc, hc, key⟩ := RepL.fro_cut (l := (l.getD 0).toNat) (h := (u.getD xs.length).toNat) hF' hs' (by omega) (by rw [hl']; omega)
      rw [hl'] at hv hlc hc
      have key := key (m.getD c).toNat (if m = none then clip && decide (u = none) else true) (by rcases h3 with rfl | ⟨rfl, _⟩ <;> simp; omega) (by rcases h3 with rfl | ⟨rfl, _⟩ <;> simp; omega) (by
        rcases h3 with rfl | ⟨rfl, hu⟩
        · simp
          rintro rfl rfl
          simp [hc rfl]
        · simp)
      refine ⟨A, c, hv, hlc, hc, ?_⟩
      have e : ((if tg.isSome then xs.map froize else xs).take (u.getD xs.length).toNat).drop (l.getD 0).toNat = (if tg.isSome then ((xs.take (u.getD xs.length).toNat).drop (l.getD 0).toNat).map froize else (xs.take (u.getD xs.length).toNat).drop (l.getD 0).toNat) := by
        split <;> simp [List.map_take, List.map_drop]
      rw [e] at key
      exact key
    obtain ⟨F', hF', _⟩ := fro_valid hx hv
    obtain ⟨A, c, hav, hlc, hc, _⟩ := eqc F' hF'
    have hbb := fun w' => run_sliceBounds_gen (C := C) (w := w') true (len := xs.length) (cap := c) el eu em h0 h1 (by omega) h3
    refine .mk' (fun w' => run _ w' (by rw [hav]; exact run_slice_slice hTd (hC.tt e U hU) (hbb w'))) (fro_retag hx hv _ _ _ fun F'' hF'' => ?_)
    obtain ⟨A2, c2, hav2, _, _, h2⟩ := eqc F'' hF''
    rw [hav] at hav2
    cases hav2
    exact h2
  · rename_i e e0 g off len clip hds hxe
    rw [hxe] at hx
    rw [hds] at hTd
    have hTd : C.P.underlying t = some (.slice e) := hTd
    simp only [Option.bind_eq_some_iff] at hr
    obtain ⟨U, hU, E, hE, _, hb, hr⟩ := hr
    cases hr
    obtain ⟨h0, h1, h2, hcl, h3, hsz⟩ := ensure_some hb
    obtain ⟨hlv, he, rfl⟩ := cur_some hE
    obtain ⟨hg, hv⟩ := hx
    obtain ⟨A, c, hv, hlc, hc1, hc2, hblk⟩ := hv hlv he
    have hhc : u.getD len ≤ c := by
      cases clip with
      | true => have := (hcl rfl).1; clear hblk; omega
      | false => have := hc2 rfl; clear hblk; omega
    have hbb := fun w' => run_sliceBounds_gen (C := C) (w := w') true (len := len) (cap := c) el eu em h0 h1 hhc h3
    have hM : (u.getD len).toNat ≤ (m.getD c).toNat ∧ (m.getD c).toNat ≤ c := by clear hblk; rcases h3 with rfl | ⟨rfl, _⟩ <;> simp <;> omega
    have hM1 : m = none → (m.getD c).toNat = c := by rintro rfl; simp
    have hM2 : m ≠ none → (m.getD c).toNat = (u.getD len).toNat := by rcases h3 with rfl | ⟨rfl, _⟩ <;> simp
    have hcl' : clip = true → m = none → (u.getD len).toNat = len := fun h1 h2 => by have := (hcl h1).2 h2; clear hblk; omega
    have h0' : (l.getD 0).toNat ≤ (u.getD len).toNat := by clear hblk; omega
    refine .mk' (fun w' => run _ w' (by rw [hv]; exact run_slice_slice hTd (hC.tt e U hU) (hbb w'))) (v := .slice (if (m.getD (c : Int)).toNat = (l.getD 0).toNat then A else A.map (·.add ((l.getD 0).toNat * U.sz))) ((u.getD (len : Int)).toNat - (l.getD 0).toNat) ((m.getD (c : Int)).toNat - (l.getD 0).toNat)) (x := .hd e0 g (off + (l.getD 0).toNat) ((u.getD len).toNat - (l.getD 0).toNat) (if m = none then clip else true)) ⟨hg, fun _ _ => ?_⟩
    generalize (m.getD (c : Int)).toNat = M at *
    generalize (l.getD 0).toNat = l' at *
    generalize (u.getD (len : Int)).toNat = h' at *
    refine ⟨_, _, rfl, by clear hblk; omega, fun hk => ?_, fun hk => ?_, fun hpos => ?_⟩
    · by_cases hm : m = none
      · rw [if_pos hm] at hk
        have := hc1 hk
        have := hcl' hk hm
        have := hM1 hm
        clear hblk; omega
      · have := hM2 hm
        clear hblk; omega
    · by_cases hm : m = none
      · rw [if_pos hm] at hk
        have := hc2 hk
        have := hM1 hm
        clear hblk; omega
      · rw [if_neg hm] at hk; cases hk
    · have hne : ¬ M = l' := by clear hblk; omega
      have hle : off + l' + (M - l') ≤ off + c := by clear hblk; omega
      have hc0 : 0 < c := by clear hblk; omega
      obtain ⟨b, cur, et, fr, hμ, rfl, hb1, hb2⟩ := hblk hc0
      rw [if_neg hne]
      refine ⟨b, cur, et, fr, hμ, ?_, hb1, Nat.le_trans (Nat.mul_le_mul_right _ hle) hb2⟩
      simp only [Option.map_some, Addr.add_lit]
      rw [Nat.add_mul, hsz]
  · cases hr

theorem op_slice (hC : CfgOk C) (h : Rel n w0 F0 S0 G F μ fp [] σ a w) {t : TypeId} {x : Operand} {lo hi mx : Option Operand} {r : AV} (ho : o.op = .slice t x lo hi mx)
    (hr : sliceF C σ t (σ.get x) (lo.map σ.get) (hi.map σ.get) (mx.map σ.get) = some r) : OpPure C F μ fp σ o a w (σ.put o.dst r) :=
  (op_sliceX hC h ho hr).pure

end
end Go.Vm
