/- Slices that are made, functions' values, builtins that read. -/
import Derived.Test.YtfimolakepbdbaaWOps7
namespace Go.Vm

section
variable {C : Cfg} {n : Nat} {w0 : World} {F0 S0 F : Nat → Prop} {G : Value → AV → Prop} {μ : Nat → Option Nat} {fp : Nat → List Nat} {L : List Nat} {σ σ' : St} {a : Act} {w w' : World} {o : Oper}

theorem made_toList {z : Array Value} (hz : 0 < z.size) : ∀ c : Nat, ((Array.range (c * z.size)).map (z[· % z.size]!)).toList = (List.replicate c z.toList).flatten
  | 0 => by simp
  | c + 1 => by
    have ih := made_toList hz c
    rw [List.replicate_succ', List.flatten_append, ← ih]
    simp only [Array.toList_map, Array.toList_range]
    rw [show (c + 1) * z.size = c * z.size + z.size by rw [Nat.add_mul, Nat.one_mul], List.range_add, List.map_append, List.map_map]
    congr 1
    refine List.ext_getElem (by simp) fun i h1 h2 => ?_
    simp at h1 h2
    simp [Nat.mod_eq_of_lt h1, h1]

theorem RepL.replicate {us : List Value} {xs : List AV} (h : RepL F w us xs []) : ∀ c : Nat, RepL F w (List.replicate c us).flatten (List.replicate c xs).flatten []
  | 0 => .nil
  | c + 1 => by
    rw [List.replicate_succ, List.replicate_succ, List.flatten_cons, List.flatten_cons]
    exact h.append (RepL.replicate h c)

theorem flat_replicate (x : AV) : ∀ c : Nat, (List.replicate c x).flatMap leaves = (List.replicate c (leaves x)).flatten
  | 0 => rfl
  | c + 1 => by rw [List.replicate_succ, List.flatMap_cons, flat_replicate x c, List.replicate_succ, List.flatten_cons]

theorem Rel.newArrR {f : List Nat} (h : Rel n w0 F0 S0 G F μ fp f σ a w) {d : Nat} (hd : d < n) {sz len c : Nat} {clip : Bool} {l : List AV} {us : List Value} {cur : Array Value} {et : TypeId} (hx : ∀ x ∈ l, (leaves x).length = sz) (hr : RepL F w us (l.flatMap leaves) f)
    (hc : ∀ q, q < us.length → cur[q]? = us[q]?) (hlc : len ≤ c) (hcl : clip = true → c = len) (hlen : l.length ≤ c) (hsz : c * sz ≤ cur.size) {w' : World} (hh : w'.heap = w.heap.push (.cells cur et)) (ho : w'.os = w.os) (ht : w'.tape = w.tape) (hp : w'.output = w.output) {σ' : St}
    (hn : newArr σ (some d) sz l len clip = some σ') : ∃ F' μ' fp', Rel n w0 F0 S0 G F' μ' fp' [] σ' (a.put (some d) (.slice (some ⟨w.heap.size, 0, none⟩) len c)) w' := by
  simp only [newArr, Option.some.injEq] at hn
  subst hn
  obtain ⟨r1, r2⟩ := (Rel.newBlock (L := []) (f := f) (w' := w') (cur := cur) (us := us) (by simpa using h) (eid d 0) sz l hh ho ht hp hx hc hr)
  refine ⟨F, _, _, r1.put hd (x := .hd (eid d 0) ((σ.en (eid d 0)).gen + 1) 0 len clip) ⟨?_, fun _ _ => ⟨_, _, rfl, hlc, hcl, fun _ => ?_, fun _ => ⟨w.heap.size, cur, et, (0, 0), ?_, ?_, ?_, ?_⟩⟩⟩⟩
  · simp [St.fresh, St.ent, upd]
  · simpa [St.fresh, St.ent, upd] using hlen
  · simp [upd]
  · simp
  · rw [hh]; simp
  · simpa [St.fresh, St.ent, upd] using hsz

theorem Rel.newNilR (h : Rel n w0 F0 S0 G F μ fp [] σ a w) {d : Nat} (hd : d < n) {sz : Nat} {clip : Bool} {A : Option Addr} {σ' : St} (hn : newArr σ (some d) sz [] 0 clip = some σ') :
    ∃ F' μ' fp', Rel n w0 F0 S0 G F' μ' fp' [] σ' (a.put (some d) (.slice A 0 0)) w := by
  simp only [newArr, Option.some.injEq] at hn
  subst hn
  obtain ⟨r1, r2⟩ := h.newNil (eid d 0) sz
  refine ⟨F, _, _, r1.put hd (x := .hd (eid d 0) ((σ.en (eid d 0)).gen + 1) 0 0 clip) ⟨?_, fun _ _ => ⟨_, _, rfl, Nat.le_refl _, fun _ => rfl, fun _ => ?_, fun h => absurd h (by simp)⟩⟩⟩
  · simp [St.fresh, St.ent, upd]
  · simp [St.fresh, St.ent, upd]

theorem op_makeSlice (hC : CfgOk C) (h : Rel n w0 F0 S0 G F μ fp [] σ a w) (hd : ∀ k, o.dst = some k → k < n) {t : TypeId} {l c : Operand} (ho : o.op = .makeSlice t l c) (hr : opF C o σ = some σ') : OpOk C n w0 F0 S0 G o a w σ' := by
  simp only [opF, ho, Option.bind_eq_bind, Option.bind_eq_some_iff] at hr
  obtain ⟨T, hT, hr⟩ := hr
  have hTd := (hC.tt t T hT).desc
  split at hr
  case h_2 => cases hr
  rename_i el i j hel hl hc
  rw [hel] at hTd
  have hTd : C.P.underlying t = some (.slice el) := hTd
  simp only [Option.bind_eq_some_iff] at hr
  obtain ⟨U, hU, _, hen, hr⟩ := hr
  obtain ⟨h0, h1, h2, h3⟩ := ensure_some hen
  have hU' := hC.tt el U hU
  obtain ⟨it, z, hi, hs, hby, hz, hzs, hzr, _⟩ := hU'.info
  have hl' : a.eval l = .int .i64 i := SRep.int_inv (hl ▸ h.get l)
  have hc' : a.eval c = .int .i64 j := SRep.int_inv (hc ▸ h.get c)
  cases hdd : o.dst with
  | none => rw [hdd] at hr; cases hr
  | some d =>
    rw [hdd] at hr
    have hle := hU'.leaves (hzr F w) (by rw [← (hzr F w).length]; simpa using hzs)
    have hzl : U.zero.length = U.sz := by rw [← (hzr F w).length]; simpa using hzs
    have hms := run_make (P := C.P) w t el it z hTd hi hz .i64 .i64 i j h0 h1 (by rw [hby, Int.mul_comm]; omega) (by omega)
    have hmt : (madeCells z.cells (j.toNat * it.size)).toList = (List.replicate j.toNat z.cells.toList).flatten := by
      unfold madeCells
      rw [hs, ← hzs]
      exact made_toList (by rw [hzs]; exact hU'.pos.1) _
    have hsize : (madeCells z.cells (j.toNat * it.size)).size = j.toNat * U.sz := by simp [madeCells, hs]
    obtain ⟨F', μ', fp', q⟩ := h.newArrR (hd d hdd) (cur := madeCells z.cells (j.toNat * it.size)) (et := el) (us := (madeCells z.cells (j.toNat * it.size)).toList) (c := j.toNat) (w' := w.alloc (.cells (madeCells z.cells (j.toNat * it.size)) el)) (fun x hx => by
        rw [(List.mem_replicate.1 hx).2, hle, hzl]) (by
        rw [flat_replicate, hle, hmt]
        exact (hzr F w).replicate _) (fun q hq => by simp) (by omega) (fun h => by simp at h; rw [h]) (by simp) (by rw [hsize]; exact Nat.le_refl _) rfl rfl rfl rfl hr
    refine ⟨_, _, .inl ?_, F', μ', fp', hdd ▸ q⟩
    simp only [execOp, ho, hl', hc', Sem.run_bind, hms, Result.andThen_ok, Sem.run_pure]

/-! ### A slice literal -/
theorem buildSliceF_ok {m : Bool} {U : TI} (hU : ∀ {us : List Value} {ls : List AV} {f : List Nat} {F : Nat → Prop}, RepL F w us ls f → ls.length = U.sz → leaves (mkV U.desc.isStruct ls) = ls) :
    ∀ {parts : List (Nat × Operand)} {acc res : List AV} {cells : Array Value} {σ σ' : St} {F : Nat → Prop} {fp : Nat → List Nat} {f : List Nat}, Rel n w0 F0 S0 G F μ fp f σ a w → RepL F w cells.toList (acc.flatMap leaves) f → (∀ x ∈ acc, (leaves x).length = U.sz) →
      buildSliceF m U parts acc σ = some (res, σ') →
      ∃ F' fp' f' cells', Rel n w0 F0 S0 G F' μ fp' f' σ' a w ∧ RepL F' w cells'.toList (res.flatMap leaves) f' ∧ (∀ x ∈ res, (leaves x).length = U.sz) ∧ res.length = acc.length ∧
        Instr.fill (fun i => some (i * U.sz, U.sz)) cells (parts.map fun (i, x) => (i, a.eval x)) = some cells' ∧ (parts ≠ [] → acc ≠ [])
  | [], acc, res, cells, σ, σ', F, fp, f, h, hr, hs, hb => by
    simp only [buildSliceF, Option.some.injEq, Prod.mk.injEq] at hb
    obtain ⟨rfl, rfl⟩ := hb
    exact ⟨F, fp, f, cells, h, hr, hs, rfl, rfl, by simp⟩
  | (i, x) :: rest, acc, res, cells, σ, σ', F, fp, f, h, hr, hs, hb => by
    simp only [buildSliceF, Option.bind_eq_bind, Option.bind_eq_some_iff] at hb
    obtain ⟨⟨ls, σ1⟩, hcl, _, hen, hb⟩ := hb
    obtain ⟨hl, hi⟩ := ensure_some hen
    dsimp only at hl hb
    obtain ⟨F1, fp1, f1, r1, r2, r3, r4, _⟩ := h.closeV (h.get x) hcl
    have hle := hU r2 hl
    have hcs : (a.eval x).cells.size = U.sz := by have := r2.length; rw [hl] at this; simpa using this
    have hr1 : RepL F1 w cells.toList (acc.flatMap leaves) f := hr.mono r3 (fun _ _ => rfl)
    obtain ⟨fa, fb, fc, rfl, h5⟩ := hr1.splice r2 (i * U.sz) U.sz
    have hfl := flat_length hs
    have hcl' : cells.size = acc.length * U.sz := by have := hr.length; rw [hfl] at this; simpa using this
    have hmul : (i + 1) * U.sz ≤ acc.length * U.sz := Nat.mul_le_mul_right _ hi
    have e11 : (i + 1) * U.sz = i * U.sz + U.sz := by rw [Nat.add_mul, Nat.one_mul]
    have h6 : RepL F1 w (setRow cells (i * U.sz) (a.eval x).cells.toList).toList ((acc.set i (mkV U.desc.isStruct ls)).flatMap leaves) (fa ++ f1 ++ fc) := by
      rw [setRow_toList (by simp; omega), flat_set hs hi, hle, e11]
      have e : (a.eval x).cells.toList.length = U.sz := by simpa using hcs
      rw [e]
      exact h5
    have r1' : Rel n w0 F0 S0 G F1 μ fp1 (fa ++ f1 ++ fc) σ1 a w := by
      refine (r1.perm (L' := fa ++ f1 ++ fc ++ fb) ?_).drop (List.sublist_append_left _ _)
      exact List.perm_iff_count.2 fun x => by simp only [List.count_append]; omega
    obtain ⟨F2, fp2, f2, cells', q1, q2, q3, q4, q5, _⟩ := buildSliceF_ok hU r1' h6 (fun y hy => by
      rcases List.mem_or_eq_of_mem_set hy with hy | rfl
      · exact hs y hy
      · rw [hle, hl]) hb
    refine ⟨F2, fp2, f2, cells', q1, q2, q3, by rw [q4]; simp, ?_, fun _ => by rintro rfl; simp at hi⟩
    rw [List.map_cons, fill_cons rfl hcs (by omega)]
    exact q5

theorem op_buildSlice (hC : CfgOk C) (h : Rel n w0 F0 S0 G F μ fp [] σ a w) (hd : ∀ k, o.dst = some k → k < n) {t : TypeId} {len : Nat} {parts : Array (Nat × Operand)} (ho : o.op = .buildSlice t len parts) (hr : opF C o σ = some σ') : OpOk C n w0 F0 S0 G o a w σ' := by
  simp only [opF, ho, Option.bind_eq_bind, Option.bind_eq_some_iff] at hr
  obtain ⟨T, hT, hr⟩ := hr
  have hTd := (hC.tt t T hT).desc
  split at hr
  case h_2 => cases hr
  rename_i el hel
  rw [hel] at hTd
  have hTd : C.P.underlying t = some (.slice el) := hTd
  simp only [Option.bind_eq_some_iff] at hr
  obtain ⟨U, hU, _, hen, ⟨l, σ1⟩, hb, hr⟩ := hr
  have hen := ensure_some hen
  dsimp only at hr
  have hU' := hC.tt el U hU
  obtain ⟨it, z, hi, hs, hby, hz, hzs, hzr, _⟩ := hU'.info
  have hpos := hU'.pos.1
  have hle := hU'.leaves (hzr F w) (by rw [← (hzr F w).length]; simpa using hzs)
  have hzl : U.zero.length = U.sz := by rw [← (hzr F w).length]; simpa using hzs
  obtain ⟨F1, fp1, f1, cells', q1, q2, q3, q4, q5, q6⟩ := buildSliceF_ok (a := a) (fun r hl => hU'.leaves r hl) (cells := (Array.range (len * U.sz)).map (z.cells[· % z.cells.size]!)) h (by
    rw [flat_replicate, hle]
    have := made_toList (z := z.cells) (by omega) len
    rw [hzs] at this ⊢
    rw [this]
    exact (hzr F w).replicate _) (fun x hx => by rw [(List.mem_replicate.1 hx).2, hle, hzl]) hb
  rw [List.length_replicate] at q4
  have hcs : cells'.size = len * U.sz := by have := q2.length; rw [flat_length q3, q4] at this; simpa using this
  cases hdd : o.dst with
  | none => rw [hdd] at hr; cases hr
  | some d =>
    rw [hdd] at hr
    obtain ⟨F', μ', fp', q⟩ := q1.newArrR (hd d hdd) (cur := cells') (et := el) (us := cells'.toList) (c := len) (w' := w.alloc (.cells cells' el)) q3 q2 (fun q hq => by simp) (Nat.le_refl _) (fun _ => rfl) (by omega) (by omega) rfl rfl rfl rfl hr
    refine ⟨_, _, .inl ?_, F', μ', fp', hdd ▸ q⟩
    have hrun : (Instr.buildSlice t len (parts.map fun (i, x) => (i, a.eval x))).run C.P w = .ok (.slice (some ⟨w.heap.size, 0, none⟩) len len) (w.alloc (.cells cells' el)) := by
      by_cases hl0 : len = 0
      · subst hl0
        have hp : parts.toList = [] := Classical.byContradiction fun hne => q6 hne (by simp)
        have hp' : parts = #[] := by simpa using hp
        subst hp'
        have hc' : cells' = #[] := by simpa using hcs
        subst hc'
        simp [Instr.buildSlice, run_underlying hTd, sizeOf, typeInfo, hi, Instr.fill, newRow, Array.range_zero']
      · have hne : ¬ len * it.size = 0 := by
          rw [hs]
          have := Nat.mul_pos (Nat.pos_of_ne_zero hl0) hpos
          omega
        exact run_buildSlice w t el len _ cells' it z hTd hi hz (by rw [hs]; omega) hne (by rw [hs, Array.toList_map]; exact q5)
    simp only [execOp, ho, Sem.run_bind, hrun, Result.andThen_ok, Sem.run_pure]

/-! ### Builtins that read -/
theorem op_len (hC : CfgOk C) (h : Rel n w0 F0 S0 G F μ fp [] σ a w) {args : Array Operand} {ts : Array TypeId} {x : Operand} {t : TypeId} {m : Nat} {T : TI} (ho : o.op = .call { callee := .builtin .len, args, argTypes := ts }) (ha : args.toList = [x]) (ht : ts.toList = [t])
    (hT : C.tt t = some T) (hr : lenF σ T.desc (σ.get x) = some m) : OpPure C F μ fp σ o a w (σ.put o.dst (.int .i64 m)) := by
  obtain rfl : args = #[x] := by apply Array.ext'; simpa using ha
  obtain rfl : ts = #[t] := by apply Array.ext'; simpa using ht
  refine .mk' (v := .int .i64 m) (fun w' _ => ?_) (RepL.int .nil)
  rw [exec_builtin ho]
  simp only [builtin, Sem.run_bind]
  have := run_lenOp (hC.tt t T hT).desc (h.get x) hr o.type w'
  simp [this]

theorem op_cap (hC : CfgOk C) (h : Rel n w0 F0 S0 G F μ fp [] σ a w) {args : Array Operand} {ts : Array TypeId} {x : Operand} {t : TypeId} {m : Nat} {T : TI} (ho : o.op = .call { callee := .builtin .cap, args, argTypes := ts }) (ha : args.toList = [x]) (ht : ts.toList = [t])
    (hT : C.tt t = some T) (hr : capF σ T.desc (σ.get x) = some m) : OpPure C F μ fp σ o a w (σ.put o.dst (.int .i64 m)) := by
  obtain rfl : args = #[x] := by apply Array.ext'; simpa using ha
  obtain rfl : ts = #[t] := by apply Array.ext'; simpa using ht
  refine .mk' (v := .int .i64 m) (fun w' _ => ?_) (RepL.int .nil)
  rw [exec_builtin ho]
  simp only [builtin, Sem.run_bind]
  have := run_capOp (hC.tt t T hT).desc (h.get x) hr o.type w'
  simp [this]

theorem op_min (h : Rel n w0 F0 S0 G F μ fp [] σ a w) {args : Array Operand} {ts : Array TypeId} {x : Operand} {xs : List Operand} {r : AV} (ho : o.op = .call { callee := .builtin .min, args, argTypes := ts }) (ha : args.toList = x :: xs)
    (hr : minF (σ.get x) (xs.map σ.get) = some r) : OpPure C F μ fp σ o a w (σ.put o.dst r) := by
  obtain ⟨u, hu, hur⟩ := run_min (C := C) (F := F) (μ := μ) (fp := fp) (σ := σ) (w := w) (h.get x) (All2.of_map (fun y => h.get y) xs) hr
  refine .mk' (v := u) (fun w' _ => ?_) hur
  rw [exec_builtin ho]
  simp only [builtin, Sem.run_bind, Builtin.min_, Array.toList_map, ha, List.map_cons, hu, Result.andThen_ok, Sem.run_pure]

theorem op_max (h : Rel n w0 F0 S0 G F μ fp [] σ a w) {args : Array Operand} {ts : Array TypeId} {x : Operand} {xs : List Operand} {r : AV} (ho : o.op = .call { callee := .builtin .max, args, argTypes := ts }) (ha : args.toList = x :: xs)
    (hr : maxF (σ.get x) (xs.map σ.get) = some r) : OpPure C F μ fp σ o a w (σ.put o.dst r) := by
  obtain ⟨u, hu, hur⟩ := run_max (C := C) (F := F) (μ := μ) (fp := fp) (σ := σ) (w := w) (h.get x) (All2.of_map (fun y => h.get y) xs) hr
  refine .mk' (v := u) (fun w' _ => ?_) hur
  rw [exec_builtin ho]
  simp only [builtin, Sem.run_bind, Builtin.max_, Array.toList_map, ha, List.map_cons, hu, Result.andThen_ok, Sem.run_pure]

end
end Go.Vm
