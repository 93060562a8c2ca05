/- WALK, or plain laws for it: theorem f<k> says what function k returns. Conditions: none but those ahead of each theorem. -/
import Derived.Test.YtklhdnjhgbglhaaGreatYLib6
import Derived.Test.YtklhdnjhgbglhaaGreatProg
set_option linter.unusedVariables false
set_option linter.unusedSimpArgs false
open Go Go.Vm Go.Proofs
set_option maxRecDepth 100000
structure Md where
  mv : Bool
  stl : List Nat
  rs : Ways
instance : Coe Bool Md := ⟨fun b => ⟨b, [], []⟩⟩
def eqs (t : Nat) : Option (List TD) := if t = 105 then some [.int .i64, .int .i64, .string] else if t = 175 then some [.int .i64, .int .i64, .int .i64] else none
theorem eq105 : EqOk Tryz.prog 105 [.int .i64, .int .i64, .string] := EqOk.of Tryz.underlying105 (by kernel_rfl) (by kernel_rfl) (by kernel_rfl)
theorem eq175 : EqOk Tryz.prog 175 [.int .i64, .int .i64, .int .i64] := EqOk.of Tryz.underlying175 (by kernel_rfl) (by kernel_rfl) (by kernel_rfl)
noncomputable def CC (m : Md) : Cfg := Cfg.of Tryz.prog eqs (fun f => List.lookup f [(61, 0), (96, 0), (119, 0), (120, 0), (179, 0), (180, 0), (221, 0), (222, 0), (176, 0), (161, 0), (100, 0), (89, 0), (149, 0), (197, 0), (223, 0), (240, 0), (241, 0), (245, 0), (246, 0), (181, 0), (167, 0), (46, 0), (95, 0), (62, 0), (81, 0), (79, 0), (80, 0), (44, 0), (140, 0), (28, 1000), (60, 0), (118, 0), (75, 0), (116, 0), (86, 0), (91, 0), (111, 0), (195, 0), (84, 0), (85, 0), (114, 0)]) m.mv m.stl
noncomputable abbrev C : Cfg := CC ⟨false, [], []⟩
theorem Cok (m : Md) : CfgOk (CC m) := Cfg.of_ok (by kernel_rfl) fun t ks h => by
  unfold eqs at h
  split at h
  · rename_i ht; subst ht; cases h; exact eq105
  split at h
  · rename_i ht; subst ht; cases h; exact eq175
  cases h
theorem tt2 (m : Md) : (CC m).tt 2 = some ⟨.int .i64, 1, 8, [.int .i64 0]⟩ := by kernel_rfl
theorem tt3 (m : Md) : (CC m).tt 3 = some ⟨.int .i64, 1, 8, [.int .i64 0]⟩ := by kernel_rfl
theorem tt4 (m : Md) : (CC m).tt 4 = some ⟨.bool, 1, 1, [.bool false]⟩ := by kernel_rfl
theorem tt5 (m : Md) : (CC m).tt 5 = some ⟨.int .u8, 1, 1, [.int .u8 0]⟩ := by kernel_rfl
theorem tt9 (m : Md) : (CC m).tt 9 = some ⟨.string, 1, 16, [.str ⟨⟨[]⟩⟩]⟩ := by kernel_rfl
theorem tt12 (m : Md) : (CC m).tt 12 = some ⟨.int .u64, 1, 8, [.int .u64 0]⟩ := by kernel_rfl
theorem tt21 (m : Md) : (CC m).tt 21 = some ⟨.int .i32, 1, 4, [.int .i32 0]⟩ := by kernel_rfl
theorem tt22 (m : Md) : (CC m).tt 22 = some ⟨.slice 5, 1, 24, [.fro none true []]⟩ := by kernel_rfl
theorem tt23 (m : Md) : (CC m).tt 23 = some ⟨.slice 100, 1, 24, [.fro none true []]⟩ := by kernel_rfl
theorem tt24 (m : Md) : (CC m).tt 24 = some ⟨.slice 35, 1, 24, [.fro none true []]⟩ := by kernel_rfl
theorem tt26 (m : Md) : (CC m).tt 26 = some ⟨.struct [(0, 23), (1, 3), (2, 24)], 3, 56, [.fro none true [], .int .i64 0, .fro none true []]⟩ := by kernel_rfl
theorem tt28 (m : Md) : (CC m).tt 28 = some ⟨.slice 85, 1, 24, [.fro none true []]⟩ := by kernel_rfl
theorem tt32 (m : Md) : (CC m).tt 32 = some ⟨.slice 3, 1, 24, [.fro none true []]⟩ := by kernel_rfl
theorem tt33 (m : Md) : (CC m).tt 33 = some ⟨.slice 130, 1, 24, [.fro none true []]⟩ := by kernel_rfl
theorem tt35 (m : Md) : (CC m).tt 35 = some ⟨.struct [(0, 3), (1, 3), (2, 3), (3, 32), (4, 33)], 5, 72, [.int .i64 0, .int .i64 0, .int .i64 0, .fro none true [], .fro none true []]⟩ := by kernel_rfl
theorem tt38 (m : Md) : (CC m).tt 38 = some ⟨.slice 59, 1, 24, [.fro none true []]⟩ := by kernel_rfl
theorem tt45 (m : Md) : (CC m).tt 45 = some ⟨.slice 148, 1, 24, [.fro none true []]⟩ := by kernel_rfl
theorem tt46 (m : Md) : (CC m).tt 46 = some ⟨.slice 152, 1, 24, [.fro none true []]⟩ := by kernel_rfl
theorem tt48 (m : Md) : (CC m).tt 48 = some ⟨.struct [(0, 45), (1, 3), (2, 46)], 3, 56, [.fro none true [], .int .i64 0, .fro none true []]⟩ := by kernel_rfl
theorem tt49 (m : Md) : (CC m).tt 49 = some ⟨.slice 154, 1, 24, [.fro none true []]⟩ := by kernel_rfl
theorem tt51 (m : Md) : (CC m).tt 51 = some ⟨.struct [(0, 3), (1, 3), (2, 3), (3, 49)], 4, 48, [.int .i64 0, .int .i64 0, .int .i64 0, .fro none true []]⟩ := by kernel_rfl
theorem tt57 (m : Md) : (CC m).tt 57 = some ⟨.slice 105, 1, 24, [.fro none true []]⟩ := by kernel_rfl
theorem tt59 (m : Md) : (CC m).tt 59 = some ⟨.struct [(0, 3), (1, 3), (2, 3), (3, 57)], 4, 48, [.int .i64 0, .int .i64 0, .int .i64 0, .fro none true []]⟩ := by kernel_rfl
theorem tt70 (m : Md) : (CC m).tt 70 = some ⟨.slice 51, 1, 24, [.fro none true []]⟩ := by kernel_rfl
theorem tt79 (m : Md) : (CC m).tt 79 = some ⟨.pointer 125, 1, 8, [.und]⟩ := by kernel_rfl
theorem tt85 (m : Md) : (CC m).tt 85 = some ⟨.struct [(0, 3), (1, 33)], 2, 32, [.int .i64 0, .fro none true []]⟩ := by kernel_rfl
theorem tt92 (m : Md) : (CC m).tt 92 = some ⟨.map 3 4, 1, 8, [.und]⟩ := by kernel_rfl
theorem tt100 (m : Md) : (CC m).tt 100 = some ⟨.struct [(0, 3), (1, 3), (2, 3), (3, 57)], 4, 48, [.int .i64 0, .int .i64 0, .int .i64 0, .fro none true []]⟩ := by kernel_rfl
theorem tt105 (m : Md) : (CC m).tt 105 = some ⟨.struct [(0, 3), (1, 3), (2, 9)], 3, 32, [.int .i64 0, .int .i64 0, .str ⟨⟨[]⟩⟩]⟩ := by kernel_rfl
theorem tt125 (m : Md) : (CC m).tt 125 = some ⟨.struct [(0, 22), (1, 3)], 2, 32, [.fro none true [], .int .i64 0]⟩ := by kernel_rfl
theorem tt128 (m : Md) : (CC m).tt 128 = some ⟨.int .u64, 1, 8, [.int .u64 0]⟩ := by kernel_rfl
theorem tt130 (m : Md) : (CC m).tt 130 = some ⟨.struct [(0, 3), (1, 57), (2, 4)], 3, 40, [.int .i64 0, .fro none true [], .bool false]⟩ := by kernel_rfl
theorem tt137 (m : Md) : (CC m).tt 137 = some ⟨.pointer 26, 1, 8, [.und]⟩ := by kernel_rfl
theorem tt138 (m : Md) : (CC m).tt 138 = some ⟨.pointer 35, 1, 8, [.und]⟩ := by kernel_rfl
theorem tt148 (m : Md) : (CC m).tt 148 = some ⟨.struct [(0, 3), (1, 3), (2, 3), (3, 49)], 4, 48, [.int .i64 0, .int .i64 0, .int .i64 0, .fro none true []]⟩ := by kernel_rfl
theorem tt150 (m : Md) : (CC m).tt 150 = some ⟨.slice 235, 1, 24, [.fro none true []]⟩ := by kernel_rfl
theorem tt152 (m : Md) : (CC m).tt 152 = some ⟨.struct [(0, 3), (1, 3), (2, 3), (3, 32), (4, 150)], 5, 72, [.int .i64 0, .int .i64 0, .int .i64 0, .fro none true [], .fro none true []]⟩ := by kernel_rfl
theorem tt154 (m : Md) : (CC m).tt 154 = some ⟨.struct [(0, 3), (1, 3), (2, 9)], 3, 32, [.int .i64 0, .int .i64 0, .str ⟨⟨[]⟩⟩]⟩ := by kernel_rfl
theorem tt171 (m : Md) : (CC m).tt 171 = some ⟨.slice 175, 1, 24, [.fro none true []]⟩ := by kernel_rfl
theorem tt175 (m : Md) : (CC m).tt 175 = some ⟨.struct [(0, 3), (1, 3), (2, 3)], 3, 24, [.int .i64 0, .int .i64 0, .int .i64 0]⟩ := by kernel_rfl
theorem tt186 (m : Md) : (CC m).tt 186 = some ⟨.int .u32, 1, 4, [.int .u32 0]⟩ := by kernel_rfl
theorem tt188 (m : Md) : (CC m).tt 188 = some ⟨.int .u64, 1, 8, [.int .u64 0]⟩ := by kernel_rfl
theorem tt200 (m : Md) : (CC m).tt 200 = some ⟨.slice 230, 1, 24, [.fro none true []]⟩ := by kernel_rfl
theorem tt220 (m : Md) : (CC m).tt 220 = some ⟨.pointer 3, 1, 8, [.und]⟩ := by kernel_rfl
theorem tt230 (m : Md) : (CC m).tt 230 = some ⟨.struct [(0, 3), (1, 4)], 2, 16, [.int .i64 0, .bool false]⟩ := by kernel_rfl
theorem tt235 (m : Md) : (CC m).tt 235 = some ⟨.struct [(0, 3), (1, 49), (2, 4)], 3, 40, [.int .i64 0, .fro none true [], .bool false]⟩ := by kernel_rfl
theorem tt240 (m : Md) : (CC m).tt 240 = some ⟨.pointer 216, 1, 8, [.und]⟩ := by kernel_rfl
theorem tt244 (m : Md) : (CC m).tt 244 = some ⟨.slice 9, 1, 24, [.fro none true []]⟩ := by kernel_rfl
theorem tt259 (m : Md) : (CC m).tt 259 = some ⟨.pointer 5, 1, 8, [.und]⟩ := by kernel_rfl
theorem ce105 (m : Md) : (CC m).eqs 105 = some [.int .i64, .int .i64, .string] := rfl
theorem ce175 (m : Md) : (CC m).eqs 175 = some [.int .i64, .int .i64, .int .i64] := rfl
theorem cmv (m : Md) : (CC m).mv = m.mv := rfl
theorem cst (m : Md) : (CC m).stl = m.stl := rfl
theorem cw (m : Md) (f : Nat) : (CC m).wrt f = List.lookup f [(61, 0), (96, 0), (119, 0), (120, 0), (179, 0), (180, 0), (221, 0), (222, 0), (176, 0), (161, 0), (100, 0), (89, 0), (149, 0), (197, 0), (223, 0), (240, 0), (241, 0), (245, 0), (246, 0), (181, 0), (167, 0), (46, 0), (95, 0), (62, 0), (81, 0), (79, 0), (80, 0), (44, 0), (140, 0), (28, 1000), (60, 0), (118, 0), (75, 0), (116, 0), (86, 0), (91, 0), (111, 0), (195, 0), (84, 0), (85, 0), (114, 0)] := rfl
def FxR (f : Nat) (args : List AV) (R : AV → AV → Prop) : Prop := Plain C f ∧ DoesR C f args R
def Fx (f : Nat) (args : List AV) (res : AV) : Prop := FxR f args fun r l => r = res ∧ l = .und
def D : Vm.Spec := fun f args R => FxR f args R
theorem Dok (m : Md) : SpecOk (CC m) D := fun _ _ _ h => h
theorem fn_ofR (m : Md) {f : Nat} {fn : Func} {c : Code} {args : List AV} {R : AV → AV → Prop} (hf : Tryz.prog.funcs[f]? = some fn) (hn : (fn.name == "runtime.NumGoroutine") = false) (hb : fn.body = some c) (hok : okCode fn.ntmps c = true)
    (hw : C.wrt f = none) (hl : args.length ≤ fn.ntmps) (ha : args.all plainArg = true) (hW : ∀ Q, (∀ σ, exP (retG (CC m) σ fn.results.toList) (fun p => R p.1 .und) → Q .ret σ) → WT (CC m) D c Q (St.init args) ⟨⟩) : FxR f args R :=
  ⟨⟨fn, c, hf, hn, hb⟩, does_of_W (Cok m) (Dok m) hf hb hok hw hl ha (hW _ fun _ h => h)⟩
theorem fn_ofX (m : Md) {f : Nat} {fn : Func} {c : Code} {args : List AV} {R : AV → AV → Prop} (hf : Tryz.prog.funcs[f]? = some fn) (hn : (fn.name == "runtime.NumGoroutine") = false) (hb : fn.body = some c) (hok : okCodeX m.rs C.wrt fn.ntmps c = true)
    (hw : C.wrt f = none) (hl : args.length ≤ fn.ntmps) (ha : args.all plainArg = true) (hW : ∀ Q, (∀ σ, exP (retG (CC m) σ fn.results.toList) (fun p => R p.1 .und) → Q .ret σ) → WT (CC m) D (tr m.rs c) Q (St.init args) ⟨⟩) : FxR f args R :=
  ⟨⟨fn, c, hf, hn, hb⟩, does_of_WX (Cok m) (Dok m) hf hb hok hw hl ha (hW _ fun _ h => h)⟩
section
variable {rs : Ways}
theorem tr_seq (a b : Code) : tr rs (.seq a b) = .seq (tr rs a) (tr rs b) := rfl
theorem tr_cond (c : Operand) (a b : Code) : tr rs (.cond c a b) = .cond c (tr rs a) (tr rs b) := rfl
theorem tr_block (i : Nat) (c : Code) : tr rs (.block i c) = .block i (tr rs c) := rfl
theorem tr_loop (c : Code) : tr rs (.loop c) = .loop (tr rs c) := rfl
theorem tr_skip : tr rs .skip = .skip := rfl
theorem tr_exit (i : Nat) : tr rs (.exit i) = .exit i := rfl
theorem tr_ret : tr rs .ret = .ret := rfl
theorem tr_reg (i : Nat) (ops : Array Oper) : tr rs (.region i ops false) = .region i ops false := rfl
theorem tr_cut (k : Nat) {i : Nat} {ops : Array Oper} (h : ((anyR rs i).isNone && noisy ops && (permR rs i).isNone && cutR rs i ops == k) = true) : tr rs (.region i ops true) = .seq (.region i ⟨ops.toList.take k⟩ true) (.region i ⟨ops.toList.drop k⟩ false) := by
  simp only [Bool.and_eq_true, beq_iff_eq, Option.isNone_iff_eq_none] at h
  obtain ⟨⟨⟨h0, h1⟩, h2⟩, rfl⟩ := h
  simp only [tr, h0, h1, h2, if_true]
theorem tr_calm {i : Nat} {ops : Array Oper} (h : ((anyR rs i).isSome || noisy ops) = false) : tr rs (.region i ops true) = .region i ops true := by
  simp only [Bool.or_eq_false_iff, Option.isSome_eq_false_iff, Option.isNone_iff_eq_none] at h
  obtain ⟨h0, h1⟩ := h
  simp [tr, h0, h1]
theorem tr_any (i : Nat) (st : List (Nat × List Nat × Nat)) {ops : Array Oper} (h : (match anyR rs i with
    | some s => !isTree s && stepsA ops [] s == st
    | none => false) = true) : tr rs (.region i ops true) = codeA ops st := by
  split at h
  · rename_i s hs
    simp only [Bool.and_eq_true, Bool.not_eq_true', beq_iff_eq] at h
    simp only [tr, hs, if_true, anyC, h.1, h.2, Bool.false_eq_true, if_false]
  · cases h
theorem tr_tree (i : Nat) (p : List Nat) (t : Ord) {ops : Array Oper} (h : (match anyR rs i with
    | some s => isTree s && decide (s.tail = p) && decide (ordT ops (ops.size - p.length) (setL p (Array.replicate ops.size false)) = t)
    | none => false) = true) : tr rs (.region i ops true) = .seq (.region 0 ⟨pickL ops p⟩ true) (ordC ops t) := by
  split at h
  · rename_i s hs
    simp only [Bool.and_eq_true, decide_eq_true_eq] at h
    obtain ⟨⟨h1, rfl⟩, rfl⟩ := h
    simp only [tr, hs, if_true, anyC, h1, treeP]
  · cases h
theorem ordC_leaf (ops : Array Oper) : ordC ops .leaf = .skip := rfl
theorem ordC_one (ops : Array Oper) (i : Nat) (t : Ord) : ordC ops (.both i t .leaf) = .seq (.region 0 ⟨pickL ops [i]⟩ false) (ordC ops t) := rfl
theorem ordC_both (ops : Array Oper) (i j : Nat) (t u r : Ord) : ordC ops (.both i t (.both j u r)) = .scope (.seq (.seq (.region 0 ⟨pickL ops [i]⟩ false) (ordC ops t)) (ordC ops (.both j u r))) := rfl
theorem codeA_nil (ops : Array Oper) : codeA ops [] = .skip := rfl
theorem codeA_look (ops : Array Oper) (p : List Nat) (i : Nat) (l : List (Nat × List Nat × Nat)) : codeA ops ((0, p, i) :: l) = .seq (.scope (.region 1 ⟨pickL ops [i]⟩ true)) (codeA ops l) := rfl
theorem codeA_hard (ops : Array Oper) (p : List Nat) (i : Nat) (l : List (Nat × List Nat × Nat)) : codeA ops ((1, p, i) :: l) = .seq (.scope (.region 0 ⟨pickL ops p⟩ true)) (.seq (.region 0 ⟨pickL ops [i]⟩ false) (codeA ops l)) := rfl
theorem codeA_fin (ops : Array Oper) (p : List Nat) (i : Nat) (l : List (Nat × List Nat × Nat)) : codeA ops ((2, p, i) :: l) = .seq (.scope (.region 0 ⟨pickL ops p⟩ true)) (codeA ops l) := rfl
end
theorem fn_of (m : Md) {f : Nat} {fn : Func} {c : Code} {args : List AV} {res : AV} (hf : Tryz.prog.funcs[f]? = some fn) (hn : (fn.name == "runtime.NumGoroutine") = false) (hb : fn.body = some c) (hok : okCode fn.ntmps c = true)
    (hw : C.wrt f = none) (hl : args.length ≤ fn.ntmps) (ha : args.all plainArg = true) (hW : ∀ Q, (∀ σ, exP (retG (CC m) σ fn.results.toList) (fun p => p.1 = res) → Q .ret σ) → WT (CC m) D c Q (St.init args) ⟨⟩) : Fx f args res :=
  fn_ofR m hf hn hb hok hw hl ha fun Q hQ => hW Q fun σ ⟨p, h1, h2⟩ => hQ σ ⟨p, h1, h2, rfl⟩
theorem fn_ofW (m : Md) {f k : Nat} {y : AV} {fn : Func} {c : Code} {args : List AV} {R : AV → AV → Prop} (hf : Tryz.prog.funcs[f]? = some fn) (hn : (fn.name == "runtime.NumGoroutine") = false) (hb : fn.body = some c) (hok : okCode fn.ntmps c = true)
    (hw : C.wrt f = some k) (hl : args.length ≤ fn.ntmps) (hy : args[k]? = some y) (ho : ∃ sz l, y = .own sz l ∨ ∃ i j, y = .pt sz l i j) (ha : (args.set k .und).all plainArg = true)
    (hW : ∀ Q, (∀ σ, exP (retG (CC m) σ fn.results.toList) (fun p => exP (leftV p.2 y (ghostW k y)) fun l => R p.1 l) → Q .ret σ) → WT (CC m) D c Q ((St.init (args.set k .und)).lentS k y) ⟨⟩) : FxR f args R :=
  ⟨⟨fn, c, hf, hn, hb⟩, does_of_WW (Cok m) (Dok m) hf hb hok hw hl hy ho ha (hW _ fun _ h => h)⟩
theorem fn_ofWX (m : Md) {f k : Nat} {y : AV} {fn : Func} {c : Code} {args : List AV} {R : AV → AV → Prop} (hf : Tryz.prog.funcs[f]? = some fn) (hn : (fn.name == "runtime.NumGoroutine") = false) (hb : fn.body = some c) (hok : okCodeX m.rs C.wrt fn.ntmps c = true)
    (hw : C.wrt f = some k) (hl : args.length ≤ fn.ntmps) (hy : args[k]? = some y) (ho : ∃ sz l, y = .own sz l ∨ ∃ i j, y = .pt sz l i j) (ha : (args.set k .und).all plainArg = true)
    (hW : ∀ Q, (∀ σ, exP (retG (CC m) σ fn.results.toList) (fun p => exP (leftV p.2 y (ghostW k y)) fun l => R p.1 l) → Q .ret σ) → WT (CC m) D (tr m.rs c) Q ((St.init (args.set k .und)).lentS k y) ⟨⟩) : FxR f args R :=
  ⟨⟨fn, c, hf, hn, hb⟩, does_of_WWX (Cok m) (Dok m) hf hb hok hw hl hy ho ha (hW _ fun _ h => h)⟩
theorem callD {q : Bool} {f : Nat} {args : List AV} {K : AV → AV → Prop} {res : AV} {t : Tag K} (h : Fx f args res) (hK : (q = true → scalR res = true) ∧ K res .und) : callT D q f args K t :=
  ⟨_, h, fun hq => ⟨res, hK.1 hq, ⟨rfl, rfl⟩, fun _ _ h => h.1⟩, fun r l ⟨e1, e2⟩ => by subst e1 e2; exact hK.2⟩
theorem callR {f : Nat} {args : List AV} {K : AV → AV → Prop} {R : AV → AV → Prop} {t : Tag K} (h : FxR f args R) (hK : ∀ r l, R r l → K r l) : callT D false f args K t := ⟨_, h, fun hq => absurd hq (by decide), hK⟩
theorem FxR.mono {f : Nat} {args : List AV} {R R' : AV → AV → Prop} (h : FxR f args R) (hR : ∀ r l, R r l → R' r l) : FxR f args R' :=
  ⟨h.1, fun w F vals gs h1 h2 h3 h4 => (h.2 w F vals gs h1 h2 h3 h4).mono fun _ _ ⟨v, F', g, gs', res, left, hr, hx⟩ => ⟨v, F', g, gs', res, left, hR _ _ hr, hx⟩⟩
theorem FxR.wkR {f : Nat} {args : List AV} {R R' : AV → AV → Prop} (h : FxR f args R) (hR : ∀ r l, R r l → R' (wk r) l) : FxR f args R' := FxR.mono (R := fun r l => ∃ r0, R r0 l ∧ r = wk r0) ⟨h.1, h.2.wk⟩ fun _ _ ⟨r0, h0, e⟩ => e ▸ hR r0 _ h0
theorem closeM_false (σ : St) (xs : List AV) : σ.closeM false xs = σ.closeL xs := rfl
theorem closeM_true (σ : St) (xs : List AV) : σ.closeM true xs = orElse (σ.steal xs) (σ.closeL xs) := rfl
theorem orElse_some (r : List AV × St) (y : Option (List AV × St)) : orElse (some r) y = some r := rfl
theorem orElse_none (y : Option (List AV × St)) : orElse none y = y := rfl
theorem ensure_true : ensure True = some () := rfl
theorem steal1_one (σ : St) (e : Nat) (xs : List AV) (z : AV) : steal1 σ e xs [z] = (stealL e (σ.en e).wr 0 xs (leaves z)).bind fun ys => some (ys, σ.kill e) := rfl
theorem behind_nf {C : Cfg} {σ : St} {f : Nat} {xs : List AV} {dd : Option Tmp} {res : AV} (h : hasFro res = false) : behind C σ f xs dd res .und = takeRes dd σ res := by
  unfold behind
  rw [h, leftS_und]
  rfl
theorem behind_aggO {C : Cfg} {σ : St} {f : Nat} {xs : List AV} {k : Tmp} {fs : List AV} (h : lentL C σ f 0 xs = []) : behind C σ f xs (some k) (.agg fs) .und = takeRes (some k) σ (.agg fs) := by
  unfold behind
  rw [h, freeze_none, leftS_und]
abbrev iA (n : Int) : AV := .int .i64 n
structure Val where
  k : Int
  n : Int
  s : ByteArray
structure Wr where
  key : Int
  row : List Val
  gone : Bool
structure En where
  time : Int
  ws : List Wr
def vA (v : Val) : AV := .agg [.int .i64 v.k, .int .i64 v.n, .str v.s]
def wA (w : Wr) : AV := .agg [.int .i64 w.key, .fro none false (w.row.map vA), .bool w.gone]
def eA (e : En) : AV := .agg [.int .i64 e.time, .fro none false (e.ws.map wA)]
theorem froize_vA (v : Val) : froize (vA v) = vA v := rfl
theorem froize_wA (w : Wr) : froize (wA w) = wA w := rfl
theorem froize_eA (e : En) : froize (eA e) = eA e := rfl
theorem wr {x : Int} (h : -9223372036854775808 ≤ x ∧ x < 9223372036854775808) : IntKind.i64.wrap x = x := by rw [IntKind.wrap_i64]; omega
def szv (v : Val) (l : Int) : Int := if l - v.s.size < 0 then -1 else l - v.s.size
def szL {α : Type} (f : α → Int → Int) : List α → Int → Int
  | [], l => l
  | x :: xs, l => if f x l < 0 then -1 else szL f xs (f x l)
def szS {α : Type} (f : α → Int → Int) (xs : List α) (l : Int) : Int := if l - xs.length < 0 then -1 else szL f xs (l - xs.length)
def szw (w : Wr) (l : Int) : Int := szS szv w.row l
def sze (e : En) (l : Int) : Int := szS szw e.ws l
instance : Inhabited Val := ⟨⟨0, 0, .empty⟩⟩
instance : Inhabited Wr := ⟨⟨0, [], false⟩⟩
instance : Inhabited En := ⟨⟨0, []⟩⟩
def SzOk {α : Type} (f : α → Int → Int) : Prop := ∀ x l, 0 ≤ l → f x l = -1 ∨ (0 ≤ f x l ∧ f x l ≤ l)
def upL {α : Type} (f : α → AV) (z : AV) (xs : List α) (i : Nat) : List AV := (xs.take i).map f ++ List.replicate (xs.length - i) z
theorem map_froize_vA (xs : List Val) : (xs.map vA).map froize = xs.map vA := by simp [froize_vA]
theorem map_froize_wA (xs : List Wr) : (xs.map wA).map froize = xs.map wA := by simp [froize_wA]
theorem map_froize_eA (xs : List En) : (xs.map eA).map froize = xs.map eA := by simp [froize_eA]
theorem map_froize_iA (xs : List Int) : (xs.map iA).map froize = xs.map iA := by simp [froize]
def okV (v : Val) : Prop := v.s.size ≤ 9223372036854775807
def okW (w : Wr) : Prop := w.row.length ≤ 9223372036854775807 ∧ ∀ v ∈ w.row, okV v
def okE (e : En) : Prop := e.ws.length ≤ 9223372036854775807 ∧ ∀ w ∈ e.ws, okW w
def bA (b : UInt8) : AV := .int .u8 b.toNat
def lettersP (s : ByteArray) : Prop := ∀ b ∈ s.data.toList, 97 ≤ b.toNat ∧ b.toNat ≤ 122
instance (s : ByteArray) : Decidable (lettersP s) := by unfold lettersP; exact inferInstance
def bs (s : ByteArray) : List UInt8 := s.data.toList
theorem bs_length (s : ByteArray) : (bs s).length = s.size := by unfold bs; rw [Array.length_toList]; rfl
def idxL {α : Type} (p : α → Prop) [DecidablePred p] : List α → Int → Int
  | [], _ => -1
  | x :: xs, i => if p x then i else idxL p xs (i + 1)
theorem idxL_drop {α : Type} [Inhabited α] (p : α → Prop) [DecidablePred p] {xs : List α} {i : Nat} (h : i < xs.length) (k : Int) : idxL p (xs.drop i) k = if p xs[i]! then k else idxL p (xs.drop (i + 1)) (k + 1) := by
  have e : xs.drop i = xs[i]! :: xs.drop (i + 1) := by rw [getElem!_pos xs i h]; simp
  rw [e, idxL]
theorem idxL_ge {α : Type} (p : α → Prop) [DecidablePred p] : ∀ (xs : List α) (i : Int), 0 ≤ i → (0 ≤ idxL p xs i ↔ ∃ x ∈ xs, p x)
  | [], i, _ => by simp [idxL]
  | x :: xs, i, hi => by
    rw [idxL]
    split
    · rename_i h; simp [h, hi]
    · rename_i h
      rw [idxL_ge p xs (i + 1) (by omega)]
      simp [h]
theorem okmem {α : Type} [Inhabited α] {p : α → Prop} {xs : List α} (h : ∀ x ∈ xs, p x) {i : Nat} (hi : i < xs.length) : p xs[i]! := h _ (by rw [getElem!_pos xs i hi]; exact List.getElem_mem _)
theorem leafB {p q : Prop} [Decidable p] [Decidable q] (h : p ↔ q) : AV.bool (decide p) = AV.bool (decide q) := congrArg AV.bool (decide_eq_decide.2 h)
theorem leafF {q : Prop} [Decidable q] (h : ¬ q) : AV.bool false = AV.bool (decide q) := by rw [decide_eq_false h]
theorem fn_ofWN (m : Md) {f k : Nat} {y : AV} {fn : Func} {c : Code} {args : List AV} {R : AV → AV → Prop} (hf : Tryz.prog.funcs[f]? = some fn) (hn : (fn.name == "runtime.NumGoroutine") = false) (hb : fn.body = some c) (hok : okCodeX m.rs C.wrt fn.ntmps c = true)
    (hw : C.wrt f = some k) (hl : args.length ≤ fn.ntmps) (hy : args[k]? = some y) (ho : ∃ sz l, y = .own sz l ∨ ∃ i j, y = .pt sz l i j) (ha : (args.set k .und).all plainArg = true)
    (hW : ∀ Q, (∀ σ, exP (retG (CC m) σ fn.results.toList) (fun p => exP (leftV p.2 y (ghostW k y)) fun l => R p.1 l) → Q .ret σ) → (∀ σ, exP (retG (CC m) σ fn.results.toList) (fun p => exP (leftV p.2 y (ghostW k y)) fun l => R p.1 l) → Q .normal σ) → WT (CC m) D (tr m.rs c) Q ((St.init (args.set k .und)).lentS k y) ⟨⟩) : FxR f args R :=
  ⟨⟨fn, c, hf, hn, hb⟩, does_of_WWX (Cok m) (Dok m) hf hb hok hw hl hy ho ha (hW _ (fun _ h => h) (fun _ h => h))⟩
theorem lentOf_clo (σ : St) (g : Nat) (cs : List AV) : lentOf σ (.clo g cs) = [] := by simp [lentOf]
