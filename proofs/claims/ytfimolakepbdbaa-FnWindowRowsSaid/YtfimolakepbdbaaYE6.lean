/- WALK of functions of the seat, or plain laws for it: each theorem f<k> says what function k returns, for every world and all arguments that stand for the values named. Conditions: none but those ahead of each theorem. -/
import Derived.Test.YtfimolakepbdbaaYE3
import Derived.Test.YtfimolakepbdbaaYE5
open Go Go.Vm Go.Proofs
set_option maxRecDepth 100000
set_option linter.unusedSimpArgs false
set_option linter.unusedVariables false
def sAdd (t : Int) (r : List Val) : Int := if r[2]!.k = 1 then IntKind.i64.wrap (t + r[2]!.n) else t
/-- Where the rows that are like row i end. -/
def gEnd (rs : List (List Val)) (i : Nat) : Nat := i + ((rs.drop i).takeWhile (fun s => decide (rowCmp rs[i]! s = 0))).length
def gTot (rs : List (List Val)) (i j : Nat) (t : Int) : Int := ((rs.drop i).take (j - i)).foldl sAdd t
/-- Does a new window begin at row i? -/
def nwP (rs : List (List Val)) (i : Nat) : Prop := i = 0 ∨ ¬ vEq rs[i]![0]! rs[i - 1]![0]!
instance (rs : List (List Val)) (i : Nat) : Decidable (nwP rs i) := by unfold nwP; exact inferInstance
def wRun (rs : List (List Val)) : Nat → Nat → Nat → Int → List Spt
  | 0, _, _, _ => []
  | f + 1, i, first, t => if i < rs.length then
      List.replicate (gEnd rs i - i) ⟨((i - (if nwP rs i then i else first) : Nat) : Int) + 1, gTot rs i (gEnd rs i) (if nwP rs i then 0 else t)⟩ ++ wRun rs f (gEnd rs i) (if nwP rs i then i else first) (gTot rs i (gEnd rs i) (if nwP rs i then 0 else t))
    else []
theorem rowCmp_self (r : List Val) : rowCmp r r = 0 := by have := rowCmp_ok.anti r r; omega
theorem vEq_symm {v w : Val} : vEq v w ↔ vEq w v := by
  unfold vEq
  constructor <;> rintro ⟨h1, h2, h3⟩ <;> exact ⟨h1.symm, h2.symm, h3.symm⟩
theorem takeWhile_len {α : Type} [Inhabited α] (p : α → Bool) : ∀ (l : List α) (k : Nat), k ≤ l.length → (∀ m, m < k → p l[m]! = true) → (k = l.length ∨ p l[k]! = false) → (l.takeWhile p).length = k
  | [], k, h, _, _ => by simp at h; subst h; rfl
  | x :: l, 0, _, _, h => by
    rcases h with h | h
    · simp at h
    · have : p x = false := by simpa using h
      rw [List.takeWhile_cons_of_neg (by simp [this])]; rfl
  | x :: l, k + 1, h1, h2, h3 => by
    have hx : p x = true := by simpa using h2 0 (by omega)
    rw [List.takeWhile_cons_of_pos hx, List.length_cons, takeWhile_len p l k (by simpa using h1) (fun m hm => by
      have := h2 (m + 1) (by omega)
      simpa using this) (by
      rcases h3 with h3 | h3
      · exact .inl (by simpa using h3)
      · exact .inr (by simpa using h3))]
theorem drop_at {α : Type} [Inhabited α] (l : List α) (i m : Nat) : (l.drop i)[m]! = l[i + m]! := by
  rw [List.getElem!_eq_getElem?_getD, List.getElem!_eq_getElem?_getD, List.getElem?_drop]
theorem gEnd_eq {rs : List (List Val)} {i j : Nat} (hij : i ≤ j) (hj : j ≤ rs.length) (h1 : ∀ m, i ≤ m → m < j → rowCmp rs[i]! rs[m]! = 0) (h2 : j = rs.length ∨ ¬ rowCmp rs[i]! rs[j]! = 0) : gEnd rs i = j := by
  unfold gEnd
  rw [takeWhile_len _ (rs.drop i) (j - i) (by simp; omega) (fun m hm => by
    rw [drop_at]; exact decide_eq_true (h1 (i + m) (by omega) (by omega))) (by
    rcases h2 with h2 | h2
    · exact .inl (by simp; omega)
    · refine .inr ?_
      rw [drop_at, show i + (j - i) = j by omega]
      exact decide_eq_false h2)]
  omega
theorem gTot_step {rs : List (List Val)} {i j : Nat} {t : Int} (hij : i ≤ j) (hj : j < rs.length) : gTot rs i (j + 1) t = sAdd (gTot rs i j t) rs[j]! := by
  unfold gTot
  rw [show j + 1 - i = (j - i) + 1 by omega, take_next (rs.drop i) (j - i) (by simp; omega), List.foldl_append, drop_at, show i + (j - i) = j by omega]
  rfl
theorem gTot_self (rs : List (List Val)) (i : Nat) (t : Int) : gTot rs i i t = t := by simp [gTot]
theorem sAdd_bd {t B : Int} {r : List Val} (h : winP r) (h1 : -B ≤ t) (h2 : t ≤ B) (hB : B ≤ 1000000000) : -(B + 9999) ≤ sAdd t r ∧ sAdd t r ≤ B + 9999 := by
  have := h.sum
  unfold sAdd
  split
  · rw [wr (by omega)]; omega
  · omega
theorem sAdd_wr {t : Int} {r : List Val} (h : winP r) (h1 : -1000000000 ≤ t) (h2 : t ≤ 1000000000) : IntKind.i64.wrap (t + r[2]!.n) = sAdd t r := by
  unfold sAdd
  split
  · rfl
  · rename_i h3
    rw [h.sum.2 h3, Int.add_zero, wr (by omega)]
theorem wRun_step {rs : List (List Val)} {f i first j : Nat} {t : Int} (hi : i < rs.length) (hj : gEnd rs i = j) : wRun rs (f + 1) i first t = List.replicate (j - i) ⟨((i - (if nwP rs i then i else first) : Nat) : Int) + 1, gTot rs i j (if nwP rs i then 0 else t)⟩ ++ wRun rs f j (if nwP rs i then i else first) (gTot rs i j (if nwP rs i then 0 else t)) := by
  rw [wRun, if_pos hi, hj]
theorem wRun_end {rs : List (List Val)} {f i first : Nat} {t : Int} (hi : ¬ i < rs.length) : wRun rs f i first t = [] := by
  cases f with
  | zero => rfl
  | succ f => rw [wRun, if_neg hi]
set_option maxHeartbeats 8000000 in
theorem f29 (ws : List (List Val)) (c : Bool) (hl : ws.length ≤ 1048576) (hr : ∀ w ∈ ws, w.length ≤ 1048576) (hs : ∀ r ∈ ws, okR r) : FxR 29 [.fro none c (ws.map rA)] fun r l => (∃ ys, WinR ws ys ∧ r = .own 2 ((wRun (ys.map Prod.snd) (ys.map Prod.snd).length 0 0 0).map sA)) ∧ l = .und := by
  refine fn_ofX ⟨false, [], []⟩ Try.func29 (by kernel_rfl) rfl (by kernel_rfl) (by kernel_rfl) (Nat.le_of_ble_eq_true rfl) rfl fun Q hQ => ?_
  simp only [tr_seq, tr_block, tr_loop, tr_cond, tr_skip, tr_exit, tr_ret, tr_reg]
  rw [tr_calm (by kernel_rfl), tr_calm (by kernel_rfl)]
  simp only [vmA, Nat.reduceEqDiff, reduceIte, Nat.reduceAdd, Nat.reduceBEq, reduceCtorEq, Nat.reduceLT, Int.reduceLE, Int.reduceLT, Int.reduceEq, Nat.reduceMul, Nat.reduceLeDiff]
  refine callR (f10 ws c hl hr hs) ?_
  rintro _ _ ⟨⟨ys, hy, rfl⟩, rfl⟩
  rw [rT_snd]
  have hsub := hy.sub
  have hyl : ys.length = (ys.map Prod.snd).length := by rw [List.length_map]
  have hw : ∀ r ∈ ys.map Prod.snd, winP r := hy.win
  simp only [vmA, Nat.reduceEqDiff, reduceIte, Nat.reduceAdd, Nat.reduceBEq, reduceCtorEq, Nat.reduceLT, Int.reduceLE, Int.reduceLT, Int.reduceEq, Nat.reduceMul, Nat.reduceLeDiff, behind_nf, hasFroL_rO, List.length_map]
  rw [hyl]
  refine Exists.elim (show ∃ rs : List (List Val), rs = ys.map Prod.snd from ⟨_, rfl⟩) fun rs hrs => ?_
  have hQ' : ∀ σ, (exP (retG (CC ⟨false, [], []⟩) σ Try.f29.results.toList) fun p => p.1 = .own 2 ((wRun rs rs.length 0 0 0).map sA) ∧ AV.und = AV.und) → Q Ex.ret σ := fun σ h => hQ σ (by
    refine exP_imp ?_ h
    rintro p ⟨hp, _⟩
    exact ⟨⟨ys, hy, by rw [hp, hrs]⟩, rfl⟩)
  have h50 : rs.length ≤ 50 := by rw [hrs]; exact hy.len
  rw [← hrs] at hsub hw ⊢
  clear hyl hrs hy hQ
  obtain ⟨k1, k2⟩ := hsub
  have k3 : ∀ r ∈ rs, okR r := fun r h => hs r (k2 r h)
  refine WT_loopR (fun (p : Nat × Nat × Nat × Int × List Spt × Nat) σ => (p.2.1 ≤ rs.length ∧ rs.length ≤ p.2.1 + p.1 ∧ p.2.2.1 ≤ p.2.1 ∧ p.2.2.2.2.1.length = p.2.1 ∧ p.2.2.2.2.1 ++ wRun rs p.1 p.2.1 p.2.2.1 p.2.2.2.1 = wRun rs rs.length 0 0 0) ∧ σ.sl 7 = .int .i64 p.2.1 ∧ σ.sl 6 = .int .i64 p.2.2.2.1 ∧ σ.sl 5 = .int .i64 p.2.2.1 ∧ σ.sl 4 = .hd 768 1 0 rs.length false ∧ (σ.en 768).live = true ∧ (σ.en 768).gen = 1 ∧ (σ.en 768).frz = false ∧ (σ.en 768).sz = 1 ∧ (σ.en 768).elems = rs.map rO ∧ σ.sl 3 = .hd 192 p.2.2.2.2.2 0 p.2.1 false ∧ (σ.en 192).live = true ∧ (σ.en 192).gen = p.2.2.2.2.2 ∧ (σ.en 192).frz = false ∧ (σ.en 192).sz = 2 ∧ (σ.en 192).elems = p.2.2.2.2.1.map sA) (fun p => rs.length - p.2.1) 3 ?_ ?_
  · simp only [vmA, Nat.reduceEqDiff, reduceIte, Nat.reduceAdd, Nat.reduceBEq, reduceCtorEq, Nat.reduceLT, Int.reduceLE, Int.reduceLT, Int.reduceEq, Nat.reduceMul, Nat.reduceLeDiff, reown]
    exact ⟨(rs.length, 0, 0, 0, [], 1), ⟨Nat.zero_le _, by simp, Nat.le_refl _, rfl, rfl⟩, rfl, rfl, rfl, rfl, rfl, rfl⟩
  rintro ⟨f, i, first, t, out, γ⟩ σ ⟨⟨hi, hf, hfi, hol, hW⟩, e7, e6, e5, e4, m1, m2, m3, m4, m5, e3, l1, l2, l3, l4, l5⟩
  dsimp only at hi hf hfi hol hW e7 e6 e5 e4 m1 m2 m3 m4 m5 e3 l1 l2 l3 l4 l5
  by_cases hlt : i < rs.length
  · obtain ⟨F, hF⟩ : ∃ F, (if nwP rs i then i else first) = F := ⟨_, rfl⟩
    obtain ⟨T, hT⟩ : ∃ T, (if nwP rs i then 0 else t) = T := ⟨_, rfl⟩
    have g0 : ((i : Int) < rs.length) = True := eq_true (by omega)
    have g1 : (i < rs.length) = True := eq_true (by omega)
    have hmi : rs[i]! ∈ rs := by rw [getElem!_pos rs i hlt]; exact List.getElem_mem _
    have hwi := hw _ hmi
    obtain ⟨c0, c1, c2, d0, d1, d2⟩ := winLens hwi
    have hFl : F ≤ i := by rw [← hF]; split <;> omega
    by_cases hz : i = 0
    · have z0 : ((i : Int) = 0) = True := eq_true (by omega)
      have hn : nwP rs i := .inl hz
      have hFi : F = i := by rw [← hF, if_pos hn]
      have hTi : T = 0 := by rw [← hT, if_pos hn]
      simp only [vmA, Nat.reduceEqDiff, reduceIte, Nat.reduceAdd, Nat.reduceBEq, reduceCtorEq, Nat.reduceLT, Int.reduceLE, Int.reduceLT, Int.reduceEq, Nat.reduceMul, Nat.reduceLeDiff, e7, e6, e5, e4, m1, m2, m3, m4, m5, e3, l1, l2, l3, l4, l5, List.length_map, rO, vA, sA, Int.toNat_zero, Int.toNat_natCast, g0, g1, c0, c1, c2, d0, d1, d2, z0]
      refine WT_loop (fun (j : Nat) σ => (i ≤ j ∧ j ≤ rs.length ∧ ∀ m, i ≤ m → m < j → rowCmp rs[i]! rs[m]! = 0) ∧ σ.sl 8 = .int .i64 j ∧ σ.sl 6 = .int .i64 (gTot rs i j T) ∧ σ.sl 5 = .int .i64 F ∧ σ.sl 7 = .int .i64 i ∧ σ.sl 4 = .hd 768 1 0 rs.length false ∧ (σ.en 768).live = true ∧ (σ.en 768).gen = 1 ∧ (σ.en 768).frz = false ∧ (σ.en 768).sz = 1 ∧ (σ.en 768).elems = rs.map rO ∧ σ.sl 3 = .hd 192 γ 0 i false ∧ (σ.en 192).live = true ∧ (σ.en 192).gen = γ ∧ (σ.en 192).frz = false ∧ (σ.en 192).sz = 2 ∧ (σ.en 192).elems = out.map sA) (fun j => rs.length - j) i ⟨⟨Nat.le_refl _, hi, fun m h1 h2 => absurd h1 (by omega)⟩, by simp [put_sl, put_en, put_none, init_sl, fresh_sl, fresh_en, ent_sl, ent_en, init_en], by simp [put_sl, put_en, put_none, init_sl, fresh_sl, fresh_en, ent_sl, ent_en, init_en, e6, hTi, gTot_self], by simp [put_sl, put_en, put_none, init_sl, fresh_sl, fresh_en, ent_sl, ent_en, init_en, e5, hFi], by simp [put_sl, put_en, put_none, init_sl, fresh_sl, fresh_en, ent_sl, ent_en, init_en, e7], by simp [put_sl, put_en, put_none, init_sl, fresh_sl, fresh_en, ent_sl, ent_en, init_en, e4], by simp [put_sl, put_en, put_none, init_sl, fresh_sl, fresh_en, ent_sl, ent_en, init_en, m1], by simp [put_sl, put_en, put_none, init_sl, fresh_sl, fresh_en, ent_sl, ent_en, init_en, m2], by simp [put_sl, put_en, put_none, init_sl, fresh_sl, fresh_en, ent_sl, ent_en, init_en, m3], by simp [put_sl, put_en, put_none, init_sl, fresh_sl, fresh_en, ent_sl, ent_en, init_en, m4], by simp [put_sl, put_en, put_none, init_sl, fresh_sl, fresh_en, ent_sl, ent_en, init_en, m5], by simp [put_sl, put_en, put_none, init_sl, fresh_sl, fresh_en, ent_sl, ent_en, init_en, e3], by simp [put_sl, put_en, put_none, init_sl, fresh_sl, fresh_en, ent_sl, ent_en, init_en, l1], by simp [put_sl, put_en, put_none, init_sl, fresh_sl, fresh_en, ent_sl, ent_en, init_en, l2], by simp [put_sl, put_en, put_none, init_sl, fresh_sl, fresh_en, ent_sl, ent_en, init_en, l3], by simp [put_sl, put_en, put_none, init_sl, fresh_sl, fresh_en, ent_sl, ent_en, init_en, l4], by simp [put_sl, put_en, put_none, init_sl, fresh_sl, fresh_en, ent_sl, ent_en, init_en, l5]⟩ ?_
      clear e7 e6 e5 e4 m1 m2 m3 m4 m5 e3 l1 l2 l3 l4 l5
      rintro j σ ⟨⟨hij, hj, hsame⟩, e8, e6, e5, e7, e4, m1, m2, m3, m4, m5, e3, l1, l2, l3, l4, l5⟩
      by_cases hjn : j < rs.length
      · have p0 : ((j : Int) < rs.length) = True := eq_true (by omega)
        have p1 : (j < rs.length) = True := eq_true (by omega)
        have hmj : rs[j]! ∈ rs := by rw [getElem!_pos rs j hjn]; exact List.getElem_mem _
        have hwj := hw _ hmj
        simp only [vmA, Nat.reduceEqDiff, reduceIte, Nat.reduceAdd, Nat.reduceBEq, reduceCtorEq, Nat.reduceLT, Int.reduceLE, Int.reduceLT, Int.reduceEq, Nat.reduceMul, Nat.reduceLeDiff, e8, e7, e6, e5, e4, m1, m2, m3, m4, m5, e3, l1, l2, l3, l4, l5, List.length_map, rO, vA, sA, Int.toNat_zero, Int.toNat_natCast, p0, p1, g0, g1]
        refine callD (f32 rs[i]! rs[j]! false false hwi hwj (k3 _ hmi) (k3 _ hmj)) ?_
        simp only [vmA, Nat.reduceEqDiff, reduceIte, Nat.reduceAdd, Nat.reduceBEq, reduceCtorEq, Nat.reduceLT, Int.reduceLE, Int.reduceLT, Int.reduceEq, Nat.reduceMul, Nat.reduceLeDiff, e8, e7, e6, e5, e4, m1, m2, m3, m4, m5, e3, l1, l2, l3, l4, l5, List.length_map, rO, vA, sA, Int.toNat_zero, Int.toNat_natCast, p0, p1, g0, g1]
        refine ⟨fun h0 => ?_, fun hne => ?_⟩
        · refine callD (f44 (gTot rs i j T) rs[j]! false hwj) ?_
          simp only [vmA, Nat.reduceEqDiff, reduceIte, Nat.reduceAdd, Nat.reduceBEq, reduceCtorEq, Nat.reduceLT, Int.reduceLE, Int.reduceLT, Int.reduceEq, Nat.reduceMul, Nat.reduceLeDiff, e8, e7, e6, e5, e4, m1, m2, m3, m4, m5, e3, l1, l2, l3, l4, l5, List.length_map, rO, vA, sA, Int.toNat_zero, Int.toNat_natCast, p0, p1, g0, g1]
          have hst := gTot_step (t := T) hij hjn
          rw [wr (by omega)]
          exact ⟨j + 1, ⟨⟨by omega, by omega, fun m h1 h2 => by
            by_cases hmj2 : m = j
            · rw [hmj2]; exact h0
            · exact hsame m h1 (by omega)⟩, leafJ (by omega), leafJ hst.symm⟩, by omega⟩
        · have hex : j = rs.length ∨ ¬ rowCmp rs[i]! rs[j]! = 0 := (.inr hne)
          have hge : gEnd rs i = j := gEnd_eq hij hj hsame hex
          have hij' : i < j := by
            rcases Nat.lt_or_ge i j with h | h
            · exact h
            · obtain rfl : j = i := by omega
              exact hex.elim (fun h => absurd h (by omega)) (fun h => absurd (rowCmp_self _) h)
          have hst := wRun_step (f := f - 1) (first := first) (t := t) hlt hge
          rw [hF, hT, show f - 1 + 1 = f by omega] at hst
          obtain ⟨s, hs2⟩ : ∃ s : Spt, (⟨((i - F : Nat) : Int) + 1, gTot rs i j T⟩ : Spt) = s := ⟨_, rfl⟩
          rw [hs2] at hst
          refine WT_loop (fun (p : Nat × Nat) σ => (i ≤ p.1 ∧ p.1 ≤ j) ∧ σ.sl 9 = .int .i64 p.1 ∧ σ.sl 8 = .int .i64 j ∧ σ.sl 6 = .int .i64 (gTot rs i j T) ∧ σ.sl 5 = .int .i64 F ∧ σ.sl 7 = .int .i64 i ∧ σ.sl 4 = .hd 768 1 0 rs.length false ∧ (σ.en 768).live = true ∧ (σ.en 768).gen = 1 ∧ (σ.en 768).frz = false ∧ (σ.en 768).sz = 1 ∧ (σ.en 768).elems = rs.map rO ∧ σ.sl 3 = .hd 192 p.2 0 p.1 false ∧ (σ.en 192).live = true ∧ (σ.en 192).gen = p.2 ∧ (σ.en 192).frz = false ∧ (σ.en 192).sz = 2 ∧ (σ.en 192).elems = (out ++ List.replicate (p.1 - i) s).map sA) (fun p => j - p.1) (i, γ) ⟨⟨Nat.le_refl _, by dsimp only; omega⟩, by simp [put_sl, put_en, put_none, init_sl, fresh_sl, fresh_en, ent_sl, ent_en, init_en], by simp [put_sl, put_en, put_none, init_sl, fresh_sl, fresh_en, ent_sl, ent_en, init_en, e8], by simp [put_sl, put_en, put_none, init_sl, fresh_sl, fresh_en, ent_sl, ent_en, init_en, e6], by simp [put_sl, put_en, put_none, init_sl, fresh_sl, fresh_en, ent_sl, ent_en, init_en, e5], by simp [put_sl, put_en, put_none, init_sl, fresh_sl, fresh_en, ent_sl, ent_en, init_en, e7], by simp [put_sl, put_en, put_none, init_sl, fresh_sl, fresh_en, ent_sl, ent_en, init_en, e4], by simp [put_sl, put_en, put_none, init_sl, fresh_sl, fresh_en, ent_sl, ent_en, init_en, m1], by simp [put_sl, put_en, put_none, init_sl, fresh_sl, fresh_en, ent_sl, ent_en, init_en, m2], by simp [put_sl, put_en, put_none, init_sl, fresh_sl, fresh_en, ent_sl, ent_en, init_en, m3], by simp [put_sl, put_en, put_none, init_sl, fresh_sl, fresh_en, ent_sl, ent_en, init_en, m4], by simp [put_sl, put_en, put_none, init_sl, fresh_sl, fresh_en, ent_sl, ent_en, init_en, m5], by simp [put_sl, put_en, put_none, init_sl, fresh_sl, fresh_en, ent_sl, ent_en, init_en, e3], by simp [put_sl, put_en, put_none, init_sl, fresh_sl, fresh_en, ent_sl, ent_en, init_en, l1], by simp [put_sl, put_en, put_none, init_sl, fresh_sl, fresh_en, ent_sl, ent_en, init_en, l2], by simp [put_sl, put_en, put_none, init_sl, fresh_sl, fresh_en, ent_sl, ent_en, init_en, l3], by simp [put_sl, put_en, put_none, init_sl, fresh_sl, fresh_en, ent_sl, ent_en, init_en, l4], by simp [put_sl, put_en, put_none, init_sl, fresh_sl, fresh_en, ent_sl, ent_en, init_en, l5]⟩ ?_
          clear e8 e6 e5 e7 e4 m1 m2 m3 m4 m5 e3 l1 l2 l3 l4 l5
          rintro ⟨k, γ2⟩ σ ⟨⟨hik, hkj⟩, e9, e8, e6, e5, e7, e4, m1, m2, m3, m4, m5, e3, l1, l2, l3, l4, l5⟩
          dsimp only at hik hkj e9 e3 l2 l5
          obtain ⟨els, hels⟩ : ∃ els, out ++ List.replicate (k - i) s = els := ⟨_, rfl⟩
          have hel : els.length = k := by rw [← hels, List.length_append, List.length_replicate]; omega
          rw [hels] at l5
          by_cases hk : k < j
          · have q0 : ((k : Int) < j) = True := eq_true (by omega)
            have q1 : IntKind.i64.wrap ((i : Int) - F) = ((i - F : Nat) : Int) := by rw [wr (by omega)]; omega
            have q2 : IntKind.i64.wrap (((i - F : Nat) : Int) + 1) = ((i - F : Nat) : Int) + 1 := wr (by omega)
            simp only [vmA, Nat.reduceEqDiff, reduceIte, Nat.reduceAdd, Nat.reduceBEq, reduceCtorEq, Nat.reduceLT, Int.reduceLE, Int.reduceLT, Int.reduceEq, Nat.reduceMul, Nat.reduceLeDiff, e9, e8, e7, e6, e5, e4, m1, m2, m3, m4, m5, e3, l1, l2, l3, l4, l5, List.length_map, rO, vA, sA, Int.toNat_zero, Int.toNat_natCast, hel, q0, q1, q2]
            have hnx : els.map sA ++ [AV.agg [.int .i64 (((i - F : Nat) : Int) + 1), .int .i64 (gTot rs i j T)]] = (out ++ List.replicate (k + 1 - i) s).map sA := by
              rw [← hels, show k + 1 - i = (k - i) + 1 by omega, List.replicate_succ', ← List.append_assoc, List.map_append (l₁ := out ++ List.replicate (k - i) s), ← hs2]
              rfl
            rw [wr (by omega)]
            exact ⟨⟨by omega, by omega⟩, (k + 1, γ2 + 1), ⟨⟨by dsimp only; omega, by dsimp only; omega⟩, leafJ (by dsimp only; omega), rfl, rfl, hnx⟩, by dsimp only; omega⟩
          · have q0 : ((k : Int) < j) = False := eq_false (by omega)
            obtain rfl : k = j := by omega
            simp only [vmA, Nat.reduceEqDiff, reduceIte, Nat.reduceAdd, Nat.reduceBEq, reduceCtorEq, Nat.reduceLT, Int.reduceLE, Int.reduceLT, Int.reduceEq, Nat.reduceMul, Nat.reduceLeDiff, e9, e8, e7, e6, e5, e4, m1, m2, m3, m4, m5, e3, l1, l2, l3, l4, l5, List.length_map, rO, vA, sA, Int.toNat_zero, Int.toNat_natCast, hel, q0, reown]
            have hml : (els.map sA).length = k := by rw [List.length_map, hel]
            rw [List.take_of_length_le (by omega), hml]
            have hWk : els ++ wRun rs (f - 1) k F (gTot rs i k T) = wRun rs rs.length 0 0 0 := by rw [← hels, List.append_assoc, ← hst]; exact hW
            exact ⟨(f - 1, k, F, gTot rs i k T, els, γ2 + 1), ⟨⟨by dsimp only; omega, by dsimp only; omega, by dsimp only; omega, hel, hWk⟩, rfl, rfl, rfl, rfl, rfl, rfl⟩, by dsimp only; omega⟩
      · have p0 : ((j : Int) < rs.length) = False := eq_false (by omega)
        simp only [vmA, Nat.reduceEqDiff, reduceIte, Nat.reduceAdd, Nat.reduceBEq, reduceCtorEq, Nat.reduceLT, Int.reduceLE, Int.reduceLT, Int.reduceEq, Nat.reduceMul, Nat.reduceLeDiff, e8, e7, e6, e5, e4, m1, m2, m3, m4, m5, e3, l1, l2, l3, l4, l5, List.length_map, rO, vA, sA, Int.toNat_zero, Int.toNat_natCast, p0, g0, g1]
        have hex : j = rs.length ∨ ¬ rowCmp rs[i]! rs[j]! = 0 := (.inl (by omega))
        have hge : gEnd rs i = j := gEnd_eq hij hj hsame hex
        have hij' : i < j := by
          rcases Nat.lt_or_ge i j with h | h
          · exact h
          · obtain rfl : j = i := by omega
            exact hex.elim (fun h => absurd h (by omega)) (fun h => absurd (rowCmp_self _) h)
        have hst := wRun_step (f := f - 1) (first := first) (t := t) hlt hge
        rw [hF, hT, show f - 1 + 1 = f by omega] at hst
        obtain ⟨s, hs2⟩ : ∃ s : Spt, (⟨((i - F : Nat) : Int) + 1, gTot rs i j T⟩ : Spt) = s := ⟨_, rfl⟩
        rw [hs2] at hst
        refine WT_loop (fun (p : Nat × Nat) σ => (i ≤ p.1 ∧ p.1 ≤ j) ∧ σ.sl 9 = .int .i64 p.1 ∧ σ.sl 8 = .int .i64 j ∧ σ.sl 6 = .int .i64 (gTot rs i j T) ∧ σ.sl 5 = .int .i64 F ∧ σ.sl 7 = .int .i64 i ∧ σ.sl 4 = .hd 768 1 0 rs.length false ∧ (σ.en 768).live = true ∧ (σ.en 768).gen = 1 ∧ (σ.en 768).frz = false ∧ (σ.en 768).sz = 1 ∧ (σ.en 768).elems = rs.map rO ∧ σ.sl 3 = .hd 192 p.2 0 p.1 false ∧ (σ.en 192).live = true ∧ (σ.en 192).gen = p.2 ∧ (σ.en 192).frz = false ∧ (σ.en 192).sz = 2 ∧ (σ.en 192).elems = (out ++ List.replicate (p.1 - i) s).map sA) (fun p => j - p.1) (i, γ) ⟨⟨Nat.le_refl _, by dsimp only; omega⟩, by simp [put_sl, put_en, put_none, init_sl, fresh_sl, fresh_en, ent_sl, ent_en, init_en], by simp [put_sl, put_en, put_none, init_sl, fresh_sl, fresh_en, ent_sl, ent_en, init_en, e8], by simp [put_sl, put_en, put_none, init_sl, fresh_sl, fresh_en, ent_sl, ent_en, init_en, e6], by simp [put_sl, put_en, put_none, init_sl, fresh_sl, fresh_en, ent_sl, ent_en, init_en, e5], by simp [put_sl, put_en, put_none, init_sl, fresh_sl, fresh_en, ent_sl, ent_en, init_en, e7], by simp [put_sl, put_en, put_none, init_sl, fresh_sl, fresh_en, ent_sl, ent_en, init_en, e4], by simp [put_sl, put_en, put_none, init_sl, fresh_sl, fresh_en, ent_sl, ent_en, init_en, m1], by simp [put_sl, put_en, put_none, init_sl, fresh_sl, fresh_en, ent_sl, ent_en, init_en, m2], by simp [put_sl, put_en, put_none, init_sl, fresh_sl, fresh_en, ent_sl, ent_en, init_en, m3], by simp [put_sl, put_en, put_none, init_sl, fresh_sl, fresh_en, ent_sl, ent_en, init_en, m4], by simp [put_sl, put_en, put_none, init_sl, fresh_sl, fresh_en, ent_sl, ent_en, init_en, m5], by simp [put_sl, put_en, put_none, init_sl, fresh_sl, fresh_en, ent_sl, ent_en, init_en, e3], by simp [put_sl, put_en, put_none, init_sl, fresh_sl, fresh_en, ent_sl, ent_en, init_en, l1], by simp [put_sl, put_en, put_none, init_sl, fresh_sl, fresh_en, ent_sl, ent_en, init_en, l2], by simp [put_sl, put_en, put_none, init_sl, fresh_sl, fresh_en, ent_sl, ent_en, init_en, l3], by simp [put_sl, put_en, put_none, init_sl, fresh_sl, fresh_en, ent_sl, ent_en, init_en, l4], by simp [put_sl, put_en, put_none, init_sl, fresh_sl, fresh_en, ent_sl, ent_en, init_en, l5]⟩ ?_
        clear e8 e6 e5 e7 e4 m1 m2 m3 m4 m5 e3 l1 l2 l3 l4 l5
        rintro ⟨k, γ2⟩ σ ⟨⟨hik, hkj⟩, e9, e8, e6, e5, e7, e4, m1, m2, m3, m4, m5, e3, l1, l2, l3, l4, l5⟩
        dsimp only at hik hkj e9 e3 l2 l5
        obtain ⟨els, hels⟩ : ∃ els, out ++ List.replicate (k - i) s = els := ⟨_, rfl⟩
        have hel : els.length = k := by rw [← hels, List.length_append, List.length_replicate]; omega
        rw [hels] at l5
        by_cases hk : k < j
        · have q0 : ((k : Int) < j) = True := eq_true (by omega)
          have q1 : IntKind.i64.wrap ((i : Int) - F) = ((i - F : Nat) : Int) := by rw [wr (by omega)]; omega
          have q2 : IntKind.i64.wrap (((i - F : Nat) : Int) + 1) = ((i - F : Nat) : Int) + 1 := wr (by omega)
          simp only [vmA, Nat.reduceEqDiff, reduceIte, Nat.reduceAdd, Nat.reduceBEq, reduceCtorEq, Nat.reduceLT, Int.reduceLE, Int.reduceLT, Int.reduceEq, Nat.reduceMul, Nat.reduceLeDiff, e9, e8, e7, e6, e5, e4, m1, m2, m3, m4, m5, e3, l1, l2, l3, l4, l5, List.length_map, rO, vA, sA, Int.toNat_zero, Int.toNat_natCast, hel, q0, q1, q2]
          have hnx : els.map sA ++ [AV.agg [.int .i64 (((i - F : Nat) : Int) + 1), .int .i64 (gTot rs i j T)]] = (out ++ List.replicate (k + 1 - i) s).map sA := by
            rw [← hels, show k + 1 - i = (k - i) + 1 by omega, List.replicate_succ', ← List.append_assoc, List.map_append (l₁ := out ++ List.replicate (k - i) s), ← hs2]
            rfl
          rw [wr (by omega)]
          exact ⟨⟨by omega, by omega⟩, (k + 1, γ2 + 1), ⟨⟨by dsimp only; omega, by dsimp only; omega⟩, leafJ (by dsimp only; omega), rfl, rfl, hnx⟩, by dsimp only; omega⟩
        · have q0 : ((k : Int) < j) = False := eq_false (by omega)
          obtain rfl : k = j := by omega
          simp only [vmA, Nat.reduceEqDiff, reduceIte, Nat.reduceAdd, Nat.reduceBEq, reduceCtorEq, Nat.reduceLT, Int.reduceLE, Int.reduceLT, Int.reduceEq, Nat.reduceMul, Nat.reduceLeDiff, e9, e8, e7, e6, e5, e4, m1, m2, m3, m4, m5, e3, l1, l2, l3, l4, l5, List.length_map, rO, vA, sA, Int.toNat_zero, Int.toNat_natCast, hel, q0, reown]
          have hml : (els.map sA).length = k := by rw [List.length_map, hel]
          rw [List.take_of_length_le (by omega), hml]
          have hWk : els ++ wRun rs (f - 1) k F (gTot rs i k T) = wRun rs rs.length 0 0 0 := by rw [← hels, List.append_assoc, ← hst]; exact hW
          exact ⟨(f - 1, k, F, gTot rs i k T, els, γ2 + 1), ⟨⟨by dsimp only; omega, by dsimp only; omega, by dsimp only; omega, hel, hWk⟩, rfl, rfl, rfl, rfl, rfl, rfl⟩, by dsimp only; omega⟩
    · have z0 : ((i : Int) = 0) = False := eq_false (by omega)
      have z1 : IntKind.i64.wrap ((i : Int) - 1) = ((i - 1 : Nat) : Int) := by rw [wr (by omega)]; omega
      have z2 : (((i - 1 : Nat) : Int) < rs.length) = True := eq_true (by omega)
      have z3 : (i - 1 < rs.length) = True := eq_true (by omega)
      have hmp : rs[i - 1]! ∈ rs := by rw [getElem!_pos rs (i - 1) (by omega)]; exact List.getElem_mem _
      obtain ⟨a0, a1, a2, b0, b1, b2⟩ := winLens (hw _ hmp)
      by_cases hv : vEq rs[i - 1]![0]! rs[i]![0]!
      · have hn : ¬ nwP rs i := fun h => by
          rcases h with h | h
          · exact hz h
          · exact h (vEq_symm.1 hv)
        have hFi : F = first := by rw [← hF, if_neg hn]
        have hTi : T = t := by rw [← hT, if_neg hn]
        have hvT : (¬ vEq rs[i - 1]![0]! rs[i]![0]!) = False := eq_false (fun h => h hv)
        simp only [vmA, Nat.reduceEqDiff, reduceIte, Nat.reduceAdd, Nat.reduceBEq, reduceCtorEq, Nat.reduceLT, Int.reduceLE, Int.reduceLT, Int.reduceEq, Nat.reduceMul, Nat.reduceLeDiff, e7, e6, e5, e4, m1, m2, m3, m4, m5, e3, l1, l2, l3, l4, l5, List.length_map, rO, vA, sA, Int.toNat_zero, Int.toNat_natCast, g0, g1, c0, c1, c2, d0, d1, d2, z0, z1, z2, z3, a0, a1, a2, b0, b1, b2, vEq_bool, hvT]
        refine WT_loop (fun (j : Nat) σ => (i ≤ j ∧ j ≤ rs.length ∧ ∀ m, i ≤ m → m < j → rowCmp rs[i]! rs[m]! = 0) ∧ σ.sl 8 = .int .i64 j ∧ σ.sl 6 = .int .i64 (gTot rs i j T) ∧ σ.sl 5 = .int .i64 F ∧ σ.sl 7 = .int .i64 i ∧ σ.sl 4 = .hd 768 1 0 rs.length false ∧ (σ.en 768).live = true ∧ (σ.en 768).gen = 1 ∧ (σ.en 768).frz = false ∧ (σ.en 768).sz = 1 ∧ (σ.en 768).elems = rs.map rO ∧ σ.sl 3 = .hd 192 γ 0 i false ∧ (σ.en 192).live = true ∧ (σ.en 192).gen = γ ∧ (σ.en 192).frz = false ∧ (σ.en 192).sz = 2 ∧ (σ.en 192).elems = out.map sA) (fun j => rs.length - j) i ⟨⟨Nat.le_refl _, hi, fun m h1 h2 => absurd h1 (by omega)⟩, by simp [put_sl, put_en, put_none, init_sl, fresh_sl, fresh_en, ent_sl, ent_en, init_en], by simp [put_sl, put_en, put_none, init_sl, fresh_sl, fresh_en, ent_sl, ent_en, init_en, e6, hTi, gTot_self], by simp [put_sl, put_en, put_none, init_sl, fresh_sl, fresh_en, ent_sl, ent_en, init_en, e5, hFi], by simp [put_sl, put_en, put_none, init_sl, fresh_sl, fresh_en, ent_sl, ent_en, init_en, e7], by simp [put_sl, put_en, put_none, init_sl, fresh_sl, fresh_en, ent_sl, ent_en, init_en, e4], by simp [put_sl, put_en, put_none, init_sl, fresh_sl, fresh_en, ent_sl, ent_en, init_en, m1], by simp [put_sl, put_en, put_none, init_sl, fresh_sl, fresh_en, ent_sl, ent_en, init_en, m2], by simp [put_sl, put_en, put_none, init_sl, fresh_sl, fresh_en, ent_sl, ent_en, init_en, m3], by simp [put_sl, put_en, put_none, init_sl, fresh_sl, fresh_en, ent_sl, ent_en, init_en, m4], by simp [put_sl, put_en, put_none, init_sl, fresh_sl, fresh_en, ent_sl, ent_en, init_en, m5], by simp [put_sl, put_en, put_none, init_sl, fresh_sl, fresh_en, ent_sl, ent_en, init_en, e3], by simp [put_sl, put_en, put_none, init_sl, fresh_sl, fresh_en, ent_sl, ent_en, init_en, l1], by simp [put_sl, put_en, put_none, init_sl, fresh_sl, fresh_en, ent_sl, ent_en, init_en, l2], by simp [put_sl, put_en, put_none, init_sl, fresh_sl, fresh_en, ent_sl, ent_en, init_en, l3], by simp [put_sl, put_en, put_none, init_sl, fresh_sl, fresh_en, ent_sl, ent_en, init_en, l4], by simp [put_sl, put_en, put_none, init_sl, fresh_sl, fresh_en, ent_sl, ent_en, init_en, l5]⟩ ?_
        clear e7 e6 e5 e4 m1 m2 m3 m4 m5 e3 l1 l2 l3 l4 l5
        rintro j σ ⟨⟨hij, hj, hsame⟩, e8, e6, e5, e7, e4, m1, m2, m3, m4, m5, e3, l1, l2, l3, l4, l5⟩
        by_cases hjn : j < rs.length
        · have p0 : ((j : Int) < rs.length) = True := eq_true (by omega)
          have p1 : (j < rs.length) = True := eq_true (by omega)
          have hmj : rs[j]! ∈ rs := by rw [getElem!_pos rs j hjn]; exact List.getElem_mem _
          have hwj := hw _ hmj
          simp only [vmA, Nat.reduceEqDiff, reduceIte, Nat.reduceAdd, Nat.reduceBEq, reduceCtorEq, Nat.reduceLT, Int.reduceLE, Int.reduceLT, Int.reduceEq, Nat.reduceMul, Nat.reduceLeDiff, e8, e7, e6, e5, e4, m1, m2, m3, m4, m5, e3, l1, l2, l3, l4, l5, List.length_map, rO, vA, sA, Int.toNat_zero, Int.toNat_natCast, p0, p1, g0, g1]
          refine callD (f32 rs[i]! rs[j]! false false hwi hwj (k3 _ hmi) (k3 _ hmj)) ?_
          simp only [vmA, Nat.reduceEqDiff, reduceIte, Nat.reduceAdd, Nat.reduceBEq, reduceCtorEq, Nat.reduceLT, Int.reduceLE, Int.reduceLT, Int.reduceEq, Nat.reduceMul, Nat.reduceLeDiff, e8, e7, e6, e5, e4, m1, m2, m3, m4, m5, e3, l1, l2, l3, l4, l5, List.length_map, rO, vA, sA, Int.toNat_zero, Int.toNat_natCast, p0, p1, g0, g1]
          refine ⟨fun h0 => ?_, fun hne => ?_⟩
          · refine callD (f44 (gTot rs i j T) rs[j]! false hwj) ?_
            simp only [vmA, Nat.reduceEqDiff, reduceIte, Nat.reduceAdd, Nat.reduceBEq, reduceCtorEq, Nat.reduceLT, Int.reduceLE, Int.reduceLT, Int.reduceEq, Nat.reduceMul, Nat.reduceLeDiff, e8, e7, e6, e5, e4, m1, m2, m3, m4, m5, e3, l1, l2, l3, l4, l5, List.length_map, rO, vA, sA, Int.toNat_zero, Int.toNat_natCast, p0, p1, g0, g1]
            have hst := gTot_step (t := T) hij hjn
            rw [wr (by omega)]
            exact ⟨j + 1, ⟨⟨by omega, by omega, fun m h1 h2 => by
              by_cases hmj2 : m = j
              · rw [hmj2]; exact h0
              · exact hsame m h1 (by omega)⟩, leafJ (by omega), leafJ hst.symm⟩, by omega⟩
          · have hex : j = rs.length ∨ ¬ rowCmp rs[i]! rs[j]! = 0 := (.inr hne)
            have hge : gEnd rs i = j := gEnd_eq hij hj hsame hex
            have hij' : i < j := by
              rcases Nat.lt_or_ge i j with h | h
              · exact h
              · obtain rfl : j = i := by omega
                exact hex.elim (fun h => absurd h (by omega)) (fun h => absurd (rowCmp_self _) h)
            have hst := wRun_step (f := f - 1) (first := first) (t := t) hlt hge
            rw [hF, hT, show f - 1 + 1 = f by omega] at hst
            obtain ⟨s, hs2⟩ : ∃ s : Spt, (⟨((i - F : Nat) : Int) + 1, gTot rs i j T⟩ : Spt) = s := ⟨_, rfl⟩
            rw [hs2] at hst
            refine WT_loop (fun (p : Nat × Nat) σ => (i ≤ p.1 ∧ p.1 ≤ j) ∧ σ.sl 9 = .int .i64 p.1 ∧ σ.sl 8 = .int .i64 j ∧ σ.sl 6 = .int .i64 (gTot rs i j T) ∧ σ.sl 5 = .int .i64 F ∧ σ.sl 7 = .int .i64 i ∧ σ.sl 4 = .hd 768 1 0 rs.length false ∧ (σ.en 768).live = true ∧ (σ.en 768).gen = 1 ∧ (σ.en 768).frz = false ∧ (σ.en 768).sz = 1 ∧ (σ.en 768).elems = rs.map rO ∧ σ.sl 3 = .hd 192 p.2 0 p.1 false ∧ (σ.en 192).live = true ∧ (σ.en 192).gen = p.2 ∧ (σ.en 192).frz = false ∧ (σ.en 192).sz = 2 ∧ (σ.en 192).elems = (out ++ List.replicate (p.1 - i) s).map sA) (fun p => j - p.1) (i, γ) ⟨⟨Nat.le_refl _, by dsimp only; omega⟩, by simp [put_sl, put_en, put_none, init_sl, fresh_sl, fresh_en, ent_sl, ent_en, init_en], by simp [put_sl, put_en, put_none, init_sl, fresh_sl, fresh_en, ent_sl, ent_en, init_en, e8], by simp [put_sl, put_en, put_none, init_sl, fresh_sl, fresh_en, ent_sl, ent_en, init_en, e6], by simp [put_sl, put_en, put_none, init_sl, fresh_sl, fresh_en, ent_sl, ent_en, init_en, e5], by simp [put_sl, put_en, put_none, init_sl, fresh_sl, fresh_en, ent_sl, ent_en, init_en, e7], by simp [put_sl, put_en, put_none, init_sl, fresh_sl, fresh_en, ent_sl, ent_en, init_en, e4], by simp [put_sl, put_en, put_none, init_sl, fresh_sl, fresh_en, ent_sl, ent_en, init_en, m1], by simp [put_sl, put_en, put_none, init_sl, fresh_sl, fresh_en, ent_sl, ent_en, init_en, m2], by simp [put_sl, put_en, put_none, init_sl, fresh_sl, fresh_en, ent_sl, ent_en, init_en, m3], by simp [put_sl, put_en, put_none, init_sl, fresh_sl, fresh_en, ent_sl, ent_en, init_en, m4], by simp [put_sl, put_en, put_none, init_sl, fresh_sl, fresh_en, ent_sl, ent_en, init_en, m5], by simp [put_sl, put_en, put_none, init_sl, fresh_sl, fresh_en, ent_sl, ent_en, init_en, e3], by simp [put_sl, put_en, put_none, init_sl, fresh_sl, fresh_en, ent_sl, ent_en, init_en, l1], by simp [put_sl, put_en, put_none, init_sl, fresh_sl, fresh_en, ent_sl, ent_en, init_en, l2], by simp [put_sl, put_en, put_none, init_sl, fresh_sl, fresh_en, ent_sl, ent_en, init_en, l3], by simp [put_sl, put_en, put_none, init_sl, fresh_sl, fresh_en, ent_sl, ent_en, init_en, l4], by simp [put_sl, put_en, put_none, init_sl, fresh_sl, fresh_en, ent_sl, ent_en, init_en, l5]⟩ ?_
            clear e8 e6 e5 e7 e4 m1 m2 m3 m4 m5 e3 l1 l2 l3 l4 l5
            rintro ⟨k, γ2⟩ σ ⟨⟨hik, hkj⟩, e9, e8, e6, e5, e7, e4, m1, m2, m3, m4, m5, e3, l1, l2, l3, l4, l5⟩
            dsimp only at hik hkj e9 e3 l2 l5
            obtain ⟨els, hels⟩ : ∃ els, out ++ List.replicate (k - i) s = els := ⟨_, rfl⟩
            have hel : els.length = k := by rw [← hels, List.length_append, List.length_replicate]; omega
            rw [hels] at l5
            by_cases hk : k < j
            · have q0 : ((k : Int) < j) = True := eq_true (by omega)
              have q1 : IntKind.i64.wrap ((i : Int) - F) = ((i - F : Nat) : Int) := by rw [wr (by omega)]; omega
              have q2 : IntKind.i64.wrap (((i - F : Nat) : Int) + 1) = ((i - F : Nat) : Int) + 1 := wr (by omega)
              simp only [vmA, Nat.reduceEqDiff, reduceIte, Nat.reduceAdd, Nat.reduceBEq, reduceCtorEq, Nat.reduceLT, Int.reduceLE, Int.reduceLT, Int.reduceEq, Nat.reduceMul, Nat.reduceLeDiff, e9, e8, e7, e6, e5, e4, m1, m2, m3, m4, m5, e3, l1, l2, l3, l4, l5, List.length_map, rO, vA, sA, Int.toNat_zero, Int.toNat_natCast, hel, q0, q1, q2]
              have hnx : els.map sA ++ [AV.agg [.int .i64 (((i - F : Nat) : Int) + 1), .int .i64 (gTot rs i j T)]] = (out ++ List.replicate (k + 1 - i) s).map sA := by
                rw [← hels, show k + 1 - i = (k - i) + 1 by omega, List.replicate_succ', ← List.append_assoc, List.map_append (l₁ := out ++ List.replicate (k - i) s), ← hs2]
                rfl
              rw [wr (by omega)]
              exact ⟨⟨by omega, by omega⟩, (k + 1, γ2 + 1), ⟨⟨by dsimp only; omega, by dsimp only; omega⟩, leafJ (by dsimp only; omega), rfl, rfl, hnx⟩, by dsimp only; omega⟩
            · have q0 : ((k : Int) < j) = False := eq_false (by omega)
              obtain rfl : k = j := by omega
              simp only [vmA, Nat.reduceEqDiff, reduceIte, Nat.reduceAdd, Nat.reduceBEq, reduceCtorEq, Nat.reduceLT, Int.reduceLE, Int.reduceLT, Int.reduceEq, Nat.reduceMul, Nat.reduceLeDiff, e9, e8, e7, e6, e5, e4, m1, m2, m3, m4, m5, e3, l1, l2, l3, l4, l5, List.length_map, rO, vA, sA, Int.toNat_zero, Int.toNat_natCast, hel, q0, reown]
              have hml : (els.map sA).length = k := by rw [List.length_map, hel]
              rw [List.take_of_length_le (by omega), hml]
              have hWk : els ++ wRun rs (f - 1) k F (gTot rs i k T) = wRun rs rs.length 0 0 0 := by rw [← hels, List.append_assoc, ← hst]; exact hW
              exact ⟨(f - 1, k, F, gTot rs i k T, els, γ2 + 1), ⟨⟨by dsimp only; omega, by dsimp only; omega, by dsimp only; omega, hel, hWk⟩, rfl, rfl, rfl, rfl, rfl, rfl⟩, by dsimp only; omega⟩
        · have p0 : ((j : Int) < rs.length) = False := eq_false (by omega)
          simp only [vmA, Nat.reduceEqDiff, reduceIte, Nat.reduceAdd, Nat.reduceBEq, reduceCtorEq, Nat.reduceLT, Int.reduceLE, Int.reduceLT, Int.reduceEq, Nat.reduceMul, Nat.reduceLeDiff, e8, e7, e6, e5, e4, m1, m2, m3, m4, m5, e3, l1, l2, l3, l4, l5, List.length_map, rO, vA, sA, Int.toNat_zero, Int.toNat_natCast, p0, g0, g1]
          have hex : j = rs.length ∨ ¬ rowCmp rs[i]! rs[j]! = 0 := (.inl (by omega))
          have hge : gEnd rs i = j := gEnd_eq hij hj hsame hex
          have hij' : i < j := by
            rcases Nat.lt_or_ge i j with h | h
            · exact h
            · obtain rfl : j = i := by omega
              exact hex.elim (fun h => absurd h (by omega)) (fun h => absurd (rowCmp_self _) h)
          have hst := wRun_step (f := f - 1) (first := first) (t := t) hlt hge
          rw [hF, hT, show f - 1 + 1 = f by omega] at hst
          obtain ⟨s, hs2⟩ : ∃ s : Spt, (⟨((i - F : Nat) : Int) + 1, gTot rs i j T⟩ : Spt) = s := ⟨_, rfl⟩
          rw [hs2] at hst
          refine WT_loop (fun (p : Nat × Nat) σ => (i ≤ p.1 ∧ p.1 ≤ j) ∧ σ.sl 9 = .int .i64 p.1 ∧ σ.sl 8 = .int .i64 j ∧ σ.sl 6 = .int .i64 (gTot rs i j T) ∧ σ.sl 5 = .int .i64 F ∧ σ.sl 7 = .int .i64 i ∧ σ.sl 4 = .hd 768 1 0 rs.length false ∧ (σ.en 768).live = true ∧ (σ.en 768).gen = 1 ∧ (σ.en 768).frz = false ∧ (σ.en 768).sz = 1 ∧ (σ.en 768).elems = rs.map rO ∧ σ.sl 3 = .hd 192 p.2 0 p.1 false ∧ (σ.en 192).live = true ∧ (σ.en 192).gen = p.2 ∧ (σ.en 192).frz = false ∧ (σ.en 192).sz = 2 ∧ (σ.en 192).elems = (out ++ List.replicate (p.1 - i) s).map sA) (fun p => j - p.1) (i, γ) ⟨⟨Nat.le_refl _, by dsimp only; omega⟩, by simp [put_sl, put_en, put_none, init_sl, fresh_sl, fresh_en, ent_sl, ent_en, init_en], by simp [put_sl, put_en, put_none, init_sl, fresh_sl, fresh_en, ent_sl, ent_en, init_en, e8], by simp [put_sl, put_en, put_none, init_sl, fresh_sl, fresh_en, ent_sl, ent_en, init_en, e6], by simp [put_sl, put_en, put_none, init_sl, fresh_sl, fresh_en, ent_sl, ent_en, init_en, e5], by simp [put_sl, put_en, put_none, init_sl, fresh_sl, fresh_en, ent_sl, ent_en, init_en, e7], by simp [put_sl, put_en, put_none, init_sl, fresh_sl, fresh_en, ent_sl, ent_en, init_en, e4], by simp [put_sl, put_en, put_none, init_sl, fresh_sl, fresh_en, ent_sl, ent_en, init_en, m1], by simp [put_sl, put_en, put_none, init_sl, fresh_sl, fresh_en, ent_sl, ent_en, init_en, m2], by simp [put_sl, put_en, put_none, init_sl, fresh_sl, fresh_en, ent_sl, ent_en, init_en, m3], by simp [put_sl, put_en, put_none, init_sl, fresh_sl, fresh_en, ent_sl, ent_en, init_en, m4], by simp [put_sl, put_en, put_none, init_sl, fresh_sl, fresh_en, ent_sl, ent_en, init_en, m5], by simp [put_sl, put_en, put_none, init_sl, fresh_sl, fresh_en, ent_sl, ent_en, init_en, e3], by simp [put_sl, put_en, put_none, init_sl, fresh_sl, fresh_en, ent_sl, ent_en, init_en, l1], by simp [put_sl, put_en, put_none, init_sl, fresh_sl, fresh_en, ent_sl, ent_en, init_en, l2], by simp [put_sl, put_en, put_none, init_sl, fresh_sl, fresh_en, ent_sl, ent_en, init_en, l3], by simp [put_sl, put_en, put_none, init_sl, fresh_sl, fresh_en, ent_sl, ent_en, init_en, l4], by simp [put_sl, put_en, put_none, init_sl, fresh_sl, fresh_en, ent_sl, ent_en, init_en, l5]⟩ ?_
          clear e8 e6 e5 e7 e4 m1 m2 m3 m4 m5 e3 l1 l2 l3 l4 l5
          rintro ⟨k, γ2⟩ σ ⟨⟨hik, hkj⟩, e9, e8, e6, e5, e7, e4, m1, m2, m3, m4, m5, e3, l1, l2, l3, l4, l5⟩
          dsimp only at hik hkj e9 e3 l2 l5
          obtain ⟨els, hels⟩ : ∃ els, out ++ List.replicate (k - i) s = els := ⟨_, rfl⟩
          have hel : els.length = k := by rw [← hels, List.length_append, List.length_replicate]; omega
          rw [hels] at l5
          by_cases hk : k < j
          · have q0 : ((k : Int) < j) = True := eq_true (by omega)
            have q1 : IntKind.i64.wrap ((i : Int) - F) = ((i - F : Nat) : Int) := by rw [wr (by omega)]; omega
            have q2 : IntKind.i64.wrap (((i - F : Nat) : Int) + 1) = ((i - F : Nat) : Int) + 1 := wr (by omega)
            simp only [vmA, Nat.reduceEqDiff, reduceIte, Nat.reduceAdd, Nat.reduceBEq, reduceCtorEq, Nat.reduceLT, Int.reduceLE, Int.reduceLT, Int.reduceEq, Nat.reduceMul, Nat.reduceLeDiff, e9, e8, e7, e6, e5, e4, m1, m2, m3, m4, m5, e3, l1, l2, l3, l4, l5, List.length_map, rO, vA, sA, Int.toNat_zero, Int.toNat_natCast, hel, q0, q1, q2]
            have hnx : els.map sA ++ [AV.agg [.int .i64 (((i - F : Nat) : Int) + 1), .int .i64 (gTot rs i j T)]] = (out ++ List.replicate (k + 1 - i) s).map sA := by
              rw [← hels, show k + 1 - i = (k - i) + 1 by omega, List.replicate_succ', ← List.append_assoc, List.map_append (l₁ := out ++ List.replicate (k - i) s), ← hs2]
              rfl
            rw [wr (by omega)]
            exact ⟨⟨by omega, by omega⟩, (k + 1, γ2 + 1), ⟨⟨by dsimp only; omega, by dsimp only; omega⟩, leafJ (by dsimp only; omega), rfl, rfl, hnx⟩, by dsimp only; omega⟩
          · have q0 : ((k : Int) < j) = False := eq_false (by omega)
            obtain rfl : k = j := by omega
            simp only [vmA, Nat.reduceEqDiff, reduceIte, Nat.reduceAdd, Nat.reduceBEq, reduceCtorEq, Nat.reduceLT, Int.reduceLE, Int.reduceLT, Int.reduceEq, Nat.reduceMul, Nat.reduceLeDiff, e9, e8, e7, e6, e5, e4, m1, m2, m3, m4, m5, e3, l1, l2, l3, l4, l5, List.length_map, rO, vA, sA, Int.toNat_zero, Int.toNat_natCast, hel, q0, reown]
            have hml : (els.map sA).length = k := by rw [List.length_map, hel]
            rw [List.take_of_length_le (by omega), hml]
            have hWk : els ++ wRun rs (f - 1) k F (gTot rs i k T) = wRun rs rs.length 0 0 0 := by rw [← hels, List.append_assoc, ← hst]; exact hW
            exact ⟨(f - 1, k, F, gTot rs i k T, els, γ2 + 1), ⟨⟨by dsimp only; omega, by dsimp only; omega, by dsimp only; omega, hel, hWk⟩, rfl, rfl, rfl, rfl, rfl, rfl⟩, by dsimp only; omega⟩
      · have hn : nwP rs i := .inr (fun h => hv (vEq_symm.1 h))
        have hFi : F = i := by rw [← hF, if_pos hn]
        have hTi : T = 0 := by rw [← hT, if_pos hn]
        have hvT : (¬ vEq rs[i - 1]![0]! rs[i]![0]!) = True := eq_true hv
        simp only [vmA, Nat.reduceEqDiff, reduceIte, Nat.reduceAdd, Nat.reduceBEq, reduceCtorEq, Nat.reduceLT, Int.reduceLE, Int.reduceLT, Int.reduceEq, Nat.reduceMul, Nat.reduceLeDiff, e7, e6, e5, e4, m1, m2, m3, m4, m5, e3, l1, l2, l3, l4, l5, List.length_map, rO, vA, sA, Int.toNat_zero, Int.toNat_natCast, g0, g1, c0, c1, c2, d0, d1, d2, z0, z1, z2, z3, a0, a1, a2, b0, b1, b2, vEq_bool, hvT]
        refine WT_loop (fun (j : Nat) σ => (i ≤ j ∧ j ≤ rs.length ∧ ∀ m, i ≤ m → m < j → rowCmp rs[i]! rs[m]! = 0) ∧ σ.sl 8 = .int .i64 j ∧ σ.sl 6 = .int .i64 (gTot rs i j T) ∧ σ.sl 5 = .int .i64 F ∧ σ.sl 7 = .int .i64 i ∧ σ.sl 4 = .hd 768 1 0 rs.length false ∧ (σ.en 768).live = true ∧ (σ.en 768).gen = 1 ∧ (σ.en 768).frz = false ∧ (σ.en 768).sz = 1 ∧ (σ.en 768).elems = rs.map rO ∧ σ.sl 3 = .hd 192 γ 0 i false ∧ (σ.en 192).live = true ∧ (σ.en 192).gen = γ ∧ (σ.en 192).frz = false ∧ (σ.en 192).sz = 2 ∧ (σ.en 192).elems = out.map sA) (fun j => rs.length - j) i ⟨⟨Nat.le_refl _, hi, fun m h1 h2 => absurd h1 (by omega)⟩, by simp [put_sl, put_en, put_none, init_sl, fresh_sl, fresh_en, ent_sl, ent_en, init_en], by simp [put_sl, put_en, put_none, init_sl, fresh_sl, fresh_en, ent_sl, ent_en, init_en, e6, hTi, gTot_self], by simp [put_sl, put_en, put_none, init_sl, fresh_sl, fresh_en, ent_sl, ent_en, init_en, e5, hFi], by simp [put_sl, put_en, put_none, init_sl, fresh_sl, fresh_en, ent_sl, ent_en, init_en, e7], by simp [put_sl, put_en, put_none, init_sl, fresh_sl, fresh_en, ent_sl, ent_en, init_en, e4], by simp [put_sl, put_en, put_none, init_sl, fresh_sl, fresh_en, ent_sl, ent_en, init_en, m1], by simp [put_sl, put_en, put_none, init_sl, fresh_sl, fresh_en, ent_sl, ent_en, init_en, m2], by simp [put_sl, put_en, put_none, init_sl, fresh_sl, fresh_en, ent_sl, ent_en, init_en, m3], by simp [put_sl, put_en, put_none, init_sl, fresh_sl, fresh_en, ent_sl, ent_en, init_en, m4], by simp [put_sl, put_en, put_none, init_sl, fresh_sl, fresh_en, ent_sl, ent_en, init_en, m5], by simp [put_sl, put_en, put_none, init_sl, fresh_sl, fresh_en, ent_sl, ent_en, init_en, e3], by simp [put_sl, put_en, put_none, init_sl, fresh_sl, fresh_en, ent_sl, ent_en, init_en, l1], by simp [put_sl, put_en, put_none, init_sl, fresh_sl, fresh_en, ent_sl, ent_en, init_en, l2], by simp [put_sl, put_en, put_none, init_sl, fresh_sl, fresh_en, ent_sl, ent_en, init_en, l3], by simp [put_sl, put_en, put_none, init_sl, fresh_sl, fresh_en, ent_sl, ent_en, init_en, l4], by simp [put_sl, put_en, put_none, init_sl, fresh_sl, fresh_en, ent_sl, ent_en, init_en, l5]⟩ ?_
        clear e7 e6 e5 e4 m1 m2 m3 m4 m5 e3 l1 l2 l3 l4 l5
        rintro j σ ⟨⟨hij, hj, hsame⟩, e8, e6, e5, e7, e4, m1, m2, m3, m4, m5, e3, l1, l2, l3, l4, l5⟩
        by_cases hjn : j < rs.length
        · have p0 : ((j : Int) < rs.length) = True := eq_true (by omega)
          have p1 : (j < rs.length) = True := eq_true (by omega)
          have hmj : rs[j]! ∈ rs := by rw [getElem!_pos rs j hjn]; exact List.getElem_mem _
          have hwj := hw _ hmj
          simp only [vmA, Nat.reduceEqDiff, reduceIte, Nat.reduceAdd, Nat.reduceBEq, reduceCtorEq, Nat.reduceLT, Int.reduceLE, Int.reduceLT, Int.reduceEq, Nat.reduceMul, Nat.reduceLeDiff, e8, e7, e6, e5, e4, m1, m2, m3, m4, m5, e3, l1, l2, l3, l4, l5, List.length_map, rO, vA, sA, Int.toNat_zero, Int.toNat_natCast, p0, p1, g0, g1]
          refine callD (f32 rs[i]! rs[j]! false false hwi hwj (k3 _ hmi) (k3 _ hmj)) ?_
          simp only [vmA, Nat.reduceEqDiff, reduceIte, Nat.reduceAdd, Nat.reduceBEq, reduceCtorEq, Nat.reduceLT, Int.reduceLE, Int.reduceLT, Int.reduceEq, Nat.reduceMul, Nat.reduceLeDiff, e8, e7, e6, e5, e4, m1, m2, m3, m4, m5, e3, l1, l2, l3, l4, l5, List.length_map, rO, vA, sA, Int.toNat_zero, Int.toNat_natCast, p0, p1, g0, g1]
          refine ⟨fun h0 => ?_, fun hne => ?_⟩
          · refine callD (f44 (gTot rs i j T) rs[j]! false hwj) ?_
            simp only [vmA, Nat.reduceEqDiff, reduceIte, Nat.reduceAdd, Nat.reduceBEq, reduceCtorEq, Nat.reduceLT, Int.reduceLE, Int.reduceLT, Int.reduceEq, Nat.reduceMul, Nat.reduceLeDiff, e8, e7, e6, e5, e4, m1, m2, m3, m4, m5, e3, l1, l2, l3, l4, l5, List.length_map, rO, vA, sA, Int.toNat_zero, Int.toNat_natCast, p0, p1, g0, g1]
            have hst := gTot_step (t := T) hij hjn
            rw [wr (by omega)]
            exact ⟨j + 1, ⟨⟨by omega, by omega, fun m h1 h2 => by
              by_cases hmj2 : m = j
              · rw [hmj2]; exact h0
              · exact hsame m h1 (by omega)⟩, leafJ (by omega), leafJ hst.symm⟩, by omega⟩
          · have hex : j = rs.length ∨ ¬ rowCmp rs[i]! rs[j]! = 0 := (.inr hne)
            have hge : gEnd rs i = j := gEnd_eq hij hj hsame hex
            have hij' : i < j := by
              rcases Nat.lt_or_ge i j with h | h
              · exact h
              · obtain rfl : j = i := by omega
                exact hex.elim (fun h => absurd h (by omega)) (fun h => absurd (rowCmp_self _) h)
            have hst := wRun_step (f := f - 1) (first := first) (t := t) hlt hge
            rw [hF, hT, show f - 1 + 1 = f by omega] at hst
            obtain ⟨s, hs2⟩ : ∃ s : Spt, (⟨((i - F : Nat) : Int) + 1, gTot rs i j T⟩ : Spt) = s := ⟨_, rfl⟩
            rw [hs2] at hst
            refine WT_loop (fun (p : Nat × Nat) σ => (i ≤ p.1 ∧ p.1 ≤ j) ∧ σ.sl 9 = .int .i64 p.1 ∧ σ.sl 8 = .int .i64 j ∧ σ.sl 6 = .int .i64 (gTot rs i j T) ∧ σ.sl 5 = .int .i64 F ∧ σ.sl 7 = .int .i64 i ∧ σ.sl 4 = .hd 768 1 0 rs.length false ∧ (σ.en 768).live = true ∧ (σ.en 768).gen = 1 ∧ (σ.en 768).frz = false ∧ (σ.en 768).sz = 1 ∧ (σ.en 768).elems = rs.map rO ∧ σ.sl 3 = .hd 192 p.2 0 p.1 false ∧ (σ.en 192).live = true ∧ (σ.en 192).gen = p.2 ∧ (σ.en 192).frz = false ∧ (σ.en 192).sz = 2 ∧ (σ.en 192).elems = (out ++ List.replicate (p.1 - i) s).map sA) (fun p => j - p.1) (i, γ) ⟨⟨Nat.le_refl _, by dsimp only; omega⟩, by simp [put_sl, put_en, put_none, init_sl, fresh_sl, fresh_en, ent_sl, ent_en, init_en], by simp [put_sl, put_en, put_none, init_sl, fresh_sl, fresh_en, ent_sl, ent_en, init_en, e8], by simp [put_sl, put_en, put_none, init_sl, fresh_sl, fresh_en, ent_sl, ent_en, init_en, e6], by simp [put_sl, put_en, put_none, init_sl, fresh_sl, fresh_en, ent_sl, ent_en, init_en, e5], by simp [put_sl, put_en, put_none, init_sl, fresh_sl, fresh_en, ent_sl, ent_en, init_en, e7], by simp [put_sl, put_en, put_none, init_sl, fresh_sl, fresh_en, ent_sl, ent_en, init_en, e4], by simp [put_sl, put_en, put_none, init_sl, fresh_sl, fresh_en, ent_sl, ent_en, init_en, m1], by simp [put_sl, put_en, put_none, init_sl, fresh_sl, fresh_en, ent_sl, ent_en, init_en, m2], by simp [put_sl, put_en, put_none, init_sl, fresh_sl, fresh_en, ent_sl, ent_en, init_en, m3], by simp [put_sl, put_en, put_none, init_sl, fresh_sl, fresh_en, ent_sl, ent_en, init_en, m4], by simp [put_sl, put_en, put_none, init_sl, fresh_sl, fresh_en, ent_sl, ent_en, init_en, m5], by simp [put_sl, put_en, put_none, init_sl, fresh_sl, fresh_en, ent_sl, ent_en, init_en, e3], by simp [put_sl, put_en, put_none, init_sl, fresh_sl, fresh_en, ent_sl, ent_en, init_en, l1], by simp [put_sl, put_en, put_none, init_sl, fresh_sl, fresh_en, ent_sl, ent_en, init_en, l2], by simp [put_sl, put_en, put_none, init_sl, fresh_sl, fresh_en, ent_sl, ent_en, init_en, l3], by simp [put_sl, put_en, put_none, init_sl, fresh_sl, fresh_en, ent_sl, ent_en, init_en, l4], by simp [put_sl, put_en, put_none, init_sl, fresh_sl, fresh_en, ent_sl, ent_en, init_en, l5]⟩ ?_
            clear e8 e6 e5 e7 e4 m1 m2 m3 m4 m5 e3 l1 l2 l3 l4 l5
            rintro ⟨k, γ2⟩ σ ⟨⟨hik, hkj⟩, e9, e8, e6, e5, e7, e4, m1, m2, m3, m4, m5, e3, l1, l2, l3, l4, l5⟩
            dsimp only at hik hkj e9 e3 l2 l5
            obtain ⟨els, hels⟩ : ∃ els, out ++ List.replicate (k - i) s = els := ⟨_, rfl⟩
            have hel : els.length = k := by rw [← hels, List.length_append, List.length_replicate]; omega
            rw [hels] at l5
            by_cases hk : k < j
            · have q0 : ((k : Int) < j) = True := eq_true (by omega)
              have q1 : IntKind.i64.wrap ((i : Int) - F) = ((i - F : Nat) : Int) := by rw [wr (by omega)]; omega
              have q2 : IntKind.i64.wrap (((i - F : Nat) : Int) + 1) = ((i - F : Nat) : Int) + 1 := wr (by omega)
              simp only [vmA, Nat.reduceEqDiff, reduceIte, Nat.reduceAdd, Nat.reduceBEq, reduceCtorEq, Nat.reduceLT, Int.reduceLE, Int.reduceLT, Int.reduceEq, Nat.reduceMul, Nat.reduceLeDiff, e9, e8, e7, e6, e5, e4, m1, m2, m3, m4, m5, e3, l1, l2, l3, l4, l5, List.length_map, rO, vA, sA, Int.toNat_zero, Int.toNat_natCast, hel, q0, q1, q2]
              have hnx : els.map sA ++ [AV.agg [.int .i64 (((i - F : Nat) : Int) + 1), .int .i64 (gTot rs i j T)]] = (out ++ List.replicate (k + 1 - i) s).map sA := by
                rw [← hels, show k + 1 - i = (k - i) + 1 by omega, List.replicate_succ', ← List.append_assoc, List.map_append (l₁ := out ++ List.replicate (k - i) s), ← hs2]
                rfl
              rw [wr (by omega)]
              exact ⟨⟨by omega, by omega⟩, (k + 1, γ2 + 1), ⟨⟨by dsimp only; omega, by dsimp only; omega⟩, leafJ (by dsimp only; omega), rfl, rfl, hnx⟩, by dsimp only; omega⟩
            · have q0 : ((k : Int) < j) = False := eq_false (by omega)
              obtain rfl : k = j := by omega
              simp only [vmA, Nat.reduceEqDiff, reduceIte, Nat.reduceAdd, Nat.reduceBEq, reduceCtorEq, Nat.reduceLT, Int.reduceLE, Int.reduceLT, Int.reduceEq, Nat.reduceMul, Nat.reduceLeDiff, e9, e8, e7, e6, e5, e4, m1, m2, m3, m4, m5, e3, l1, l2, l3, l4, l5, List.length_map, rO, vA, sA, Int.toNat_zero, Int.toNat_natCast, hel, q0, reown]
              have hml : (els.map sA).length = k := by rw [List.length_map, hel]
              rw [List.take_of_length_le (by omega), hml]
              have hWk : els ++ wRun rs (f - 1) k F (gTot rs i k T) = wRun rs rs.length 0 0 0 := by rw [← hels, List.append_assoc, ← hst]; exact hW
              exact ⟨(f - 1, k, F, gTot rs i k T, els, γ2 + 1), ⟨⟨by dsimp only; omega, by dsimp only; omega, by dsimp only; omega, hel, hWk⟩, rfl, rfl, rfl, rfl, rfl, rfl⟩, by dsimp only; omega⟩
        · have p0 : ((j : Int) < rs.length) = False := eq_false (by omega)
          simp only [vmA, Nat.reduceEqDiff, reduceIte, Nat.reduceAdd, Nat.reduceBEq, reduceCtorEq, Nat.reduceLT, Int.reduceLE, Int.reduceLT, Int.reduceEq, Nat.reduceMul, Nat.reduceLeDiff, e8, e7, e6, e5, e4, m1, m2, m3, m4, m5, e3, l1, l2, l3, l4, l5, List.length_map, rO, vA, sA, Int.toNat_zero, Int.toNat_natCast, p0, g0, g1]
          have hex : j = rs.length ∨ ¬ rowCmp rs[i]! rs[j]! = 0 := (.inl (by omega))
          have hge : gEnd rs i = j := gEnd_eq hij hj hsame hex
          have hij' : i < j := by
            rcases Nat.lt_or_ge i j with h | h
            · exact h
            · obtain rfl : j = i := by omega
              exact hex.elim (fun h => absurd h (by omega)) (fun h => absurd (rowCmp_self _) h)
          have hst := wRun_step (f := f - 1) (first := first) (t := t) hlt hge
          rw [hF, hT, show f - 1 + 1 = f by omega] at hst
          obtain ⟨s, hs2⟩ : ∃ s : Spt, (⟨((i - F : Nat) : Int) + 1, gTot rs i j T⟩ : Spt) = s := ⟨_, rfl⟩
          rw [hs2] at hst
          refine WT_loop (fun (p : Nat × Nat) σ => (i ≤ p.1 ∧ p.1 ≤ j) ∧ σ.sl 9 = .int .i64 p.1 ∧ σ.sl 8 = .int .i64 j ∧ σ.sl 6 = .int .i64 (gTot rs i j T) ∧ σ.sl 5 = .int .i64 F ∧ σ.sl 7 = .int .i64 i ∧ σ.sl 4 = .hd 768 1 0 rs.length false ∧ (σ.en 768).live = true ∧ (σ.en 768).gen = 1 ∧ (σ.en 768).frz = false ∧ (σ.en 768).sz = 1 ∧ (σ.en 768).elems = rs.map rO ∧ σ.sl 3 = .hd 192 p.2 0 p.1 false ∧ (σ.en 192).live = true ∧ (σ.en 192).gen = p.2 ∧ (σ.en 192).frz = false ∧ (σ.en 192).sz = 2 ∧ (σ.en 192).elems = (out ++ List.replicate (p.1 - i) s).map sA) (fun p => j - p.1) (i, γ) ⟨⟨Nat.le_refl _, by dsimp only; omega⟩, by simp [put_sl, put_en, put_none, init_sl, fresh_sl, fresh_en, ent_sl, ent_en, init_en], by simp [put_sl, put_en, put_none, init_sl, fresh_sl, fresh_en, ent_sl, ent_en, init_en, e8], by simp [put_sl, put_en, put_none, init_sl, fresh_sl, fresh_en, ent_sl, ent_en, init_en, e6], by simp [put_sl, put_en, put_none, init_sl, fresh_sl, fresh_en, ent_sl, ent_en, init_en, e5], by simp [put_sl, put_en, put_none, init_sl, fresh_sl, fresh_en, ent_sl, ent_en, init_en, e7], by simp [put_sl, put_en, put_none, init_sl, fresh_sl, fresh_en, ent_sl, ent_en, init_en, e4], by simp [put_sl, put_en, put_none, init_sl, fresh_sl, fresh_en, ent_sl, ent_en, init_en, m1], by simp [put_sl, put_en, put_none, init_sl, fresh_sl, fresh_en, ent_sl, ent_en, init_en, m2], by simp [put_sl, put_en, put_none, init_sl, fresh_sl, fresh_en, ent_sl, ent_en, init_en, m3], by simp [put_sl, put_en, put_none, init_sl, fresh_sl, fresh_en, ent_sl, ent_en, init_en, m4], by simp [put_sl, put_en, put_none, init_sl, fresh_sl, fresh_en, ent_sl, ent_en, init_en, m5], by simp [put_sl, put_en, put_none, init_sl, fresh_sl, fresh_en, ent_sl, ent_en, init_en, e3], by simp [put_sl, put_en, put_none, init_sl, fresh_sl, fresh_en, ent_sl, ent_en, init_en, l1], by simp [put_sl, put_en, put_none, init_sl, fresh_sl, fresh_en, ent_sl, ent_en, init_en, l2], by simp [put_sl, put_en, put_none, init_sl, fresh_sl, fresh_en, ent_sl, ent_en, init_en, l3], by simp [put_sl, put_en, put_none, init_sl, fresh_sl, fresh_en, ent_sl, ent_en, init_en, l4], by simp [put_sl, put_en, put_none, init_sl, fresh_sl, fresh_en, ent_sl, ent_en, init_en, l5]⟩ ?_
          clear e8 e6 e5 e7 e4 m1 m2 m3 m4 m5 e3 l1 l2 l3 l4 l5
          rintro ⟨k, γ2⟩ σ ⟨⟨hik, hkj⟩, e9, e8, e6, e5, e7, e4, m1, m2, m3, m4, m5, e3, l1, l2, l3, l4, l5⟩
          dsimp only at hik hkj e9 e3 l2 l5
          obtain ⟨els, hels⟩ : ∃ els, out ++ List.replicate (k - i) s = els := ⟨_, rfl⟩
          have hel : els.length = k := by rw [← hels, List.length_append, List.length_replicate]; omega
          rw [hels] at l5
          by_cases hk : k < j
          · have q0 : ((k : Int) < j) = True := eq_true (by omega)
            have q1 : IntKind.i64.wrap ((i : Int) - F) = ((i - F : Nat) : Int) := by rw [wr (by omega)]; omega
            have q2 : IntKind.i64.wrap (((i - F : Nat) : Int) + 1) = ((i - F : Nat) : Int) + 1 := wr (by omega)
            simp only [vmA, Nat.reduceEqDiff, reduceIte, Nat.reduceAdd, Nat.reduceBEq, reduceCtorEq, Nat.reduceLT, Int.reduceLE, Int.reduceLT, Int.reduceEq, Nat.reduceMul, Nat.reduceLeDiff, e9, e8, e7, e6, e5, e4, m1, m2, m3, m4, m5, e3, l1, l2, l3, l4, l5, List.length_map, rO, vA, sA, Int.toNat_zero, Int.toNat_natCast, hel, q0, q1, q2]
            have hnx : els.map sA ++ [AV.agg [.int .i64 (((i - F : Nat) : Int) + 1), .int .i64 (gTot rs i j T)]] = (out ++ List.replicate (k + 1 - i) s).map sA := by
              rw [← hels, show k + 1 - i = (k - i) + 1 by omega, List.replicate_succ', ← List.append_assoc, List.map_append (l₁ := out ++ List.replicate (k - i) s), ← hs2]
              rfl
            rw [wr (by omega)]
            exact ⟨⟨by omega, by omega⟩, (k + 1, γ2 + 1), ⟨⟨by dsimp only; omega, by dsimp only; omega⟩, leafJ (by dsimp only; omega), rfl, rfl, hnx⟩, by dsimp only; omega⟩
          · have q0 : ((k : Int) < j) = False := eq_false (by omega)
            obtain rfl : k = j := by omega
            simp only [vmA, Nat.reduceEqDiff, reduceIte, Nat.reduceAdd, Nat.reduceBEq, reduceCtorEq, Nat.reduceLT, Int.reduceLE, Int.reduceLT, Int.reduceEq, Nat.reduceMul, Nat.reduceLeDiff, e9, e8, e7, e6, e5, e4, m1, m2, m3, m4, m5, e3, l1, l2, l3, l4, l5, List.length_map, rO, vA, sA, Int.toNat_zero, Int.toNat_natCast, hel, q0, reown]
            have hml : (els.map sA).length = k := by rw [List.length_map, hel]
            rw [List.take_of_length_le (by omega), hml]
            have hWk : els ++ wRun rs (f - 1) k F (gTot rs i k T) = wRun rs rs.length 0 0 0 := by rw [← hels, List.append_assoc, ← hst]; exact hW
            exact ⟨(f - 1, k, F, gTot rs i k T, els, γ2 + 1), ⟨⟨by dsimp only; omega, by dsimp only; omega, by dsimp only; omega, hel, hWk⟩, rfl, rfl, rfl, rfl, rfl, rfl⟩, by dsimp only; omega⟩
  · have g0 : ((i : Int) < rs.length) = False := eq_false (by omega)
    rw [wRun_end hlt, List.append_nil] at hW
    obtain rfl : i = rs.length := by omega
    simp only [vmA, Nat.reduceEqDiff, reduceIte, Nat.reduceAdd, Nat.reduceBEq, reduceCtorEq, Nat.reduceLT, Int.reduceLE, Int.reduceLT, Int.reduceEq, Nat.reduceMul, Nat.reduceLeDiff, e7, e6, e5, e4, m1, m2, m3, m4, m5, e3, l1, l2, l3, l4, l5, List.length_map, rO, vA, sA, Int.toNat_zero, Int.toNat_natCast, g0]
    refine hQ' _ ?_
    simp only [vmA, Nat.reduceEqDiff, reduceIte, Nat.reduceAdd, Nat.reduceBEq, reduceCtorEq, Nat.reduceLT, Int.reduceLE, Int.reduceLT, Int.reduceEq, Nat.reduceMul, Nat.reduceLeDiff, Try.f29, retG, resL, St.closeVs, St.closeV, e3, l1, l2, l3, l4, l5, hol]
    rw [List.take_of_length_le (by rw [List.length_map]; omega), hW]
