/- Stores: cells of a block, and of an entry. -/
import Derived.Test.YtfimolakepbdbaaWOps4
namespace Go.Vm

section
variable {C : Cfg} {n : Nat} {w0 : World} {F0 S0 F : Nat → Prop} {G : Value → AV → Prop} {μ : Nat → Option Nat} {fp : Nat → List Nat} {L : List Nat} {σ σ' : St} {a : Act} {w w' : World} {o : Oper}

/-- The cells of an array, some of them set. -/
def setRow (cur : Array Value) (o : Nat) : List Value → Array Value
  | [] => cur
  | v :: vs => setRow (cur.setIfInBounds o v) (o + 1) vs

theorem setRow_size : ∀ {vs : List Value} {cur : Array Value} {o : Nat}, (setRow cur o vs).size = cur.size
  | [], _, _ => rfl
  | v :: vs, cur, o => by simp [setRow, setRow_size (vs := vs)]

theorem setRow_get : ∀ {vs : List Value} {cur : Array Value} {o q : Nat}, o + vs.length ≤ cur.size → (setRow cur o vs)[q]? = if o ≤ q ∧ q < o + vs.length then vs[q - o]? else cur[q]?
  | [], cur, o, q, _ => by
    rw [setRow, if_neg (by simp)]
  | v :: vs, cur, o, q, h => by
    simp only [List.length_cons] at h
    rw [setRow, setRow_get (by simp; omega)]
    by_cases hq : q = o
    · subst hq
      rw [if_neg (by omega), if_pos (by simp), Array.getElem?_setIfInBounds_self_of_lt (by omega)]
      simp
    · by_cases h2 : o + 1 ≤ q ∧ q < o + 1 + vs.length
      · rw [if_pos h2, if_pos (by simp; omega)]
        obtain ⟨k, rfl⟩ : ∃ k, q = o + 1 + k := ⟨q - (o + 1), by omega⟩
        rw [show o + 1 + k - (o + 1) = k by omega, show o + 1 + k - o = k + 1 by omega]
        simp
      · rw [if_neg h2, if_neg (by simp; omega), Array.getElem?_setIfInBounds_ne (Ne.symm hq)]

theorem setCells_heap : ∀ {vs : List Value} {w : World} {b o : Nat} {cur : Array Value} {et : TypeId} {fr : Nat × Nat}, w.heap[b]? = some (.cells cur et fr) → o + vs.length ≤ cur.size →
    (w.setCells b o vs).heap[b]? = some (.cells (setRow cur o vs) et fr) ∧ (∀ b', b' ≠ b → (w.setCells b o vs).heap[b']? = w.heap[b']?) ∧ (w.setCells b o vs).heap.size = w.heap.size ∧
      (w.setCells b o vs).os = w.os ∧ (w.setCells b o vs).tape = w.tape ∧ (w.setCells b o vs).output = w.output
  | [], w, b, o, cur, et, fr, hb, _ => ⟨hb, fun _ _ => rfl, rfl, rfl, rfl, rfl⟩
  | v :: vs, w, b, o, cur, et, fr, hb, hl => by
    simp only [List.length_cons] at hl
    have hlt : b < w.heap.size := (Array.getElem?_eq_some_iff.1 hb).1
    have h1 : (w.setCell ⟨b, o, none⟩ v).heap[b]? = some (.cells (cur.setIfInBounds o v) et fr) := by
      simp [World.setCell, Array.getElem?_modify, hb]
    obtain ⟨h2, h3, h4, h5⟩ := setCells_heap (vs := vs) (o := o + 1) h1 (by simp; omega)
    refine ⟨h2, fun b' hb' => (h3 b' hb').trans ?_, h4.trans ?_, h5⟩
    · simp only [World.setCell, Array.getElem?_modify, if_neg (Ne.symm hb')]
    · simp [World.setCell]

theorem run_storeAt {t : TypeId} {T : TI} (hT : TIok C.P t T) {b o' : Nat} {cur : Array Value} {et : TypeId} (hb : w.heap[b]? = some (.cells cur et (0, 0))) {v : Value} (hl : v.cells.size = T.sz) (h1 : ∀ u ∈ v.cells.toList, u.oneCell' = true) (ho : o' + T.sz ≤ cur.size) :
    (Instr.storeAt t (.pointer (some ⟨b, o', none⟩)) v).run C.P w = .ok () (w.setCells b o' v.cells.toList) := by
  have := run_storeCells_cells (P := C.P) b o' v.cells.toList 0 w (fun j hj => by
      rw [Nat.add_zero, cell_of_row w b _ cur et (0, 0) hb]
      simp at hj ⊢; omega) (fun j hj => by simp [World.frozen?, hb]) h1
  simp only [Instr.storeAt, Instr.sureAddr, storeVar, Sem.run_bind, Sem.run_pure, Result.andThen_ok, hT.size, hl, ne_eq, not_true, if_false]
  simpa using this

/-! ### A range of an entry's cells -/
theorem flat_set {sz : Nat} {l : List AV} {i : Nat} {x : AV} (h : ∀ a ∈ l, (leaves a).length = sz) (hi : i < l.length) : (l.set i x).flatMap leaves = (l.flatMap leaves).take (i * sz) ++ leaves x ++ (l.flatMap leaves).drop ((i + 1) * sz) := by
  rw [List.set_eq_take_append_cons_drop, if_pos hi, List.flatMap_append, List.flatMap_cons, flat_take i h, flat_drop (i + 1) h, List.append_assoc]

theorem RepL.splice {us vs : List Value} {xs ls : List AV} {f1 f : List Nat} (hu : RepL F w us xs f1) (hv : RepL F w vs ls f) (off k : Nat) : ∃ fa fb fc, f1 = fa ++ fb ++ fc ∧ RepL F w (us.take off ++ vs ++ us.drop (off + k)) (xs.take off ++ ls ++ xs.drop (off + k)) (fa ++ f ++ fc) := by
  obtain ⟨fa, fd, rfl, h1, h2⟩ := hu.take off
  obtain ⟨fb, fc, rfl, _, h3⟩ := h2.take k
  refine ⟨fa, fb, fc, by simp, ?_⟩
  have := (h1.append hv).append h3
  simpa [List.drop_drop] using this

theorem Rel.writeRange {f : List Nat} (h : Rel n w0 F0 S0 G F μ fp (f ++ L) σ a w) {e b : Nat} (hl : (σ.en e).live = true) (hfz : (σ.en e).frz = false) {cur : Array Value} {et : TypeId} {vs : List Value} {ls : List AV} {off : Nat} {E' : Ent}
    (hμ : μ e = some b) (hblk : w.heap[b]? = some (.cells cur et (0, 0))) (hr : RepL F w vs ls f) (hoff : off ≤ ((σ.en e).elems.flatMap leaves).length) (hroom : off + ls.length ≤ cur.size)
    (hlv : E'.live = true) (hf' : E'.frz = false) (hsz' : E'.sz = (σ.en e).sz) (hgen : (σ.en e).gen ≤ E'.gen) (hwr : (σ.en e).wr < E'.wr) (hN : E'.gen = (σ.en e).gen → E'.elems.length ≤ (σ.en e).elems.length)
    (hel : ∀ x ∈ E'.elems, (leaves x).length = E'.sz) (hflat : E'.elems.flatMap leaves = ((σ.en e).elems.flatMap leaves).take off ++ ls ++ ((σ.en e).elems.flatMap leaves).drop (off + ls.length)) :
    ∃ fp', Rel n w0 F0 S0 G F μ fp' L (σ.ent e E') a (w.setCells b off vs) ∧ Step F w σ.en μ fp F (w.setCells b off vs) (σ.ent e E').en μ fp' ∧
      (w.setCells b off vs).heap[b]? = some (.cells (setRow cur off vs) et (0, 0)) := by
  have hvl := hr.length
  obtain ⟨h1, h2, h3, h4, h5, h6⟩ := setCells_heap (vs := vs) (o := off) hblk (by omega)
  obtain ⟨_, he⟩ := h.ent e hl
  rcases he with ⟨e0, _⟩ | ⟨b', cur', et', fr, us, f1, e1, e2, e3, e4, e5⟩
  · rw [hμ] at e0; cases e0
  rw [hμ] at e1; cases e1
  rw [hblk] at e2; cases e2
  rcases e5 with ⟨e5, _⟩ | ⟨_, _, e5⟩
  · rw [hfz] at e5; cases e5
  obtain ⟨fa, fb, fc, rfl, h7⟩ := e4.splice hr off ls.length
  have hul := e4.length
  have hnd := h.nodup e hl
  rw [e5] at hnd
  have hnd1 := (List.nodup_cons.1 hnd).2
  have hnL := h.looseNodup
  have hap : ∀ x ∈ f ++ L, x ∉ fa ++ fb ++ fc := fun x hx hx2 => (h.loose x hx).2.2.2 e hl (by rw [e5]; simp only [List.mem_cons]; exact .inr hx2)
  have nd : (fa ++ f ++ fc ++ L).Nodup := by
    have h8 : (fa ++ fc).Nodup := hnd1.sublist (by simp)
    have h9 : ((fa ++ fc) ++ (f ++ L)).Nodup := List.nodup_append.2 ⟨h8, hnL, fun x hx y hy hxy => by subst hxy; exact hap x hy (by simp at hx ⊢; rcases hx with hx | hx <;> simp [hx])⟩
    refine (List.Perm.nodup_iff ?_).1 h9
    simp only [List.append_assoc]
    refine List.Perm.append_left fa ?_
    rw [← List.append_assoc, ← List.append_assoc]
    exact List.perm_append_comm.append_right L
  have hw := h.write (E' := E') (f' := fa ++ f ++ fc) (L' := L) hl hfz hμ hblk e5 hlv hf' hsz' hgen hwr hN h1 setRow_size h2 h3 h4 h5 h6 hel (us' := us.take off ++ vs ++ us.drop (off + ls.length)) (fun q hq => ?_) (by rw [hflat]; exact h7) (fun x hx => ?_) nd
  · exact ⟨_, hw.1, hw.2, h1⟩
  · simp only [List.length_append, List.length_take, List.length_drop] at hq
    rw [setRow_get (by omega)]
    by_cases hq1 : q < off
    · rw [if_neg (by omega), e3 q (by omega), List.append_assoc, List.getElem?_append_left (by simp; omega), List.getElem?_take, if_pos hq1]
    · by_cases hq2 : q < off + vs.length
      · rw [if_pos (by omega), List.append_assoc, List.getElem?_append_right (by simp; omega), List.length_take, Nat.min_eq_left (by omega), List.getElem?_append_left (by omega)]
      · rw [if_neg (by omega), e3 q (by omega), List.getElem?_append_right (by simp; omega), List.length_append, List.length_take, Nat.min_eq_left (by omega), List.getElem?_drop]
        congr 1; omega
  · simp only [List.mem_append] at hx ⊢
    rcases hx with ((hx | hx) | hx) | hx <;> simp [hx]

end
end Go.Vm
