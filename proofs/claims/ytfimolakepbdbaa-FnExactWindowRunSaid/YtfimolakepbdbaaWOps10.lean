/- Appends. -/
import Derived.Test.YtfimolakepbdbaaWOps9
namespace Go.Vm

section
variable {C : Cfg} {n : Nat} {w0 : World} {F0 S0 F : Nat → Prop} {G : Value → AV → Prop} {μ : Nat → Option Nat} {fp : Nat → List Nat} {L : List Nat} {σ σ' : St} {a : Act} {w w' : World} {o : Oper}

theorem run_append_zero {t t2 el ty : TypeId} {U : TI} (ht : C.P.underlying t = some (.slice el)) (hU : TIok C.P el U) {base : Option Addr} {sLen sCap : Nat} {x : Value} {us : List Value} (hs : Src C.P U.sz t2 x 0 us w) (hc : sLen ≤ sCap) :
    (Builtin.append_ #[t, t2] ty #[.slice base sLen sCap, x]).run C.P w = .ok (.slice base sLen sCap) w := by
  obtain ⟨i, z, hi, hsz, _⟩ := hU.info
  obtain rfl : us = [] := List.length_eq_zero_iff.1 (by rw [hs.newsLen]; simp)
  have hcl := hs.cells
  rcases hs.kind with ⟨e', hk⟩ | hk <;> cases base <;> simp [Builtin.append_, run_underlying ht, run_underlying hk, sizeOf, typeInfo, hi, hsz, hs.len, hc, hcl, storeCells]

theorem run_append_room {t t2 el ty : TypeId} {U : TI} (ht : C.P.underlying t = some (.slice el)) (hU : TIok C.P el U) {b off sLen sCap m : Nat} {x : Value} {us : List Value} (hs : Src C.P U.sz t2 x m us w) (hroom : sLen + m ≤ sCap)
    {cur : Array Value} {et : TypeId} (hb : w.heap[b]? = some (.cells cur et (0, 0))) (hcs : off + sLen * U.sz + us.length ≤ cur.size) :
    (Builtin.append_ #[t, t2] ty #[.slice (some ⟨b, off, none⟩) sLen sCap, x]).run C.P w = .ok (.slice (some ⟨b, off, none⟩) (sLen + m) sCap) (w.setCells b (off + sLen * U.sz) us) := by
  obtain ⟨i, z, hi, hsz, _⟩ := hU.info
  rw [← hsz] at hs hcs ⊢
  exact run_append_room_src w t t2 ty el i ht hi b off sLen sCap x m us hs hroom (fun j hj => by
    rw [cell_of_row w b _ cur et (0, 0) hb, Array.getElem?_eq_getElem (by omega)]; rfl) (fun j hj => by simp [World.frozen?, hb])

theorem run_append_grow {t t2 el ty : TypeId} {U : TI} (ht : C.P.underlying t = some (.slice el)) (hU : TIok C.P el U) {A : Option Addr} {sLen sCap m : Nat} {x : Value} {us olds : List Value} (hs : Src C.P U.sz t2 x m us w) (hol : olds.length = sLen * U.sz)
    (hA : 0 < olds.length → ∃ b o', A = some ⟨b, o', none⟩ ∧ ∀ q, q < olds.length → w.cell? ⟨b, o' + q, none⟩ = olds[q]?) (hg : sCap < sLen + m) (hby : (sLen + m) * U.bytes ≤ 140737488355328) (h63 : sLen + m ≤ 140737488355328) :
    ∃ cur G w', (Builtin.append_ #[t, t2] ty #[.slice A sLen sCap, x]).run C.P w = .ok (.slice (some ⟨w.heap.size, 0, none⟩) (sLen + m) G) w' ∧ w'.heap = w.heap.push (.cells cur el) ∧ w'.os = w.os ∧ w'.tape = w.tape ∧ w'.output = w.output ∧
      sLen + m ≤ G ∧ cur.size = G * U.sz ∧ ∀ q, q < (olds ++ us).length → cur[q]? = (olds ++ us)[q]? := by
  obtain ⟨i, z, hi, hsz, hbz, hz, hzs, _⟩ := hU.info
  have hs' := hs
  rw [← hsz] at hs hol
  have := run_append_grow_src (P := C.P) w t t2 ty el i z ht hi hz A sLen sCap olds (run_first (w := w) hol hA rfl) x m us hs hg (by omega) (growslice_fits hg (by rw [hbz]; exact hby))
  have hG := grownCap_ge w (sLen + m) sCap el
  refine ⟨_, _, _, this, rfl, rfl, rfl, rfl, hG, ?_, fun q hq => ?_⟩
  · have hn := hs'.newsLen
    have e : (grownCap w (sLen + m) sCap el) * U.sz = (sLen + m) * U.sz + (grownCap w (sLen + m) sCap el - (sLen + m)) * U.sz := by rw [← Nat.add_mul]; congr 1; omega
    rw [Array.size_append]
    simp only [Builtin.zeroCells, Array.size_map, Array.size_range, hzs]
    rw [hsz] at hol
    rw [e, Nat.add_mul, List.size_toArray, List.length_append, hol, hn]
  · rw [Array.getElem?_append_left (by simpa using hq)]; simp

/-- The numbers of an entry go up. -/
theorem Rel.bump (h : Rel n w0 F0 S0 G F μ fp L σ a w) {e : Nat} {E' : Ent} (hl : (σ.en e).live = true) (hE : E'.live = true ∧ E'.frz = (σ.en e).frz ∧ E'.sz = (σ.en e).sz ∧ E'.elems = (σ.en e).elems) (hgen : (σ.en e).gen ≤ E'.gen) (hwr : (σ.en e).wr < E'.wr) :
    Rel n w0 F0 S0 G F μ fp L (σ.ent e E') a w := by
  obtain ⟨h1, h2, h3, h4⟩ := hE
  have en' : ∀ e', e' ≠ e → (σ.ent e E').en e' = σ.en e' := fun e' he => by simp [St.ent, upd, he]
  have ene : (σ.ent e E').en e = E' := by simp [St.ent, upd]
  have live' : ∀ e', ((σ.ent e E').en e').live = true → (σ.en e').live = true := fun e' h' => by
    by_cases he : e' = e
    · subst he; exact hl
    · rwa [en' e' he] at h'
  refine h.move (en' := (σ.ent e E').en) (F' := F) (w' := w) (μ' := μ) (fp' := fp) ⟨fun _ h => h, fun _ _ => rfl, fun e' => ?_, fun e' => ?_, fun e' h' hg => ?_, fun e' h' hg => ?_⟩ (KeptS.refl _ _) h.free (fun e' h' => ?_) (fun e' h' => h.own e' (live' e' h')) (fun e' h' => h.nodup e' (live' e' h')) (fun e1 e2 k1 k2 => h.apart e1 e2 (live' _ k1) (live' _ k2))
    (fun b hb => ⟨(h.loose b hb).1, (h.loose b hb).2.1, (h.loose b hb).2.2.1, fun e' h' => (h.loose b hb).2.2.2 e' (live' e' h')⟩) h.looseNodup
  · by_cases he : e' = e
    · subst he; rw [ene]; exact hgen
    · rw [en' e' he]; exact Nat.le_refl _
  · by_cases he : e' = e
    · subst he; rw [ene]; omega
    · rw [en' e' he]; exact Nat.le_refl _
  · refine ⟨live' e' h', rfl, ?_, ?_, fun b _ cur _ _ h => ⟨cur, h, rfl⟩⟩
    · by_cases he : e' = e
      · subst he; rw [ene, h3]
      · rw [en' e' he]
    · by_cases he : e' = e
      · subst he; rw [ene, h4]; exact Nat.le_refl _
      · rw [en' e' he]; exact Nat.le_refl _
  · by_cases he : e' = e
    · subst he; rw [ene] at hg; omega
    · rw [en' e' he] at h' ⊢
      exact ⟨h', fun b hb => ⟨rfl, .inl hb⟩, fun hf => ⟨hf, rfl, rfl, rfl, fun _ _ => rfl⟩⟩
  · by_cases he : e' = e
    · subst he
      have := h.ent e' hl
      rw [ene]
      unfold EntRep at this ⊢
      rw [h2, h3, h4]
      exact this
    · rw [en' e' he] at h' ⊢; exact h.ent e' h'

theorem flat_over {sz : Nat} {l news : List AV} (k : Nat) (hl : ∀ x ∈ l, (leaves x).length = sz) (hn : ∀ x ∈ news, (leaves x).length = sz) :
    (l.take k ++ news ++ l.drop (k + news.length)).flatMap leaves = (l.flatMap leaves).take (k * sz) ++ news.flatMap leaves ++ (l.flatMap leaves).drop (k * sz + (news.flatMap leaves).length) := by
  rw [List.flatMap_append, List.flatMap_append, flat_take k hl, flat_drop _ hl, flat_length hn, Nat.add_mul]

end
end Go.Vm
