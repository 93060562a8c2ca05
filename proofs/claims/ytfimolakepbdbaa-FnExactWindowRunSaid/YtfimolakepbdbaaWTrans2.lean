/- New blocks, and stores into the activation's own. -/
import Derived.Test.YtfimolakepbdbaaWTrans
namespace Go.Vm

theorem upd_upd {α : Type} (f : Nat → α) (i : Nat) (u v : α) : upd (upd f i u) i v = upd f i v := by
  funext j; simp only [upd]; split <;> rfl

section
variable {n : Nat} {w0 : World} {F0 S0 F : Nat → Prop} {G : Value → AV → Prop} {μ : Nat → Option Nat} {fp : Nat → List Nat} {L : List Nat} {σ : St} {a : Act} {w w' : World}

theorem EntRep.mono {F F' : Nat → Prop} {w w' : World} {E : Ent} {m : Option Nat} {f : List Nat} (h : EntRep F w E m f) (hF : ∀ b, F b → F' b) (hw : ∀ b, F b ∨ b ∈ f → w'.heap[b]? = w.heap[b]?) : EntRep F' w' E m f := by
  obtain ⟨h1, h2⟩ := h
  refine ⟨h1, h2.imp id ?_⟩
  rintro ⟨b, cur, et, fr, us, f1, e1, e2, e3, e4, e5⟩
  rcases e5 with ⟨e5, rfl, rfl, e6⟩ | ⟨e5, rfl, rfl⟩
  · exact ⟨b, cur, et, fr, us, [], e1, (hw b (.inl e6)).trans e2, e3, e4.mono hF (fun b hb => hw b (by simpa using hb)), .inl ⟨e5, rfl, rfl, hF _ e6⟩⟩
  · exact ⟨b, cur, et, _, us, f1, e1, (hw b (.inr (by simp))).trans e2, e3, e4.mono hF (fun b hb => hw b (hb.imp id (fun h => by simp [h]))), .inr ⟨e5, rfl, rfl⟩⟩

/-- A new entry: its block is new (or there is none, and no element). -/
theorem Rel.fresh (h : Rel n w0 F0 S0 G F μ fp L σ a w) (e sz : Nat) (l : List AV) {m : Option Nat} {f L' : List Nat} (hs : ∀ b ∈ f, b ∈ L ∨ (m = some b ∧ b = w.heap.size)) (hL' : L'.Sublist L) (hap : ∀ b ∈ f, b ∉ L') (hnd : f.Nodup)
    (kept : KeptS w w' (fun _ => False)) (hm : ∀ b, m = some b → b < w'.heap.size)
    (hent : EntRep F w' { live := true, gen := (σ.en e).gen + 1, wr := (σ.en e).wr + 1, frz := false, sz, elems := l } m f) :
    Rel n w0 F0 S0 G F (upd μ e m) (upd fp e f) L' (σ.fresh e sz l) a w' ∧ Step F w σ.en μ fp F w' (σ.fresh e sz l).en (upd μ e m) (upd fp e f) := by
  have old : ∀ b, b < w.heap.size → w'.heap[b]? = w.heap[b]? := fun b hb => kept.block b hb (fun h => h)
  have oldb : ∀ (b : Nat) (cur : Array Value) (et : TypeId) (fr : Nat × Nat), w.heap[b]? = some (Obj.cells cur et fr) → w'.heap[b]? = w.heap[b]? := fun b cur et fr hb => old b (Array.getElem?_eq_some_iff.1 hb).1
  have en' : ∀ e', e' ≠ e → (σ.fresh e sz l).en e' = σ.en e' := fun e' he => by simp [St.fresh, St.ent, upd, he]
  have ene : (σ.fresh e sz l).en e = { live := true, gen := (σ.en e).gen + 1, wr := (σ.en e).wr + 1, frz := false, sz, elems := l } := by simp [St.fresh, St.ent, upd]
  have st : Step F w σ.en μ fp F w' (σ.fresh e sz l).en (upd μ e m) (upd fp e f) := by
    refine ⟨fun _ h => h, fun b hb => old b (h.free b hb).1, fun e' => ?_, fun e' => ?_, fun e' h' hg => ?_, fun e' h' hg => ?_⟩
    · by_cases he : e' = e
      · subst he; rw [ene]; simp
      · rw [en' e' he]; exact Nat.le_refl _
    · by_cases he : e' = e
      · subst he; rw [ene]; simp
      · rw [en' e' he]; exact Nat.le_refl _
    · by_cases he : e' = e
      · subst he; rw [ene] at hg; simp at hg
      · rw [en' e' he] at h' ⊢
        exact ⟨h', by simp [upd, he], rfl, Nat.le_refl _, fun b hb cur et fr hc => ⟨cur, by rw [oldb b cur et fr hc]; exact hc, rfl⟩⟩
    · by_cases he : e' = e
      · subst he; rw [ene] at hg; simp at hg
      · rw [en' e' he] at h' ⊢
        refine ⟨h', fun b hb => ⟨old b (h.own e' h' b hb).2.1, .inl (by simpa [upd, he] using hb)⟩, fun hf => ⟨hf, rfl, rfl, by simp [upd, he], fun b hb => ?_⟩⟩
        obtain ⟨_, h2⟩ := h.ent e' h'
        rcases h2 with ⟨e1, _⟩ | ⟨b', cur, et, fr, us, f1, e1, e2, _⟩
        · rw [hb] at e1; cases e1
        · rw [hb] at e1; cases e1; exact oldb b cur et fr e2
  have kp : KeptS w w' (fun b => S0 b ∨ w0.heap.size ≤ b) := ⟨kept.os, kept.tape, kept.output, kept.size, fun b hb _ => old b hb, kept.same⟩
  have base : w0.heap.size ≤ w.heap.size := h.kept.size
  have fnew : ∀ b ∈ f, ¬ F b ∧ b < w'.heap.size ∧ (S0 b ∨ w0.heap.size ≤ b) ∧ ∀ e', e' ≠ e → (σ.en e').live = true → b ∉ fp e' := by
    intro b hb
    rcases hs b hb with hb | ⟨hb, rfl⟩
    · obtain ⟨h1, h2, h3, h4⟩ := h.loose b hb
      exact ⟨h1, Nat.lt_of_lt_of_le h2 kept.size, h3, fun e' _ => h4 e'⟩
    · exact ⟨fun hF => by have := (h.free _ hF).1; omega, hm _ hb, .inr base, fun e' _ hl hx => by have := (h.own e' hl _ hx).2.1; omega⟩
  refine ⟨h.move (en' := (σ.fresh e sz l).en) st kp (fun b hb => ⟨Nat.lt_of_lt_of_le (h.free b hb).1 kept.size, (h.free b hb).2⟩) (fun e' h' => ?_) (fun e' h' b hb => ?_) (fun e' h' => ?_) (fun e' e2 h' h2 hne b hb => ?_) (fun b hb => ?_) (h.looseNodup.sublist hL'), st⟩
  · by_cases he : e' = e
    · subst he; rw [ene, upd_same, upd_same]; exact hent
    · rw [en' e' he] at h' ⊢
      rw [upd_ne _ _ _ _ he, upd_ne _ _ _ _ he]
      exact (h.ent e' h').mono (fun _ h => h) (fun b hb => old b (hb.elim (fun hb => (h.free b hb).1) (fun hb => (h.own e' h' b hb).2.1)))
  · by_cases he : e' = e
    · subst he; rw [upd_same] at hb
      obtain ⟨h1, h2, h3, _⟩ := fnew b hb; exact ⟨h1, h2, h3⟩
    · rw [en' e' he] at h'; rw [upd_ne _ _ _ _ he] at hb
      obtain ⟨h1, h2, h3⟩ := h.own e' h' b hb; exact ⟨h1, Nat.lt_of_lt_of_le h2 kept.size, h3⟩
  · by_cases he : e' = e
    · subst he; rw [upd_same]; exact hnd
    · rw [en' e' he] at h'; rw [upd_ne _ _ _ _ he]; exact h.nodup e' h'
  · by_cases he : e' = e
    · subst he
      rw [upd_same] at hb
      have he2 : e2 ≠ e' := Ne.symm hne
      rw [en' e2 he2] at h2; rw [upd_ne _ _ _ _ he2]
      exact (fnew b hb).2.2.2 e2 he2 h2
    · rw [en' e' he] at h'; rw [upd_ne _ _ _ _ he] at hb
      by_cases he2 : e2 = e
      · subst he2; rw [upd_same]; exact fun hx => (fnew b hx).2.2.2 e' he h' hb
      · rw [en' e2 he2] at h2; rw [upd_ne _ _ _ _ he2]; exact h.apart e' e2 h' h2 hne b hb
  · obtain ⟨h1, h2, h3, h4⟩ := h.loose b (hL'.subset hb)
    refine ⟨h1, Nat.lt_of_lt_of_le h2 kept.size, h3, fun e' h' => ?_⟩
    by_cases he : e' = e
    · subst he; rw [upd_same]; exact fun hx => hap b hx hb
    · rw [en' e' he] at h'; rw [upd_ne _ _ _ _ he]; exact h4 e' h'

/-- The world with a new block, whatever it drew before. -/
theorem keptS_push {o : Obj} (hh : w'.heap = w.heap.push o) (ho : w'.os = w.os) (ht : w'.tape = w.tape) (hp : w'.output = w.output) : KeptS w w' (fun _ => False) :=
  have old : ∀ b, b < w.heap.size → w'.heap[b]? = w.heap[b]? := fun b hb => by rw [hh, Array.getElem?_push]; rw [if_neg (by omega)]
  ⟨ho, ht, hp, by rw [hh]; simp, fun b hb _ => old b hb, fun b cur _ _ h => ⟨cur, by rw [old b (Array.getElem?_eq_some_iff.1 h).1]; exact h, rfl⟩⟩

/-- A new array or variable in a new block. -/
theorem Rel.newBlock {f : List Nat} (h : Rel n w0 F0 S0 G F μ fp (f ++ L) σ a w) (e sz : Nat) (l : List AV) {cur : Array Value} {et : TypeId} {us : List Value}
    (hh : w'.heap = w.heap.push (.cells cur et)) (ho : w'.os = w.os) (ht : w'.tape = w.tape) (hp : w'.output = w.output)
    (hsz : ∀ x ∈ l, (leaves x).length = sz) (hcur : ∀ q, q < us.length → cur[q]? = us[q]?) (hr : RepL F w us (l.flatMap leaves) f) :
    Rel n w0 F0 S0 G F (upd μ e (some w.heap.size)) (upd fp e (w.heap.size :: f)) L (σ.fresh e sz l) a w' ∧ Step F w σ.en μ fp F w' (σ.fresh e sz l).en (upd μ e (some w.heap.size)) (upd fp e (w.heap.size :: f)) := by
  have kept := keptS_push hh ho ht hp
  have hfl : ∀ b ∈ f, b < w.heap.size := fun b hb => (h.loose b (by simp [hb])).2.1
  have hnd := h.looseNodup
  rw [List.nodup_append] at hnd
  refine h.fresh e sz l (m := some w.heap.size) (f := w.heap.size :: f) (fun b hb => ?_) (List.sublist_append_right f L) (fun b hb hb2 => ?_) ?_ kept (fun b hb => ?_) ⟨hsz, .inr ⟨w.heap.size, cur, et, (0, 0), us, f, rfl, ?_, hcur, ?_, .inr ⟨rfl, rfl, rfl⟩⟩⟩
  · rcases List.mem_cons.1 hb with rfl | hb
    · exact .inr ⟨rfl, rfl⟩
    · exact .inl (by simp [hb])
  · rcases List.mem_cons.1 hb with rfl | hb
    · have := (h.loose _ (List.mem_append.2 (.inr hb2))).2.1; omega
    · exact hnd.2.2 b hb b hb2 rfl
  · exact List.nodup_cons.2 ⟨fun hx => by have := hfl _ hx; omega, hnd.1⟩
  · cases hb; rw [hh]; simp
  · rw [hh]; simp
  · refine hr.mono (fun _ h => h) (fun b hb => kept.block b ?_ (fun h => h))
    exact hb.elim (fun hb => (h.free b hb).1) (fun hb => hfl b hb)

/-- An empty array without a block. -/
theorem Rel.newNil (h : Rel n w0 F0 S0 G F μ fp L σ a w) (e sz : Nat) :
    Rel n w0 F0 S0 G F (upd μ e none) (upd fp e []) L (σ.fresh e sz []) a w ∧ Step F w σ.en μ fp F w (σ.fresh e sz []).en (upd μ e none) (upd fp e []) :=
  h.fresh e sz [] (m := none) (f := []) (by simp) (List.Sublist.refl _) (by simp) List.nodup_nil (KeptS.refl _ _) (by simp) ⟨by simp, .inl ⟨rfl, rfl, rfl⟩⟩

/-- A store into the block of an entry. -/
theorem Rel.write (h : Rel n w0 F0 S0 G F μ fp L σ a w) {e b : Nat} (hl : (σ.en e).live = true) (hfz : (σ.en e).frz = false) {cur cur' : Array Value} {et : TypeId} {us' : List Value} {f1 f' L' : List Nat} {E' : Ent}
    (hμ : μ e = some b) (hblk : w.heap[b]? = some (.cells cur et (0, 0))) (hfp : fp e = b :: f1)
    (_hl' : E'.live = true) (hf' : E'.frz = false) (hsz' : E'.sz = (σ.en e).sz) (hgen : (σ.en e).gen ≤ E'.gen) (hwr : (σ.en e).wr < E'.wr) (hN : E'.gen = (σ.en e).gen → E'.elems.length ≤ (σ.en e).elems.length)
    (hblk' : w'.heap[b]? = some (.cells cur' et (0, 0))) (hcs : cur'.size = cur.size) (hoth : ∀ b', b' ≠ b → w'.heap[b']? = w.heap[b']?) (hsize : w'.heap.size = w.heap.size) (ho : w'.os = w.os) (ht : w'.tape = w.tape) (hp : w'.output = w.output)
    (hel : ∀ x ∈ E'.elems, (leaves x).length = E'.sz) (hcur : ∀ q, q < us'.length → cur'[q]? = us'[q]?) (hr : RepL F w us' (E'.elems.flatMap leaves) f')
    (hsub : ∀ b' ∈ f' ++ L', b' ∈ f1 ++ L) (hnd : (f' ++ L').Nodup) :
    Rel n w0 F0 S0 G F μ (upd fp e (b :: f')) L' (σ.ent e E') a w' ∧ Step F w σ.en μ fp F w' (σ.ent e E').en μ (upd fp e (b :: f')) := by
  obtain ⟨hbF, hbs, hb0⟩ := h.own e hl b (by rw [hfp]; simp)
  have hnd0 := h.nodup e hl
  rw [hfp] at hnd0
  have hb1 : b ∉ f1 := (List.nodup_cons.1 hnd0).1
  have hbL : b ∉ L := fun hx => (h.loose b hx).2.2.2 e hl (by rw [hfp]; simp)
  have hbf' : b ∉ f' := fun hx => (List.mem_append.1 (hsub b (by simp [hx]))).elim hb1 hbL
  have hF : ∀ b', F b' → w'.heap[b']? = w.heap[b']? := fun b' hb' => hoth b' (fun e => hbF (e ▸ hb'))
  have en' : ∀ e', e' ≠ e → (σ.ent e E').en e' = σ.en e' := fun e' he => by simp [St.ent, upd, he]
  have ene : (σ.ent e E').en e = E' := by simp [St.ent, upd]
  have hne : ∀ e', e' ≠ e → (σ.en e').live = true → ∀ b', b' ∈ fp e' → b' ≠ b := fun e' he hle b' hb' hx => h.apart e' e hle hl he b' hb' (by rw [hfp, hx]; simp)
  have sz' : ∀ b', sameSize w w' b' := by
    intro b' c et' fr hc
    by_cases hb' : b' = b
    · subst hb'
      rw [hblk] at hc; cases hc
      exact ⟨cur', hblk', hcs⟩
    · exact ⟨c, by rw [hoth b' hb']; exact hc, rfl⟩
  have μne : ∀ e', e' ≠ e → (σ.en e').live = true → ∀ b', μ e' = some b' → b' ≠ b := by
    intro e' he hle b' hm hx
    subst hx
    obtain ⟨_, h2⟩ := h.ent e' hle
    rcases h2 with ⟨e1, _⟩ | ⟨b2, _, _, _, _, f2, e1, _, _, _, e5⟩
    · rw [hm] at e1; cases e1
    · rw [hm] at e1; cases e1
      rcases e5 with ⟨_, _, _, e6⟩ | ⟨_, _, e6⟩
      · exact hbF e6
      · exact hne e' he hle b' (by rw [e6]; simp) rfl
  have st : Step F w σ.en μ fp F w' (σ.ent e E').en μ (upd fp e (b :: f')) := by
    refine ⟨fun _ h => h, hF, fun e' => ?_, fun e' => ?_, fun e' h' hg => ?_, fun e' h' hg => ?_⟩
    · by_cases he : e' = e
      · subst he; rw [ene]; exact hgen
      · rw [en' e' he]; exact Nat.le_refl _
    · by_cases he : e' = e
      · subst he; rw [ene]; exact Nat.le_of_lt hwr
      · rw [en' e' he]; exact Nat.le_refl _
    · by_cases he : e' = e
      · subst he; rw [ene] at hg ⊢; exact ⟨hl, rfl, hsz', hN hg, fun b' _ => sz' b'⟩
      · rw [en' e' he] at h' ⊢; exact ⟨h', rfl, rfl, Nat.le_refl _, fun b' _ => sz' b'⟩
    · by_cases he : e' = e
      · subst he; rw [ene] at hg; omega
      · rw [en' e' he] at h' ⊢
        exact ⟨h', fun b' hb' => ⟨hoth b' (hne e' he h' b' hb'), .inl (by rw [upd_ne _ _ _ _ he]; exact hb')⟩, fun hf => ⟨hf, rfl, rfl, rfl, fun b' hm => hoth b' (μne e' he h' b' hm)⟩⟩
  have hfl : ∀ b' ∈ f', ¬ F b' ∧ b' < w.heap.size ∧ (S0 b' ∨ w0.heap.size ≤ b') ∧ ∀ e', e' ≠ e → (σ.en e').live = true → b' ∉ fp e' := by
    intro b' hb'
    rcases List.mem_append.1 (hsub b' (by simp [hb'])) with hx | hx
    · obtain ⟨h1, h2, h3⟩ := h.own e hl b' (by rw [hfp]; simp [hx])
      exact ⟨h1, h2, h3, fun e' he hle => h.apart e e' hl hle (Ne.symm he) b' (by rw [hfp]; simp [hx])⟩
    · obtain ⟨h1, h2, h3, h4⟩ := h.loose b' hx
      exact ⟨h1, h2, h3, fun e' _ hle => h4 e' hle⟩
  refine ⟨h.move (en' := (σ.ent e E').en) st ⟨ho, ht, hp, by omega, fun b' _ hn => hoth b' (fun hx => hn (hx ▸ hb0)), sz'⟩ (fun b' hb' => by rw [hsize]; exact h.free b' hb') (fun e' h' => ?_) (fun e' h' b' hb' => ?_) (fun e' h' => ?_) (fun e' e2 h' h2 hn b' hb' => ?_) (fun b' hb' => ?_) (hnd.sublist (List.sublist_append_right _ _)), st⟩
  · by_cases he : e' = e
    · subst he; rw [ene, upd_same]
      refine ⟨hel, .inr ⟨b, cur', et, (0, 0), us', f', hμ, hblk', hcur, hr.mono (fun _ h => h) (fun b' hb' => ?_), .inr ⟨hf', rfl, rfl⟩⟩⟩
      exact hb'.elim (hF b') (fun hb' => hoth b' (fun hx => hbf' (hx ▸ hb')))
    · rw [en' e' he] at h' ⊢; rw [upd_ne _ _ _ _ he]
      exact (h.ent e' h').mono (fun _ h => h) (fun b' hb' => hb'.elim (hF b') (fun hb' => hoth b' (hne e' he h' b' hb')))
  · by_cases he : e' = e
    · subst he; rw [upd_same] at hb'
      rw [hsize]
      rcases List.mem_cons.1 hb' with rfl | hb'
      · exact ⟨hbF, hbs, hb0⟩
      · obtain ⟨h1, h2, h3, _⟩ := hfl b' hb'; exact ⟨h1, h2, h3⟩
    · rw [en' e' he] at h'; rw [upd_ne _ _ _ _ he] at hb'; rw [hsize]; exact h.own e' h' b' hb'
  · by_cases he : e' = e
    · subst he; rw [upd_same]; exact List.nodup_cons.2 ⟨hbf', hnd.sublist (List.sublist_append_left _ _)⟩
    · rw [en' e' he] at h'; rw [upd_ne _ _ _ _ he]; exact h.nodup e' h'
  · by_cases he : e' = e
    · subst he
      rw [upd_same] at hb'
      have he2 : e2 ≠ e' := Ne.symm hn
      rw [en' e2 he2] at h2; rw [upd_ne _ _ _ _ he2]
      rcases List.mem_cons.1 hb' with rfl | hb'
      · exact fun hx => hne e2 he2 h2 _ hx rfl
      · exact (hfl b' hb').2.2.2 e2 he2 h2
    · rw [en' e' he] at h'; rw [upd_ne _ _ _ _ he] at hb'
      by_cases he2 : e2 = e
      · subst he2; rw [upd_same]
        intro hx
        rcases List.mem_cons.1 hx with rfl | hx
        · exact hne e' he h' _ hb' rfl
        · exact (hfl b' hx).2.2.2 e' he h' hb'
      · rw [en' e2 he2] at h2; rw [upd_ne _ _ _ _ he2]; exact h.apart e' e2 h' h2 hn b' hb'
  · rw [hsize]
    have hnd2 := List.nodup_append.1 hnd
    rcases List.mem_append.1 (hsub b' (by simp [hb'])) with hx | hx
    · obtain ⟨h1, h2, h3⟩ := h.own e hl b' (by rw [hfp]; simp [hx])
      refine ⟨h1, h2, h3, fun e' h' => ?_⟩
      by_cases he : e' = e
      · subst he; rw [upd_same]; intro hy
        rcases List.mem_cons.1 hy with rfl | hy
        · exact hb1 hx
        · exact hnd2.2.2 b' hy b' hb' rfl
      · rw [en' e' he] at h'; rw [upd_ne _ _ _ _ he]; exact h.apart e e' hl h' (Ne.symm he) b' (by rw [hfp]; simp [hx])
    · obtain ⟨h1, h2, h3, h4⟩ := h.loose b' hx
      refine ⟨h1, h2, h3, fun e' h' => ?_⟩
      by_cases he : e' = e
      · subst he; rw [upd_same]; intro hy
        rcases List.mem_cons.1 hy with rfl | hy
        · exact hbL hx
        · exact hnd2.2.2 b' hy b' hb' rfl
      · rw [en' e' he] at h'; rw [upd_ne _ _ _ _ he]; exact h4 e' h'

end
end Go.Vm
