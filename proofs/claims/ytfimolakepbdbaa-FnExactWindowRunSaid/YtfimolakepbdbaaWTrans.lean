/- Steps of the abstract state and the machine's, side by side. -/
import Derived.Test.YtfimolakepbdbaaWRel
import Derived.Laws.NewBlocks
import Derived.Laws.IdiomCopy
namespace Go.Vm

section
variable {n : Nat} {w0 : World} {F0 S0 F : Nat → Prop} {G : Value → AV → Prop} {μ : Nat → Option Nat} {fp : Nat → List Nat} {L : List Nat} {σ : St} {a : Act} {w : World}

theorem upd_same {α : Type} (f : Nat → α) (i : Nat) (v : α) : upd f i v i = v := by simp [upd]
theorem upd_ne {α : Type} (f : Nat → α) (i j : Nat) (v : α) (h : j ≠ i) : upd f i v j = f j := by simp [upd, h]


theorem Rel.put (h : Rel n w0 F0 S0 G F μ fp L σ a w) {d : Nat} (hd : d < n) {v : Value} {x : AV} (hx : SRep F w σ.en μ fp v x) :
    Rel n w0 F0 S0 G F μ fp L (σ.put (some d) x) (a.put (some d) v) w := by
  refine ⟨h.defers, by simp [Act.put, h.size], h.kept, h.base, h.free, h.ent, h.own, h.nodup, h.apart, h.loose, h.looseNodup, fun s => ?_, h.ghost⟩
  by_cases hs : s = d
  · subst hs
    have : (a.put (some s) v).tmps.getD s undef = v := by
      have hlt : s < a.tmps.size := by rw [h.size]; exact hd
      simp [Act.put, hlt]
    rw [this]
    simpa [St.put, upd] using hx
  · have : (a.put (some d) v).tmps.getD s undef = a.tmps.getD s undef := by
      simp only [Act.put, Array.getD_eq_getD_getElem?]
      rw [Array.getElem?_setIfInBounds_ne (Ne.symm hs)]
    rw [this]
    simpa [St.put, upd, hs] using h.slots s

/-- A step of the entries and the world. -/
theorem Rel.move (h : Rel n w0 F0 S0 G F μ fp L σ a w) {F' : Nat → Prop} {w' : World} {en' : Nat → Ent} {μ' : Nat → Option Nat} {fp' : Nat → List Nat} {L' : List Nat}
    (st : Step F w σ.en μ fp F' w' en' μ' fp') (kept : KeptS w w' (fun b => S0 b ∨ w0.heap.size ≤ b))
    (free : ∀ b, F' b → b < w'.heap.size ∧ (F0 b ∨ S0 b ∨ w0.heap.size ≤ b))
    (ent : ∀ e, (en' e).live = true → EntRep F' w' (en' e) (μ' e) (fp' e))
    (own : ∀ e, (en' e).live = true → ∀ b ∈ fp' e, ¬ F' b ∧ b < w'.heap.size ∧ (S0 b ∨ w0.heap.size ≤ b))
    (nodup : ∀ e, (en' e).live = true → (fp' e).Nodup)
    (apart : ∀ e e', (en' e).live = true → (en' e').live = true → e ≠ e' → ∀ b ∈ fp' e, b ∉ fp' e')
    (loose : ∀ b ∈ L', ¬ F' b ∧ b < w'.heap.size ∧ (S0 b ∨ w0.heap.size ≤ b) ∧ ∀ e, (en' e).live = true → b ∉ fp' e)
    (looseNodup : L'.Nodup) : Rel n w0 F0 S0 G F' μ' fp' L' { σ with en := en' } a w' :=
  ⟨h.defers, h.size, h.kept.trans kept (fun b hb hT => hT.resolve_right (by omega)), fun b hb => st.hF b (h.base b hb), free, ent, own, nodup, apart, loose, looseNodup, fun s => (h.slots s).step st, fun v x hg => (h.ghost v x hg).step st⟩

/-- Some of what is loose is let go. -/
theorem Rel.drop (h : Rel n w0 F0 S0 G F μ fp L σ a w) {L' : List Nat} (hs : L'.Sublist L) : Rel n w0 F0 S0 G F μ fp L' σ a w :=
  ⟨h.defers, h.size, h.kept, h.base, h.free, h.ent, h.own, h.nodup, h.apart, fun b hb => h.loose b (hs.subset hb), h.looseNodup.sublist hs, h.slots, h.ghost⟩

theorem Rel.perm (h : Rel n w0 F0 S0 G F μ fp L σ a w) {L' : List Nat} (hs : L'.Perm L) : Rel n w0 F0 S0 G F μ fp L' σ a w :=
  ⟨h.defers, h.size, h.kept, h.base, h.free, h.ent, h.own, h.nodup, h.apart, fun b hb => h.loose b (hs.subset hb), hs.nodup_iff.2 h.looseNodup, h.slots, h.ghost⟩

/-- The world stands but for what no block tells. -/
theorem Rel.world (h : Rel n w0 F0 S0 G F μ fp L σ a w) {w' : World} (hh : w'.heap = w.heap) (ho : w'.os = w.os) (ht : w'.tape = w.tape) (hp : w'.output = w.output) : Rel n w0 F0 S0 G F μ fp L σ a w' := by
  have e : ∀ b : Nat, w'.heap[b]? = w.heap[b]? := fun b => by rw [hh]
  have st : Step F w σ.en μ fp F w' σ.en μ fp := ⟨fun _ h => h, fun _ _ => e _, fun _ => Nat.le_refl _, fun _ => Nat.le_refl _,
    fun _ h _ => ⟨h, rfl, rfl, Nat.le_refl _, fun b _ cur _ _ h => ⟨cur, (e b).trans h, rfl⟩⟩, fun _ h _ => ⟨h, fun _ hb => ⟨e _, .inl hb⟩, fun h => ⟨h, rfl, rfl, rfl, fun _ _ => e _⟩⟩⟩
  have := h.move (L' := L) st ⟨ho, ht, hp, by rw [hh]; exact Nat.le_refl _, fun b _ _ => e b, fun b cur _ _ h => ⟨cur, (e b).trans h, rfl⟩⟩ (by rw [hh]; exact h.free)
    (fun e' hl => by
      obtain ⟨h1, h2⟩ := h.ent e' hl
      refine ⟨h1, h2.imp id ?_⟩
      rintro ⟨b, cur, et, fr, us, f1, e1, e2, e3, e4, e5⟩
      exact ⟨b, cur, et, fr, us, f1, e1, (e b).trans e2, e3, e4.mono (fun _ h => h) (fun b _ => e b), e5⟩)
    (by rw [hh]; exact h.own) h.nodup h.apart (by rw [hh]; exact h.loose) h.looseNodup
  exact this

/-- An entry that is given up: what it owned is loose. -/
theorem Rel.kill (h : Rel n w0 F0 S0 G F μ fp L σ a w) (e : Nat) (hl : (σ.en e).live = true) : Rel n w0 F0 S0 G F μ fp (fp e ++ L) (σ.kill e) a w ∧ Step F w σ.en μ fp F w (σ.kill e).en μ fp := by
  have live' : ∀ e', ((upd σ.en e { σ.en e with live := false }) e').live = true → e' ≠ e ∧ (σ.en e').live = true ∧ (upd σ.en e { σ.en e with live := false }) e' = σ.en e' := by
    intro e' h'
    by_cases he : e' = e
    · subst he; simp [upd] at h'
    · simp [upd, he] at h' ⊢; exact h'
  have st : Step F w σ.en μ fp F w (σ.kill e).en μ fp := by
    refine ⟨fun _ h => h, fun _ _ => rfl, fun e' => ?_, fun e' => ?_, fun e' h' _ => ?_, fun e' h' _ => ?_⟩
    · by_cases he : e' = e
      · subst he; simp [St.kill, St.ent, upd]
      · simp [St.kill, St.ent, upd, he]
    · by_cases he : e' = e
      · subst he; simp [St.kill, St.ent, upd]
      · simp [St.kill, St.ent, upd, he]
    · obtain ⟨_, h1, h2⟩ := live' e' h'
      exact ⟨h1, rfl, congrArg Ent.sz h2, by have := congrArg (fun E => E.elems.length) h2; exact Nat.le_of_eq this, fun _ _ cur _ _ h => ⟨cur, h, rfl⟩⟩
    · obtain ⟨_, h1, h2⟩ := live' e' h'
      refine ⟨h1, fun _ hb => ⟨rfl, .inl hb⟩, fun hf => ?_⟩
      have h2' : (σ.kill e).en e' = σ.en e' := h2
      rw [h2'] at hf ⊢
      exact ⟨hf, rfl, rfl, rfl, fun _ _ => rfl⟩
  refine ⟨h.move st (KeptS.refl _ _) h.free (fun e' h' => ?_) (fun e' h' => ?_) (fun e' h' => ?_) (fun e' e2 h' h2 hne => ?_) (fun b hb => ?_) ?_, st⟩
  · obtain ⟨_, h1, h2⟩ := live' e' h'
    have h2' : (σ.kill e).en e' = σ.en e' := h2
    show EntRep F w ((σ.kill e).en e') _ _
    rw [h2']; exact h.ent e' h1
  · exact h.own e' (live' e' h').2.1
  · exact h.nodup e' (live' e' h').2.1
  · exact h.apart e' e2 (live' e' h').2.1 (live' e2 h2).2.1 hne
  · rcases List.mem_append.1 hb with hb | hb
    · obtain ⟨h1, h2, h3⟩ := h.own e hl b hb
      exact ⟨h1, h2, h3, fun e' h' => h.apart e e' hl (live' e' h').2.1 (Ne.symm (live' e' h').1) b hb⟩
    · obtain ⟨h1, h2, h3, h4⟩ := h.loose b hb
      exact ⟨h1, h2, h3, fun e' h' => h4 e' (live' e' h').2.1⟩
  · exact List.nodup_append.2 ⟨h.nodup e hl, h.looseNodup, fun x hx y hy hxy => (h.loose y hy).2.2.2 e hl (hxy ▸ hx)⟩

/-- An entry that nobody writes any more. -/
theorem Rel.freeze (h : Rel n w0 F0 S0 G F μ fp L σ a w) (e : Nat) (hl : (σ.en e).live = true) (hf : (σ.en e).frz = false) :
    Rel n w0 F0 S0 G (fun b => F b ∨ b ∈ fp e) μ (upd fp e []) L (σ.freeze e) a w ∧ Step F w σ.en μ fp (fun b => F b ∨ b ∈ fp e) w (σ.freeze e).en μ (upd fp e []) := by
  have en' : ∀ e', e' ≠ e → (σ.freeze e).en e' = σ.en e' := fun e' he => by simp [St.freeze, St.ent, upd, he]
  have ene : (σ.freeze e).en e = { σ.en e with frz := true, elems := (σ.en e).elems.map froize } := by simp [St.freeze, St.ent, upd]
  have fpn : ∀ e', e' ≠ e → upd fp e [] e' = fp e' := fun e' he => by simp [upd, he]
  have fpe : upd fp e [] e = [] := by simp [upd]
  have live' : ∀ e', ((σ.freeze e).en e').live = (σ.en e').live := fun e' => by
    by_cases he : e' = e
    · subst he; rw [ene]
    · rw [en' e' he]
  have st : Step F w σ.en μ fp (fun b => F b ∨ b ∈ fp e) w (σ.freeze e).en μ (upd fp e []) := by
    refine ⟨fun _ h => .inl h, fun _ _ => rfl, fun e' => ?_, fun e' => ?_, fun e' h' _ => ?_, fun e' h' _ => ?_⟩
    · by_cases he : e' = e
      · subst he; rw [ene]; exact Nat.le_refl _
      · rw [en' e' he]; exact Nat.le_refl _
    · by_cases he : e' = e
      · subst he; rw [ene]; exact Nat.le_refl _
      · rw [en' e' he]; exact Nat.le_refl _
    · rw [live'] at h'
      by_cases he : e' = e
      · subst he; rw [ene]; exact ⟨h', rfl, rfl, by simp, fun _ _ cur _ _ h => ⟨cur, h, rfl⟩⟩
      · rw [en' e' he]; exact ⟨h', rfl, rfl, Nat.le_refl _, fun _ _ cur _ _ h => ⟨cur, h, rfl⟩⟩
    · rw [live'] at h'
      by_cases he : e' = e
      · subst he; exact ⟨h', fun b hb => ⟨rfl, .inr (.inr hb)⟩, fun hx => by rw [ene] at hx; simp at hx⟩
      · exact ⟨h', fun b hb => ⟨rfl, .inl (by rw [fpn e' he]; exact hb)⟩, fun hx => by rw [en' e' he] at hx ⊢; exact ⟨hx, rfl, rfl, rfl, fun _ _ => rfl⟩⟩
  refine ⟨h.move (en' := (σ.freeze e).en) st (KeptS.refl _ _) (fun b hb => ?_) (fun e' h' => ?_) (fun e' h' b hb => ?_) (fun e' h' => ?_) (fun e' e2 h' h2 hne b hb => ?_) (fun b hb => ?_) h.looseNodup, st⟩
  · rcases hb with hb | hb
    · exact h.free b hb
    · obtain ⟨_, h2, h3⟩ := h.own e hl b hb; exact ⟨h2, .inr h3⟩
  · rw [live'] at h'
    by_cases he : e' = e
    · subst he
      rw [ene, fpe]
      obtain ⟨h1, h2⟩ := h.ent e' h'
      refine ⟨fun x hx => ?_, ?_⟩
      · obtain ⟨y, hy, rfl⟩ := List.mem_map.1 hx
        rw [leaves_froize]; simpa using h1 y hy
      · rcases h2 with ⟨e1, e2, e3⟩ | ⟨b, cur, et, fr, us, f1, e1, e2, e3, e4, e5⟩
        · exact .inl ⟨e1, by simp [e2], rfl⟩
        · rcases e5 with ⟨e5, _⟩ | ⟨_, e6, e7⟩
          · rw [hf] at e5; cases e5
          · refine .inr ⟨b, cur, et, fr, us, [], e1, e2, e3, ?_, .inl ⟨rfl, rfl, rfl, .inr (by rw [e7]; simp)⟩⟩
            rw [flat_froize]
            exact e4.froized.mono (fun b hb => hb.imp id (fun hb => by rw [e7]; simp [hb])) (fun _ _ => rfl)
    · rw [en' e' he, fpn e' he]
      obtain ⟨h1, h2⟩ := h.ent e' h'
      refine ⟨h1, h2.imp id ?_⟩
      rintro ⟨b, cur, et, fr, us, f1, e1, e2, e3, e4, e5⟩
      exact ⟨b, cur, et, fr, us, f1, e1, e2, e3, e4.mono (fun _ h => .inl h) (fun _ _ => rfl), e5.imp (fun ⟨a1, a2, a3, a4⟩ => ⟨a1, a2, a3, .inl a4⟩) id⟩
  · rw [live'] at h'
    by_cases he : e' = e
    · subst he; rw [fpe] at hb; cases hb
    · rw [fpn e' he] at hb
      obtain ⟨h1, h2, h3⟩ := h.own e' h' b hb
      exact ⟨fun hx => hx.elim h1 (fun hx => h.apart e' e h' hl he b hb hx), h2, h3⟩
  · rw [live'] at h'
    by_cases he : e' = e
    · subst he; rw [fpe]; exact List.nodup_nil
    · rw [fpn e' he]; exact h.nodup e' h'
  · rw [live'] at h' h2
    by_cases he : e' = e
    · subst he; rw [fpe] at hb; cases hb
    · rw [fpn e' he] at hb
      by_cases he2 : e2 = e
      · subst he2; rw [fpe]; simp
      · rw [fpn e2 he2]; exact h.apart e' e2 h' h2 hne b hb
  · obtain ⟨h1, h2, h3, h4⟩ := h.loose b hb
    refine ⟨fun hx => hx.elim h1 (h4 e hl), h2, h3, fun e' h' => ?_⟩
    rw [live'] at h'
    by_cases he : e' = e
    · subst he; rw [fpe]; simp
    · rw [fpn e' he]; exact h4 e' h'

/-- A value on its way out: what it owns is loose, the rest is read as ever. -/
theorem Rel.close (h : Rel n w0 F0 S0 G F μ fp L σ a w) {v : Value} {x y : AV} {σ' : St} (hx : SLeaf F w σ.en μ fp v x) (hc : σ.close x = some (y, σ')) :
    ∃ F' fp' f, Rel n w0 F0 S0 G F' μ fp' (f ++ L) σ' a w ∧ RepL F' w [v] [y] f ∧ (∀ b, F b → F' b) ∧ (∀ v x, SLeaf F w σ.en μ fp v x → SLeaf F' w σ'.en μ fp' v x) ∧ σ'.sl = σ.sl := by
  have plain : ∀ x, RepL F w [v] [x] [] → some (x, σ) = some (y, σ') → ∃ F' fp' f, Rel n w0 F0 S0 G F' μ fp' (f ++ L) σ' a w ∧ RepL F' w [v] [y] f ∧ (∀ b, F b → F' b) ∧ (∀ v x, SLeaf F w σ.en μ fp v x → SLeaf F' w σ'.en μ fp' v x) ∧ σ'.sl = σ.sl := by
    intro x hr he
    simp only [Option.some.injEq, Prod.mk.injEq] at he
    obtain ⟨rfl, rfl⟩ := he
    exact ⟨F, fp, [], h, hr, fun _ h => h, fun _ _ h => h, rfl⟩
  cases x with
  | hd e g off len clip =>
    simp only [St.close, Option.bind_eq_bind, Option.bind_eq_some_iff, St.cur] at hc
    obtain ⟨E, hE, hc⟩ := hc
    split at hE
    case isFalse => cases hE
    case isTrue hlg =>
      obtain ⟨hl, hg⟩ := hlg
      cases hE
      obtain ⟨_, hv⟩ := hx
      obtain ⟨A, c, rfl, hlc, hcl, hN, hA⟩ := hv hl hg
      obtain ⟨h1, h2⟩ := h.ent e hl
      split at hc
      · rename_i hf
        simp only [Option.bind_eq_some_iff, ensure] at hc
        obtain ⟨_, hens, hc⟩ := hc
        split at hens
        case isFalse => cases hens
        case isTrue hlen =>
          simp only [Option.some.injEq, Prod.mk.injEq] at hc
          obtain ⟨rfl, rfl⟩ := hc
          refine ⟨F, fp, [], h, ?_, fun _ h => h, fun _ _ h => h, rfl⟩
          rcases h2 with ⟨_, e2, _⟩ | ⟨b, cur, et, fr, us, f1, e1, e2, e3, e4, e5⟩
          · rw [e2] at hlen ⊢
            simp at hlen
            obtain ⟨rfl, rfl⟩ := hlen
            simpa using RepL.fro0 (fun hc => by simpa using hcl hc) .nil
          · rcases e5 with ⟨_, e6, rfl, hFb⟩ | ⟨e5, _⟩
            case inr => rw [hf] at e5; cases e5
            obtain ⟨fa, fb, fc, hf0, hsub⟩ := e4.sub off len h1
            have : fb = [] := by
              have e0 := congrArg List.length hf0
              simp only [List.length_nil, List.length_append] at e0
              exact List.eq_nil_of_length_eq_zero (by omega)
            subst this
            rcases Nat.eq_zero_or_pos len with h0 | h0
            · subst h0
              simpa using RepL.fro0 (F := F) (w := w) (A := A) (c := c) (clip := clip) (fun hc => by simpa using hcl hc) .nil
            · obtain ⟨b', cur', et', fr', e1', rfl, e2', hcap⟩ := hA (by omega)
              rw [e1] at e1'; cases e1'
              rw [e2] at e2'; cases e2'
              have hul := e4.length
              rw [flat_length h1] at hul
              refine .fro (sz := (σ.en e).sz) (by simp; omega) hlc hcl hFb (fun q hq => ?_) (fun a ha => h1 a (List.mem_of_mem_drop (List.mem_of_mem_take ha))) hsub .nil
              simp only [List.length_take, List.length_drop] at hq
              simp only [World.cell?, e2, List.getElem?_take, List.getElem?_drop]
              rw [if_neg (by simp), if_pos (by omega)]
              exact e3 _ (by omega)
      · rename_i hf
        have hf : (σ.en e).frz = false := by simpa using hf
        simp only [Option.bind_eq_some_iff, ensure] at hc
        obtain ⟨_, hens, hc⟩ := hc
        split at hens
        case isFalse => cases hens
        case isTrue hlen =>
          simp only [Option.some.injEq, Prod.mk.injEq] at hc
          obtain ⟨rfl, rfl⟩ := hc
          obtain ⟨rfl, hlen⟩ := hlen
          obtain ⟨hk, hst⟩ := h.kill e hl
          rcases Nat.eq_zero_or_pos c with h0 | h0
          · subst h0
            have : len = 0 := by omega
            subst this
            exact ⟨F, fp, [], hk.drop (by simp), by simpa using RepL.own0 .nil, fun _ h => h, fun _ _ => SLeaf.step hst, rfl⟩
          · obtain ⟨b, cur, et, fr, e1, rfl, e2, hcap⟩ := hA h0
            rcases h2 with ⟨e1', _⟩ | ⟨b', cur', et', fr', us, f1, e1', e2', e3, e4, e5⟩
            · rw [e1] at e1'; cases e1'
            · rw [e1] at e1'; cases e1'
              rw [e2] at e2'; cases e2'
              rcases e5 with ⟨e5, _⟩ | ⟨_, rfl, e6⟩
              · rw [hf] at e5; cases e5
              · obtain ⟨fa, fb, fc, hf0, hsub⟩ := e4.sub 0 len h1
                have hul := e4.length
                rw [flat_length h1] at hul
                rw [e6] at hk
                refine ⟨F, fp, b :: fb, hk.drop ?_, ?_, fun _ h => h, fun _ _ => SLeaf.step hst, rfl⟩
                · rw [hf0]
                  refine List.Sublist.append_right ?_ L
                  refine List.Sublist.cons_cons b ?_
                  rw [List.append_assoc]
                  exact (List.sublist_append_left fb fc).trans (List.sublist_append_right fa _)
                · have hmul : len * (σ.en e).sz ≤ (σ.en e).elems.length * (σ.en e).sz := Nat.mul_le_mul_right _ hlen
                  have := RepL.own (F := F) (w := w) (g := b) (n := len) (c := c) (sz := (σ.en e).sz) (et := et) (cur := cur) (l := (σ.en e).elems.take len) (us := (us.drop (0 * (σ.en e).sz)).take (len * (σ.en e).sz)) (vs := []) (xs := []) (f1 := fb) (f := [])
                    (by simp; omega) hlc e2 (by simpa using hcap) (fun q hq => ?_) (fun a ha => h1 a (List.mem_of_mem_take ha)) (by simpa using hsub) .nil
                  · simpa using this
                  · simp only [List.length_take, List.length_drop] at hq
                    simp only [List.getElem?_take, List.getElem?_drop]
                    rw [if_pos (by omega)]
                    have := e3 q (by omega)
                    simpa using this
  | fro tg clip l =>
    cases tg with
    | none => exact plain _ hx hc
    | some tg =>
      obtain ⟨e, wv, o⟩ := tg
      simp only [St.close, Option.bind_eq_bind, Option.bind_eq_some_iff, St.valid, ensure] at hc
      obtain ⟨_, hens, hc⟩ := hc
      split at hens
      case isFalse => cases hens
      case isTrue hv =>
        obtain ⟨hl, hw⟩ := hv
        simp only [Option.some.injEq, Prod.mk.injEq] at hc
        obtain ⟨rfl, rfl⟩ := hc
        obtain ⟨hr, _⟩ := hx.2 hl hw
        by_cases hf : (σ.en e).frz = true
        · rw [if_pos hf]
          refine ⟨F, fp, [], h, hr.mono (fun b hb => ?_) (fun _ _ => rfl), fun _ h => h, fun _ _ h => h, rfl⟩
          rcases hb with hb | hb
          · exact hb
          · obtain ⟨_, h2⟩ := h.ent e hl
            rcases h2 with ⟨_, _, e3⟩ | ⟨b', cur, et, fr, us, f1, _, _, _, _, e5⟩
            · rw [e3] at hb; cases hb
            · rcases e5 with ⟨_, e6, _⟩ | ⟨e5, _⟩
              · rw [e6] at hb; cases hb
              · rw [hf] at e5; cases e5
        · rw [if_neg hf]
          obtain ⟨hk, hst⟩ := h.freeze e hl (by simpa using hf)
          exact ⟨_, _, [], hk, hr, fun _ h => .inl h, fun _ _ => SLeaf.step hst, rfl⟩
  | cptr tg c =>
    cases tg with
    | none => exact plain _ hx hc
    | some tg => simp [St.close] at hc
  | und => exact plain _ hx hc
  | int => exact plain _ hx hc
  | bool => exact plain _ hx hc
  | str => exact plain _ hx hc
  | clo => exact plain _ hx hc
  | agg => exact hx.elim
  | tup => exact hx.elim
  | own => exact hx.elim
  | pt => exact hx.elim
  | ptr => simp [St.close] at hc

theorem Rel.closeL : ∀ {xs : List AV} {vs : List Value} {ys : List AV} {σ σ' : St} {F : Nat → Prop} {fp : Nat → List Nat} {L : List Nat}, Rel n w0 F0 S0 G F μ fp L σ a w → All2 (SLeaf F w σ.en μ fp) vs xs → σ.closeL xs = some (ys, σ') →
    ∃ F' fp' f, Rel n w0 F0 S0 G F' μ fp' (f ++ L) σ' a w ∧ RepL F' w vs ys f ∧ (∀ b, F b → F' b) ∧ (∀ v x, SLeaf F w σ.en μ fp v x → SLeaf F' w σ'.en μ fp' v x) ∧ σ'.sl = σ.sl
  | [], [], ys, σ, σ', F, fp, L, h, _, hc => by
    simp only [St.closeL, Option.some.injEq, Prod.mk.injEq] at hc
    obtain ⟨rfl, rfl⟩ := hc
    exact ⟨F, fp, [], h, .nil, fun _ h => h, fun _ _ h => h, rfl⟩
  | x :: xs, v :: vs, ys, σ, σ', F, fp, L, h, ⟨h1, h2⟩, hc => by
    simp only [St.closeL, Option.bind_eq_bind, Option.bind_eq_some_iff] at hc
    obtain ⟨⟨y, σ1⟩, hy, ⟨ys', σ2⟩, hys, he⟩ := hc
    simp only [Option.some.injEq, Prod.mk.injEq] at he
    obtain ⟨rfl, rfl⟩ := he
    obtain ⟨F1, fp1, f1, r1, p1, q1, t1, s1⟩ := h.close h1 hy
    obtain ⟨F2, fp2, f2, r2, p2, q2, t2, s2⟩ := Rel.closeL r1 (h2.imp t1) hys
    refine ⟨F2, fp2, f1 ++ f2, r2.perm ?_, (p1.mono q2 (fun _ _ => rfl)).cons p2, fun b hb => q2 b (q1 b hb), fun v x hx => t2 v x (t1 v x hx), s2.trans s1⟩
    rw [List.append_assoc]
    exact (List.perm_append_comm_assoc f1 f2 L)
  | [], _ :: _, _, _, _, _, _, _, _, h, _ => h.elim
  | _ :: _, [], _, _, _, _, _, _, _, h, _ => h.elim

theorem stealL_ok {e b : Nat} {cur : Array Value} (hl : (σ.en e).live = true) (hf : (σ.en e).frz = false) (hμ : μ e = some b) {et : TypeId} {fr : Nat × Nat} (hb : w.heap[b]? = some (.cells cur et fr)) :
    ∀ {xs zs ys : List AV} {vs us : List Value} {fz : List Nat} {j : Nat}, All2 (SLeaf F w σ.en μ fp) vs xs → RepL F w us zs fz → stealL e (σ.en e).wr j xs zs = some ys → (∀ q, q < us.length → cur[j + q]? = us[q]?) → ∃ f, f.Sublist fz ∧ RepL F w vs ys f
  | [], [], ys, [], us, fz, j, _, _, hs, _ => by cases hs; exact ⟨[], List.nil_sublist _, .nil⟩
  | x :: xs, z :: zs, ys, v :: vs, us, fz, j, ⟨h1, h2⟩, hr, hs, hc => by
    simp only [stealL, Option.bind_eq_bind, Option.bind_eq_some_iff, Option.some.injEq] at hs
    obtain ⟨y, hy, ys', hys, rfl⟩ := hs
    cases us with
    | nil => cases hr
    | cons u us =>
    obtain ⟨fa, fb, rfl, ha, hb'⟩ := hr.cons_inv
    obtain ⟨f2, s2, r2⟩ := stealL_ok hl hf hμ hb (j := j + 1) h2 hb' hys (fun q hq => by
      have := hc (q + 1) (by simpa using hq)
      rw [show j + 1 + q = j + (q + 1) by omega, this]; simp)
    have plain : RepL F w [v] [y] [] → ∃ f, f.Sublist (fa ++ fb) ∧ RepL F w (v :: vs) (y :: ys') f := fun h => ⟨f2, s2.trans (List.sublist_append_right _ _), by simpa using h.cons r2⟩
    unfold stealLeaf at hy
    split at hy
    · rename_i e' w' i' j' c l sz l'
      split at hy
      case isFalse => cases hy
      rename_i hh
      obtain ⟨rfl, rfl, rfl, rfl⟩ := hh
      cases hy
      obtain ⟨z0, b0, cur0, et0, fr0, sz0, k1, k2, k3, k4, k5⟩ := (h1.2 hl rfl).2 hf 0 j' rfl
      rw [hμ] at k3; cases k3
      rw [hb] at k4; cases k4
      have huv : u = v := by
        have := hc 0 (by simp)
        simp at this k5
        rw [k5] at this
        exact (Option.some.inj this).symm
      subst huv
      exact ⟨fa ++ f2, List.Sublist.append_left s2 fa, ha.cons r2⟩
    · cases hy; exact plain h1
    · cases hy; exact plain h1
    · cases hy; exact plain h1
    · cases hy; exact plain h1
    · cases hy
  | [], _ :: _, _, _, _, _, _, _, _, hs, _ => by simp [stealL] at hs
  | _ :: _, [], _, _, _, _, _, _, _, hs, _ => by simp [stealL] at hs
  | [], [], _, _ :: _, _, _, _, h, _, _, _ => h.elim
  | _ :: _, _ :: _, _, [], _, _, _, h, _, _, _ => h.elim

theorem Rel.closeM {m : Bool} {xs : List AV} {vs : List Value} {ys : List AV} {σ' : St} (h : Rel n w0 F0 S0 G F μ fp L σ a w) (hall : All2 (SLeaf F w σ.en μ fp) vs xs) (hc : σ.closeM m xs = some (ys, σ')) :
    ∃ F' fp' f, Rel n w0 F0 S0 G F' μ fp' (f ++ L) σ' a w ∧ RepL F' w vs ys f ∧ (∀ b, F b → F' b) ∧ (∀ v x, SLeaf F w σ.en μ fp v x → SLeaf F' w σ'.en μ fp' v x) ∧ σ'.sl = σ.sl := by
  cases m with
  | false => exact h.closeL hall hc
  | true =>
    simp only [St.closeM, orElse] at hc
    split at hc
    case h_2 => exact h.closeL hall hc
    rename_i r hr
    cases hc
    simp only [St.steal, Option.bind_eq_bind, Option.bind_eq_some_iff] at hr
    obtain ⟨e, _, _, hens, hs⟩ := hr
    obtain ⟨hl, hf⟩ : (σ.en e).live = true ∧ (σ.en e).frz = false := by
      unfold ensure at hens; split at hens
      · assumption
      · cases hens
    unfold steal1 at hs
    split at hs
    case h_2 => cases hs
    rename_i z hz
    simp only [Option.bind_eq_bind, Option.bind_eq_some_iff, Option.some.injEq, Prod.mk.injEq] at hs
    obtain ⟨ys', hys, rfl, rfl⟩ := hs
    obtain ⟨hk, hst⟩ := h.kill e hl
    rcases (h.ent e hl).2 with ⟨_, e2, _⟩ | ⟨b, cur, et, fr, us, f1, e1, e2, e3, e4, e5⟩
    · rw [hz] at e2; cases e2
    rcases e5 with ⟨e5, _⟩ | ⟨_, _, e7⟩
    · rw [hf] at e5; cases e5
    rw [hz] at e4
    simp only [List.flatMap_cons, List.flatMap_nil, List.append_nil] at e4
    obtain ⟨f, s1, r1⟩ := stealL_ok hl hf e1 e2 hall e4 hys (fun q hq => by simpa using e3 q hq)
    refine ⟨F, fp, f, hk.drop ?_, r1, fun _ h => h, fun _ _ => SLeaf.step hst, rfl⟩
    rw [e7]
    exact List.Sublist.append_right (s1.trans (List.sublist_cons_self _ _)) L

end
end Go.Vm
