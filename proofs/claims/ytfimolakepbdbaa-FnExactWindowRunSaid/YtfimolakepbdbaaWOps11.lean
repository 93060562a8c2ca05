/- The append. -/
import Derived.Test.YtfimolakepbdbaaWOps10
namespace Go.Vm

section
variable {C : Cfg} {n : Nat} {w0 : World} {F0 S0 F : Nat → Prop} {G : Value → AV → Prop} {μ : Nat → Option Nat} {fp : Nat → List Nat} {L : List Nat} {σ σ' : St} {a : Act} {w w' : World} {o : Oper}

/-- A handle's elements and new ones in a new block: the entry begins anew. -/
theorem Rel.regrow {f f2 : List Nat} (h : Rel n w0 F0 S0 G F μ fp (f ++ L) σ a w) {e : Nat} (hl : (σ.en e).live = true) {l : List AV} {sz : Nat} {us : List Value} {cur : Array Value} {et : TypeId} (hsub : f2.Sublist (fp e))
    (hh : w'.heap = w.heap.push (.cells cur et)) (ho : w'.os = w.os) (ht : w'.tape = w.tape) (hp : w'.output = w.output) (hsz : ∀ x ∈ l, (leaves x).length = sz) (hcur : ∀ q, q < us.length → cur[q]? = us[q]?) (hr : RepL F w us (l.flatMap leaves) (f2 ++ f)) :
    Rel n w0 F0 S0 G F (upd μ e (some w.heap.size)) (upd fp e (w.heap.size :: (f2 ++ f))) L ((σ.kill e).fresh e sz l) a w' := by
  have r1 := (h.kill e hl).1.drop (L' := (f2 ++ f) ++ L) (by rw [List.append_assoc]; exact hsub.append_right _)
  exact (r1.newBlock e sz l hh ho ht hp hsz hcur hr).1

theorem kill_fresh {e sz : Nat} {l : List AV} (hl : (σ.en e).live = true) (hf : (σ.en e).frz = false) (hs : (σ.en e).sz = sz) :
    (σ.kill e).fresh e sz l = σ.ent e { (σ.en e) with gen := (σ.en e).gen + 1, wr := (σ.en e).wr + 1, elems := l } := by
  simp only [St.kill, St.fresh, St.ent, upd_upd, upd_same]
  rw [hl, hf, hs]

theorem append_fro {F1 : Nat → Prop} {fp1 : Nat → List Nat} {f : List Nat} {σ1 : St} {t t2 el ty : TypeId} {U : TI} {news : List AV} {us : List Value} {vx vy : Value} (r1 : Rel n w0 F0 S0 G F1 μ fp1 f σ1 a w) {od : Option Nat} (hd : ∀ k, od = some k → k < n) (hTd : C.P.underlying t = some (.slice el)) (hU' : TIok C.P el U) (hs : Src C.P U.sz t2 vy news.length us w)
    (hus : RepL F1 w us (news.flatMap leaves) f) (hns : ∀ z ∈ news, (leaves z).length = U.sz) {l : List AV} (hx : SRep F1 w σ1.en μ fp1 vx (.fro none true l))
    (h1 : l = [] ∨ news ≠ []) (h2 : ∀ z ∈ l, (leaves z).length = U.sz) (h3 : (l.length + news.length) * U.bytes ≤ 140737488355328) (h4 : l.length + news.length ≤ 140737488355328)
    (hr : newArr σ1 od U.sz (l ++ news) (l.length + news.length) false = some σ') : ∃ u w', (Builtin.append_ #[t, t2] ty #[vx, vy]).run C.P w = .ok u w' ∧ ∃ F' μ' fp', Rel n w0 F0 S0 G F' μ' fp' [] σ' (a.put od u) w' := by
  have hpos := hU'.pos.1
  have hnl := hs.newsLen
  have hnf := flat_length hns
  obtain ⟨A, c, ol, hv, hlc, hc, hol, hA, hu⟩ := RepL.froRange (show RepL F1 w [vx] [.fro none true l] [] from hx) h2
  obtain rfl := hc rfl
  cases hdd : od with
  | none => rw [hdd] at hr; cases hr
  | some d =>
    rw [hdd] at hr
    by_cases hn0 : news = []
    · subst hn0
      obtain rfl : l = [] := h1.resolve_right (by simp)
      obtain rfl : us = [] := List.length_eq_zero_iff.1 (by rw [hnl]; simp)
      obtain rfl : f = [] := by cases hus; rfl
      obtain ⟨F', μ', fp', q⟩ := r1.newNilR (A := A) (hd d hdd) hr
      refine ⟨_, _, ?_, F', μ', fp', q⟩
      rw [hv]
      exact run_append_zero hTd hU' hs (Nat.le_refl _)
    · have hn1 : 0 < news.length := List.length_pos_iff.2 hn0
      obtain ⟨cur, G, w', hrun, hh, hos, htp, hout, hG, hcs, hcur⟩ := run_append_grow (ty := ty) hTd hU' hs hol hA (sCap := l.length) (by omega) h3 h4
      obtain ⟨F', μ', fp', q⟩ := r1.newArrR (hd d hdd) (us := ol ++ us) (cur := cur) (et := el) (c := G) (fun z hz => by
        rcases List.mem_append.1 hz with hz | hz
        · exact h2 z hz
        · exact hns z hz) (by rw [List.flatMap_append]; simpa using hu.append hus) hcur hG (by simp) (by simpa using hG) (by rw [hcs]; exact Nat.le_refl _) hh hos htp hout hr
      refine ⟨_, _, ?_, F', μ', fp', q⟩
      rw [hv]; exact hrun

theorem append_clip {F1 : Nat → Prop} {fp1 : Nat → List Nat} {f : List Nat} {σ1 : St} {t t2 el ty : TypeId} {U : TI} {news : List AV} {us : List Value} {vx vy : Value} (r1 : Rel n w0 F0 S0 G F1 μ fp1 f σ1 a w) {od : Option Nat} (hd : ∀ k, od = some k → k < n) (hTd : C.P.underlying t = some (.slice el)) (hU' : TIok C.P el U) (hs : Src C.P U.sz t2 vy news.length us w)
    (hus : RepL F1 w us (news.flatMap leaves) f) (hns : ∀ z ∈ news, (leaves z).length = U.sz) {e g off len : Nat} (hx : SRep F1 w σ1.en μ fp1 vx (.hd e g off len true)) (hl : (σ1.en e).live = true) (hg : (σ1.en e).gen = g) (_hfz : (σ1.en e).frz = false) (hsz : (σ1.en e).sz = U.sz) (hlen : off + len ≤ (σ1.en e).elems.length)
    (h3 : (len + news.length) * U.bytes ≤ 140737488355328) (h4 : len + news.length ≤ 140737488355328)
    (hn0 : news ≠ []) (hno : (((σ1.en e).elems.drop off).take len).all noOwnE = true) (hr : newArr σ1 od U.sz (((σ1.en e).elems.drop off).take len ++ news) (len + news.length) false = some σ') : ∃ u w', (Builtin.append_ #[t, t2] ty #[vx, vy]).run C.P w = .ok u w' ∧ ∃ F' μ' fp', Rel n w0 F0 S0 G F' μ' fp' [] σ' (a.put od u) w' := by
  have hpos := hU'.pos.1
  have hnl := hs.newsLen
  have hnf := flat_length hns
  obtain ⟨A, c, ol, fo, hv, hlc, hcl, hnc, hol, hA, hu, hsub, _, hblk⟩ := r1.hdRange (show SLeaf F1 w σ1.en μ fp1 vx (.hd e g off len true) from hx) hl hg hlen
  rw [hsz] at hol
  have hes := (r1.ent e hl).1
  have hes' := hes
  rw [hsz] at hes'
  obtain rfl := hcl rfl
  have hn1 : 0 < news.length := List.length_pos_iff.2 hn0
  obtain rfl : fo = [] := hu.noOwn_nil (all_flat hno)
  obtain ⟨cur, G, w', hrun, hh, hos, htp, hout, hG, hcs, hcur⟩ := run_append_grow (ty := ty) hTd hU' hs hol hA (sCap := c) (by omega) h3 h4
  have hcl' : (((σ1.en e).elems.drop off).take c).length = c := by simp; omega
  cases hdd : od with
  | none => rw [hdd] at hr; cases hr
  | some d =>
    rw [hdd] at hr
    obtain ⟨F', μ', fp', q⟩ := r1.newArrR (hd d hdd) (us := ol ++ us) (cur := cur) (et := el) (c := G) (fun z hz => by
      rcases List.mem_append.1 hz with hz | hz
      · exact hes' z (List.mem_of_mem_drop (List.mem_of_mem_take hz))
      · exact hns z hz) (by rw [List.flatMap_append]; simpa using hu.append hus) hcur hG (by simp) (by rw [List.length_append, hcl']; exact hG) (by rw [hcs]; exact Nat.le_refl _) hh hos htp hout hr
    refine ⟨_, _, ?_, F', μ', fp', q⟩
    rw [hv]; exact hrun

theorem append_none {F1 : Nat → Prop} {fp1 : Nat → List Nat} {f : List Nat} {σ1 : St} {t t2 el ty : TypeId} {U : TI} {news : List AV} {us : List Value} {vx vy : Value} (r1 : Rel n w0 F0 S0 G F1 μ fp1 f σ1 a w) {od : Option Nat} (hd : ∀ k, od = some k → k < n) (hTd : C.P.underlying t = some (.slice el)) (hU' : TIok C.P el U) (hs : Src C.P U.sz t2 vy news.length us w)
    (hus : RepL F1 w us (news.flatMap leaves) f) (hn0 : news = []) {e g off len : Nat} (hx : SRep F1 w σ1.en μ fp1 vx (.hd e g off len true)) (hl : (σ1.en e).live = true) (hg : (σ1.en e).gen = g) (hlen : off + len ≤ (σ1.en e).elems.length)
    (hr : σ' = σ1.put od (.hd e g off len true)) : ∃ u w', (Builtin.append_ #[t, t2] ty #[vx, vy]).run C.P w = .ok u w' ∧ ∃ F' μ' fp', Rel n w0 F0 S0 G F' μ' fp' [] σ' (a.put od u) w' := by
  subst hr hn0
  obtain rfl : us = [] := List.length_eq_zero_iff.1 (by rw [hs.newsLen]; simp)
  obtain rfl : f = [] := by cases hus; rfl
  obtain ⟨A, c, ol, fo, hv, hlc, _⟩ := r1.hdRange (show SLeaf F1 w σ1.en μ fp1 vx (.hd e g off len true) from hx) hl hg hlen
  refine ⟨vx, w, ?_, F1, μ, fp1, r1.putO hd hx⟩
  rw [hv]; exact run_append_zero hTd hU' hs hlc

theorem append_full {F1 : Nat → Prop} {fp1 : Nat → List Nat} {f : List Nat} {σ1 : St} {t t2 el ty : TypeId} {U : TI} {news : List AV} {us : List Value} {vx vy : Value} (r1 : Rel n w0 F0 S0 G F1 μ fp1 f σ1 a w) {od : Option Nat} (hd : ∀ k, od = some k → k < n) (hTd : C.P.underlying t = some (.slice el)) (hU' : TIok C.P el U) (hs : Src C.P U.sz t2 vy news.length us w)
    (hus : RepL F1 w us (news.flatMap leaves) f) (hns : ∀ z ∈ news, (leaves z).length = U.sz) {e g len : Nat} (hx : SRep F1 w σ1.en μ fp1 vx (.hd e g 0 len false)) (hl : (σ1.en e).live = true) (hg : (σ1.en e).gen = g) (hfz : (σ1.en e).frz = false) (hsz : (σ1.en e).sz = U.sz) (hlen : 0 + len ≤ (σ1.en e).elems.length)
    (h3 : (len + news.length) * U.bytes ≤ 140737488355328) (h4 : len + news.length ≤ 140737488355328) (hfull : 0 + len = (σ1.en e).elems.length)
    (hr : σ' = (σ1.ent e { (σ1.en e) with gen := (σ1.en e).gen + 1, wr := (σ1.en e).wr + 1, elems := (σ1.en e).elems ++ news }).put od (.hd e ((σ1.en e).gen + 1) 0 (len + news.length) false)) : ∃ u w', (Builtin.append_ #[t, t2] ty #[vx, vy]).run C.P w = .ok u w' ∧ ∃ F' μ' fp', Rel n w0 F0 S0 G F' μ' fp' [] σ' (a.put od u) w' := by
  subst hr
  have hpos := hU'.pos.1
  have hnl := hs.newsLen
  have hnf := flat_length hns
  obtain ⟨A, c, ol, fo, hv, hlc, hcl, hnc, hol, hA, hu, hsub, _, hblk⟩ := r1.hdRange (show SLeaf F1 w σ1.en μ fp1 vx (.hd e g 0 len false) from hx) hl hg hlen
  rw [hsz] at hol
  have hes := (r1.ent e hl).1
  have hes' := hes
  rw [hsz] at hes'
  have hnc := hnc rfl
  have hzero : news = [] → us = [] ∧ f = [] := fun h0 => by
    subst h0
    obtain rfl : us = [] := List.length_eq_zero_iff.1 (by rw [hnl]; simp)
    exact ⟨rfl, by cases hus; rfl⟩
  rw [Nat.zero_add] at hfull
  subst hfull
  by_cases hn0 : news = []
  · obtain ⟨rfl, rfl⟩ := hzero hn0
    subst hn0
    have rb := r1.bump (e := e) (E' := { (σ1.en e) with gen := (σ1.en e).gen + 1, wr := (σ1.en e).wr + 1, elems := (σ1.en e).elems ++ [] }) hl ⟨hl, rfl, rfl, by simp⟩ (by simp) (by simp)
    refine ⟨_, w, ?_, F1, μ, fp1, rb.putO hd (v := .slice A (σ1.en e).elems.length c) (x := .hd e ((σ1.en e).gen + 1) 0 ((σ1.en e).elems.length + 0) false) ⟨?_, fun _ _ => ⟨A, c, by simp, by simpa using hlc, by simp, fun _ => ?_, fun hc => ?_⟩⟩⟩
    · rw [hv]; exact run_append_zero hTd hU' hs hlc
    · simp [St.ent, upd]
    · simp only [St.ent, upd_same, List.append_nil]; exact hnc
    · simp only [St.ent, upd_same]; exact hblk hc
  · have hn1 : 0 < news.length := List.length_pos_iff.2 hn0
    by_cases hroom : (σ1.en e).elems.length + news.length ≤ c
    · obtain ⟨b, cur, et, fr, hμ, rfl, hb1, hb2⟩ := hblk (by clear hblk; omega)
      rw [hsz, Nat.zero_add] at hb2
      have hent := (r1.ent e hl).2
      obtain rfl : fr = (0, 0) := by
        rcases hent with ⟨e0, _⟩ | ⟨b', cur', et', fr', us', f1', e6, e7, _, _, e10⟩
        · rw [hμ] at e0; cases e0
        · rw [hμ] at e6; cases e6
          rw [hb1] at e7; cases e7
          rcases e10 with ⟨e10, _⟩ | ⟨_, e10, _⟩
          · rw [hfz] at e10; cases e10
          · exact e10
      have hmul : ((σ1.en e).elems.length + news.length) * U.sz ≤ c * U.sz := Nat.mul_le_mul_right _ hroom
      rw [Nat.add_mul] at hmul
      have hfo := flat_over (l := (σ1.en e).elems) (σ1.en e).elems.length hes' hns
      rw [List.take_length, List.drop_of_length_le (by omega), List.append_nil] at hfo
      obtain ⟨fp2, q1, q2, q3⟩ := Rel.writeRange (f := f) (L := []) (e := e) (off := (σ1.en e).elems.length * U.sz) (E' := { (σ1.en e) with gen := (σ1.en e).gen + 1, wr := (σ1.en e).wr + 1, elems := (σ1.en e).elems ++ news }) (by rw [List.append_nil]; exact r1) hl hfz hμ hb1 hus
        (by rw [flat_length hes']; exact Nat.le_refl _) (by rw [hnf]; omega) hl hfz rfl (by simp) (by simp) (by simp) (fun z hz => by
          show _ = (σ1.en e).sz
          rw [hsz]
          rcases List.mem_append.1 hz with hz | hz
          · exact hes' z hz
          · exact hns z hz) hfo
      refine ⟨_, _, ?_, F1, μ, fp2, q1.putO hd (x := .hd e ((σ1.en e).gen + 1) 0 ((σ1.en e).elems.length + news.length) false) (v := .slice (some ⟨b, 0 * (σ1.en e).sz, none⟩) ((σ1.en e).elems.length + news.length) c) ⟨?_, fun _ _ => ⟨_, _, rfl, hroom, by simp, fun _ => ?_, fun _ => ?_⟩⟩⟩
      · rw [hv]
        have := run_append_room (ty := ty) (off := 0) hTd hU' hs hroom hb1 (by rw [hnl]; omega)
        simpa using this
      · simp [St.ent, upd]
      · simpa [St.ent, upd] using hroom
      · refine ⟨b, _, et, (0, 0), hμ, by simp [St.ent, upd], q3, ?_⟩
        rw [setRow_size]
        simp only [St.ent, upd_same, Nat.zero_add, hsz]; exact hb2
    · have hu' : RepL F1 w ol ((σ1.en e).elems.flatMap leaves) fo := by simpa using hu
      obtain ⟨cur, G, w', hrun, hh, hos, htp, hout, hG, hcs, hcur⟩ := run_append_grow (ty := ty) hTd hU' hs hol hA (sCap := c) (by omega) h3 h4
      have r2 := Rel.regrow (f := f) (L := []) (f2 := fo) (by rw [List.append_nil]; exact r1) hl (l := (σ1.en e).elems ++ news) (sz := U.sz) (us := ol ++ us) hsub hh hos htp hout (fun z hz => by
        rcases List.mem_append.1 hz with hz | hz
        · exact hes' z hz
        · exact hns z hz) hcur (by rw [List.flatMap_append]; exact hu'.append hus)
      rw [kill_fresh hl hfz hsz] at r2
      refine ⟨_, w', ?_, F1, _, _, r2.putO hd (x := .hd e ((σ1.en e).gen + 1) 0 ((σ1.en e).elems.length + news.length) false) (v := .slice (some ⟨w.heap.size, 0, none⟩) ((σ1.en e).elems.length + news.length) G) ⟨?_, fun _ _ => ⟨_, _, rfl, hG, by simp, fun _ => ?_, fun _ => ?_⟩⟩⟩
      · rw [hv]; exact hrun
      · simp [St.ent, upd]
      · simpa [St.ent, upd] using hG
      · refine ⟨w.heap.size, cur, el, (0, 0), by simp [upd], by simp, by rw [hh]; simp, ?_⟩
        simp only [St.ent, upd_same, hsz, hcs, Nat.zero_add]; exact Nat.le_refl _

theorem append_over {F1 : Nat → Prop} {fp1 : Nat → List Nat} {f : List Nat} {σ1 : St} {t t2 el ty : TypeId} {U : TI} {news : List AV} {us : List Value} {vx vy : Value} (r1 : Rel n w0 F0 S0 G F1 μ fp1 f σ1 a w) {od : Option Nat} (hd : ∀ k, od = some k → k < n) (hTd : C.P.underlying t = some (.slice el)) (hU' : TIok C.P el U) (hs : Src C.P U.sz t2 vy news.length us w)
    (hus : RepL F1 w us (news.flatMap leaves) f) (hns : ∀ z ∈ news, (leaves z).length = U.sz) {e g off len : Nat} (hx : SRep F1 w σ1.en μ fp1 vx (.hd e g off len false)) (hl : (σ1.en e).live = true) (hg : (σ1.en e).gen = g) (hfz : (σ1.en e).frz = false) (hsz : (σ1.en e).sz = U.sz) (hlen : off + len ≤ (σ1.en e).elems.length)
    (h3 : (len + news.length) * U.bytes ≤ 140737488355328) (h4 : len + news.length ≤ 140737488355328) (h5 : off + len + news.length ≤ (σ1.en e).elems.length)
    (hr : σ' = (σ1.ent e { (σ1.en e) with wr := (σ1.en e).wr + 1, elems := (σ1.en e).elems.take (off + len) ++ news ++ (σ1.en e).elems.drop (off + len + news.length) }).put od (.hd e g off (len + news.length) false)) : ∃ u w', (Builtin.append_ #[t, t2] ty #[vx, vy]).run C.P w = .ok u w' ∧ ∃ F' μ' fp', Rel n w0 F0 S0 G F' μ' fp' [] σ' (a.put od u) w' := by
  subst hr
  have hpos := hU'.pos.1
  have hnl := hs.newsLen
  have hnf := flat_length hns
  obtain ⟨A, c, ol, fo, hv, hlc, hcl, hnc, hol, hA, hu, hsub, _, hblk⟩ := r1.hdRange (show SLeaf F1 w σ1.en μ fp1 vx (.hd e g off len false) from hx) hl hg hlen
  rw [hsz] at hol
  have hes := (r1.ent e hl).1
  have hes' := hes
  rw [hsz] at hes'
  have hnc := hnc rfl
  have hzero : news = [] → us = [] ∧ f = [] := fun h0 => by
    subst h0
    obtain rfl : us = [] := List.length_eq_zero_iff.1 (by rw [hnl]; simp)
    exact ⟨rfl, by cases hus; rfl⟩
  have hroom : len + news.length ≤ c := by clear hblk; omega
  by_cases hn0 : news = []
  · obtain ⟨rfl, rfl⟩ := hzero hn0
    subst hn0
    have rb := r1.bump (e := e) (E' := { (σ1.en e) with wr := (σ1.en e).wr + 1, elems := (σ1.en e).elems.take (off + len) ++ [] ++ (σ1.en e).elems.drop (off + len + 0) }) hl ⟨hl, rfl, rfl, by simp⟩ (by simp) (by simp)
    refine ⟨_, w, ?_, F1, μ, fp1, rb.putO hd (v := .slice A len c) (x := .hd e g off (len + 0) false) ⟨?_, fun _ _ => ⟨A, c, by simp, by simpa using hlc, by simp, fun _ => ?_, fun hc => ?_⟩⟩⟩
    · rw [hv]; exact run_append_zero hTd hU' hs hlc
    · simp [St.ent, upd, hg]
    · simp only [St.ent, upd_same, List.append_nil, Nat.add_zero, List.take_append_drop]; exact hnc
    · simp only [St.ent, upd_same]; exact hblk hc
  · have hn1 : 0 < news.length := List.length_pos_iff.2 hn0
    obtain ⟨b, cur, et, fr, hμ, rfl, hb1, hb2⟩ := hblk (by clear hblk; omega)
    have hb2' := hb2
    rw [hsz] at hb2
    have hent := (r1.ent e hl).2
    obtain rfl : fr = (0, 0) := by
      rcases hent with ⟨e0, _⟩ | ⟨b', cur', et', fr', us', f1', e6, e7, _, _, e10⟩
      · rw [hμ] at e0; cases e0
      · rw [hμ] at e6; cases e6
        rw [hb1] at e7; cases e7
        rcases e10 with ⟨e10, _⟩ | ⟨_, e10, _⟩
        · rw [hfz] at e10; cases e10
        · exact e10
    have hmul : (off + len + news.length) * U.sz ≤ (off + c) * U.sz := Nat.mul_le_mul_right _ (by omega)
    have hmul2 : (off + len) * U.sz ≤ (σ1.en e).elems.length * U.sz := Nat.mul_le_mul_right _ (by omega)
    rw [Nat.add_mul] at hmul
    have hfo := flat_over (l := (σ1.en e).elems) (off + len) hes' hns
    have hel : ((σ1.en e).elems.take (off + len) ++ news ++ (σ1.en e).elems.drop (off + len + news.length)).length ≤ (σ1.en e).elems.length := by simp; omega
    obtain ⟨fp2, q1, q2, q3⟩ := Rel.writeRange (f := f) (L := []) (e := e) (off := (off + len) * U.sz) (E' := { (σ1.en e) with wr := (σ1.en e).wr + 1, elems := (σ1.en e).elems.take (off + len) ++ news ++ (σ1.en e).elems.drop (off + len + news.length) }) (by rw [List.append_nil]; exact r1) hl hfz hμ hb1 hus
      (by rw [flat_length hes']; exact hmul2) (by rw [hnf]; omega) hl hfz rfl (by simp) (by simp) (fun _ => hel) (fun z hz => by
        show _ = (σ1.en e).sz
        rw [hsz]
        rcases List.mem_append.1 hz with hz | hz
        · rcases List.mem_append.1 hz with hz | hz
          · exact hes' z (List.mem_of_mem_take hz)
          · exact hns z hz
        · exact hes' z (List.mem_of_mem_drop hz)) hfo
    refine ⟨_, _, ?_, F1, μ, fp2, q1.putO hd (x := .hd e g off (len + news.length) false) (v := .slice (some ⟨b, off * (σ1.en e).sz, none⟩) (len + news.length) c) ⟨?_, fun _ _ => ⟨_, _, rfl, hroom, by simp, fun _ => ?_, fun _ => ?_⟩⟩⟩
    · rw [hv, hsz]
      have := run_append_room (ty := ty) (off := off * U.sz) hTd hU' hs hroom hb1 (by rw [hnl, ← Nat.add_mul]; omega)
      rw [← Nat.add_mul] at this
      exact this
    · simp [St.ent, upd, hg]
    · simp only [St.ent, upd_same]; omega
    · refine ⟨b, _, et, (0, 0), hμ, by simp [St.ent, upd], q3, ?_⟩
      rw [setRow_size]
      simpa only [St.ent, upd_same] using hb2'

theorem op_append (hC : CfgOk C) (h : Rel n w0 F0 S0 G F μ fp [] σ a w) (hd : ∀ k, o.dst = some k → k < n) {args : Array Operand} {ts : Array TypeId} {x y : Operand} {t t2 : TypeId} (ho : o.op = .call { callee := .builtin .append, args, argTypes := ts }) (ha : args.toList = [x, y]) (ht : ts.toList = [t, t2])
    (hr : appendF C σ o.dst t t2 (σ.get x) (σ.get y) = some σ') : OpOk C n w0 F0 S0 G o a w σ' := by
  obtain rfl : args = #[x, y] := by apply Array.ext'; simpa using ha
  obtain rfl : ts = #[t, t2] := by apply Array.ext'; simpa using ht
  simp only [appendF, Option.bind_eq_bind, Option.bind_eq_some_iff] at hr
  obtain ⟨T, hT, T2, hT2, hr⟩ := hr
  have hTd := (hC.tt t T hT).desc
  split at hr
  case h_2 => cases hr
  rename_i el hel
  rw [hel] at hTd
  have hTd : C.P.underlying t = some (.slice el) := hTd
  simp only [Option.bind_eq_some_iff] at hr
  obtain ⟨U, hU, _, hk, ⟨news, σ1⟩, hsrc, _, hns, hr⟩ := hr
  dsimp only at hns hr
  have hns := ensure_some hns
  have hU' := hC.tt el U hU
  obtain ⟨F1, fp1, f, us, r1, hs, hus, hF1, r4, hsl⟩ := srcF_ok (C := C) h (h.get y) (hC.tt t2 T2 hT2).desc (ensure_some hk) hsrc hns
  have hx := r1.get x
  have hgx : σ1.get x = σ.get x := by cases x <;> simp [St.get, hsl]
  rw [hgx] at hx
  have run : ∀ {v : Value} {w' : World}, (Builtin.append_ #[t, t2] o.type #[a.eval x, a.eval y]).run C.P w = .ok v w' → (execOp a.eval o).run C.P w = .ok (.value v) w' := by
    intro v w' hv
    rw [exec_builtin ho]
    simp only [builtin, Sem.run_bind]
    simp [hv]
  rw [List.append_nil] at r1
  split at hr
  · rename_i l hxe
    rw [hxe] at hx
    simp only [Option.bind_eq_some_iff] at hr
    obtain ⟨_, h1, _, h2, _, h3, hr⟩ := hr
    obtain ⟨h3, h4⟩ := ensure_some h3
    obtain ⟨u, w', hrun, F', μ', fp', q⟩ := append_fro (ty := o.type) r1 hd hTd hU' hs hus hns hx (ensure_some h1) (ensure_some h2) h3 h4 hr
    exact ⟨u, w', .inl (run hrun), F', μ', fp', q⟩
  · rename_i e g off len clip hxe
    rw [hxe] at hx
    simp only [Option.bind_eq_some_iff] at hr
    obtain ⟨E, hE, _, h1, _, h3, hr⟩ := hr
    obtain ⟨hfz, hsz, hlen⟩ := ensure_some h1
    obtain ⟨h3, h4⟩ := ensure_some h3
    obtain ⟨hl, hg, rfl⟩ := cur_some hE
    split at hr
    · rename_i hclip
      subst hclip
      split at hr
      · rename_i hn0
        obtain ⟨u, w', hrun, F', μ', fp', q⟩ := append_none (σ' := σ') (od := o.dst) (ty := o.type) r1 hd hTd hU' hs hus hn0 hx hl hg hlen (by cases hr; rfl)
        exact ⟨u, w', .inl (run hrun), F', μ', fp', q⟩
      simp only [Option.bind_eq_some_iff] at hr
      obtain ⟨_, h5, hr⟩ := hr
      obtain ⟨hn0, hno⟩ := ensure_some h5
      obtain ⟨u, w', hrun, F', μ', fp', q⟩ := append_clip (ty := o.type) r1 hd hTd hU' hs hus hns hx hl hg hfz hsz hlen h3 h4 hn0 hno hr
      exact ⟨u, w', .inl (run hrun), F', μ', fp', q⟩
    · rename_i hclip
      obtain rfl : clip = false := by simpa using hclip
      split at hr
      · rename_i hfull
        simp only [Option.bind_eq_some_iff] at hr
        obtain ⟨_, h5, hr⟩ := hr
        obtain rfl := ensure_some h5
        obtain ⟨u, w', hrun, F', μ', fp', q⟩ := append_full (σ' := σ') (od := o.dst) (ty := o.type) r1 hd hTd hU' hs hus hns hx hl hg hfz hsz hlen h3 h4 hfull (by cases hr; rfl)
        exact ⟨u, w', .inl (run hrun), F', μ', fp', q⟩
      · simp only [Option.bind_eq_some_iff] at hr
        obtain ⟨_, h5, hr⟩ := hr
        obtain ⟨u, w', hrun, F', μ', fp', q⟩ := append_over (σ' := σ') (od := o.dst) (ty := o.type) r1 hd hTd hU' hs hus hns hx hl hg hfz hsz hlen h3 h4 (ensure_some h5) (by cases hr; rfl)
        exact ⟨u, w', .inl (run hrun), F', μ', fp', q⟩
  · cases hr

theorem run_firstN {sz len c m : Nat} {A : Option Addr} {us : List Value} (hl : us.length = m * sz) (hA : 0 < us.length → ∃ b o', A = some ⟨b, o', none⟩ ∧ ∀ q, q < us.length → w.cell? ⟨b, o' + q, none⟩ = us[q]?) :
    (Builtin.firstCells sz m (.slice A len c)).run C.P w = .ok us.toArray w := by
  cases us with
  | nil =>
    cases A with
    | none => simp [Builtin.firstCells]
    | some A =>
      simp at hl
      have h0 : m * sz = 0 := by omega
      simp only [Builtin.firstCells, h0]
      simpa using run_loadCells_list (P := C.P) w A [] (by simp)
  | cons u us =>
    obtain ⟨b, o', rfl, hc⟩ := hA (by simp)
    refine run_firstCells_some w sz m _ len c _ hl fun j v hv => ?_
    obtain ⟨hj, _⟩ := List.getElem?_eq_some_iff.1 hv
    rw [Addr.add_lit, hc j hj, hv]

theorem cSrc_ok (h : Rel n w0 F0 S0 G F μ fp L σ a w) {v : Value} {y : AV} {l : List AV} {sz : Nat} (hx : SRep F w σ.en μ fp v y) (hs : cSrc σ y = some l) (hsz : ∀ z ∈ l, (leaves z).length = sz) :
    ∃ A c us, v = .slice A l.length c ∧ us.length = l.length * sz ∧ (0 < us.length → ∃ b o', A = some ⟨b, o', none⟩ ∧ ∀ q, q < us.length → w.cell? ⟨b, o' + q, none⟩ = us[q]?) ∧ RepL F w us (l.flatMap leaves) [] := by
  unfold cSrc at hs
  split at hs
  · cases hs
    obtain ⟨A, c, us, h1, _, _, h2, h3, h4⟩ := RepL.froRange (show RepL F w [v] [.fro none _ l] [] from hx) hsz
    exact ⟨A, c, us, h1, h2, h3, h4⟩
  · rename_i e g off len clip
    simp only [Option.bind_eq_bind, Option.bind_eq_some_iff] at hs
    obtain ⟨E, hE, _, hb, _, hno, hs⟩ := hs
    obtain ⟨hl, hg, rfl⟩ := cur_some hE
    have hb := ensure_some hb
    have hno := ensure_some hno
    cases hs
    obtain ⟨A, c, us, f, rfl, _, _, _, hul, hA, hu, _, hfz, _⟩ := h.hdRange hx hl hg hb
    have hlen : (((σ.en e).elems.drop off).take len).length = len := by simp; omega
    have husz : us.length = len * sz := by
      have := hu.length
      rw [flat_length hsz, hlen] at this
      exact this
    obtain rfl : f = [] := hu.noOwn_nil (all_flat hno)
    exact ⟨A, c, us, by rw [hlen], by rw [hlen]; exact husz, hA, hu⟩
  · cases hs

theorem op_copy (hC : CfgOk C) (h : Rel n w0 F0 S0 G F μ fp [] σ a w) (hd : ∀ k, o.dst = some k → k < n) {args : Array Operand} {ts : Array TypeId} {x y : Operand} {t t2 : TypeId} (ho : o.op = .call { callee := .builtin .copy, args, argTypes := ts }) (ha : args.toList = [x, y]) (ht : ts.toList = [t, t2])
    (hr : copyF C σ o.dst t t2 (σ.get x) (σ.get y) = some σ') : OpOk C n w0 F0 S0 G o a w σ' := by
  obtain rfl : args = #[x, y] := by apply Array.ext'; simpa using ha
  obtain rfl : ts = #[t, t2] := by apply Array.ext'; simpa using ht
  simp only [copyF, Option.bind_eq_bind, Option.bind_eq_some_iff] at hr
  obtain ⟨T, hT, hr⟩ := hr
  have hTd := (hC.tt t T hT).desc
  split at hr
  case h_2 => cases hr
  rename_i el e g off len clip hel hxe
  rw [hel] at hTd
  have hTd : C.P.underlying t = some (.slice el) := hTd
  simp only [Option.bind_eq_some_iff] at hr
  obtain ⟨U, hU, l, hl0, _, hns, E, hE, _, h1, hr⟩ := hr
  have hns := ensure_some hns
  obtain ⟨hfz, hsz, hlen⟩ := ensure_some h1
  obtain ⟨hl, hg, rfl⟩ := cur_some hE
  have hU' := hC.tt el U hU
  have hpos := hU'.pos.1
  have hx := h.get x
  rw [hxe] at hx
  obtain ⟨A1, c1, ol, fo, hv1, hlc, hcl, hnc, hol, hA1, hu1, hsub, _, hblk⟩ := h.hdRange (show SLeaf F w σ.en μ fp _ (.hd e g off len clip) from hx) hl hg hlen
  obtain ⟨A2, c2, us, hv2, hul, hA2, hus⟩ := cSrc_ok h (h.get y) hl0 hns
  obtain ⟨m, hm⟩ : ∃ m, min l.length len = m := ⟨_, rfl⟩
  rw [hm] at hr
  have hm1 : m ≤ l.length := by omega
  have hm2 : m ≤ len := by omega
  have hml : m * U.sz ≤ l.length * U.sz := Nat.mul_le_mul_right _ hm1
  have hcl' : (us.take (m * U.sz)).length = m * U.sz := by rw [List.length_take]; omega
  have hfc : (Builtin.firstCells U.sz m (.slice A2 l.length c2)).run C.P w = .ok (us.take (m * U.sz)).toArray w := run_firstN hcl' (fun h0 => by
    obtain ⟨b, o', h2, h3⟩ := hA2 (by rw [List.length_take] at h0; omega)
    refine ⟨b, o', h2, fun q hq => ?_⟩
    rw [List.length_take] at hq
    rw [h3 q (by omega), List.getElem?_take, if_pos (by omega)])
  obtain ⟨i, z, hi, hisz, _⟩ := hU'.info
  have run : ∀ {w' : World}, (match A1 with | some A => storeCells A (us.take (m * U.sz)) | none => pure ()).run C.P w = .ok () w' → (execOp a.eval o).run C.P w = .ok (.value (.int .i64 ((m : Nat) : Int))) w' := by
    intro w' hst
    rw [exec_builtin ho]
    have hmin : Nat.min l.length len = m := hm
    have hee : #[x, y].map a.eval = #[a.eval x, a.eval y] := by simp
    simp only [builtin, Sem.run_bind, hee, hv1, hv2]
    cases A1 with
    | none =>
      simp [Builtin.copy_, run_underlying hTd, Builtin.lenOf, sizeOf, typeInfo, hi, hisz, hmin, hfc, goInt] at hst ⊢
      exact hst
    | some A =>
      simp only at hst
      simp [Builtin.copy_, run_underlying hTd, Builtin.lenOf, sizeOf, typeInfo, hi, hisz, hmin, hfc, goInt, hst]
  have hes := (h.ent e hl).1
  have hes' := hes
  rw [hsz] at hes'
  cases hr
  by_cases hm0 : m = 0
  · subst hm0
    have rb := h.bump (e := e) (E' := { (σ.en e) with wr := (σ.en e).wr + 1, elems := (σ.en e).elems.take off ++ l.take 0 ++ (σ.en e).elems.drop (off + 0) }) hl ⟨hl, rfl, rfl, by simp⟩ (by simp) (by simp)
    refine ⟨_, w, .inl (run (w' := w) ?_), F, μ, fp, rb.putO hd (v := .int .i64 ((0 : Nat) : Int)) (x := .int .i64 ((0 : Nat) : Int)) (RepL.int .nil)⟩
    have h0 : us.take (0 * U.sz) = [] := by simp
    rw [h0]
    cases A1 with
    | none => rfl
    | some A => simp [storeCells]
  · obtain ⟨b, cur, et, fr, hμ, rfl, hb1, hb2⟩ := hblk (by clear hblk; omega)
    have hent := (h.ent e hl).2
    obtain rfl : fr = (0, 0) := by
      rcases hent with ⟨e0, _⟩ | ⟨b', cur', et', fr', us', f1', e6, e7, _, _, e10⟩
      · rw [hμ] at e0; cases e0
      · rw [hμ] at e6; cases e6
        rw [hb1] at e7; cases e7
        rcases e10 with ⟨e10, _⟩ | ⟨_, e10, _⟩
        · rw [hfz] at e10; cases e10
        · exact e10
    rw [hsz] at hb2 hA1 hol
    obtain ⟨fa, fb, hfab, ht1, _⟩ := hus.take (m * U.sz)
    obtain ⟨rfl, rfl⟩ := List.append_eq_nil_iff.1 hfab.symm
    rw [← flat_take m hns] at ht1
    have hmul : (off + m) * U.sz ≤ (off + c1) * U.sz := Nat.mul_le_mul_right _ (by omega)
    have hmul2 : off * U.sz ≤ (σ.en e).elems.length * U.sz := Nat.mul_le_mul_right _ (by omega)
    rw [Nat.add_mul] at hmul
    have hnt : ∀ z ∈ l.take m, (leaves z).length = U.sz := fun z hz => hns z (List.mem_of_mem_take hz)
    have hlt : (l.take m).length = m := by rw [List.length_take]; omega
    have hnf := flat_length hnt
    rw [hlt] at hnf
    have hfo := flat_over (l := (σ.en e).elems) off hes' hnt
    rw [hlt] at hfo
    have hel : ((σ.en e).elems.take off ++ l.take m ++ (σ.en e).elems.drop (off + m)).length ≤ (σ.en e).elems.length := by simp; omega
    obtain ⟨fp2, q1, q2, q3⟩ := Rel.writeRange (f := []) (L := []) (e := e) (off := off * U.sz) (E' := { (σ.en e) with wr := (σ.en e).wr + 1, elems := (σ.en e).elems.take off ++ l.take m ++ (σ.en e).elems.drop (off + m) }) (by simpa using h) hl hfz hμ hb1 ht1
      (by rw [flat_length hes']; exact hmul2) (by rw [hnf]; omega) hl hfz rfl (by simp) (by simp) (fun _ => hel) (fun z hz => by
        show _ = (σ.en e).sz
        rw [hsz]
        rcases List.mem_append.1 hz with hz | hz
        · rcases List.mem_append.1 hz with hz | hz
          · exact hes' z (List.mem_of_mem_take hz)
          · exact hnt z hz
        · exact hes' z (List.mem_of_mem_drop hz)) hfo
    refine ⟨_, _, .inl (run (w' := w.setCells b (off * U.sz) (us.take (m * U.sz))) ?_), F, μ, fp2, q1.putO hd (v := .int .i64 (m : Int)) (x := .int .i64 (m : Int)) (RepL.int .nil)⟩
    show (storeCells ⟨b, off * (σ.en e).sz, none⟩ (us.take (m * U.sz))).run C.P w = _
    rw [hsz]
    have := run_storeCells_cells (P := C.P) b (off * U.sz) (us.take (m * U.sz)) 0 w (fun j hj => by
      rw [cell_of_row w b _ cur et (0, 0) hb1, Array.getElem?_eq_getElem (by omega)]; rfl) (fun j hj => by simp [World.frozen?, hb1]) (fun u hu => hus.ones u (List.mem_of_mem_take hu))
    simpa using this

end
end Go.Vm
