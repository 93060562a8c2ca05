/- Appends and copies. -/
import Derived.Test.YtfimolakepbdbaaWOps8
import Derived.Laws.BytesString
namespace Go.Vm

section
variable {C : Cfg} {n : Nat} {w0 : World} {F0 S0 F : Nat → Prop} {G : Value → AV → Prop} {μ : Nat → Option Nat} {fp : Nat → List Nat} {L : List Nat} {σ σ' : St} {a : Act} {w w' : World} {o : Oper}

theorem RepL.own_inv {v : Value} {sz : Nat} {l : List AV} {f : List Nat} (h : RepL F w [v] [.own sz l] f) : (l = [] ∧ f = [] ∧ ∃ A, v = .slice A 0 0) ∨
    ∃ g c et cur us f1, v = .slice (some ⟨g, 0, none⟩) l.length c ∧ l.length ≤ c ∧ w.heap[g]? = some (.cells cur et (0, 0)) ∧ c * sz ≤ cur.size ∧ (∀ q, q < us.length → cur[q]? = us[q]?) ∧ (∀ a ∈ l, (leaves a).length = sz) ∧ RepL F w us (l.flatMap leaves) f1 ∧ f = g :: f1 := by
  cases h with
  | own0 t => cases t; exact .inl ⟨rfl, rfl, _, rfl⟩
  | own hn hnc hb hcap hcell hsz hu t => cases t; subst hn; exact .inr ⟨_, _, _, _, _, _, rfl, hnc, hb, hcap, hcell, hsz, hu, by simp⟩

/-- The first cells of a slice whose cells are known. -/
theorem run_first {sz len c : Nat} {A : Option Addr} {us : List Value} (hl : us.length = len * sz) (hA : 0 < us.length → ∃ b o', A = some ⟨b, o', none⟩ ∧ ∀ q, q < us.length → w.cell? ⟨b, o' + q, none⟩ = us[q]?) {w' : World} (hw : w'.heap = w.heap) :
    (Builtin.firstCells sz len (.slice A len c)).run C.P w' = .ok us.toArray w' := by
  cases us with
  | nil =>
    cases A with
    | none => simp [Builtin.firstCells]
    | some A =>
      simp at hl
      have h0 : len * sz = 0 := by omega
      simp only [Builtin.firstCells, h0]
      simpa using run_loadCells_list (P := C.P) w' A [] (by simp)
  | cons u us =>
    obtain ⟨b, o', rfl, hc⟩ := hA (by simp)
    refine run_firstCells_some w' sz len _ len c _ hl fun j v hv => ?_
    obtain ⟨hj, _⟩ := List.getElem?_eq_some_iff.1 hv
    rw [Addr.add_lit, cell?_congr (w := w) (w' := w') (by rw [hw]), hc j hj, hv]

theorem src_slice {sz len c : Nat} {A : Option Addr} {us : List Value} {t e : TypeId} (hk : C.P.underlying t = some (.slice e)) (hl : us.length = len * sz) (hA : 0 < us.length → ∃ b o', A = some ⟨b, o', none⟩ ∧ ∀ q, q < us.length → w.cell? ⟨b, o' + q, none⟩ = us[q]?)
    (h1 : ∀ u ∈ us, u.oneCell' = true) : Src C.P sz t (.slice A len c) len us w :=
  ⟨.inl ⟨e, hk⟩, fun _ => rfl, run_first hl hA rfl, run_first hl hA rfl, hl, h1⟩

theorem RepL.froRange {v : Value} {clip : Bool} {l : List AV} {sz : Nat} (h : RepL F w [v] [.fro none clip l] []) (hs : ∀ z ∈ l, (leaves z).length = sz) : ∃ A c us, v = .slice A l.length c ∧ l.length ≤ c ∧ (clip = true → c = l.length) ∧ us.length = l.length * sz ∧
    (0 < us.length → ∃ b o', A = some ⟨b, o', none⟩ ∧ ∀ q, q < us.length → w.cell? ⟨b, o' + q, none⟩ = us[q]?) ∧ RepL F w us (l.flatMap leaves) [] := by
  obtain ⟨_, ⟨rfl, A, c, rfl, hc⟩ | ⟨b, o, c, sz', us, rfl, hlc, hc, hF, hcell, hs', hu⟩⟩ := h.fro_inv
  · exact ⟨A, c, [], rfl, by simp, fun h => by simp [hc h], by simp, by simp, .nil⟩
  · exact ⟨_, c, us, rfl, hlc, hc, by rw [hu.length, flat_length hs], fun _ => ⟨b, o, rfl, hcell⟩, hu⟩

theorem RepL.ownRange {v : Value} {l : List AV} {f : List Nat} {s0 sz : Nat} (h : RepL F w [v] [.own s0 l] f) (hs : ∀ z ∈ l, (leaves z).length = sz) : ∃ A c us f1, v = .slice A l.length c ∧ l.length ≤ c ∧ us.length = l.length * sz ∧
    (0 < us.length → ∃ b o', A = some ⟨b, o', none⟩ ∧ ∀ q, q < us.length → w.cell? ⟨b, o' + q, none⟩ = us[q]?) ∧ RepL F w us (l.flatMap leaves) f1 ∧ f1.Sublist f := by
  rcases h.own_inv with ⟨rfl, rfl, A, rfl⟩ | ⟨g, c, et, cur, us, f1, rfl, hlc, hb, _, hcell, hs', hu, rfl⟩
  · exact ⟨A, 0, [], [], rfl, by simp, by simp, by simp, .nil, List.Sublist.refl _⟩
  · refine ⟨_, c, us, f1, rfl, hlc, by rw [hu.length, flat_length hs], fun _ => ⟨g, 0, rfl, fun q hq => ?_⟩, hu, List.sublist_cons_self _ _⟩
    rw [Nat.zero_add, cell_of_row w g q cur et (0, 0) hb, hcell q hq]

/-- The elements behind a handle. -/
theorem Rel.hdRange (h : Rel n w0 F0 S0 G F μ fp L σ a w) {v : Value} {e g off len : Nat} {clip : Bool} (hx : SLeaf F w σ.en μ fp v (.hd e g off len clip)) (hl : (σ.en e).live = true) (hg : (σ.en e).gen = g) (hb : off + len ≤ (σ.en e).elems.length) :
    ∃ A c us f, v = .slice A len c ∧ len ≤ c ∧ (clip = true → c = len) ∧ (clip = false → (σ.en e).elems.length ≤ off + c) ∧ us.length = len * (σ.en e).sz ∧
      (0 < us.length → ∃ b o', A = some ⟨b, o', none⟩ ∧ ∀ q, q < us.length → w.cell? ⟨b, o' + q, none⟩ = us[q]?) ∧ RepL F w us ((((σ.en e).elems.drop off).take len).flatMap leaves) f ∧ f.Sublist (fp e) ∧ ((σ.en e).frz = true → f = []) ∧
      (0 < c → ∃ b cur et fr, μ e = some b ∧ A = some ⟨b, off * (σ.en e).sz, none⟩ ∧ w.heap[b]? = some (.cells cur et fr) ∧ (off + c) * (σ.en e).sz ≤ cur.size) := by
  obtain ⟨_, hx⟩ := hx
  obtain ⟨A, c, rfl, hlc, hcl, hnc, hblk⟩ := hx hl hg
  obtain ⟨hs, he⟩ := h.ent e hl
  by_cases hlen : len = 0
  · subst hlen
    exact ⟨A, c, [], [], rfl, hlc, hcl, hnc, by simp, by simp, by simpa using RepL.nil, by simp, fun _ => rfl, hblk⟩
  · obtain ⟨b, cur, et, fr, hμ, rfl, hb1, hb2⟩ := hblk (by clear hblk; omega)
    rcases he with ⟨e1, _⟩ | ⟨b', cur', et', fr', us, f1, e1, e2, e3, e4, e5⟩
    · rw [hμ] at e1; cases e1
    rw [hμ] at e1; cases e1
    rw [hb1] at e2; cases e2
    obtain ⟨fa, fb, fc, rfl, h2⟩ := e4.sub off len hs
    have hul := e4.length
    rw [flat_length hs] at hul
    have hmul : (off + len) * (σ.en e).sz ≤ (σ.en e).elems.length * (σ.en e).sz := Nat.mul_le_mul_right _ hb
    rw [Nat.add_mul] at hmul
    have hlen' : ((us.drop (off * (σ.en e).sz)).take (len * (σ.en e).sz)).length = len * (σ.en e).sz := by simp; omega
    refine ⟨_, c, _, fb, rfl, hlc, hcl, hnc, hlen', fun _ => ⟨b, _, rfl, fun q hq => ?_⟩, h2, ?_, fun hfz => ?_, fun _ => ⟨b, cur, et, fr, hμ, rfl, hb1, hb2⟩⟩
    · rw [hlen'] at hq
      rw [cell_of_row w b _ cur et fr hb1, e3 _ (by omega), List.getElem?_take, if_pos hq, List.getElem?_drop]
    · rcases e5 with ⟨_, _, e5, _⟩ | ⟨_, _, e5⟩
      · simp at e5; simp [e5]
      · rw [e5, List.append_assoc]
        exact (((List.sublist_append_left fb fc).trans (List.sublist_append_right fa (fb ++ fc)))).trans (List.sublist_cons_self _ _)
    · rcases e5 with ⟨_, _, e5, _⟩ | ⟨e5, _⟩
      · simp at e5; exact e5.2.1
      · rw [hfz] at e5; cases e5

theorem RepL.noOwn_nil {vs : List Value} {xs : List AV} {f : List Nat} (h : RepL F w vs xs f) (hx : xs.all noOwn = true) : f = [] := by
  induction h with
  | nil => rfl
  | own0 => simp [noOwn] at hx
  | own => simp [noOwn] at hx
  | _ => simp_all

theorem scal_froize {x : AV} (h : scal x = true) : froize x = x := by
  cases x <;> first | rfl | cases h

theorem RepL.scal {vs : List Value} {xs : List AV} {f : List Nat} (h : RepL F w vs xs f) (hx : xs.all scal = true) (F' : Nat → Prop) (w' : World) : RepL F' w' vs xs [] := by
  induction h with
  | nil => exact .nil
  | int t ih => simp only [List.all_cons, Bool.and_eq_true] at hx; exact .int (ih hx.2)
  | bool t ih => simp only [List.all_cons, Bool.and_eq_true] at hx; exact .bool (ih hx.2)
  | str t ih => simp only [List.all_cons, Bool.and_eq_true] at hx; exact .str (ih hx.2)
  | _ => simp only [List.all_cons, Bool.and_eq_true] at hx; exact absurd hx.1 (by simp [Vm.scal])

theorem all_flat {p : AV → Bool} : ∀ {l : List AV}, l.all (fun x => (leaves x).all p) = true → (l.flatMap leaves).all p = true
  | [], _ => rfl
  | x :: xs, h => by
    simp only [List.all_cons, Bool.and_eq_true] at h
    rw [List.flatMap_cons, List.all_append, h.1, all_flat h.2]; rfl

theorem repl_bytes (F : Nat → Prop) (w : World) : ∀ l : List UInt8, RepL F w (l.map fun b => Value.int .u8 b.toNat) (l.map fun b => AV.int .u8 b.toNat) []
  | [] => .nil
  | _ :: l => .int (repl_bytes F w l)

theorem RepL.holes {vs : List Value} {xs : List AV} {f : List Nat} (h : RepL F w vs xs f) : RepL F w vs (xs.map hole) [] := by
  induction h with
  | nil => exact .nil
  | und hv t ih => exact .und hv ih
  | int t ih => exact .int ih
  | bool t ih => exact .bool ih
  | str t ih => exact .str ih
  | fro0 hc t ih => exact .fro0 hc ih
  | fro hn hnc hc hb hcell hsz hu t _ ih => exact .fro hn hnc hc hb hcell hsz hu ih
  | own0 t ih => exact .und rfl ih
  | own hn hnc hb hcap hcell hsz hu t _ ih => exact .und rfl ih
  | cptr hb hcell hu t _ ih => exact .cptr hb hcell hu ih
  | clo hu t _ ih => exact .clo hu ih

theorem leaves_holeE (x : AV) : leaves (holeE x) = (leaves x).map hole := by
  unfold holeE
  refine leaves_reEl fun hna => ?_
  rw [leaves_length_of hna]
  refine ⟨hole x, rfl, ?_⟩
  cases x <;> first | rfl | exact absurd rfl (hna _)
theorem flat_holeE : ∀ l : List AV, (l.map holeE).flatMap leaves = (l.flatMap leaves).map hole
  | [] => rfl
  | x :: l => by
    rw [List.map_cons, List.flatMap_cons, flat_holeE l, leaves_holeE, List.flatMap_cons, List.map_append]

/-- What is appended. -/
theorem srcF_ok {m : Bool} (h : Rel n w0 F0 S0 G F μ fp L σ a w) {v : Value} {y : AV} {news : List AV} {σ1 : St} {t2 sz : Nat} {d : TD} (hx : SRep F w σ.en μ fp v y) (hd : descOk C.P t2 d) (hk : srcOk sz d y = true) (hs : srcF m σ y = some (news, σ1)) (hsz : ∀ z ∈ news, (leaves z).length = sz) :
    ∃ F' fp' f us, Rel n w0 F0 S0 G F' μ fp' (f ++ L) σ1 a w ∧ Src C.P sz t2 v news.length us w ∧ RepL F' w us (news.flatMap leaves) f ∧ (∀ b, F b → F' b) ∧ (∀ v x, SLeaf F w σ.en μ fp v x → SLeaf F' w σ1.en μ fp' v x) ∧ σ1.sl = σ.sl := by
  have slice : ∀ {F' : Nat → Prop} {fp' : Nat → List Nat} {clip : Bool}, RepL F' w [v] [.fro none clip news] [] → (∃ e, C.P.underlying t2 = some (.slice e)) → Rel n w0 F0 S0 G F' μ fp' L σ1 a w → (∀ b, F b → F' b) → (∀ v x, SLeaf F w σ.en μ fp v x → SLeaf F' w σ1.en μ fp' v x) → σ1.sl = σ.sl →
      ∃ F' fp' f us, Rel n w0 F0 S0 G F' μ fp' (f ++ L) σ1 a w ∧ Src C.P sz t2 v news.length us w ∧ RepL F' w us (news.flatMap leaves) f ∧ (∀ b, F b → F' b) ∧ (∀ v x, SLeaf F w σ.en μ fp v x → SLeaf F' w σ1.en μ fp' v x) ∧ σ1.sl = σ.sl := by
    intro F' fp' clip hr ⟨e, he⟩ hrel h1 h2 h3
    obtain ⟨A, c, us, rfl, _, _, hl, hA, hu⟩ := hr.froRange hsz
    exact ⟨F', fp', [], us, hrel, src_slice he hl hA hu.ones, hu, h1, h2, h3⟩
  unfold srcOk at hk
  split at hk
  · rename_i s
    have hd : C.P.underlying t2 = some .string := hd
    obtain rfl : sz = 1 := by simpa using hk
    obtain rfl := SRep.str_inv hx
    simp only [srcF, Option.some.injEq, Prod.mk.injEq] at hs
    obtain ⟨rfl, rfl⟩ := hs
    have hrb := repl_bytes F w s.data.toList
    refine ⟨F, fp, [], byteCells s, h, ?_, ?_, fun _ h => h, fun _ _ h => h, rfl⟩
    · have e : (s.data.toList.map fun b => AV.int .u8 b.toNat).length = s.size := by rw [List.length_map, Array.length_toList]; rfl
      rw [e]
      exact Src.ofString w hd s
    · rw [hrb.flat]; exact hrb
  · rename_i el tg clip l
    have hd : C.P.underlying t2 = some (.slice el) := hd
    cases tg with
    | none =>
      simp only [srcF, Option.some.injEq, Prod.mk.injEq] at hs
      obtain ⟨rfl, rfl⟩ := hs
      exact slice hx ⟨el, hd⟩ h (fun _ h => h) (fun _ _ h => h) rfl
    | some p =>
      obtain ⟨e, wv, oo⟩ := p
      simp only [srcF, Option.bind_eq_bind, Option.bind_eq_some_iff] at hs
      obtain ⟨_, hv, hs⟩ := hs
      split at hs
      · rename_i hsc
        cases hs
        obtain ⟨hl, hw⟩ := ensure_some hv
        have hr := (hx.2 hl hw).1
        have hsc' := all_flat (l := news) (p := Vm.scal) hsc
        have hfr : ∀ l : List AV, l.all scalE = true → (l.map froize).flatMap leaves = l.flatMap leaves := by
          intro l hl
          rw [flat_froize]
          have := all_flat (l := l) (p := Vm.scal) hl
          refine (List.map_congr_left (g := id) fun x hx => scal_froize (List.all_eq_true.1 this x hx)).trans (by simp)
        obtain ⟨A, c, us, rfl, _, _, hul, hA, hu⟩ := hr.froRange (sz := sz) (fun z hz => by
          obtain ⟨z', hz', rfl⟩ := List.mem_map.1 hz
          rw [leaves_froize]; simpa using hsz z' hz')
        rw [List.length_map] at hul ⊢
        rw [hfr news hsc] at hu
        exact ⟨F, fp, [], us, h, src_slice hd hul hA hu.ones, hu.scal hsc' F w, fun _ h => h, fun _ _ h => h, rfl⟩
      · cases hs
        have hc : σ.close (.fro (some (e, wv, oo)) clip l) = some (.fro none clip (l.map froize), if (σ.en e).frz then σ else σ.freeze e) := by
          simp only [St.close, hv, Option.bind_eq_bind, Option.bind_some]
        obtain ⟨F', fp', f, r1, r2, r3⟩ := h.close (show SLeaf F w σ.en μ fp v (.fro (some (e, wv, oo)) clip l) from hx) hc
        obtain rfl := r2.fro_inv.1
        exact slice r2 ⟨el, hd⟩ r1 r3.1 r3.2.1 r3.2.2
  · rename_i el e g off len clip
    have hd : C.P.underlying t2 = some (.slice el) := hd
    simp only [srcF, Option.bind_eq_bind, Option.bind_eq_some_iff] at hs
    obtain ⟨E, hE, _, hb, hs⟩ := hs
    obtain ⟨hl, hg, rfl⟩ := cur_some hE
    have hb := ensure_some hb
    split at hs
    · rename_i hcase
      obtain ⟨_, hfz, hlen0⟩ := hcase
      simp only [Option.some.injEq, Prod.mk.injEq] at hs
      obtain ⟨hn, rfl⟩ := hs
      obtain ⟨A, c, us1, f0, rfl, hlc, _, _, _, _, _, _, _, hAc⟩ := h.hdRange hx hl hg hb
      obtain ⟨b, cur, et, fr, hμ, rfl, hb1, _⟩ := hAc (by omega)
      obtain ⟨hes, hent⟩ := h.ent e hl
      rcases hent with ⟨e1, _⟩ | ⟨b', cur', et', fr', us, f1, e1, e2, e3, e4, e5⟩
      · rw [hμ] at e1; cases e1
      rw [hμ] at e1; cases e1
      rw [hb1] at e2; cases e2
      obtain ⟨rfl, hfp⟩ : fr = (0, 0) ∧ fp e = b :: f1 := by
        rcases e5 with ⟨e10, _⟩ | ⟨_, q1, q2⟩
        · rw [hfz] at e10; cases e10
        · exact ⟨q1, q2⟩
      have hlen : (((σ.en e).elems.drop off).take len).length = len := by simp; omega
      have hze : (σ.en e).sz = sz ∨ news = [] := by
        cases hx0 : news with
        | nil => exact .inr rfl
        | cons z l =>
          refine .inl ?_
          have hz : z ∈ news := by rw [hx0]; simp
          rw [← hsz z hz]
          rw [← hn] at hz
          exact (hes z (List.mem_of_mem_drop (List.mem_of_mem_take hz))).symm
      have hze : (σ.en e).sz = sz := hze.resolve_right (fun h0 => by rw [h0] at hn; rw [hn] at hlen; simp at hlen; omega)
      obtain ⟨fa, fb, rfl, h1, h2⟩ := e4.take (off * (σ.en e).sz)
      obtain ⟨fc, fd, rfl, h3, h4⟩ := h2.take (len * (σ.en e).sz)
      have hflat : (((σ.en e).elems.flatMap leaves).drop (off * (σ.en e).sz)).take (len * (σ.en e).sz) = news.flatMap leaves := by
        rw [← flat_drop off hes, ← flat_take len (fun a ha => hes a (List.mem_of_mem_drop ha)), hn]
      rw [hflat] at h3
      have hul := e4.length
      rw [flat_length hes] at hul
      have hmul : (off + len) * (σ.en e).sz ≤ (σ.en e).elems.length * (σ.en e).sz := Nat.mul_le_mul_right _ hb
      rw [Nat.add_mul] at hmul
      have hlen' : ((us.drop (off * (σ.en e).sz)).take (len * (σ.en e).sz)).length = len * (σ.en e).sz := by simp; omega
      have hnd0 := h.nodup e hl
      rw [hfp] at hnd0
      have hnd1 := (List.nodup_cons.1 hnd0).2
      have hap : ∀ x ∈ L, x ∉ fa ++ (fc ++ fd) := fun x hx hx2 => (h.loose x hx).2.2.2 e hl (by rw [hfp]; exact List.mem_cons_of_mem _ hx2)
      have hperm : ((fa ++ fd) ++ (fc ++ L)).Perm ((fa ++ (fc ++ fd)) ++ L) := by
        rw [← List.append_assoc (fa ++ fd)]
        refine List.Perm.append_right L ?_
        rw [List.append_assoc]
        exact (List.perm_append_comm).append_left fa
      have hnd2 : ((fa ++ (fc ++ fd)) ++ L).Nodup := List.nodup_append.2 ⟨hnd1, h.looseNodup, fun x hx y hy hxy => by subst hxy; exact hap x hy hx⟩
      have hw := h.write (w' := w) (cur' := cur) (us' := us) (f' := fa ++ fd) (L' := fc ++ L) (E' := { σ.en e with wr := (σ.en e).wr + 1, elems := (σ.en e).elems.take off ++ news.map holeE ++ (σ.en e).elems.drop (off + len) }) hl hfz hμ hb1 hfp hl hfz rfl (Nat.le_refl _) (Nat.lt_succ_self _) (fun _ => by
          rw [← hn]; simp; omega)
        hb1 rfl (fun _ _ => rfl) rfl rfl rfl rfl (fun y hy => by
          show _ = (σ.en e).sz
          rcases List.mem_append.1 hy with hy | hy
          · rcases List.mem_append.1 hy with hy | hy
            · exact hes y (List.mem_of_mem_take hy)
            · obtain ⟨z, hz, rfl⟩ := List.mem_map.1 hy
              rw [leaves_holeE, List.length_map, hze]
              exact hsz z hz
          · exact hes y (List.mem_of_mem_drop hy)) e3 (by
          show RepL F w us (((σ.en e).elems.take off ++ news.map holeE ++ (σ.en e).elems.drop (off + len)).flatMap leaves) _
          rw [List.flatMap_append, List.flatMap_append, flat_holeE, flat_take off hes, flat_drop (off + len) hes, Nat.add_mul]
          have hus : us = us.take (off * (σ.en e).sz) ++ ((us.drop (off * (σ.en e).sz)).take (len * (σ.en e).sz) ++ (us.drop (off * (σ.en e).sz)).drop (len * (σ.en e).sz)) := by rw [List.take_append_drop, List.take_append_drop]
          rw [hus]
          have h5 := (h1.append (h3.holes.append h4))
          simpa [List.append_assoc, List.drop_drop] using h5) (fun b hb => by
          exact hperm.mem_iff.1 hb) (hperm.nodup_iff.2 hnd2)
      rw [hn]
      refine ⟨F, _, fc, _, hw.1, ?_, h3, fun _ h => h, fun _ _ h => h.step hw.2, rfl⟩
      have hnl : news.length = len := by rw [← hn]; exact hlen
      rw [hnl]
      refine src_slice hd (by rw [hlen', hze]) (fun _ => ⟨b, _, rfl, fun q hq => ?_⟩) h3.ones
      rw [hlen'] at hq
      rw [cell_of_row w b _ cur et (0, 0) hb1, e3 _ (by omega), List.getElem?_take, if_pos hq, List.getElem?_drop]
    split at hs
    · rename_i hcase
      cases hs
      obtain ⟨A, c, us, f, rfl, _, _, _, hul, hA, hu, _, hfz, _⟩ := h.hdRange hx hl hg hb
      have hlen : (((σ.en e).elems.drop off).take len).length = len := by simp; omega
      have hes := (h.ent e hl).1
      have husz : us.length = len * sz := by
        have := hu.length
        rw [flat_length hsz, hlen] at this
        exact this
      have hf : f = [] := by
        rcases Bool.or_eq_true_iff.1 hcase with hc | hc
        · exact hfz hc
        · exact hu.noOwn_nil (all_flat hc)
      subst hf
      exact ⟨F, fp, [], us, h, by rw [hlen]; exact src_slice hd husz hA hu.ones, hu, fun _ h => h, fun _ _ h => h, rfl⟩
    · simp only [Option.bind_eq_some_iff] at hs
      obtain ⟨_, hoff, hs⟩ := hs
      obtain ⟨rfl, rfl⟩ := ensure_some hoff
      simp only [Option.some.injEq, Prod.mk.injEq] at hs
      obtain ⟨hn, rfl⟩ := hs
      have hn : news = (σ.en e).elems := by rw [← hn]; simp
      subst hn
      have hfz : (σ.en e).frz = false := by rename_i hh; simp at hh; exact hh.1
      have hc : σ.close (.hd e g 0 (σ.en e).elems.length clip) = some (.own (σ.en e).sz (σ.en e).elems, σ.kill e) := by
        simp only [St.close, hE, Option.bind_eq_bind, Option.bind_some, hfz, Bool.false_eq_true, if_false]
        simp [ensure]
      obtain ⟨F', fp', f, r1, r2, r3⟩ := h.close (show SLeaf F w σ.en μ fp v (.hd e g 0 (σ.en e).elems.length clip) from hx) hc
      obtain ⟨A, c, us, f1, rfl, _, hul, hA, hu, hsub⟩ := r2.ownRange hsz
      exact ⟨F', fp', f1, us, r1.drop (hsub.append_right L), src_slice hd hul hA hu.ones, hu, r3.1, r3.2.1, r3.2.2⟩
  · cases hk

theorem intsOf_some : ∀ {l : List AV} {ns : List Int}, intsOf l = some ns → l = ns.map (fun n => .int .u8 n)
  | [], ns, h => by cases h; rfl
  | x :: l, ns, h => by
    cases x with
    | int k n =>
      cases k <;> simp only [intsOf, Option.map_eq_some_iff, reduceCtorEq] at h
      obtain ⟨ms, hm, rfl⟩ := h
      rw [intsOf_some hm]; rfl
    | _ => simp [intsOf] at h

theorem RepL.bytes {f : List Nat} : ∀ {ns : List Int} {us : List Value}, RepL F w us ((ns.map fun n => AV.int .u8 n).flatMap leaves) f → us = ns.map (Value.int .u8)
  | [], us, h => by cases h; rfl
  | n :: ns, us, h => by
    simp only [List.map_cons, List.flatMap_cons, leaves, List.cons_append, List.nil_append] at h
    cases h with
    | int t => rw [RepL.bytes t]; rfl

theorem op_convS (hC : CfgOk C) (h : Rel n w0 F0 S0 G F μ fp [] σ a w) {s t : TypeId} {x : Operand} {r : AV} (ho : o.op = .convert s t x) (hr : convS C σ s t (σ.get x) = some r) :
    OpPure C F μ fp σ o a w (σ.put o.dst r) := by
  simp only [convS, Option.bind_eq_bind, Option.bind_eq_some_iff] at hr
  obtain ⟨T, hT, U, hU, hr⟩ := hr
  have hTd := (hC.tt s T hT).desc
  have hUd := (hC.tt t U hU).desc
  have hx := h.get x
  split at hr
  case h_2 => cases hr
  rename_i el h1 h2
  rw [h1] at hTd
  rw [h2] at hUd
  have hTd : C.P.underlying s = some (.slice el) := hTd
  have hUd : C.P.underlying t = some .string := hUd
  simp only [Option.bind_eq_some_iff] at hr
  obtain ⟨V, hV, hr⟩ := hr
  have hVd := (hC.tt el V hV).desc
  split at hr
  case h_2 => cases hr
  rename_i h4
  rw [h4] at hVd
  have hVd : C.P.underlying el = some (.int .u8) := hVd
  simp only [Option.bind_eq_some_iff, Option.some.injEq] at hr
  obtain ⟨l, hl, ns, hns, rfl⟩ := hr
  obtain rfl := intsOf_some hns
  have key : ∃ A len c, a.eval x = .slice A len c ∧ len = ns.length ∧ (0 < ns.length → ∃ b o', A = some ⟨b, o', none⟩ ∧ ∀ q, q < ns.length → w.cell? ⟨b, o' + q, none⟩ = (ns.map (Value.int .u8))[q]?) := by
    generalize σ.get x = y at hx hl
    unfold bytesL at hl
    split at hl
    · rename_i e g off len clip
      simp only [Option.bind_eq_bind, Option.bind_eq_some_iff, Option.some.injEq] at hl
      obtain ⟨E, hE, _, hb, hel⟩ := hl
      obtain ⟨hlv, hg, rfl⟩ := cur_some hE
      obtain ⟨hb, hsz⟩ := ensure_some hb
      obtain ⟨A, c, us, f, hv, hlc, _, _, hul, hA, hu, _⟩ := h.hdRange hx hlv hg hb
      rw [hel] at hu
      obtain rfl := RepL.bytes hu
      have hlen : len = ns.length := by
        have := congrArg List.length hel
        simp at this; omega
      exact ⟨A, len, c, hv, hlen, fun h0 => by simpa using hA (by simpa using h0)⟩
    · rename_i clip l
      cases hl
      obtain ⟨A, c, us, hv, _, _, hul, hA, hu⟩ := RepL.froRange (sz := 1) (show RepL F w [a.eval x] [.fro none clip _] [] from hx) (fun z hz => by obtain ⟨m, _, rfl⟩ := List.mem_map.1 hz; rfl)
      obtain rfl := RepL.bytes hu
      exact ⟨A, _, c, hv, by simp, fun h0 => by simpa using hA (by simpa using h0)⟩
    · cases hl
  obtain ⟨A, len, c, hv, hlen, hA⟩ := key
  refine .mk' (v := .string (textOf ns)) (fun w' hk => ?_) (RepL.str .nil)
  simp only [execOp, ho, hv, Sem.run_bind, run_convert_bytes_string w' s t el A len c hTd hVd hUd]
  cases A with
  | none =>
    have h0 : ns = [] := by
      cases ns with
      | nil => rfl
      | cons m ms => obtain ⟨b, o', he, _⟩ := hA (by simp); cases he
    subst h0
    simp [Conv.bytesToString, textOf, Sem.run_pure, Result.andThen]
  | some A =>
    have hld : (loadCells A len).run C.P w' = .ok (ns.map (Value.int .u8)).toArray w' := by
      have := run_loadCells_list (P := C.P) w' A (ns.map (Value.int .u8)) (fun j v hj => by
        have hjl : j < ns.length := by simpa using (List.getElem?_eq_some_iff.1 hj).1
        obtain ⟨b, o', he, hcell⟩ := hA (by omega)
        cases he
        have hc := hcell j hjl
        rw [hj] at hc
        have hb : b < w.heap.size := by
          unfold World.cell? at hc
          by_cases hlt : b < w.heap.size
          · exact hlt
          · have hno : w.heap[b]? = none := Array.getElem?_eq_none (by omega)
            simp only [hno] at hc
            cases hc
        rw [Addr.add_lit, cell?_congr (w := w) (w' := w') (hk.block b hb (fun h => h)), hc])
      simpa [hlen] using this
    rw [run_bytesToString w' A len c ns hld]
    simp [textOf, Sem.run_pure, Result.andThen]

end
end Go.Vm
