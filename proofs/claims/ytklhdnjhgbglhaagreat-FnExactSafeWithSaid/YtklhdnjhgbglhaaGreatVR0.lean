/- WALK of functions of the seat, or plain laws for it: each theorem f<k> says what function k returns, for every world and all arguments that stand for the values named. Conditions: none but those ahead of each theorem. -/
import Derived.Test.YtklhdnjhgbglhaaGreatVLib6
import Derived.ChangeArms
import Derived.ChangeSame
import Derived.Deep.Strs
import Derived.WideShapes
import Derived.Test.YtklhdnjhgbglhaaGreatVB6
import Derived.Lib.SmallJoins
section
/- What a row says of an argument, as the evaluator's values. -/
namespace Go.Vm
/-- A value of type t that a row reads stands for some 'f a'. -/
structure Rd (P : Program) (t : TypeId) {α : Type} (f : α → AV) (ok : α → Prop) : Prop where
  out : ∀ {H : Type} (enc : TypeId × Value → H) (w : World) (sp : Nat → Bool) (held : Bool) (fuel : Nat) (cs : List Value) (x : DataW H × List MemPlace),
    DataW.trod enc P w 0 sp held fuel t cs = some x → ∃ a : α, RepL (fun b => b < w.heap.size) w cs (leaves (f a)) [] ∧ ok a
variable {P : Program} {t e : TypeId}
theorem Rd.mono {α : Type} {f : α → AV} {ok ok' : α → Prop} (h : Rd P t f ok) (hk : ∀ a, ok a → ok' a) : Rd P t f ok' := ⟨fun enc w sp held fuel cs x hx => let ⟨a, h1, h2⟩ := h.out enc w sp held fuel cs x hx; ⟨a, h1, hk a h2⟩⟩
theorem Rd.int {k : IntKind} (ht : P.underlying t = some (.int k)) : Rd P t (fun n : Int => .int k n) (fun n => (Lit.int k n).wf = true) := by
  constructor
  intro H enc w sp held fuel cs x h
  obtain ⟨n, rfl, _, hw⟩ := DataW.trod_int ht h
  exact ⟨n, .int .nil, hw⟩
theorem Rd.bool (ht : P.underlying t = some .bool) : Rd P t (fun b : Bool => .bool b) (fun _ => True) := by
  constructor
  intro H enc w sp held fuel cs x h
  obtain ⟨b, rfl, _⟩ := DataW.trod_bool ht h
  exact ⟨b, .bool .nil, trivial⟩
theorem Rd.str (ht : P.underlying t = some .string) : Rd P t (fun s : ByteArray => .str s) (fun s => s.size ≤ maxLen) := by
  constructor
  intro H enc w sp held fuel cs x h
  obtain ⟨s, rfl, _, hs⟩ := DataW.trod_string ht h
  exact ⟨s, .str .nil, hs⟩
theorem cells_at {w : World} {b o n i c : Nat} {cs : List Value} (h : w.cells? 0 ((⟨b, o, none⟩ : Addr).add (i * c)) n = some cs) : cs.length = n ∧ ∀ q, q < n → w.cell? ⟨b, o + (i * c + q), none⟩ = cs[q]? := by
  obtain ⟨_, h2, h3⟩ := World.cells?_some h
  refine ⟨h2, fun q hq => ?_⟩
  have := h3 q hq
  rw [Go.WideShapes.add_plain, Go.WideShapes.add_plain] at this
  rw [← this, Nat.add_assoc]
theorem Rd.slice {α : Type} {f : α → AV} {ok : α → Prop} (ht : P.underlying t = some (.slice e)) {m : Nat} (hm : P.cellsOf e = m + 1) (he : Rd P e f ok) :
    Rd P t (fun xs : List α => .fro none false (xs.map f)) (fun xs => xs.length ≤ maxLen ∧ ∀ x ∈ xs, ok x) := by
  constructor
  intro H enc w sp held fuel cs x h
  have hpos : 0 < P.cellsOf e := by omega
  rcases DataW.trod_slice ht h with ⟨rfl, _⟩ | ⟨a, len, cap, elems, rest, n, _, rfl, _, _, hl, hm, hlen, hel, _, _⟩
  · exact ⟨[], .fro0 (by simp) .nil, by simp⟩
  cases hz : len with
  | zero => subst hz; exact ⟨[], .fro0 (by simp) .nil, by simp⟩
  | succ len' =>
  have h0 := hel 0 (by omega)
  have hb : ∃ b o, a = ⟨b, o, none⟩ ∧ b < w.heap.size := by
    rw [List.getElem?_eq_getElem (by omega), Option.bind_eq_some_iff] at h0
    obtain ⟨c0, hc0, _⟩ := h0
    obtain ⟨_, h2, h3⟩ := World.cells?_some hc0
    have h3 := h3 0 hpos
    rw [List.getElem?_eq_getElem (by omega)] at h3
    obtain ⟨b, o, spot⟩ := a
    have hs : spot = none := by simpa [Addr.add] using World.cell?_spot h3
    subst hs
    refine ⟨b, o, rfl, ?_⟩
    simp only [Nat.zero_mul, Addr.add, if_true] at h3
    unfold World.cell? at h3
    by_cases hlt : b < w.heap.size
    · exact hlt
    · have hno : w.heap[b]? = none := Array.getElem?_eq_none (by omega)
      simp only [hno] at h3
      simp at h3
  obtain ⟨b, o, rfl, hb⟩ := hb
  have key : ∀ m, m ≤ len → ∃ (l : List α) (us : List Value), l.length = m ∧ us.length = m * P.cellsOf e ∧ (∀ q, q < us.length → w.cell? ⟨b, o + q, none⟩ = us[q]?) ∧
      RepL (fun b => b < w.heap.size) w us ((l.map f).flatMap leaves) [] ∧ ∀ a ∈ l, ok a ∧ (leaves (f a)).length = P.cellsOf e := by
    intro m
    induction m with
    | zero => exact fun _ => ⟨[], [], rfl, by simp, by simp, .nil, by simp⟩
    | succ m ih =>
      intro hm
      obtain ⟨l, us, h1, h2, h3, h4, h5⟩ := ih (by omega)
      have hmel := hel m (by omega)
      rw [List.getElem?_eq_getElem (by omega), Option.bind_eq_some_iff] at hmel
      obtain ⟨cm, hcm, htr⟩ := hmel
      obtain ⟨g1, g2⟩ := cells_at hcm
      obtain ⟨a, ha, hok⟩ := he.out enc w sp held n cm _ htr
      have hla := ha.length
      refine ⟨l ++ [a], us ++ cm, by simp [h1], by rw [List.length_append, h2, g1, Nat.succ_mul], fun q hq => ?_, ?_, fun a' ha' => ?_⟩
      · rw [List.length_append] at hq
        by_cases hlt : q < us.length
        · rw [List.getElem?_append_left hlt, h3 q hlt]
        · rw [List.getElem?_append_right (by omega), ← g2 (q - us.length) (by omega)]
          rw [show o + (m * P.cellsOf e + (q - us.length)) = o + q by omega]
      · rw [List.map_append, List.flatMap_append]
        simpa using h4.append ha
      · rcases List.mem_append.1 ha' with h | h
        · exact h5 a' h
        · simp at h; subst h; exact ⟨hok, by omega⟩
  obtain ⟨l, us, h1, h2, h3, h4, h5⟩ := key len (Nat.le_refl _)
  refine ⟨l, ?_, by omega, fun x hx => (h5 x hx).1⟩
  rw [← hz]
  exact .fro (by simpa using h1) hl (by simp) hb h3 (fun y hy => by obtain ⟨x, hx, rfl⟩ := List.mem_map.1 hy; exact (h5 x hx).2) h4 .nil
theorem Rd.triple {α β δ γ : Type} {f : α → AV} {g : β → AV} {d : δ → AV} {oka : α → Prop} {okb : β → Prop} {okd : δ → Prop} {F G D : Field} {mk : α → β → δ → γ} {k : γ → AV} {okc : γ → Prop} (ht : P.underlying t = some (.struct #[F, G, D]))
    (hF : F.offset = 0) (hG : G.offset = P.cellsOf F.type) (hD : D.offset = P.cellsOf F.type + P.cellsOf G.type) (hT : P.cellsOf t = P.cellsOf F.type + P.cellsOf G.type + P.cellsOf D.type) (h1 : Rd P F.type f oka) (h2 : Rd P G.type g okb) (h3 : Rd P D.type d okd)
    (hk : ∀ a b c, leaves (k (mk a b c)) = leaves (f a) ++ leaves (g b) ++ leaves (d c)) (hok : ∀ a b c, oka a → okb b → okd c → okc (mk a b c)) : Rd P t k okc := by
  constructor
  intro H enc w sp held fuel cs x h
  obtain ⟨y0, y1, y2, n, _, hl, t0, t1, t2⟩ := Go.Deep.trod_struct3 ht h
  obtain ⟨a, ha, oa⟩ := h1.out enc w sp held n _ _ t0
  obtain ⟨b, hb, ob⟩ := h2.out enc w sp held n _ _ t1
  obtain ⟨c, hc, oc⟩ := h3.out enc w sp held n _ _ t2
  refine ⟨mk a b c, ?_, hok a b c oa ob oc⟩
  rw [hF, List.drop_zero] at ha
  rw [hG] at hb
  rw [hD, List.take_of_length_le (by simp; omega)] at hc
  rw [hk]
  have e : cs = cs.take (P.cellsOf F.type) ++ (cs.drop (P.cellsOf F.type)).take (P.cellsOf G.type) ++ cs.drop (P.cellsOf F.type + P.cellsOf G.type) := by
    rw [← List.drop_drop, List.append_assoc, List.take_append_drop, List.take_append_drop]
  rw [e]
  simpa using (ha.append hb).append hc
end Go.Vm
end
section
namespace Go.Vm
variable {P : Program} {t e : TypeId}
theorem trod_struct5 {H : Type} {enc : TypeId × Value → H} {w : World} {base : Nat} {spare : Nat → Bool} {held : Bool} {f0 f1 f2 f3 f4 : Field} {fuel : Nat} {cs : List Value} {x : DataW H × List MemPlace} (ht : P.underlying t = some (.struct #[f0, f1, f2, f3, f4])) (h : DataW.trod enc P w base spare held fuel t cs = some x) :
    ∃ y0 y1 y2 y3 y4 n, cs.length = P.cellsOf t ∧ DataW.trod enc P w base spare held n f0.type ((cs.drop f0.offset).take (P.cellsOf f0.type)) = some y0 ∧
      DataW.trod enc P w base spare held n f1.type ((cs.drop f1.offset).take (P.cellsOf f1.type)) = some y1 ∧ DataW.trod enc P w base spare held n f2.type ((cs.drop f2.offset).take (P.cellsOf f2.type)) = some y2 ∧
      DataW.trod enc P w base spare held n f3.type ((cs.drop f3.offset).take (P.cellsOf f3.type)) = some y3 ∧ DataW.trod enc P w base spare held n f4.type ((cs.drop f4.offset).take (P.cellsOf f4.type)) = some y4 := by
  obtain ⟨xs, n, _, rfl, hl, hlen, hf⟩ := DataW.trod_struct ht h
  match xs, hlen with
  | [y0, y1, y2, y3, y4], _ => exact ⟨y0, y1, y2, y3, y4, n, hl, by simpa using hf 0 f0 rfl, by simpa using hf 1 f1 rfl, by simpa using hf 2 f2 rfl, by simpa using hf 3 f3 rfl, by simpa using hf 4 f4 rfl⟩
theorem Rd.quad {α β δ ε γ : Type} {f : α → AV} {g : β → AV} {d : δ → AV} {e : ε → AV} {oka : α → Prop} {okb : β → Prop} {okd : δ → Prop} {oke : ε → Prop} {F G D E : Field} {mk : α → β → δ → ε → γ} {k : γ → AV} {okc : γ → Prop} (ht : P.underlying t = some (.struct #[F, G, D, E]))
    (hF : F.offset = 0) (hG : G.offset = P.cellsOf F.type) (hD : D.offset = P.cellsOf F.type + P.cellsOf G.type) (hE : E.offset = P.cellsOf F.type + P.cellsOf G.type + P.cellsOf D.type) (hT : P.cellsOf t = P.cellsOf F.type + P.cellsOf G.type + P.cellsOf D.type + P.cellsOf E.type)
    (h1 : Rd P F.type f oka) (h2 : Rd P G.type g okb) (h3 : Rd P D.type d okd) (h4 : Rd P E.type e oke)
    (hk : ∀ a b c x, leaves (k (mk a b c x)) = leaves (f a) ++ leaves (g b) ++ leaves (d c) ++ leaves (e x)) (hok : ∀ a b c x, oka a → okb b → okd c → oke x → okc (mk a b c x)) : Rd P t k okc := by
  constructor
  intro H enc w sp held fuel cs x h
  obtain ⟨y0, y1, y2, y3, n, _, hl, t0, t1, t2, t3⟩ := Go.Joins.trod_struct4 ht h
  obtain ⟨a, ha, oa⟩ := h1.out enc w sp held n _ _ t0
  obtain ⟨b, hb, ob⟩ := h2.out enc w sp held n _ _ t1
  obtain ⟨c, hc, oc⟩ := h3.out enc w sp held n _ _ t2
  obtain ⟨z, hz, oz⟩ := h4.out enc w sp held n _ _ t3
  refine ⟨mk a b c z, ?_, hok a b c z oa ob oc oz⟩
  rw [hF, List.drop_zero] at ha
  rw [hG] at hb
  rw [hD] at hc
  rw [hE, List.take_of_length_le (by simp; omega)] at hz
  rw [hk]
  have e : cs = cs.take (P.cellsOf F.type) ++ (cs.drop (P.cellsOf F.type)).take (P.cellsOf G.type) ++ (cs.drop (P.cellsOf F.type + P.cellsOf G.type)).take (P.cellsOf D.type) ++ cs.drop (P.cellsOf F.type + P.cellsOf G.type + P.cellsOf D.type) := by
    rw [← List.drop_drop (i := P.cellsOf D.type), List.append_assoc, List.take_append_drop, ← List.drop_drop, List.append_assoc, List.take_append_drop, List.take_append_drop]
  rw [e]
  simpa using ((ha.append hb).append hc).append hz
theorem Rd.quint {α β δ ε ζ γ : Type} {f : α → AV} {g : β → AV} {d : δ → AV} {e : ε → AV} {u : ζ → AV} {oka : α → Prop} {okb : β → Prop} {okd : δ → Prop} {oke : ε → Prop} {oku : ζ → Prop} {F G D E U : Field} {mk : α → β → δ → ε → ζ → γ} {k : γ → AV} {okc : γ → Prop} (ht : P.underlying t = some (.struct #[F, G, D, E, U]))
    (hF : F.offset = 0) (hG : G.offset = P.cellsOf F.type) (hD : D.offset = P.cellsOf F.type + P.cellsOf G.type) (hE : E.offset = P.cellsOf F.type + P.cellsOf G.type + P.cellsOf D.type) (hU : U.offset = P.cellsOf F.type + P.cellsOf G.type + P.cellsOf D.type + P.cellsOf E.type) (hT : P.cellsOf t = P.cellsOf F.type + P.cellsOf G.type + P.cellsOf D.type + P.cellsOf E.type + P.cellsOf U.type)
    (h1 : Rd P F.type f oka) (h2 : Rd P G.type g okb) (h3 : Rd P D.type d okd) (h4 : Rd P E.type e oke) (h5 : Rd P U.type u oku)
    (hk : ∀ a b c x y, leaves (k (mk a b c x y)) = leaves (f a) ++ leaves (g b) ++ leaves (d c) ++ leaves (e x) ++ leaves (u y)) (hok : ∀ a b c x y, oka a → okb b → okd c → oke x → oku y → okc (mk a b c x y)) : Rd P t k okc := by
  constructor
  intro H enc w sp held fuel cs x h
  obtain ⟨y0, y1, y2, y3, y4, n, hl, t0, t1, t2, t3, t4⟩ := trod_struct5 ht h
  obtain ⟨a, ha, oa⟩ := h1.out enc w sp held n _ _ t0
  obtain ⟨b, hb, ob⟩ := h2.out enc w sp held n _ _ t1
  obtain ⟨c, hc, oc⟩ := h3.out enc w sp held n _ _ t2
  obtain ⟨z, hz, oz⟩ := h4.out enc w sp held n _ _ t3
  obtain ⟨v, hv, ov⟩ := h5.out enc w sp held n _ _ t4
  refine ⟨mk a b c z v, ?_, hok a b c z v oa ob oc oz ov⟩
  rw [hF, List.drop_zero] at ha
  rw [hG] at hb
  rw [hD] at hc
  rw [hE] at hz
  rw [hU, List.take_of_length_le (by simp; omega)] at hv
  rw [hk]
  have e : cs = cs.take (P.cellsOf F.type) ++ (cs.drop (P.cellsOf F.type)).take (P.cellsOf G.type) ++ (cs.drop (P.cellsOf F.type + P.cellsOf G.type)).take (P.cellsOf D.type) ++ (cs.drop (P.cellsOf F.type + P.cellsOf G.type + P.cellsOf D.type)).take (P.cellsOf E.type) ++ cs.drop (P.cellsOf F.type + P.cellsOf G.type + P.cellsOf D.type + P.cellsOf E.type) := by
    rw [← List.drop_drop (i := P.cellsOf E.type), List.append_assoc, List.take_append_drop, ← List.drop_drop (i := P.cellsOf D.type), List.append_assoc, List.take_append_drop, ← List.drop_drop, List.append_assoc, List.take_append_drop, List.take_append_drop]
  rw [e]
  simpa using (((ha.append hb).append hc).append hz).append hv
end Go.Vm
end
