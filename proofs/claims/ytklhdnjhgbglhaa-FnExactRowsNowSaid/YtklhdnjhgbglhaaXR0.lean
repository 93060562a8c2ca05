/- WALK of functions of the seat, or plain laws for it: each theorem f<k> says what function k returns, for every world and all arguments that stand for the values named. Conditions: none but those ahead of each theorem. -/
import Derived.Test.YtklhdnjhgbglhaaXB6
import Derived.Test.YtklhdnjhgbglhaaXRd
import Derived.Lib.SmallJoins
namespace Go.Vm
variable {P : Program} {t e : TypeId}
theorem trod_struct5 {H : Type} {enc : TypeId × Value → H} {w : World} {base : Nat} {spare : Nat → Bool} {held : Bool} {f0 f1 f2 f3 f4 : Field} {fuel : Nat} {cs : List Value} {x : DataW H × List MemPlace} (ht : P.underlying t = some (.struct #[f0, f1, f2, f3, f4])) (h : DataW.trod enc P w base spare held fuel t cs = some x) :
    ∃ y0 y1 y2 y3 y4 n, cs.length = P.cellsOf t ∧ DataW.trod enc P w base spare held n f0.type ((cs.drop f0.offset).take (P.cellsOf f0.type)) = some y0 ∧
      DataW.trod enc P w base spare held n f1.type ((cs.drop f1.offset).take (P.cellsOf f1.type)) = some y1 ∧ DataW.trod enc P w base spare held n f2.type ((cs.drop f2.offset).take (P.cellsOf f2.type)) = some y2 ∧
      DataW.trod enc P w base spare held n f3.type ((cs.drop f3.offset).take (P.cellsOf f3.type)) = some y3 ∧ DataW.trod enc P w base spare held n f4.type ((cs.drop f4.offset).take (P.cellsOf f4.type)) = some y4 := by
  obtain ⟨xs, n, _, rfl, hl, hlen, hf⟩ := DataW.trod_struct ht h
  match xs, hlen with
  | [y0, y1, y2, y3, y4], _ => exact ⟨y0, y1, y2, y3, y4, n, hl, by simpa using hf 0 f0 rfl, by simpa using hf 1 f1 rfl, by simpa using hf 2 f2 rfl, by simpa using hf 3 f3 rfl, by simpa using hf 4 f4 rfl⟩

theorem Rd.quad {α β δ ε γ : Type} {f : α → AV} {g : β → AV} {d : δ → AV} {e : ε → AV} {oka : α → Prop} {okb : β → Prop} {okd : δ → Prop} {oke : ε → Prop} {F G D E : Field} {mk : α → β → δ → ε → γ} {k : γ → AV} {okc : γ → Prop} (ht : P.underlying t = some (.struct #[F, G, D, E]))
    (hF : F.offset = 0) (hG : G.offset = P.cellsOf F.type) (hD : D.offset = P.cellsOf F.type + P.cellsOf G.type) (hE : E.offset = P.cellsOf F.type + P.cellsOf G.type + P.cellsOf D.type) (hT : P.cellsOf t = P.cellsOf F.type + P.cellsOf G.type + P.cellsOf D.type + P.cellsOf E.type)
    (h1 : Rd P F.type f oka) (h2 : Rd P G.type g okb) (h3 : Rd P D.type d okd) (h4 : Rd P E.type e oke)
    (hk : ∀ a b c x, leaves (k (mk a b c x)) = leaves (f a) ++ leaves (g b) ++ leaves (d c) ++ leaves (e x)) (hok : ∀ a b c x, oka a → okb b → okd c → oke x → okc (mk a b c x)) : Rd P t k okc := by
  constructor
  intro H enc w sp held fuel cs x h
  obtain ⟨y0, y1, y2, y3, n, _, hl, t0, t1, t2, t3⟩ := Go.Joins.trod_struct4 ht h
  obtain ⟨a, ha, oa⟩ := h1.out enc w sp held n _ _ t0
  obtain ⟨b, hb, ob⟩ := h2.out enc w sp held n _ _ t1
  obtain ⟨c, hc, oc⟩ := h3.out enc w sp held n _ _ t2
  obtain ⟨z, hz, oz⟩ := h4.out enc w sp held n _ _ t3
  refine ⟨mk a b c z, ?_, hok a b c z oa ob oc oz⟩
  rw [hF, List.drop_zero] at ha
  rw [hG] at hb
  rw [hD] at hc
  rw [hE, List.take_of_length_le (by simp; omega)] at hz
  rw [hk]
  have e : cs = cs.take (P.cellsOf F.type) ++ (cs.drop (P.cellsOf F.type)).take (P.cellsOf G.type) ++ (cs.drop (P.cellsOf F.type + P.cellsOf G.type)).take (P.cellsOf D.type) ++ cs.drop (P.cellsOf F.type + P.cellsOf G.type + P.cellsOf D.type) := by
    rw [← List.drop_drop (i := P.cellsOf D.type), List.append_assoc, List.take_append_drop, ← List.drop_drop, List.append_assoc, List.take_append_drop, List.take_append_drop]
  rw [e]
  simpa using ((ha.append hb).append hc).append hz

theorem Rd.quint {α β δ ε ζ γ : Type} {f : α → AV} {g : β → AV} {d : δ → AV} {e : ε → AV} {u : ζ → AV} {oka : α → Prop} {okb : β → Prop} {okd : δ → Prop} {oke : ε → Prop} {oku : ζ → Prop} {F G D E U : Field} {mk : α → β → δ → ε → ζ → γ} {k : γ → AV} {okc : γ → Prop} (ht : P.underlying t = some (.struct #[F, G, D, E, U]))
    (hF : F.offset = 0) (hG : G.offset = P.cellsOf F.type) (hD : D.offset = P.cellsOf F.type + P.cellsOf G.type) (hE : E.offset = P.cellsOf F.type + P.cellsOf G.type + P.cellsOf D.type) (hU : U.offset = P.cellsOf F.type + P.cellsOf G.type + P.cellsOf D.type + P.cellsOf E.type) (hT : P.cellsOf t = P.cellsOf F.type + P.cellsOf G.type + P.cellsOf D.type + P.cellsOf E.type + P.cellsOf U.type)
    (h1 : Rd P F.type f oka) (h2 : Rd P G.type g okb) (h3 : Rd P D.type d okd) (h4 : Rd P E.type e oke) (h5 : Rd P U.type u oku)
    (hk : ∀ a b c x y, leaves (k (mk a b c x y)) = leaves (f a) ++ leaves (g b) ++ leaves (d c) ++ leaves (e x) ++ leaves (u y)) (hok : ∀ a b c x y, oka a → okb b → okd c → oke x → oku y → okc (mk a b c x y)) : Rd P t k okc := by
  constructor
  intro H enc w sp held fuel cs x h
  obtain ⟨y0, y1, y2, y3, y4, n, hl, t0, t1, t2, t3, t4⟩ := trod_struct5 ht h
  obtain ⟨a, ha, oa⟩ := h1.out enc w sp held n _ _ t0
  obtain ⟨b, hb, ob⟩ := h2.out enc w sp held n _ _ t1
  obtain ⟨c, hc, oc⟩ := h3.out enc w sp held n _ _ t2
  obtain ⟨z, hz, oz⟩ := h4.out enc w sp held n _ _ t3
  obtain ⟨v, hv, ov⟩ := h5.out enc w sp held n _ _ t4
  refine ⟨mk a b c z v, ?_, hok a b c z v oa ob oc oz ov⟩
  rw [hF, List.drop_zero] at ha
  rw [hG] at hb
  rw [hD] at hc
  rw [hE] at hz
  rw [hU, List.take_of_length_le (by simp; omega)] at hv
  rw [hk]
  have e : cs = cs.take (P.cellsOf F.type) ++ (cs.drop (P.cellsOf F.type)).take (P.cellsOf G.type) ++ (cs.drop (P.cellsOf F.type + P.cellsOf G.type)).take (P.cellsOf D.type) ++ (cs.drop (P.cellsOf F.type + P.cellsOf G.type + P.cellsOf D.type)).take (P.cellsOf E.type) ++ cs.drop (P.cellsOf F.type + P.cellsOf G.type + P.cellsOf D.type + P.cellsOf E.type) := by
    rw [← List.drop_drop (i := P.cellsOf E.type), List.append_assoc, List.take_append_drop, ← List.drop_drop (i := P.cellsOf D.type), List.append_assoc, List.take_append_drop, ← List.drop_drop, List.append_assoc, List.take_append_drop, List.take_append_drop]
  rw [e]
  simpa using (((ha.append hb).append hc).append hz).append hv
end Go.Vm
