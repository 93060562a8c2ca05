/- WALK, or plain laws for it: theorem f<k> says what function k returns. Conditions: none but those ahead of each theorem. -/
import Derived.Test.YtklhdnjhgbglhaaGreatYLib6
import Derived.ChangeArms
import Derived.ChangeSame
import Derived.Deep.Strs
import Derived.WideShapes
set_option linter.unusedVariables false
set_option linter.unusedSimpArgs false
/- What a row says of an argument, as the evaluator's values. -/
namespace Go.Vm
structure Rd (P : Program) (t : TypeId) {α : Type} (f : α → AV) (ok : α → Prop) : Prop where
  out : ∀ {H : Type} (enc : TypeId × Value → H) (w : World) (sp : Nat → Bool) (held : Bool) (fuel : Nat) (cs : List Value) (x : DataW H × List MemPlace),
    DataW.trod enc P w 0 sp held fuel t cs = some x → ∃ a : α, RepL (fun b => b < w.heap.size) w cs (leaves (f a)) [] ∧ ok a
variable {P : Program} {t e : TypeId}
theorem Rd.mono {α : Type} {f : α → AV} {ok ok' : α → Prop} (h : Rd P t f ok) (hk : ∀ a, ok a → ok' a) : Rd P t f ok' := ⟨fun enc w sp held fuel cs x hx => let ⟨a, h1, h2⟩ := h.out enc w sp held fuel cs x hx; ⟨a, h1, hk a h2⟩⟩
theorem Rd.int {k : IntKind} (ht : P.underlying t = some (.int k)) : Rd P t (fun n : Int => .int k n) (fun n => (Lit.int k n).wf = true) := by
  constructor
  intro H enc w sp held fuel cs x h
  obtain ⟨n, rfl, _, hw⟩ := DataW.trod_int ht h
  exact ⟨n, .int .nil, hw⟩
theorem Rd.bool (ht : P.underlying t = some .bool) : Rd P t (fun b : Bool => .bool b) (fun _ => True) := by
  constructor
  intro H enc w sp held fuel cs x h
  obtain ⟨b, rfl, _⟩ := DataW.trod_bool ht h
  exact ⟨b, .bool .nil, trivial⟩
theorem Rd.str (ht : P.underlying t = some .string) : Rd P t (fun s : ByteArray => .str s) (fun s => s.size ≤ maxLen) := by
  constructor
  intro H enc w sp held fuel cs x h
  obtain ⟨s, rfl, _, hs⟩ := DataW.trod_string ht h
  exact ⟨s, .str .nil, hs⟩
theorem cells_at {w : World} {b o n i c : Nat} {cs : List Value} (h : w.cells? 0 ((⟨b, o, none⟩ : Addr).add (i * c)) n = some cs) : cs.length = n ∧ ∀ q, q < n → w.cell? ⟨b, o + (i * c + q), none⟩ = cs[q]? := by
  obtain ⟨_, h2, h3⟩ := World.cells?_some h
  refine ⟨h2, fun q hq => ?_⟩
  have := h3 q hq
  rw [Go.WideShapes.add_plain, Go.WideShapes.add_plain] at this
  rw [← this, Nat.add_assoc]
theorem Rd.slice {α : Type} {f : α → AV} {ok : α → Prop} (ht : P.underlying t = some (.slice e)) {m : Nat} (hm : P.cellsOf e = m + 1) (he : Rd P e f ok) :
    Rd P t (fun xs : List α => .fro none false (xs.map f)) (fun xs => xs.length ≤ maxLen ∧ ∀ x ∈ xs, ok x) := by
  constructor
  intro H enc w sp held fuel cs x h
  have hpos : 0 < P.cellsOf e := by omega
  rcases DataW.trod_slice ht h with ⟨rfl, _⟩ | ⟨a, len, cap, elems, rest, n, _, rfl, _, _, hl, hm, hlen, hel, _, _⟩
  · exact ⟨[], .fro0 (by simp) .nil, by simp⟩
  cases hz : len with
  | zero => subst hz; exact ⟨[], .fro0 (by simp) .nil, by simp⟩
  | succ len' =>
  have h0 := hel 0 (by omega)
  have hb : ∃ b o, a = ⟨b, o, none⟩ ∧ b < w.heap.size := by
    rw [List.getElem?_eq_getElem (by omega), Option.bind_eq_some_iff] at h0
    obtain ⟨c0, hc0, _⟩ := h0
    obtain ⟨_, h2, h3⟩ := World.cells?_some hc0
    have h3 := h3 0 hpos
    rw [List.getElem?_eq_getElem (by omega)] at h3
    obtain ⟨b, o, spot⟩ := a
    have hs : spot = none := by simpa [Addr.add] using World.cell?_spot h3
    subst hs
    refine ⟨b, o, rfl, ?_⟩
    simp only [Nat.zero_mul, Addr.add, if_true] at h3
    unfold World.cell? at h3
    by_cases hlt : b < w.heap.size
    · exact hlt
    · have hno : w.heap[b]? = none := Array.getElem?_eq_none (by omega)
      simp only [hno] at h3
      simp at h3
  obtain ⟨b, o, rfl, hb⟩ := hb
  have key : ∀ m, m ≤ len → ∃ (l : List α) (us : List Value), l.length = m ∧ us.length = m * P.cellsOf e ∧ (∀ q, q < us.length → w.cell? ⟨b, o + q, none⟩ = us[q]?) ∧
      RepL (fun b => b < w.heap.size) w us ((l.map f).flatMap leaves) [] ∧ ∀ a ∈ l, ok a ∧ (leaves (f a)).length = P.cellsOf e := by
    intro m
    induction m with
    | zero => exact fun _ => ⟨[], [], rfl, by simp, by simp, .nil, by simp⟩
    | succ m ih =>
      intro hm
      obtain ⟨l, us, h1, h2, h3, h4, h5⟩ := ih (by omega)
      have hmel := hel m (by omega)
      rw [List.getElem?_eq_getElem (by omega), Option.bind_eq_some_iff] at hmel
      obtain ⟨cm, hcm, htr⟩ := hmel
      obtain ⟨g1, g2⟩ := cells_at hcm
      obtain ⟨a, ha, hok⟩ := he.out enc w sp held n cm _ htr
      have hla := ha.length
      refine ⟨l ++ [a], us ++ cm, by simp [h1], by rw [List.length_append, h2, g1, Nat.succ_mul], fun q hq => ?_, ?_, fun a' ha' => ?_⟩
      · rw [List.length_append] at hq
        by_cases hlt : q < us.length
        · rw [List.getElem?_append_left hlt, h3 q hlt]
        · rw [List.getElem?_append_right (by omega), ← g2 (q - us.length) (by omega)]
          rw [show o + (m * P.cellsOf e + (q - us.length)) = o + q by omega]
      · rw [List.map_append, List.flatMap_append]
        simpa using h4.append ha
      · rcases List.mem_append.1 ha' with h | h
        · exact h5 a' h
        · simp at h; subst h; exact ⟨hok, by omega⟩
  obtain ⟨l, us, h1, h2, h3, h4, h5⟩ := key len (Nat.le_refl _)
  refine ⟨l, ?_, by omega, fun x hx => (h5 x hx).1⟩
  rw [← hz]
  exact .fro (by simpa using h1) hl (by simp) hb h3 (fun y hy => by obtain ⟨x, hx, rfl⟩ := List.mem_map.1 hy; exact (h5 x hx).2) h4 .nil
end Go.Vm
