/- The plain law of versions: what is written at a later time. -/
import Derived.Test.YtickagjmjlnabaaGreatXN8
open Go Go.Vm Go.Proofs
set_option linter.unusedVariables false
def killV (ks : List Int) (t : Int) (v : Ver) : Ver := if v.died = 0 ∧ v.key ∈ ks then { v with died := t } else v
def newsV (ws : List Wr) (t : Int) : List Ver := (ws.filter fun w => !w.gone).map fun w => ⟨w.key, t, 0, w.row⟩
def outV (vs : List Ver) (ws : List Wr) (t : Int) : List Ver := vs.map (killV (ws.map Wr.key) t) ++ newsV ws t
/-- Writes as they may be. -/
structure GoodW (ws : List Wr) : Prop where
  ord : ws.Pairwise fun a b => a.key < b.key
  one : ∀ w ∈ ws, (0 ≤ w.key ∧ w.key ≤ 4) ∧ rowP w.row ∧ okR w.row
theorem outV_one {T t : Int} {vs : List Ver} {ws : List Wr} (hg : Good T vs) (hw : GoodW ws) (ht : T < t) (h1 : 1 ≤ t) : ∀ v ∈ outV vs ws t, GoodV t v := by
  intro v hv
  rcases List.mem_append.1 hv with h | h
  · obtain ⟨u, hu, rfl⟩ := List.mem_map.1 h
    have g := hg.one u hu
    obtain ⟨g1, g2, g3, g4, g5⟩ := g
    unfold killV
    split
    · exact ⟨g1, ⟨g2.1, by dsimp only; omega⟩, .inr ⟨by dsimp only; omega, by dsimp only; omega⟩, g4, g5⟩
    · exact ⟨g1, ⟨g2.1, by omega⟩, by omega, g4, g5⟩
  · obtain ⟨w, hw', rfl⟩ := List.mem_map.1 h
    have := hw.one w (List.mem_filter.1 hw').1
    exact ⟨this.1, ⟨h1, Int.le_refl _⟩, .inl rfl, this.2.1, this.2.2⟩
theorem outV_cmp {T t : Int} {vs : List Ver} {ws : List Wr} (hg : Good T vs) (hw : GoodW ws) (ht : T < t) : (outV vs ws t).Pairwise fun a b => vlt a b ∨ vlt b a := by
  refine List.pairwise_append.2 ⟨?_, ?_, ?_⟩
  · refine List.pairwise_map.2 (hg.ord.imp fun {a b} h => .inl ?_)
    unfold vlt killV at *
    split <;> split <;> (try dsimp only) <;> omega
  · refine List.pairwise_map.2 ((hw.ord.sublist (List.filter_sublist)).imp fun {a b} h => .inl (.inl h))
  · intro a ha b hb
    obtain ⟨u, hu, rfl⟩ := List.mem_map.1 ha
    obtain ⟨w, hw', rfl⟩ := List.mem_map.1 hb
    have g := hg.one u hu
    obtain ⟨g1, g2, g3, g4, g5⟩ := g
    have hm : w.key ∈ ws.map Wr.key := List.mem_map.2 ⟨w, (List.mem_filter.1 hw').1, rfl⟩
    unfold vlt killV
    by_cases hk : u.key = w.key
    · by_cases hd : u.died = 0
      · rw [if_pos ⟨hd, by rw [hk]; exact hm⟩]; dsimp only; omega
      · rw [if_neg (fun h => hd h.1)]; dsimp only; omega
    · split <;> (try dsimp only) <;> omega
def lexV (a b : Ver) : Prop := a.key < b.key ∨ (a.key = b.key ∧ a.born ≤ b.born)
theorem sortV_good {t : Int} {rs out : List Ver} (hp : rs.Perm out) (hc : out.Pairwise fun a b => vlt a b ∨ vlt b a) (ho : ∀ v ∈ out, GoodV t v) (ht : t ≤ 40) (hl : out.length ≤ 60) (hs : rs.Pairwise lexV) : Good t rs := by
  refine ⟨ht, fun v hv => ho v (hp.mem_iff.1 hv), ?_, by rw [hp.length_eq]; exact hl⟩
  have h1 : rs.Pairwise fun a b => vlt a b ∨ vlt b a := (hp.pairwise_iff fun {x y} h => h.symm).2 hc
  refine (h1.and hs).imp fun {a b} h => ?_
  obtain ⟨h2, h3⟩ := h
  unfold vlt lexV at *
  omega
/-- At most one is there at a time. -/
theorem live_one {T : Int} {vs : List Ver} (hg : Good T vs) {k t : Int} {a b : Ver} (ha : a ∈ vs) (hb : b ∈ vs) (la : liveAt k t a) (lb : liveAt k t b) : a = b := by
  obtain ⟨i, hi, rfl⟩ := List.mem_iff_getElem.1 ha
  obtain ⟨j, hj, rfl⟩ := List.mem_iff_getElem.1 hb
  have ho := List.pairwise_iff_getElem.1 hg.ord
  unfold liveAt at la lb
  rcases Nat.lt_trichotomy i j with h | h | h
  · have := ho i j hi hj h
    unfold vlt at this
    omega
  · subst h; rfl
  · have := ho j i hj hi h
    unfold vlt at this
    omega
theorem find_live {T : Int} {vs : List Ver} (hg : Good T vs) {k t : Int} {r : List Val} : (vs.find? (fun v => decide (liveAt k t v))).map Ver.row = some r ↔ ∃ v ∈ vs, liveAt k t v ∧ v.row = r := by
  constructor
  · intro h
    obtain ⟨v, hv, rfl⟩ := Option.map_eq_some_iff.1 h
    exact ⟨v, List.mem_of_find?_eq_some hv, by simpa using List.find?_some hv, rfl⟩
  · rintro ⟨v, hv, hl, rfl⟩
    cases hf : vs.find? (fun v => decide (liveAt k t v)) with
    | none => exact absurd (List.find?_eq_none.1 hf v hv) (by simp [hl])
    | some u =>
      have := live_one hg (List.mem_of_find?_eq_some hf) hv (by simpa using List.find?_some hf) hl
      rw [this]; rfl
/-- What was there at an earlier time is there still. -/
theorem rows_same {T t : Int} {vs rs : List Ver} {ws : List Wr} (hg : Good T vs) (hr : Good t rs) (hp : rs.Perm (outV vs ws t)) (ht : T < t) {s : Int} (hs : s < t) (n : Nat) : rowsT rs s n = rowsT vs s n := by
  unfold rowsT
  congr 1
  funext k
  have key : ∀ r, (rs.find? (fun v => decide (liveAt (k : Int) s v))).map Ver.row = some r ↔ (vs.find? (fun v => decide (liveAt (k : Int) s v))).map Ver.row = some r := by
    intro r
    rw [find_live hr, find_live hg]
    constructor
    · rintro ⟨v, hv, hl, rfl⟩
      rcases List.mem_append.1 (hp.mem_iff.1 hv) with h | h
      · obtain ⟨u, hu, rfl⟩ := List.mem_map.1 h
        refine ⟨u, hu, ?_, ?_⟩
        · unfold liveAt killV at *
          split at hl
          · dsimp only at hl; omega
          · exact hl
        · unfold killV; split <;> rfl
      · obtain ⟨w, _, rfl⟩ := List.mem_map.1 h
        unfold liveAt at hl
        dsimp only at hl
        omega
    · rintro ⟨v, hv, hl, rfl⟩
      refine ⟨killV (ws.map Wr.key) t v, hp.mem_iff.2 (List.mem_append_left _ (List.mem_map.2 ⟨v, hv, rfl⟩)), ?_, ?_⟩
      · unfold liveAt killV at *
        split
        · dsimp only; omega
        · exact hl
      · unfold killV; split <;> rfl
  cases h : (vs.find? (fun v => decide (liveAt (k : Int) s v))).map Ver.row with
  | some r => exact (key r).2 h
  | none =>
    cases h2 : (rs.find? (fun v => decide (liveAt (k : Int) s v))).map Ver.row with
    | none => rfl
    | some r => rw [(key r).1 h2] at h; cases h
