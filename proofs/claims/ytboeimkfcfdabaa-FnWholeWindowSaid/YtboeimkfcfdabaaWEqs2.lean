/- Structs with structs inside, compared. -/
import Derived.Test.YtboeimkfcfdabaaWLib6
set_option linter.unusedSimpArgs false
set_option linter.unusedVariables false
namespace Go.Vm
def szT (P : Program) (t : TypeId) : Nat := match P.info? t with
  | some i => i.size
  | none => 0
def fieldsOk2 (P : Program) : Nat → List Field → List TD → Nat → Bool
  | 0, _, _, _ => false
  | _ + 1, [], [], _ => true
  | _ + 1, [], _ :: _, _ => false
  | m + 1, f :: fs, ks, i => !(f.name == "_") && decide (f.offset = i) && (match P.underlying f.type with
    | some (.struct gs) => !P.stoodInHeld f.type && (P.info? f.type).isSome && decide (szT P f.type ≤ ks.length) && fieldsOk P gs.toList (ks.take (szT P f.type)) 0 && fieldsOk2 P m fs (ks.drop (szT P f.type)) (i + szT P f.type)
    | _ => match ks with
      | k :: ks => fieldsOk P [f] [k] i && fieldsOk2 P m fs ks (i + 1)
      | [] => false)
theorem run_part_struct {P : Program} {t : TypeId} {gs : Array Field} (hu : P.underlying t = some (.struct gs)) (hi : (P.info? t).isSome = true) (cs : Array Value) (off : Nat) (w : World) : (part t cs off).run P w = .ok (.agg (cs.extract off (off + szT P t))) w := by
  obtain ⟨i, hi⟩ := Option.isSome_iff_exists.1 hi
  simp [part, isAgg, run_underlying hu, sizeOf, typeInfo, hi, szT, Result.andThen]
theorem kindsOk_take : ∀ {n : Nat} {ks : List TD} {p : List AV}, kindsOk ks p = true → kindsOk (ks.take n) (p.take n) = true ∧ kindsOk (ks.drop n) (p.drop n) = true
  | 0, ks, p, h => ⟨by simp [kindsOk], by simpa using h⟩
  | n + 1, [], [], h => ⟨by simp [kindsOk], by simp [kindsOk]⟩
  | n + 1, [], _ :: _, h => by simp [kindsOk] at h
  | n + 1, _ :: _, [], h => by simp [kindsOk] at h
  | n + 1, k :: ks, a :: p, h => by
    simp only [kindsOk, Bool.and_eq_true] at h
    have ih := kindsOk_take (n := n) h.2
    exact ⟨by simp only [List.take_succ_cons, kindsOk, h.1, ih.1, Bool.and_self], by simpa using ih.2⟩
theorem kindsOk_len : ∀ {ks : List TD} {p : List AV}, kindsOk ks p = true → p.length = ks.length
  | [], [], _ => rfl
  | [], _ :: _, h => by simp [kindsOk] at h
  | _ :: _, [], h => by simp [kindsOk] at h
  | k :: ks, a :: p, h => by
    simp only [kindsOk, Bool.and_eq_true] at h
    simp [kindsOk_len h.2]
theorem eqCells_take : ∀ {n : Nat} {p q : List AV} {r : Bool}, eqCells p q = some r → ∃ r1 r2, eqCells (p.take n) (q.take n) = some r1 ∧ eqCells (p.drop n) (q.drop n) = some r2 ∧ r = (r1 && r2)
  | 0, p, q, r, h => ⟨true, r, by simp [eqCells], by simpa using h, by simp⟩
  | n + 1, [], [], r, h => by
    simp only [eqCells, Option.some.injEq] at h
    exact ⟨true, true, by simp [eqCells], by simp [eqCells], by simp [← h]⟩
  | n + 1, [], _ :: _, r, h => by simp [eqCells] at h
  | n + 1, _ :: _, [], r, h => by simp [eqCells] at h
  | n + 1, a :: p, b :: q, r, h => by
    simp only [eqCells, Option.bind_eq_bind, Option.bind_eq_some_iff] at h
    obtain ⟨r1, h1, r2, h2, hr⟩ := h
    cases hr
    obtain ⟨s1, s2, i1, i2, rfl⟩ := eqCells_take (n := n) h2
    exact ⟨r1 && s1, s2, by simp [eqCells, h1, i1], by simpa using i2, by rw [Bool.and_assoc]⟩
theorem eqFields_ok2 {P : Program} {d : Nat} {w : World} {xs ys : Array Value} : ∀ {m : Nat} {fs : List Field} {ks : List TD} {i : Nat} {p q : List AV} {r : Bool}, fieldsOk2 P m fs ks i = true → kindsOk ks p = true → kindsOk ks q = true →
    (∀ j x, p[j]? = some x → xs[i + j]? = some (toV x)) → (∀ j x, q[j]? = some x → ys[i + j]? = some (toV x)) → eqCells p q = some r → (Op.eqFields (d + 1 + 1) xs ys fs).run P w = .ok r w
  | 0, _, _, _, _, _, _, hf, _, _, _, _, _ => by simp [fieldsOk2] at hf
  | m + 1, [], ks, i, p, q, r, hf, hp, hq, _, _, hr => by
    cases ks with
    | cons => simp [fieldsOk2] at hf
    | nil =>
      cases p <;> cases q <;> simp [kindsOk] at hp hq
      simp only [eqCells, Option.some.injEq] at hr
      subst hr
      simp [Op.eqFields]
  | m + 1, f :: fs, ks, i, p, q, r, hf, hp, hq, hx, hy, hr => by
    simp only [fieldsOk2, Bool.and_eq_true, Bool.not_eq_true', decide_eq_true_eq] at hf
    obtain ⟨⟨hn, ho⟩, hk⟩ := hf
    have hn' : f.name ≠ "_" := by simpa using hn
    split at hk
    · rename_i gs hu
      simp only [Bool.and_eq_true, Bool.not_eq_true', decide_eq_true_eq] at hk
      obtain ⟨⟨⟨⟨hs, hi⟩, hle⟩, hg⟩, hf⟩ := hk
      obtain ⟨k1, k2⟩ := kindsOk_take (n := szT P f.type) hp
      obtain ⟨k3, k4⟩ := kindsOk_take (n := szT P f.type) hq
      obtain ⟨r1, r2, h1, h2, rfl⟩ := eqCells_take (n := szT P f.type) hr
      have hpl := kindsOk_len hp
      have hql := kindsOk_len hq
      have ih := eqFields_ok2 (d := d) (w := w) hf k2 k4 (fun j x hj => by
          have := hx (szT P f.type + j) x (by simpa [List.getElem?_drop] using hj)
          rwa [← Nat.add_assoc] at this) (fun j x hj => by
          have := hy (szT P f.type + j) x (by simpa [List.getElem?_drop] using hj)
          rwa [← Nat.add_assoc] at this) h2
      have ext : ∀ {zs : Array Value} {o : List AV}, o.length = ks.length → (∀ j x, o[j]? = some x → zs[i + j]? = some (toV x)) → ∀ j x, (o.take (szT P f.type))[j]? = some x → (zs.extract i (i + szT P f.type))[0 + j]? = some (toV x) := fun {zs o} hl hz j x hj => by
        rw [List.getElem?_take] at hj
        split at hj
        · rename_i hjl
          have h3 := hz j x hj
          have hlt := (Array.getElem?_eq_some_iff.1 h3).1
          rw [Nat.zero_add, Array.getElem?_extract]
          rw [if_pos (by
            have hall := hz (szT P f.type - 1) (o[szT P f.type - 1]'(by omega)) (List.getElem?_eq_getElem (by omega))
            have := (Array.getElem?_eq_some_iff.1 hall).1
            omega)]
          exact h3
        · cases hj
      have e : P.fieldsOf f.type = gs := by simp [Program.fieldsOf, hu]
      have heq : (Op.equalIn (d + 1 + 1) f.type (.agg (xs.extract i (i + szT P f.type))) (.agg (ys.extract i (i + szT P f.type)))).run P w = .ok r1 w := by
        rw [run_equalIn_struct (P := P) w (d + 1) f.type _ _ (by rw [e]; exact hu) hs, e]
        exact eqFields_ok hg k1 k3 (ext hpl hx) (ext hql hy) h1
      rw [Op.eqFields]
      simp only [if_pos hn', Sem.run_bind, ho, run_part_struct hu hi, Result.andThen_ok, heq]
      cases r1
      · simp
      · simpa using ih
    · cases ks with
      | nil => simp at hk
      | cons k ks =>
      simp only [Bool.and_eq_true] at hk
      obtain ⟨hk, hf⟩ := hk
      cases p with
      | nil => simp [kindsOk] at hp
      | cons a p =>
      cases q with
      | nil => simp [kindsOk] at hq
      | cons b q =>
      simp only [kindsOk, Bool.and_eq_true] at hp hq
      simp only [eqCells, Option.bind_eq_bind, Option.bind_eq_some_iff] at hr
      obtain ⟨r1, h1, r2, h2, hr⟩ := hr
      cases hr
      have ih := eqFields_ok2 (d := d) (w := w) hf hp.2 hq.2 (fun j x hj => by have := hx (j + 1) x (by simpa using hj); rwa [show i + (j + 1) = i + 1 + j by omega] at this) (fun j x hj => by have := hy (j + 1) x (by simpa using hj); rwa [show i + (j + 1) = i + 1 + j by omega] at this) h2
      have one := eqFields_ok (P := P) (d := d + 1) (w := w) (xs := xs) (ys := ys) (fs := [f]) (ks := [k]) (i := i) (p := [a]) (q := [b]) (r := r1) hk (by simp [kindsOk, hp.1]) (by simp [kindsOk, hq.1])
        (fun j x hj => by
          cases j with
          | zero => exact hx 0 x (by simpa using hj)
          | succ j => simp at hj) (fun j x hj => by
          cases j with
          | zero => exact hy 0 x (by simpa using hj)
          | succ j => simp at hj) (by simp [eqCells, h1])
      rw [Op.eqFields] at one ⊢
      simp only [if_pos hn', Sem.run_bind] at one ⊢
      revert one
      cases hA : (part f.type xs f.offset).run P w <;> simp only [Result.andThen] <;> try (intro one; cases one; done)
      rename_i va wa
      cases hB : (part f.type ys f.offset).run P wa <;> simp only [Result.andThen] <;> try (intro one; cases one; done)
      rename_i vb wb
      cases hC : (Op.equalIn (d + 1 + 1) f.type va vb).run P wb <;> simp only [Result.andThen] <;> try (intro one; cases one; done)
      rename_i vc wc
      cases vc
      · intro one
        simp at one ⊢
        obtain ⟨rfl, rfl⟩ := one
        simp
      · intro one
        simp [Op.eqFields] at one ⊢
        obtain ⟨rfl, rfl⟩ := one
        simpa using ih
theorem EqOk.of2 {P : Program} {t : TypeId} {ks : List TD} {fs : Array Field} (hu : P.underlying t = some (.struct fs)) (hg : P.eqGuardType P.depth t = false) (hs : P.stoodInHeld t = false) (hf : fieldsOk2 P 100 fs.toList ks 0 = true) : EqOk P t ks := by
  refine ⟨fun op x y xs ys w => run_eqGuard_agg w op t x y xs ys hg, fun p q r w hp hq hr => ?_⟩
  have e : P.fieldsOf t = fs := by simp [Program.fieldsOf, hu]
  unfold Op.equal
  rw [show Op.maxDepth = 9997 + 1 + 1 + 1 from rfl, run_equalIn_struct (P := P) w (9997 + 1 + 1) t _ _ (by rw [e]; exact hu) hs, e]
  exact eqFields_ok2 hf hp hq (fun j x hj => by simp [hj]) (fun j x hj => by simp [hj]) hr
end Go.Vm
