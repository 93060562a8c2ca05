/- Structs that are compared. -/
import Derived.Test.YtfimolakepbdbaaWStep
import Derived.Laws.StructEq
namespace Go.Vm

def fieldsOk (P : Program) : List Field → List TD → Nat → Bool
  | [], [], _ => true
  | f :: fs, k :: ks, i => !(f.name == "_") && decide (f.offset = i) && (match k, P.underlying f.type with
    | .int k, some (.int k') => decide (k = k')
    | .bool, some .bool => true
    | .string, some .string => true
    | _, _ => false) && fieldsOk P fs ks (i + 1)
  | _, _, _ => false

theorem run_part_scalar {P : Program} {t : TypeId} {u : TypeDesc} (hu : P.underlying t = some u) (hn : u.isRow = false) {cs : Array Value} {i : Nat} {v : Value} (hv : cs[i]? = some v) (w : World) : (part t cs i).run P w = .ok v w := by
  unfold part isAgg
  simp only [Sem.run_bind, run_underlying hu, Result.andThen_ok]
  cases u <;> simp_all

theorem eqFields_ok {P : Program} {d : Nat} {w : World} {xs ys : Array Value} : ∀ {fs : List Field} {ks : List TD} {i : Nat} {p q : List AV} {r : Bool}, fieldsOk P fs ks i = true → kindsOk ks p = true → kindsOk ks q = true →
    (∀ j x, p[j]? = some x → xs[i + j]? = some (toV x)) → (∀ j x, q[j]? = some x → ys[i + j]? = some (toV x)) → eqCells p q = some r → (Op.eqFields (d + 1) xs ys fs).run P w = .ok r w
  | [], ks, i, p, q, r, hf, hp, hq, _, _, hr => by
    cases ks with
    | cons => simp [fieldsOk] at hf
    | nil =>
      cases p <;> cases q <;> simp [kindsOk] at hp hq
      simp only [eqCells, Option.some.injEq] at hr
      subst hr
      simp [Op.eqFields]
  | f :: fs, ks, i, p, q, r, hf, hp, hq, hx, hy, hr => by
    cases ks with
    | nil => simp [fieldsOk] at hf
    | cons k ks =>
      cases p with
      | nil => simp [kindsOk] at hp
      | cons a p =>
      cases q with
      | nil => simp [kindsOk] at hq
      | cons b q =>
      simp only [fieldsOk, Bool.and_eq_true, Bool.not_eq_true', decide_eq_true_eq] at hf
      obtain ⟨⟨⟨hn, ho⟩, hk⟩, hf⟩ := hf
      simp only [kindsOk, Bool.and_eq_true] at hp hq
      simp only [eqCells, Option.bind_eq_bind, Option.bind_eq_some_iff] at hr
      obtain ⟨r1, h1, r2, h2, hr⟩ := hr
      cases hr
      have ih := eqFields_ok (d := d) (w := w) hf hp.2 hq.2 (fun j x hj => by have := hx (j + 1) x (by simpa using hj); rwa [show i + (j + 1) = i + 1 + j by omega] at this) (fun j x hj => by have := hy (j + 1) x (by simpa using hj); rwa [show i + (j + 1) = i + 1 + j by omega] at this) h2
      have ha := hx 0 a rfl
      have hb := hy 0 b rfl
      rw [Nat.add_zero] at ha hb
      have hn' : f.name ≠ "_" := by simpa using hn
      have key : ∃ u, P.underlying f.type = some u ∧ u.isRow = false ∧ (Op.equalIn (d + 1) f.type (toV a) (toV b)).run P w = .ok r1 w := by
        split at hk
        · rename_i k1 k2 hu
          simp only [decide_eq_true_eq] at hk
          cases a <;> simp only [kindOk, Bool.false_eq_true, false_and] at hp
          cases b <;> simp only [kindOk, Bool.false_eq_true, false_and] at hq
          refine ⟨_, hu, rfl, ?_⟩
          rename_i ka na kb nb
          have e1 : k1 = ka := by simpa using hp.1
          have e2 : k1 = kb := by simpa using hq.1
          subst e1 e2
          simp only [eqCell, if_true, Option.some.injEq] at h1
          subst h1
          exact run_equalIn_int w d f.type _ _ _ _ hu
        · rename_i hu
          cases a <;> simp only [kindOk, Bool.false_eq_true, false_and] at hp
          cases b <;> simp only [kindOk, Bool.false_eq_true, false_and] at hq
          refine ⟨_, hu, rfl, ?_⟩
          simp only [eqCell, Option.some.injEq] at h1
          subst h1
          exact run_equalIn_bool' w d f.type _ _ hu
        · rename_i hu
          cases a <;> simp only [kindOk, Bool.false_eq_true, false_and] at hp
          cases b <;> simp only [kindOk, Bool.false_eq_true, false_and] at hq
          refine ⟨_, hu, rfl, ?_⟩
          simp only [eqCell, Option.some.injEq] at h1
          subst h1
          have := run_equalIn_string (P := P) w d f.type
          simp only [toV]
          rw [this _ _ hu, beq_toListBytes]
        · cases hk
      obtain ⟨u, hu, hrow, heq⟩ := key
      rw [Op.eqFields]
      simp only [if_pos hn', Sem.run_bind, ho, run_part_scalar hu hrow ha, run_part_scalar hu hrow hb, Result.andThen_ok, heq]
      cases r1
      · simp
      · simpa using ih

theorem eqCells_length : ∀ {p q : List AV} {r : Bool}, eqCells p q = some r → p.length = q.length
  | [], [], _, _ => rfl
  | [], _ :: _, _, h => by simp [eqCells] at h
  | _ :: _, [], _, h => by simp [eqCells] at h
  | _ :: p, _ :: q, r, h => by
    simp only [eqCells, Option.bind_eq_bind, Option.bind_eq_some_iff] at h
    obtain ⟨_, _, _, h2, _⟩ := h
    simp [eqCells_length h2]

theorem EqOk.of {P : Program} {t : TypeId} {ks : List TD} {fs : Array Field} (hu : P.underlying t = some (.struct fs)) (hg : P.eqGuardType P.depth t = false) (hs : P.stoodInHeld t = false) (hf : fieldsOk P fs.toList ks 0 = true) : EqOk P t ks := by
  refine ⟨fun op x y xs ys w => run_eqGuard_agg w op t x y xs ys hg, fun p q r w hp hq hr => ?_⟩
  have e : P.fieldsOf t = fs := by simp [Program.fieldsOf, hu]
  unfold Op.equal
  rw [show Op.maxDepth = 9998 + 1 + 1 from rfl, run_equalIn_struct (P := P) w (9998 + 1) t _ _ (by rw [e]; exact hu) hs, e]
  exact eqFields_ok hf hp hq (fun j x hj => by simp [hj]) (fun j x hj => by simp [hj]) hr

theorem bytes_beq (a b : ByteArray) : (a.toList == b.toList) = decide (a = b) := by
  rw [ByteArray.toList_eq, ByteArray.toList_eq]
  obtain ⟨⟨x⟩⟩ := a
  obtain ⟨⟨y⟩⟩ := b
  by_cases h : x = y
  · subst h; simp
  · have h2 : ¬ ((⟨⟨x⟩⟩ : ByteArray) = ⟨⟨y⟩⟩) := fun he => h (by cases he; rfl)
    simp [h]
theorem binStr_eql (a b : ByteArray) : binStr .eql a b = some (.bool (decide (a = b))) := by simp only [binStr, bytes_beq]
theorem binStr_neq (a b : ByteArray) : binStr .neq a b = some (.bool (decide (¬ a = b))) := by
  simp only [binStr, bytes_beq]
  by_cases h : a = b <;> simp [h]
theorem eqCell_str (a b : ByteArray) : eqCell (.str a) (.str b) = some (decide (a = b)) := by
  simp only [eqCell, beq_toListBytes, bytes_beq]
theorem eqCell_int (k : IntKind) (a b : Int) : eqCell (.int k a) (.int k b) = some (decide (a = b)) := by
  simp only [eqCell, if_true]
  congr 1

end Go.Vm
