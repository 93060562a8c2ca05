/- WALK, or plain laws for it: theorem f<k> says what function k returns. Conditions: none but those ahead of each theorem. -/
import Derived.Test.YtklhdnjhgbglhaaGreatYH11
import Derived.Test.YtklhdnjhgbglhaaGreatYLib6
set_option linter.unusedVariables false
set_option linter.unusedSimpArgs false
open Go Go.Vm Go.Proofs
set_option maxRecDepth 100000
set_option maxHeartbeats 8000000
set_option maxHeartbeats 16000000
theorem f71F (h : Hs) (m : Mv) (hp : houseP h) (hm : okR m.row) (hm2 : m.row.length ≤ 1048576) : FxR 70 [hA h, mA m] fun r l => ∃ (h' : Hs) (n : Int), r = .tup [hF h', .int .i64 n] ∧ houseP h' ∧ l = .und := by
  have h1 := f70 h m hp hm hm2
  refine FxR.wkR (R := _) ⟨h1.1, DoesR.froI h1.2⟩ ?_
  rintro r l ⟨r0, ⟨h', n, r1, rfl, e, hp', rfl⟩, rfl⟩
  refine ⟨h', n, ?_, hp', rfl⟩
  rw [← e]
  rfl
theorem froize_hF (h : Hs) : froize (hF h) = hA h := by simp only [hF, froize, froizeL, froizeL_eq, hA, map_froize_gA, map_froize_xA]
theorem f71A (h : Hs) (m : Mv) (hp : houseP h) (hm : okR m.row) (hm2 : m.row.length ≤ 1048576) : FxR 70 [hA h, mA m] fun r l => ∃ (h' : Hs) (n : Int), r = .tup [hA h', .int .i64 n] ∧ houseP h' ∧ l = .und := by
  have h1 := f71F h m hp hm hm2
  refine FxR.mono (R := _) ⟨h1.1, DoesR.froA h1.2⟩ ?_
  rintro r l ⟨r0, ⟨h', n, rfl, hp', rfl⟩, rfl⟩
  exact ⟨h', n, by simp only [froR, List.map_cons, List.map_nil, froize_hF]; rfl, hp', rfl⟩
theorem f70A (h : Hs) (hp : houseP h) : FxR 92 [hA h] fun r l => r = hA h ∧ l = .und := by
  have ho := okH_P hp
  have h1 := f70F h ho.n ho.len (by have := hp.2.2.2.1; omega) (okH_smX hp) (by have := hp.2.2.2.1; omega)
  refine FxR.mono (R := _) ⟨h1.1, DoesR.froA h1.2⟩ ?_
  rintro r l ⟨r0, ⟨rfl, rfl⟩, rfl⟩
  exact ⟨by simp only [hF, froR]; exact froize_hF h, rfl⟩
instance : Inhabited Mv := ⟨⟨0, 0, 0, []⟩⟩
def hI (b : Bool) (h : Hs) : AV := if b then hA h else hF h
