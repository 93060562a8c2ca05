/- WALK, or plain laws for it: theorem f<k> says what function k returns. Conditions: none but those ahead of each theorem. -/
import Derived.Test.YtklhdnjhgbglhaaGreatYQN
import Derived.Test.YtklhdnjhgbglhaaGreatYQX
import Derived.Test.YtklhdnjhgbglhaaGreatYQS
import Derived.Test.YtklhdnjhgbglhaaGreatYQV
import Derived.Test.YtklhdnjhgbglhaaGreatYRd
import Derived.Test.YtklhdnjhgbglhaaGreatRows
import Derived.WalkKit
import Derived.ProofKit
import Derived.OpenShut
import Derived.ShutString
import Derived.ChangeOld
import Derived.Below
import Derived.Carry
import Derived.SizedLaws
set_option linter.unusedVariables false
set_option linter.unusedSimpArgs false
open Nat renaming reduceEqDiff → sN1, reduceAdd → sN2, reduceBEq → sN3, reduceLT → sN4, reduceMul → sN5, reduceLeDiff → sN6, reduceSub → sN7
open Int renaming reduceLE → sI1, reduceLT → sI2, reduceEq → sI3
section
open Go Go.Vm Go.Proofs
set_option maxRecDepth 100000
set_option maxHeartbeats 16000000
theorem lastS_lt {h : Hs} (hp : houseP h) : ∀ k : Nat, k < 5 → lastS h.vs k < h.ck + 1 := fun k hk => by
  have h1 : lastS h.vs k = lastV h.vs k 0 := if_pos hp.1
  have h2 := turnV_ge (vs := h.vs) 5 k hk
  have h3 := hp.2.2.1
  omega
theorem safe_same (h : Hs) (who : Int) : safeI h who = safeS h who := by
  by_cases hc : houseP h ∧ (0 ≤ who ∧ who ≤ 3) ∧ h.tx[who.toNat]!.st = 1 ∧ endI h who
  · have e1 : safeI h who = outS (danL (endW h who)) who := if_pos hc
    obtain ⟨hp, hw, hs, ⟨e2, e3, e4⟩⟩ := hc
    have hb : txB h.tx[who.toNat]! h.ck := by
      rcases hp.2.2.2.2.1 who.toNat (by omega) with ⟨a, _⟩ | ⟨a, _⟩ | ⟨_, _, a⟩
      · omega
      · omega
      · exact a
    have e5 : safeS h who = outS (danL (endT h who)) who := if_pos ⟨hp, hw, hs, e2, hp.1, hb.2.2, ⟨by have := hp.2.1; omega, e3⟩, lastS_lt hp, by rw [← wrV_len]; exact e4⟩
    rw [e1, e5]
    rfl
  · have e1 : safeI h who = [] := if_neg hc
    have e5 : safeS h who = [] := if_neg fun ⟨hp, hw, hs, hl, hf⟩ => hc ⟨hp, hw, hs, hl, hf.2.2.1.2, by rw [wrV_len]; exact hf.2.2.2.2⟩
    rw [e1, e5]
theorem outS_len (L : List Int) (who : Int) : (outS L who).length ≤ 4 := outN_length L who 4
theorem safe_len (h : Hs) (who : Int) : (safeS h who).length ≤ 4 := by
  unfold safeS
  split
  · exact outS_len _ _
  · exact Nat.zero_le _
end
section
open Go Go.Vm Go.Proofs
set_option maxRecDepth 100000
set_option maxHeartbeats 16000000
theorem danL_ne {ts : List Tx} (h : danL ts ≠ []) : ∃ a b : Int, a ∈ danL ts ∧ b ∈ danL ts ∧ a ≠ b := by
  unfold danL at h ⊢
  split at h
  · rename_i n hn
    have h1 := List.find?_some hn
    have h2 : danN ts n := of_decide_eq_true h1
    have h3 : n / 16 ≠ n / 4 % 4 := h2.1.1
    exact ⟨((n / 16 : Nat) : Int), ((n / 4 % 4 : Nat) : Int), by simp [threeN], by simp [threeN], by omega⟩
  · exact absurd rfl h
theorem safe_ne {ts : List Tx} {who : Int} : outS (danL ts) who ≠ [] ↔ danL ts ≠ [] := by
  constructor
  · intro h e
    apply h
    rw [e]
    rfl
  · intro h
    obtain ⟨a, b, ha, hb, hab⟩ := danL_ne h
    by_cases hw : a = who
    · have : b ∈ outS (danL ts) who := outS_mem.2 ⟨dan_in ts b hb, hb, fun e => hab (by rw [hw, e])⟩
      intro e; rw [e] at this; simp at this
    · have : a ∈ outS (danL ts) who := outS_mem.2 ⟨dan_in ts a ha, ha, hw⟩
      intro e; rw [e] at this; simp at this
theorem safe_iff {h : Hs} {who n m : Int} (hp : houseP h) (h1 : n = 1 ↔ endK h who) (h2 : endK h who → (m = 2 ↔ danL (endW h who) ≠ [])) : 0 < (safeI h who).length ↔ n = 1 ∧ m = 2 := by
  have hl : 0 < (safeI h who).length ↔ safeI h who ≠ [] := by
    cases safeI h who <;> simp
  rw [hl]
  by_cases he : endK h who
  · have e1 : safeI h who = outS (danL (endW h who)) who := if_pos ⟨hp, he.1, he.2.1, he.2.2⟩
    rw [e1, safe_ne]
    exact ⟨fun z => ⟨h1.2 he, (h2 he).2 z⟩, fun z => (h2 he).1 z.2⟩
  · have e1 : safeI h who = [] := if_neg fun z => he ⟨z.2.1, z.2.2.1, z.2.2.2⟩
    rw [e1]
    exact ⟨fun z => absurd rfl z, fun z => absurd (h1.1 z.1) he⟩
theorem safe_out_who (h : Hs) (who : Int) : ¬ who ∈ safeI h who := by
  unfold safeI
  split
  · intro z
    exact (outS_mem.1 z).2.2 rfl
  · simp
theorem f5 (xs : List UInt8) (hl : xs.length ≤ 9223372036854775807) : Fx 5 [.fro none false (xs.map bA)] (.bool true) := by
  refine fn_of ⟨true, [], []⟩ Tryz.func5 (by kernel_rfl) rfl (by kernel_rfl) (by kernel_rfl) (Nat.le_of_ble_eq_true rfl) rfl fun Q hQ => ?_
  simp only [vmA, sN1, reduceIte, sN2, sN3, reduceCtorEq, sN4, sI1, sI2, sI3, sN5, sN6, List.length_map]
  refine ⟨fun g => ?_, fun g => callR (f31 xs hl) ?_⟩
  · (refine hQ _ ?_; simp only [vmA, sN1, reduceIte, sN2, sN3, reduceCtorEq, sN4, sI1, sI2, sI3, sN5, sN6, Tryz.f5, retG, resL, St.closeVs, St.closeV])
  rintro _ _ ⟨h, who, rfl, hp, rfl⟩
  have ho := okH_P hp
  have fI := f32 h who ho
  have fS := f34 h who ho
  rw [← safe_same] at fS
  have hnw := safe_out_who h who
  have hlen : (safeI h who).length ≤ 4 := by rw [safe_same]; exact safe_len h who
  have key : ∀ n m : Int, (n = 1 ↔ endK h who) → (endK h who → (m = 2 ↔ danL (endW h who) ≠ [])) → (0 < (safeI h who).length ↔ n = 1 ∧ m = 2) := fun n m h1 h2 => safe_iff hp h1 h2
  generalize safeI h who = L at fI fS key hnw hlen
  cases hb : hasFro (AV.tup [hA h, .int .i64 who])
  all_goals
    first | simp only [behind_nf hb] | simp only [behind_yes hb]
    simp only [vmA, sN1, reduceIte, sN2, sN3, reduceCtorEq, sN4, sI1, sI2, sI3, sN5, sN6, hA, Option.bind_none, List.length_map, freezeL, lentOf]
    refine callD fI ?_
    simp only [vmA, sN1, reduceIte, sN2, sN3, reduceCtorEq, sN4, sI1, sI2, sI3, sN5, sN6, hA, Option.bind_none, List.length_map, behind_nf, hasFro, hasFroL_iA, take_map_len]
    refine callD fS ?_
    simp only [vmA, sN1, reduceIte, sN2, sN3, reduceCtorEq, sN4, sI1, sI2, sI3, sN5, sN6, hA, Option.bind_none, List.length_map, behind_nf, hasFro, hasFroL_iA, take_map_len]
    refine callD (f33 L false false (by omega)) ?_
    simp only [vmA, sN1, reduceIte, sN2, sN3, reduceCtorEq, sN4, sI1, sI2, sI3, sN5, sN6, hA, Option.bind_none, List.length_map, take_map_len]
    refine callR (f35E h who hp) ?_
    rintro _ _ ⟨n, Z, T, ck, rfl, h1, rfl⟩
    cases hb2 : hasFro (AV.tup [.agg [.own 4 Z, .int .i64 ck, .own 5 T], .int .i64 n])
    all_goals
      first | simp only [behind_nf hb2] | simp only [behind_yes hb2]
      simp only [vmA, sN1, reduceIte, sN2, sN3, reduceCtorEq, sN4, sI1, sI2, sI3, sN5, sN6, hA, Option.bind_none, List.length_map, List.take_length, freezeL, lentOf]
      refine callR (f25E h who hp) ?_
      rintro _ _ ⟨m, Z2, T2, ck2, rfl, h2, rfl⟩
      cases hb3 : hasFro (AV.tup [.agg [.own 4 Z2, .int .i64 ck2, .own 5 T2], .int .i64 m])
      all_goals
        first | simp only [behind_nf hb3] | simp only [behind_yes hb3]
        simp only [vmA, sN1, reduceIte, sN2, sN3, reduceCtorEq, sN4, sI1, sI2, sI3, sN5, sN6, hA, Option.bind_none, List.length_map, List.take_length, freezeL, lentOf, take_map_len]
        have hk := key n m h1 h2
        have e1 : n = 1 → (decide (0 < (L.length : Int)) == decide (m = 2)) = true := fun n1 => by
          by_cases m2 : m = 2
          · rw [decide_eq_true m2, decide_eq_true (Int.natCast_pos.2 (hk.2 ⟨n1, m2⟩))]; rfl
          · rw [decide_eq_false m2, decide_eq_false (fun z => m2 (hk.1 (Int.natCast_pos.1 z)).2)]; rfl
        have e2 : ¬ n = 1 → (decide (0 < (L.length : Int)) == false) = true := fun n1 => by
          rw [decide_eq_false (fun z => n1 (hk.1 (Int.natCast_pos.1 z)).1)]; rfl
        refine ⟨fun n1 => ?_, fun n1 => ?_⟩
        · simp only [e1 n1]
          simp only [vmA, sN1, reduceIte, sN2, sN3, reduceCtorEq, sN4, sI1, sI2, sI3, sN5, sN6, hA, Option.bind_none, List.length_map, take_map_len]
          refine callD (f36 L false who (by omega)) ?_
          simp only [vmA, sN1, reduceIte, sN2, sN3, reduceCtorEq, sN4, sI1, sI2, sI3, sN5, sN6, hA, Option.bind_none, List.length_map, take_map_len, decide_eq_false hnw, behind_nf, hasFro, hasFroL_iA]
          refine callD f19 ?_
          simp only [vmA, sN1, reduceIte, sN2, sN3, reduceCtorEq, sN4, sI1, sI2, sI3, sN5, sN6, hA, Option.bind_none]
          (refine hQ _ ?_; simp only [vmA, sN1, reduceIte, sN2, sN3, reduceCtorEq, sN4, sI1, sI2, sI3, sN5, sN6, Tryz.f5, retG, resL, St.closeVs, St.closeV])
        · simp only [e2 n1]
          simp only [vmA, sN1, reduceIte, sN2, sN3, reduceCtorEq, sN4, sI1, sI2, sI3, sN5, sN6, hA, Option.bind_none, List.length_map, take_map_len]
          refine callD (f36 L false who (by omega)) ?_
          simp only [vmA, sN1, reduceIte, sN2, sN3, reduceCtorEq, sN4, sI1, sI2, sI3, sN5, sN6, hA, Option.bind_none, List.length_map, take_map_len, decide_eq_false hnw, behind_nf, hasFro, hasFroL_iA]
          refine callD f19 ?_
          simp only [vmA, sN1, reduceIte, sN2, sN3, reduceCtorEq, sN4, sI1, sI2, sI3, sN5, sN6, hA, Option.bind_none]
          (refine hQ _ ?_; simp only [vmA, sN1, reduceIte, sN2, sN3, reduceCtorEq, sN4, sI1, sI2, sI3, sN5, sN6, Tryz.f5, retG, resL, St.closeVs, St.closeV])
end
section
namespace Go.Proofs.YtklhdnjhgbglhaaGreat
open Go Go.Vm Go.Proofs Go.ChangeShapes Go.WideShapes Go.ChangeAt Go.RowKit
theorem Rd.conv {P : Program} {t : Nat} {α β : Type} {f : α → AV} {f' : β → AV} {ok : α → Prop} {ok' : β → Prop} (h : Rd P t f ok) (hk : ∀ a, ok a → ∃ b, leaves (f' b) = leaves (f a) ∧ ok' b) : Rd P t f' ok' :=
  ⟨fun enc w sp held fuel cs x hx => let ⟨a, h1, h2⟩ := h.out enc w sp held fuel cs x hx; let ⟨b, h3, h4⟩ := hk a h2; ⟨b, by rw [h3]; exact h1, h4⟩⟩
theorem rdByte : Rd Tryz.prog 5 bA (fun _ => True) := Rd.conv (Rd.int Tryz.underlying5) fun n hn => by
  have hn : 0 ≤ n ∧ n ≤ 255 := by simpa [Lit.wf, IntKind.min, IntKind.max, IntKind.signed, IntKind.bits] using hn
  refine ⟨UInt8.ofNat n.toNat, ?_, trivial⟩
  have : ((UInt8.ofNat n.toNat).toNat : Int) = n := by rw [UInt8.toNat_ofNat']; omega
  show [AV.int .u8 ((UInt8.ofNat n.toNat).toNat : Int)] = [AV.int .u8 n]
  rw [this]
theorem rdBytes : Rd Tryz.prog 22 (fun xs : List UInt8 => .fro none false (xs.map bA)) (fun xs => xs.length ≤ 9223372036854775807) := (Rd.slice Tryz.underlying22 (show Tryz.prog.cellsOf 5 = 0 + 1 by kernel_rfl) rdByte).mono fun a h => by have := h.1; unfold maxLen at this; omega
theorem fnSafeWith.law (xs : List UInt8) (h : xs.length ≤ 9223372036854775807) : Fx 5 [.fro none false (xs.map bA)] (.bool true) := f5 xs h
end Go.Proofs.YtklhdnjhgbglhaaGreat
end
