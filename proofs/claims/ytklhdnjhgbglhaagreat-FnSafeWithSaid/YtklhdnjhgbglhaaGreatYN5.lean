/- WALK, or plain laws for it: theorem f<k> says what function k returns. Conditions: none but those ahead of each theorem. -/
import Derived.Test.YtklhdnjhgbglhaaGreatYN4
set_option linter.unusedVariables false
set_option linter.unusedSimpArgs false
open Nat renaming reduceEqDiff → sN1, reduceAdd → sN2, reduceBEq → sN3, reduceLT → sN4, reduceMul → sN5, reduceLeDiff → sN6, reduceSub → sN7
open Int renaming reduceLE → sI1, reduceLT → sI2, reduceEq → sI3
open Go Go.Vm Go.Proofs
set_option maxRecDepth 100000
set_option maxHeartbeats 8000000
set_option maxHeartbeats 8000000
section
variable {β : Type} [Inhabited β]
def SegOk (lt : β → β → Prop) (zs l : List β) (a b : Nat) : Prop := (∀ p, a ≤ p → p < b → ∃ k, a ≤ k ∧ k < b ∧ l[p]! = zs[k]!) ∧ Asc lt a b l
theorem SegOk.same {lt : β → β → Prop} {zs l r : List β} {a b : Nat} (h : SegOk lt zs l a b) (hs : ∀ p, a ≤ p → p < b → r[p]! = l[p]!) : SegOk lt zs r a b :=
  ⟨fun p h1 h2 => by rw [hs p h1 h2]; exact h.1 p h1 h2, h.2.same hs⟩
inductive DoneR (ok : Nat → Nat → Prop) (B : Nat) : Nat → Prop
  | zero : DoneR ok B 0
  | step {a : Nat} (h : DoneR ok B a) (h2 : ok a (a + B)) : DoneR ok B (a + B)
def Runs (ok : Nat → Nat → Prop) (B n : Nat) : Nat → Nat → Prop
  | 0, a => n ≤ a
  | k + 1, a => (a < n → ok a (min (a + B) n)) ∧ Runs ok B n k (a + B)
theorem DoneR.imp {ok ok' : Nat → Nat → Prop} {B a : Nat} (h : DoneR ok B a) (hi : ∀ x, x + B ≤ a → ok x (x + B) → ok' x (x + B)) : DoneR ok' B a := by
  induction h with
  | zero => exact .zero
  | step h h2 ih => exact .step (ih fun x hx => hi x (by omega)) (hi _ (Nat.le_refl _) h2)
theorem Runs.imp {ok ok' : Nat → Nat → Prop} {B n : Nat} : ∀ {k a : Nat}, Runs ok B n k a → (∀ x, a ≤ x → x < n → ok x (min (x + B) n) → ok' x (min (x + B) n)) → Runs ok' B n k a
  | 0, _, h, _ => h
  | k + 1, a, h, hi => ⟨fun hl => hi a (Nat.le_refl _) hl (h.1 hl), h.2.imp fun x hx => hi x (by omega)⟩
theorem DoneR.runs {ok : Nat → Nat → Prop} {B a n : Nat} (h : DoneR ok B a) : ∀ k, Runs ok B n k a → a ≤ n → ∃ k', Runs ok B n k' 0 := by
  induction h with
  | zero => intro k hk _; exact ⟨k, hk⟩
  | @step a h h2 ih => intro k hk hn; exact ih (k + 1) ⟨fun _ => by rw [Nat.min_eq_left hn]; exact h2, hk⟩ (by omega)
theorem Runs.first {ok : Nat → Nat → Prop} {B n k a : Nat} (h : Runs ok B n k a) (ha : a < n) : ok a (min (a + B) n) ∧ ∃ k', Runs ok B n k' (a + B) := by
  cases k with
  | zero => exact absurd h (by unfold Runs; omega)
  | succ k => exact ⟨h.1 ha, k, h.2⟩
end
set_option maxHeartbeats 8000000 in
theorem f223 (zs : List (Nat × Ver)) (cf : (Nat × Ver) → (Nat × Ver) → Int) (lt : (Nat × Ver) → (Nat × Ver) → Prop) (ht : ∀ x y z, lt x y → lt y z → lt x z) (hc : ∀ x y, x ∈ zs → y ∈ zs → Fx 182 [gA x.2, gA y.2] (.int .i64 (cf x y)))
    (hd : DecA cf lt 0 zs.length zs) (hl : zs.length ≤ 1048576) : FxR 223 [.own 4 (zs.map gT), .int .i64 zs.length, .clo 182 []] fun r l => r = .tup [] ∧ ∃ ys, l = .own 4 (ys.map gT) ∧ ys.Perm zs ∧ Asc lt 0 zs.length ys := by
  refine fn_ofWN false (k := 0) Tryz.func223 (by kernel_rfl) rfl (by kernel_rfl) (by kernel_rfl) (Nat.le_of_ble_eq_true rfl) rfl ⟨_, _, .inl rfl⟩ rfl fun Q hQ hN => ?_
  simp only [tr_seq, tr_block, tr_loop, tr_cond, tr_skip, tr_exit, tr_ret, tr_reg]
  simp only [vmA, sN1, reduceIte, sN2, sN3, reduceCtorEq, sN4, sI1, sI2, sI3, sN5, sN6, List.length_map]
  refine WT_loop (fun (p : Nat × List (Nat × Ver)) σ => (p.1 ≤ zs.length ∧ p.2.Perm zs ∧ DoneR (SegOk lt zs p.2) 20 p.1 ∧ ∀ q, p.1 ≤ q → p.2[q]! = zs[q]!) ∧ σ.sl 0 = .hd 0 1 0 zs.length false ∧ (σ.en 0).live = true ∧ (σ.en 0).gen = 1 ∧ (σ.en 0).frz = false ∧ (σ.en 0).sz = 4 ∧ (σ.en 0).elems = p.2.map gT ∧ σ.sl 1 = .int .i64 zs.length ∧ σ.sl 2 = .clo 182 [] ∧ σ.sl 6 = .int .i64 20 ∧ σ.sl 7 = .int .i64 p.1 ∧ σ.sl 8 = .int .i64 ((p.1 + 20 : Nat) : Int)) (fun p => zs.length - p.1 + 1) (0, zs) ⟨⟨by dsimp only; omega, .refl _, .zero, fun _ _ => rfl⟩, by simp [vmI], by simp [vmI], by simp [vmI], by simp [vmI], by simp [vmI], by simp [vmI], by simp [vmI], by simp [vmI], by simp [vmI], by simp [vmI], by simp [vmI]⟩ ?_
  rintro ⟨a, l⟩ σ ⟨⟨ha, hp, hdn, hsm⟩, e0, l1, l2, l3, l4, l5, e1, e2, e6, e7, e8⟩
  dsimp only at ha hp hdn hsm l5 e7 e8
  have hll := hp.length_eq
  have hcl : ∀ x y, x ∈ l → y ∈ l → Fx 182 [gA x.2, gA y.2] (.int .i64 (cf x y)) := fun x y hx hy => hc x y (hp.mem_iff.1 hx) (hp.mem_iff.1 hy)
  have hdl : ∀ b, b ≤ zs.length → DecA cf lt a b l := fun b hb p q h1 h2 h3 => by
    rw [hsm p h1, hsm q (by omega)]
    exact hd p q (by omega) h2 (by omega)
  simp only [vmA, sN1, reduceIte, sN2, sN3, reduceCtorEq, sN4, sI1, sI2, sI3, sN5, sN6, e0, l1, l2, l3, l4, l5, e1, e2, e6, e7, e8, List.length_map, hll]
  refine ⟨fun hle => ?_, fun hgt => ?_⟩
  · refine callR (f240 l a (a + 20) cf lt ht hcl (hdl _ (by omega)) (by omega) (by omega) (by omega)) ?_
    rintro _ _ ⟨rfl, r, rfl, p1, q1⟩
    have hrl := p1.length
    simp only [vmA, sN1, reduceIte, sN2, sN3, reduceCtorEq, sN4, sI1, sI2, sI3, sN5, sN6, e0, l1, l2, l3, l4, l5, e1, e2, e6, e7, e8, List.length_map, hll, hrl]
    rw [wr (by omega)]
    refine ⟨(a + 20, r), ⟨⟨by dsimp only; omega, p1.perm.trans hp, ?_, fun q hq => ?_⟩, rfl, rfl, leafJ (by dsimp only; omega)⟩, by dsimp only; omega⟩
    · refine .step (hdn.imp fun x hx h => h.same fun p h1 h2 => p1.out p (.inl (by omega))) ⟨fun p h1 h2 => ?_, q1⟩
      obtain ⟨k, k1, k2, k3⟩ := p1.mem p h1 h2
      exact ⟨k, k1, k2, k3.trans (hsm k k1)⟩
    · dsimp only at hq ⊢
      rw [p1.out q (.inr hq), hsm q (by omega)]
  · refine callR (f240 l a zs.length cf lt ht hcl (hdl _ (by omega)) (by omega) (by omega) (by omega)) ?_
    rintro _ _ ⟨rfl, r, rfl, p1, q1⟩
    have hrl := p1.length
    simp only [vmA, sN1, reduceIte, sN2, sN3, reduceCtorEq, sN4, sI1, sI2, sI3, sN5, sN6, e0, l1, l2, l3, l4, l5, e1, e2, e6, e7, e8, List.length_map, hll, hrl]
    have hruns : ∃ k, Runs (SegOk lt zs r) 20 zs.length k 0 := (hdn.imp fun x hx h => h.same fun p h1 h2 => p1.out p (.inl (by omega))).runs 1 ⟨fun _ => by
      rw [Nat.min_eq_right (by omega)]
      refine ⟨fun p h1 h2 => ?_, q1⟩
      obtain ⟨k, k1, k2, k3⟩ := p1.mem p h1 h2
      exact ⟨k, k1, k2, k3.trans (hsm k k1)⟩, by unfold Runs; omega⟩ ha
    have hpr : r.Perm zs := p1.perm.trans hp
    clear hdn hsm hcl hdl q1 p1 hp
    refine WT_loop (fun (p : Nat × List (Nat × Ver)) σ => ((0 < p.1 ∧ p.1 ≤ 2 * zs.length + 20) ∧ p.2.Perm zs ∧ ∃ k, Runs (SegOk lt zs p.2) p.1 zs.length k 0) ∧ σ.sl 0 = .hd 0 1 0 zs.length false ∧ (σ.en 0).live = true ∧ (σ.en 0).gen = 1 ∧ (σ.en 0).frz = false ∧ (σ.en 0).sz = 4 ∧ (σ.en 0).elems = p.2.map gT ∧ σ.sl 1 = .int .i64 zs.length ∧ σ.sl 2 = .clo 182 [] ∧ σ.sl 6 = .int .i64 p.1) (fun p => 2 * zs.length + 20 - p.1) (20, r) ⟨⟨⟨by dsimp only; omega, by dsimp only; omega⟩, hpr, hruns⟩, by simp [vmI, e0], by simp [vmI], by simp [vmI], by simp [vmI], by simp [vmI], by simp [vmI], by simp [vmI, e1], by simp [vmI, e2], by simp [vmI, e6]⟩ ?_
    clear e0 l1 l2 l3 l4 l5 e1 e2 e6 e7 e8
    rintro ⟨B, l'⟩ σ ⟨⟨⟨hB0, hB⟩, hp, hruns⟩, e0, l1, l2, l3, l4, l5, e1, e2, e6⟩
    dsimp only at hB0 hB hp hruns l5 e6
    have hll := hp.length_eq
    have hw2 : IntKind.i64.wrap (2 * (B : Int)) = ((2 * B : Nat) : Int) := by rw [wr (by omega)]; omega
    simp only [vmA, sN1, reduceIte, sN2, sN3, reduceCtorEq, sN4, sI1, sI2, sI3, sN5, sN6, e0, l1, l2, l3, l4, l5, e1, e2, e6, List.length_map, hll, hw2]
    refine ⟨fun hlt => ?_, fun hge => ?_⟩
    · obtain ⟨k0, hruns⟩ := hruns
      refine WT_loop (fun (p : Nat × List (Nat × Ver)) σ => (p.1 ≤ zs.length ∧ p.2.Perm zs ∧ DoneR (SegOk lt zs p.2) (2 * B) p.1 ∧ ∃ k, Runs (SegOk lt zs p.2) B zs.length k p.1) ∧ σ.sl 0 = .hd 0 1 0 zs.length false ∧ (σ.en 0).live = true ∧ (σ.en 0).gen = 1 ∧ (σ.en 0).frz = false ∧ (σ.en 0).sz = 4 ∧ (σ.en 0).elems = p.2.map gT ∧ σ.sl 1 = .int .i64 zs.length ∧ σ.sl 2 = .clo 182 [] ∧ σ.sl 6 = .int .i64 B ∧ σ.sl 7 = .int .i64 p.1 ∧ σ.sl 8 = .int .i64 ((p.1 + 2 * B : Nat) : Int)) (fun p => zs.length - p.1) (0, l') ⟨⟨by dsimp only; omega, hp, .zero, k0, hruns⟩, by simp [vmI, e0], by simp [vmI, l1], by simp [vmI, l2], by simp [vmI, l3], by simp [vmI, l4], by simp [vmI, l5], by simp [vmI, e1], by simp [vmI, e2], by simp [vmI, e6], by simp [vmI], by simp [vmI]⟩ ?_
      clear e0 l1 l2 l3 l4 l5 e1 e2 e6 hruns hp
      rintro ⟨a, l⟩ σ ⟨⟨ha, hp, hdn, k, hruns⟩, e0, l1, l2, l3, l4, l5, e1, e2, e6, e7, e8⟩
      dsimp only at ha hp hdn hruns l5 e7 e8
      have hll := hp.length_eq
      have hcl : ∀ x y, x ∈ l → y ∈ l → Fx 182 [gA x.2, gA y.2] (.int .i64 (cf x y)) := fun x y hx hy => hc x y (hp.mem_iff.1 hx) (hp.mem_iff.1 hy)
      have hw3 : IntKind.i64.wrap ((a : Int) + B) = ((a + B : Nat) : Int) := by rw [wr (by omega)]; omega
      have hw4 : IntKind.i64.wrap (((a + 2 * B : Nat) : Int) + ((2 * B : Nat) : Int)) = ((a + 2 * B + 2 * B : Nat) : Int) := by rw [wr (by omega)]; omega
      have hw5 : IntKind.i64.wrap ((B : Int) * 2) = ((2 * B : Nat) : Int) := by rw [wr (by omega)]; omega
      have hpre : ∀ b, a + B < b → b ≤ zs.length → b ≤ a + 2 * B → (b = a + 2 * B ∨ b = zs.length) → SmPre cf lt a (a + B) b l := fun b hb1 hb2 hb3 hb4 => by
        obtain ⟨o1, k1, r1⟩ := hruns.first (by omega)
        obtain ⟨o2, _⟩ := r1.first (by omega)
        rw [Nat.min_eq_left (by omega)] at o1
        rw [show min (a + B + B) zs.length = b by omega] at o2
        refine ⟨o1.2, o2.2, fun p q h1 h2 h3 h4 => ?_⟩
        obtain ⟨p', u1, u2, u3⟩ := o1.1 p h1 h2
        obtain ⟨q', v1, v2, v3⟩ := o2.1 q h3 h4
        rw [u3, v3]
        exact hd p' q' (Nat.zero_le _) (by omega) (by omega)
      have hseg : ∀ b r, a + B < b → b ≤ zs.length → b ≤ a + 2 * B → (b = a + 2 * B ∨ b = zs.length) → PIn a b l r → Asc lt a b r → SegOk lt zs r a b := fun b r hb1 hb2 hb3 hb4 p1 q1 => by
        obtain ⟨o1, k1, r1⟩ := hruns.first (by omega)
        obtain ⟨o2, _⟩ := r1.first (by omega)
        rw [Nat.min_eq_left (by omega)] at o1
        rw [show min (a + B + B) zs.length = b by omega] at o2
        refine ⟨fun p h1 h2 => ?_, q1⟩
        obtain ⟨j, j1, j2, j3⟩ := p1.mem p h1 h2
        by_cases hj : j < a + B
        · obtain ⟨p', u1, u2, u3⟩ := o1.1 j j1 hj
          exact ⟨p', u1, by omega, j3.trans u3⟩
        · obtain ⟨p', u1, u2, u3⟩ := o2.1 j (by omega) j2
          exact ⟨p', by omega, u2, j3.trans u3⟩
      simp only [vmA, sN1, reduceIte, sN2, sN3, reduceCtorEq, sN4, sI1, sI2, sI3, sN5, sN6, e0, l1, l2, l3, l4, l5, e1, e2, e6, e7, e8, List.length_map, hll, hw2, hw3, hw4, hw5]
      refine ⟨fun hle => ?_, fun hgt => ⟨fun hm => ?_, fun hm => ?_⟩⟩
      · refine callR (f241 cf lt ht (2 * B) l a (a + B) (a + 2 * B) (by omega) (by omega) (by omega) (by omega) (by omega) hcl (hpre _ (by omega) (by omega) (by omega) (by omega))) ?_
        rintro _ _ ⟨rfl, r, rfl, p1, q1⟩
        have hrl := p1.length
        simp only [vmA, sN1, reduceIte, sN2, sN3, reduceCtorEq, sN4, sI1, sI2, sI3, sN5, sN6, e0, l1, l2, l3, l4, l5, e1, e2, e6, e7, e8, List.length_map, hll, hrl, hw2, hw3, hw4, hw5]
        refine ⟨(a + 2 * B, r), ⟨⟨by dsimp only; omega, p1.perm.trans hp, .step (hdn.imp fun x hx h => h.same fun p h1 h2 => p1.out p (.inl (by omega))) (hseg _ r (by omega) (by omega) (by omega) (by omega) p1 q1), ?_⟩, rfl, rfl, rfl⟩, by dsimp only; omega⟩
        obtain ⟨_, k1, r1⟩ := hruns.first (by omega)
        obtain ⟨_, k2, r2⟩ := r1.first (by omega)
        refine ⟨k2, ?_⟩
        dsimp only
        rw [show a + 2 * B = a + B + B by omega]
        exact r2.imp fun x hx hxn h => h.same fun p h1 h2 => p1.out p (.inr (by omega))
      · refine callR (f241 cf lt ht (2 * B) l a (a + B) zs.length (by omega) (by omega) (by omega) (by omega) (by omega) hcl (hpre _ (by omega) (by omega) (by omega) (by omega))) ?_
        rintro _ _ ⟨rfl, r, rfl, p1, q1⟩
        have hrl := p1.length
        simp only [vmA, sN1, reduceIte, sN2, sN3, reduceCtorEq, sN4, sI1, sI2, sI3, sN5, sN6, e0, l1, l2, l3, l4, l5, e1, e2, e6, e7, e8, List.length_map, hll, hrl, hw2, hw3, hw4, hw5]
        refine ⟨(2 * B, r), ⟨⟨⟨by dsimp only; omega, by dsimp only; omega⟩, p1.perm.trans hp, ?_⟩, rfl, rfl⟩, by dsimp only; omega⟩
        exact (hdn.imp fun x hx h => h.same fun p h1 h2 => p1.out p (.inl (by omega))).runs 1 ⟨fun _ => by
          rw [Nat.min_eq_right (by omega)]
          exact hseg _ r (by omega) (by omega) (by omega) (by omega) p1 q1, by unfold Runs; omega⟩ ha
      · refine ⟨(2 * B, l), ⟨⟨⟨by dsimp only; omega, by dsimp only; omega⟩, hp, ?_⟩, rfl, rfl⟩, by dsimp only; omega⟩
        refine hdn.runs 1 ⟨fun han => ?_, by unfold Runs; omega⟩ ha
        have := (hruns.first han).1
        rw [Nat.min_eq_right (by omega)] at this ⊢
        exact this
    · (refine hN _ ?_; simp only [vmA, sN1, reduceIte, sN2, sN3, reduceCtorEq, sN4, sI1, sI2, sI3, sN5, sN6, Tryz.f223, retG, resL, St.closeVs, St.closeV, leftV, ghostW, e0, l1, l2, l3, l4, l5, List.length_map, hll])
      refine ⟨l', by rw [List.take_of_length_le (by simp; omega)], hp, ?_⟩
      by_cases h0 : 0 < zs.length
      · obtain ⟨k0, hruns⟩ := hruns
        have := (hruns.first h0).1.2
        rwa [Nat.min_eq_right (by omega)] at this
      · intro p q h1 h2 h3; omega
theorem f181 (zs : List (Nat × Ver)) (cf : (Nat × Ver) → (Nat × Ver) → Int) (lt : (Nat × Ver) → (Nat × Ver) → Prop) (ht : ∀ x y z, lt x y → lt y z → lt x z) (hc : ∀ x y, x ∈ zs → y ∈ zs → Fx 182 [gA x.2, gA y.2] (.int .i64 (cf x y)))
    (hd : DecA cf lt 0 zs.length zs) (hl : zs.length ≤ 1048576) : FxR 181 [.own 4 (zs.map gT), .clo 182 []] fun r l => r = .tup [] ∧ ∃ ys, l = .own 4 (ys.map gT) ∧ ys.Perm zs ∧ Asc lt 0 zs.length ys := by
  refine fn_ofWN false (k := 0) Tryz.func181 (by kernel_rfl) rfl (by kernel_rfl) (by kernel_rfl) (Nat.le_of_ble_eq_true rfl) rfl ⟨_, _, .inl rfl⟩ rfl fun Q hQ hN => ?_
  simp only [tr_seq, tr_block, tr_loop, tr_cond, tr_skip, tr_exit, tr_ret, tr_reg]
  simp only [vmA, sN1, reduceIte, sN2, sN3, reduceCtorEq, sN4, sI1, sI2, sI3, sN5, sN6, List.length_map]
  refine callR (f223 zs cf lt ht hc hd hl) ?_
  rintro _ _ ⟨rfl, ys, rfl, p1, q1⟩
  have hyl := p1.length_eq
  simp only [vmA, sN1, reduceIte, sN2, sN3, reduceCtorEq, sN4, sI1, sI2, sI3, sN5, sN6, List.length_map, hyl]
  (refine hN _ ?_; simp only [vmA, sN1, reduceIte, sN2, sN3, reduceCtorEq, sN4, sI1, sI2, sI3, sN5, sN6, Tryz.f181, retG, resL, St.closeVs, St.closeV, leftV, ghostW, List.length_map, hyl])
  exact ⟨ys, by rw [List.take_of_length_le (by simp; omega)], p1, q1⟩
