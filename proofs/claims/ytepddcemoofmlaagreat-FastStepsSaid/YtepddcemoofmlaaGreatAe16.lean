/- A region whose order is open: the memory behind some of the operations. -/
import Derived.Test.YtepddcemoofmlaaGreatAe15
namespace Go.Proofs.YtepddcemoofmlaaGreat.AE
set_option linter.unusedSimpArgs false
set_option linter.unusedVariables false
open Go

theorem evOp_P {C : CallS} {R : List Value} {S S' : St} {io : IOp} {v : Value} (hk : kd io = .P) (h : evOp C R S io = some (v, S')) : evPure R io = some v ∧ S' = S := by
  cases io <;> simp only [kd, reduceCtorEq] at hk <;> simp only [evOp] at h
  case call f args q => split at hk <;> cases hk
  all_goals (obtain ⟨u, hu, he⟩ := Option.map_eq_some_iff.1 h; simp only [Prod.mk.injEq] at he; rw [hu, he.1]; exact ⟨rfl, he.2.symm⟩)

theorem evOp_L {C : CallS} {R : List Value} {S S' : St} {io : IOp} {v : Value} (hk : kd io = .L) (h : evOp C R S io = some (v, S')) : evRead R S.m io = some v ∧ S' = S := by
  cases io <;> simp only [kd, reduceCtorEq] at hk <;> simp only [evOp] at h
  case call f args q => split at hk <;> cases hk
  all_goals (obtain ⟨u, hu, he⟩ := Option.map_eq_some_iff.1 h; simp only [Prod.mk.injEq] at he; rw [hu, he.1]; exact ⟨rfl, he.2.symm⟩)

theorem evOp_A {C : CallS} {R : List Value} {S S' : St} {io : IOp} {v : Value} (hk : kd io = .A) (h : evOp C R S io = some (v, S')) :
    ∃ o f, evAlloc R io = some (o, f) ∧ v = f S.blks.length ∧ S' = S.push o := by
  cases io <;> simp only [kd, reduceCtorEq] at hk <;> simp only [evOp] at h
  case call f args q => split at hk <;> cases hk
  all_goals (obtain ⟨⟨o, f⟩, hu, he⟩ := Option.map_eq_some_iff.1 h; simp only [Prod.mk.injEq] at he; exact ⟨o, f, hu, he.1.symm, he.2.symm⟩)

theorem evOp_N {P : Program} {nG : Nat} {C : CallS} (hC : CallOK P nG C) {R : List Value} {S S' : St} {io : IOp} {v : Value} (hk : kd io = .N) (h : evOp C R S io = some (v, S')) :
    ∀ b, b < S.blks.length → S'.blks[b]? = S.blks[b]? := by
  cases io <;> simp only [kd, reduceCtorEq] at hk
  case call f args q =>
    split at hk
    · rename_i hq
      subst hq
      simp only [evOp, evCall] at h
      split at h
      · split at h
        · rename_i q' hcall
          split at h
          · cases h
          · rename_i hq'
            simp only [Option.some.injEq, Prod.mk.injEq] at h
            obtain ⟨rfl, rfl⟩ := h
            exact hC.same _ _ _ _ _ _ hcall (by cases q' <;> simp_all)
        · cases h
      · cases h
    · cases hk

section
variable {C : CallS} {io : List IOper} {Rs : Nat → List Value} {Ss : Nat → St} {vs : Nat → Value} {Hs : Nat → List (Nat × St)}

def kdAt (io : List IOper) (p : Nat) : Kd := match io[p]? with | some i => kd i.op | none => .P
def isC (io : List IOper) (p : Nat) : Bool := match kdAt io p with | .N => true | .Z => true | _ => false
def isA (io : List IOper) (Rs : Nat → List Value) (p : Nat) : Bool := match io[p]? with | some i => decide (kd i.op = .A) && wantedI i.guard (Rs p) | none => false

/-- A step that is no call and no write: the state grows by a block or stays. -/
theorem step_still (tr : Trace C io Rs Ss vs Hs) {p : Nat} (hp : p < io.length) (hc : isC io p = false) :
    (isA io Rs p = false ∧ Ss (p + 1) = Ss p) ∨ (isA io Rs p = true ∧ ∃ o f, evAlloc (Rs p) io[p].op = some (o, f) ∧ vs p = f (Ss p).blks.length ∧ Ss (p + 1) = (Ss p).push o) := by
  have hi : io[p]? = some io[p] := List.getElem?_eq_getElem hp
  have hkd : kdAt io p = kd io[p].op := by simp [kdAt, hi]
  cases hw : wantedI io[p].guard (Rs p) with
  | false => exact .inl ⟨by simp [isA, hi, hw], (tr.no p _ hi hw).2⟩
  | true =>
    obtain ⟨h1, _, _⟩ := tr.yes p _ hi hw
    cases hk : kd io[p].op with
    | P => exact .inl ⟨by simp [isA, hi, hk], (evOp_P hk h1).2⟩
    | L => exact .inl ⟨by simp [isA, hi, hk], (evOp_L hk h1).2⟩
    | A => exact .inr ⟨by simp [isA, hi, hk, hw], evOp_A hk h1⟩
    | N => simp [isC, hkd, hk] at hc
    | Z => simp [isC, hkd, hk] at hc

theorem step_evo {P : Program} {nG : Nat} (hC : CallOK P nG C) (tr : Trace C io Rs Ss vs Hs) {p : Nat} (hp : p < io.length) : Evo (Ss p) (Ss (p + 1)) := by
  have hi : io[p]? = some io[p] := List.getElem?_eq_getElem hp
  cases hw : wantedI io[p].guard (Rs p) with
  | false => rw [(tr.no p _ hi hw).2]; exact Evo.refl _
  | true => exact evo_op hC (tr.yes p _ hi hw).1

theorem evo_le {P : Program} {nG : Nat} (hC : CallOK P nG C) (tr : Trace C io Rs Ss vs Hs) {p q : Nat} (hpq : p ≤ q) (hq : q ≤ io.length) : Evo (Ss p) (Ss q) := by
  induction q with
  | zero => have : p = 0 := by omega
            subst this; exact Evo.refl _
  | succ q ih =>
    by_cases h : p = q + 1
    · subst h; exact Evo.refl _
    · exact (ih (by omega) (by omega)).trans (step_evo hC tr (by omega))

theorem isA_len {P : Program} {nG : Nat} (hC : CallOK P nG C) (tr : Trace C io Rs Ss vs Hs) {p : Nat} (h : isA io Rs p = true) : p < io.length ∧ (Ss (p + 1)).blks.length = (Ss p).blks.length + 1 := by
  have hp : p < io.length := by
    rcases Nat.lt_or_ge p io.length with h' | h'
    · exact h'
    · simp [isA, List.getElem?_eq_none h'] at h
  refine ⟨hp, ?_⟩
  have hi : io[p]? = some io[p] := List.getElem?_eq_getElem hp
  have hc : isC io p = false := by
    simp only [isA, hi, Bool.and_eq_true, decide_eq_true_eq] at h
    simp [isC, kdAt, hi, h.1]
  rcases step_still tr hp hc with ⟨h1, _⟩ | ⟨_, o, f, _, _, h4⟩
  · rw [h] at h1; cases h1
  · rw [h4]; simp [St.push]

theorem isA_inj {P : Program} {nG : Nat} (hC : CallOK P nG C) (tr : Trace C io Rs Ss vs Hs) {p q : Nat} (hp : isA io Rs p = true) (hq : isA io Rs q = true)
    (h : (Ss p).blks.length = (Ss q).blks.length) : p = q := by
  obtain ⟨p1, p2⟩ := isA_len hC tr hp
  obtain ⟨q1, q2⟩ := isA_len hC tr hq
  rcases Nat.lt_trichotomy p q with hlt | he | hlt
  · have := (evo_le hC tr (p := p + 1) (q := q) (by omega) (by omega)).len; omega
  · exact he
  · have := (evo_le hC tr (p := q + 1) (q := p) (by omega) (by omega)).len; omega

open Classical in
/-- The memory where the calls and writes ahead of place j have been made, and of the new blocks from there on those of X. -/
noncomputable def MX (io : List IOper) (Rs : Nat → List Value) (Ss : Nat → St) (X : Nat → Bool) (j : Nat) : Nat → Option AObj := fun b =>
  if b < (Ss j).blks.length then (Ss j).blks[b]?
  else if h : ∃ p, j ≤ p ∧ X p = true ∧ isA io Rs p = true ∧ (Ss p).blks.length = b then (Ss (Classical.choose h + 1)).blks[b]? else none

theorem MX_lt {X : Nat → Bool} {j b : Nat} (h : b < (Ss j).blks.length) : MX io Rs Ss X j b = (Ss j).blks[b]? := by
  unfold MX; rw [if_pos h]

theorem MX_al {P : Program} {nG : Nat} (hC : CallOK P nG C) (tr : Trace C io Rs Ss vs Hs) {X : Nat → Bool} {j p : Nat} (h1 : j ≤ p) (h2 : X p = true) (h3 : isA io Rs p = true) :
    MX io Rs Ss X j (Ss p).blks.length = (Ss (p + 1)).blks[(Ss p).blks.length]? := by
  have hp := (isA_len hC tr h3).1
  have := (evo_le hC tr h1 (by omega)).len
  unfold MX
  have hex : ∃ q, j ≤ q ∧ X q = true ∧ isA io Rs q = true ∧ (Ss q).blks.length = (Ss p).blks.length := ⟨p, h1, h2, h3, rfl⟩
  rw [if_neg (by omega), dif_pos hex]
  obtain ⟨c1, c2, c3, c4⟩ := Classical.choose_spec hex
  rw [isA_inj hC tr c3 h3 c4]

theorem MX_cases {P : Program} {nG : Nat} (hC : CallOK P nG C) (tr : Trace C io Rs Ss vs Hs) {X : Nat → Bool} {j b : Nat} {o : AObj} (h : MX io Rs Ss X j b = some o) :
    (b < (Ss j).blks.length ∧ (Ss j).blks[b]? = some o) ∨ ∃ p, j ≤ p ∧ X p = true ∧ isA io Rs p = true ∧ (Ss p).blks.length = b ∧ (Ss (p + 1)).blks[b]? = some o := by
  by_cases hb : b < (Ss j).blks.length
  · rw [MX_lt hb] at h; exact .inl ⟨hb, h⟩
  · right
    unfold MX at h
    rw [if_neg hb] at h
    split at h
    · rename_i hex
      obtain ⟨c1, c2, c3, c4⟩ := Classical.choose_spec hex
      exact ⟨_, c1, c2, c3, c4, h⟩
    · cases h

/-- What X holds beside does not matter, if it holds the same new blocks. -/
theorem MX_congr {P : Program} {nG : Nat} (hC : CallOK P nG C) (tr : Trace C io Rs Ss vs Hs) {X Y : Nat → Bool} {j : Nat} (h : ∀ p, j ≤ p → isA io Rs p = true → X p = Y p) :
    MX io Rs Ss X j = MX io Rs Ss Y j := by
  funext b
  cases hx : MX io Rs Ss X j b with
  | some o =>
    rcases MX_cases hC tr hx with ⟨h1, h2⟩ | ⟨p, h1, h2, h3, h4, h5⟩
    · rw [MX_lt h1]; exact h2.symm
    · rw [← h4, MX_al hC tr h1 (by rw [← h p h1 h3]; exact h2) h3, h4, h5]
  | none =>
    cases hy : MX io Rs Ss Y j b with
    | none => rfl
    | some o =>
      rcases MX_cases hC tr hy with ⟨h1, h2⟩ | ⟨p, h1, h2, h3, h4, h5⟩
      · rw [MX_lt h1, h2] at hx; cases hx
      · rw [← h4, MX_al hC tr h1 (by rw [h p h1 h3]; exact h2) h3, h4, h5] at hx; cases hx

/-- Between two places without a call or a write the state grows by new blocks alone. -/
theorem span {P : Program} {nG : Nat} (hC : CallOK P nG C) (tr : Trace C io Rs Ss vs Hs) {j k : Nat} (hjk : j ≤ k) (hk : k ≤ io.length) (hno : ∀ p, j ≤ p → p < k → isC io p = false) :
    ∀ b, b < (Ss k).blks.length → (b < (Ss j).blks.length ∧ (Ss k).blks[b]? = (Ss j).blks[b]?) ∨
      ∃ p, j ≤ p ∧ p < k ∧ isA io Rs p = true ∧ (Ss p).blks.length = b ∧ (Ss k).blks[b]? = (Ss (p + 1)).blks[b]? := by
  induction k with
  | zero => intro b hb; have : j = 0 := by omega
            subst this; exact .inl ⟨hb, rfl⟩
  | succ k ih =>
    intro b hb
    by_cases hj : j = k + 1
    · subst hj; exact .inl ⟨hb, rfl⟩
    · have ih' := ih (by omega) (by omega) (fun p h1 h2 => hno p h1 (by omega))
      rcases step_still tr (p := k) (by omega) (hno k (by omega) (by omega)) with ⟨_, h2⟩ | ⟨h1, o, f, _, _, h4⟩
      · rw [h2] at hb ⊢
        rcases ih' b hb with ⟨c1, c2⟩ | ⟨p, c1, c2, c3, c4, c5⟩
        · exact .inl ⟨c1, c2⟩
        · exact .inr ⟨p, c1, by omega, c3, c4, c5⟩
      · by_cases hb2 : b < (Ss k).blks.length
        · have : (Ss (k + 1)).blks[b]? = (Ss k).blks[b]? := by
            rw [h4]; show ((Ss k).blks ++ [o])[b]? = _; rw [List.getElem?_append_left hb2]
          rw [this]
          rcases ih' b hb2 with ⟨c1, c2⟩ | ⟨p, c1, c2, c3, c4, c5⟩
          · exact .inl ⟨c1, c2⟩
          · exact .inr ⟨p, c1, by omega, c3, c4, c5⟩
        · have := (isA_len hC tr h1).2
          exact .inr ⟨k, by omega, by omega, h1, by omega, rfl⟩

/-- All new blocks up to place k are there: below, the memory is the state ahead of k. -/
theorem MX_span {P : Program} {nG : Nat} (hC : CallOK P nG C) (tr : Trace C io Rs Ss vs Hs) {X : Nat → Bool} {j k : Nat} (hjk : j ≤ k) (hk : k ≤ io.length)
    (hno : ∀ p, j ≤ p → p < k → isC io p = false) (hall : ∀ p, j ≤ p → p < k → isA io Rs p = true → X p = true) {b : Nat} (hb : b < (Ss k).blks.length) :
    MX io Rs Ss X j b = (Ss k).blks[b]? := by
  rcases span hC tr hjk hk hno b hb with ⟨c1, c2⟩ | ⟨p, c1, c2, c3, c4, c5⟩
  · rw [MX_lt c1, c2]
  · rw [c5, ← c4, MX_al hC tr c1 (hall p c1 c2 c3) c3]

end
end Go.Proofs.YtepddcemoofmlaaGreat.AE
