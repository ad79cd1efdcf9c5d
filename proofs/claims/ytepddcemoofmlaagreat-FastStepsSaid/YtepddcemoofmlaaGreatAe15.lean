/- A region whose order is open: what is run, what is known of the order. -/
import Derived.Test.YtepddcemoofmlaaGreatAe14
namespace Go.Proofs.YtepddcemoofmlaaGreat.AE
open Go

/-! ### The evaluator's run, written out -/
structure Trace (C : CallS) (io : List IOper) (Rs : Nat → List Value) (Ss : Nat → St) (vs : Nat → Value) (Hs : Nat → List (Nat × St)) : Prop where
  yes : ∀ p i, io[p]? = some i → wantedI i.guard (Rs p) = true →
    evOp C (Rs p) (Ss p) i.op = some (vs p, Ss (p + 1)) ∧ preOk i.pre i.op (Hs p) (Rs p) (vs p) = true ∧ postOk i.post io (Rs (p + 1)) (Ss (p + 1)) = true
  no : ∀ p i, io[p]? = some i → wantedI i.guard (Rs p) = false → vs p = undef ∧ Ss (p + 1) = Ss p
  regs : ∀ p i, io[p]? = some i → Rs (p + 1) = put (Rs p) i.dst (vs p)
  hist : ∀ p i, io[p]? = some i → Hs (p + 1) = if (wantedI i.guard (Rs p) && i.snap) = true then (p, Ss p) :: Hs p else Hs p

theorem trace_of {C : CallS} {al : List IOper} : ∀ {l : List IOper} {p : Nat} {H : List (Nat × St)} {R R' : List Value} {S S' : St},
    evOps C al l p H R S = some (R', S') →
    ∃ (Rs : Nat → List Value) (Ss : Nat → St) (vs : Nat → Value) (Hs : Nat → List (Nat × St)), Rs 0 = R ∧ Ss 0 = S ∧ Hs 0 = H ∧ Rs l.length = R' ∧ Ss l.length = S' ∧
      ∀ q i, l[q]? = some i →
        (wantedI i.guard (Rs q) = true → evOp C (Rs q) (Ss q) i.op = some (vs q, Ss (q + 1)) ∧ preOk i.pre i.op (Hs q) (Rs q) (vs q) = true ∧ postOk i.post al (Rs (q + 1)) (Ss (q + 1)) = true) ∧
        (wantedI i.guard (Rs q) = false → vs q = undef ∧ Ss (q + 1) = Ss q) ∧ Rs (q + 1) = put (Rs q) i.dst (vs q) ∧
        Hs (q + 1) = if (wantedI i.guard (Rs q) && i.snap) = true then (p + q, Ss q) :: Hs q else Hs q
  | [], p, H, R, R', S, S', h => by
    simp only [evOps, Option.some.injEq, Prod.mk.injEq] at h
    exact ⟨fun _ => R, fun _ => S, fun _ => undef, fun _ => H, rfl, rfl, rfl, h.1, h.2, fun q i hq => by simp at hq⟩
  | o :: l, p, H, R, R', S, S', h => by
    simp only [evOps] at h
    by_cases hw : wantedI o.guard R = true
    · rw [if_pos hw] at h
      split at h
      · rename_i v S1 hv
        split at h
        · rename_i hok
          simp only [Bool.and_eq_true] at hok
          obtain ⟨Rs, Ss, vs, Hs, h1, h2, h3, h4, h5, h6⟩ := trace_of h
          refine ⟨fun q => match q with | 0 => R | q + 1 => Rs q, fun q => match q with | 0 => S | q + 1 => Ss q, fun q => match q with | 0 => v | q + 1 => vs q,
            fun q => match q with | 0 => H | q + 1 => Hs q, rfl, rfl, rfl, h4, h5, ?_⟩
          intro q i hq
          cases q with
          | zero =>
            simp only [List.getElem?_cons_zero, Option.some.injEq] at hq
            subst hq
            refine ⟨fun _ => ⟨?_, hok.1, ?_⟩, fun hn => ?_, h1, ?_⟩
            · show _ = some (v, Ss 0); rw [h2]; exact hv
            · show postOk o.post al (Rs 0) (Ss 0) = true; rw [h1, h2]; exact hok.2
            · have hn' : wantedI o.guard R = false := hn
              rw [hw] at hn'; cases hn'
            · show Hs 0 = _; rw [h3]; simp [hw]
          | succ q =>
            simp only [List.getElem?_cons_succ] at hq
            have := h6 q i hq
            simpa [Nat.add_assoc, Nat.add_comm 1 q] using this
        · cases h
      · cases h
    · rw [if_neg hw] at h
      obtain ⟨Rs, Ss, vs, Hs, h1, h2, h3, h4, h5, h6⟩ := trace_of h
      refine ⟨fun q => match q with | 0 => R | q + 1 => Rs q, fun q => match q with | 0 => S | q + 1 => Ss q, fun q => match q with | 0 => undef | q + 1 => vs q,
        fun q => match q with | 0 => H | q + 1 => Hs q, rfl, rfl, rfl, h4, h5, ?_⟩
      intro q i hq
      cases q with
      | zero =>
        simp only [List.getElem?_cons_zero, Option.some.injEq] at hq
        subst hq
        refine ⟨fun hn => absurd hn hw, fun _ => ⟨rfl, h2⟩, h1, ?_⟩
        show Hs 0 = _; rw [h3]; simp [hw]
      | succ q =>
        simp only [List.getElem?_cons_succ] at hq
        have := h6 q i hq
        simpa [Nat.add_assoc, Nat.add_comm 1 q] using this

/-! ### What must wait for what -/
inductive Anc (ops : Array Oper) : Nat → Nat → Prop where
  | edge {y : Nat} {o : Oper} {e : Edge} (h1 : ops[y]? = some o) (h2 : e ∈ o.after) (h3 : Region.binds .any e = true) : Anc ops y e.on
  | trans {x y z : Nat} (h1 : Anc ops x y) (h2 : Anc ops y z) : Anc ops x z

theorem bitsOf_append {done : List (Nat × Nat)} {i b j x : Nat} (h : (bitsOf (done ++ [(i, b)]) j).testBit x = true) :
    (bitsOf done j).testBit x = true ∨ (i = j ∧ b.testBit x = true) := by
  induction done with
  | nil =>
    simp only [List.nil_append, bitsOf] at h
    split at h
    · rename_i hij; exact .inr ⟨hij, h⟩
    · simp at h
  | cons c l ih =>
    obtain ⟨k, d⟩ := c
    simp only [List.cons_append, bitsOf] at h ⊢
    split at h
    · rename_i hk; rw [if_pos hk]; exact .inl h
    · rename_i hk; rw [if_neg hk]; exact ih h

theorem aheadOf_spec {done : List (Nat × Nat)} {x : Nat} : ∀ {l : List Edge}, (aheadOf done l).testBit x = true →
    ∃ e ∈ l, Region.binds .any e = true ∧ (x = e.on ∨ (bitsOf done e.on).testBit x = true)
  | [], h => by simp [aheadOf] at h
  | e :: l, h => by
    simp only [aheadOf] at h
    split at h
    · rename_i hb
      simp only [Nat.testBit_or, Bool.or_eq_true] at h
      rcases h with h | h | h
      · obtain ⟨e', h1, h2⟩ := aheadOf_spec h; exact ⟨e', by simp [h1], h2⟩
      · refine ⟨e, by simp, hb, .inl ?_⟩
        rw [Nat.one_shiftLeft, Nat.testBit_two_pow] at h
        have := of_decide_eq_true h
        exact this.symm
      · exact ⟨e, by simp, hb, .inr h⟩
    · obtain ⟨e', h1, h2⟩ := aheadOf_spec h; exact ⟨e', by simp [h1], h2⟩

theorem aheads_anc (ops : Array Oper) : ∀ (l : List Nat) (done : List (Nat × Nat)), (∀ j x, (bitsOf done j).testBit x = true → Anc ops j x) →
    ∀ j x, (bitsOf (aheads ops l done) j).testBit x = true → Anc ops j x
  | [], done, h, j, x, hx => h j x hx
  | i :: l, done, h, j, x, hx => by
    simp only [aheads] at hx
    refine aheads_anc ops l _ (fun j' x' hx' => ?_) j x hx
    clear hx
    rcases bitsOf_append hx' with h2 | ⟨rfl, h2⟩
    · exact h j' x' h2
    · split at h2
      · rename_i o ho
        obtain ⟨e, he, hb, h3⟩ := aheadOf_spec h2
        have h1 : Anc ops i e.on := .edge ho (by simpa using he) hb
        rcases h3 with rfl | h3
        · exact h1
        · exact h1.trans (h _ _ h3)
      · simp at h2

/-- All that is there has what must come ahead. -/
def Closed (ops : Array Oper) (listed : Array Bool) : Prop :=
  ∀ y o, listed.getD y false = true → ops[y]? = some o → ∀ e ∈ o.after, Region.binds .any e = true → listed.getD e.on false = true

theorem Closed.anc {ops : Array Oper} {listed : Array Bool} (h : Closed ops listed) {y x : Nat} (ha : Anc ops y x) : listed.getD y false = true → listed.getD x false = true := by
  induction ha with
  | edge h1 h2 h3 => intro hy; exact h _ _ hy h1 _ h2 h3
  | trans _ _ ih1 ih2 => intro hy; exact ih2 (ih1 hy)

theorem anc_of_ready {ops : Array Oper} {listed : Array Bool} (h : Closed ops listed) {y x : Nat} (ha : Anc ops y x) :
    (∀ o, ops[y]? = some o → ∀ e ∈ o.after, Region.binds .any e = true → listed.getD e.on false = true) → listed.getD x false = true := by
  induction ha with
  | edge h1 h2 h3 => intro hy; exact hy _ h1 _ h2 h3
  | trans _ h2 ih1 _ => intro hy; exact h.anc h2 (ih1 hy)

theorem Closed.set {ops : Array Oper} {listed : Array Bool} (h : Closed ops listed) {i : Nat}
    (hi : ∀ o, ops[i]? = some o → ∀ e ∈ o.after, Region.binds .any e = true → listed.getD e.on false = true) : Closed ops (listed.setIfInBounds i true) := by
  intro y o hy ho e he hb
  by_cases hyi : i = y
  · subst hyi; exact getD_set_true (hi o ho e he hb)
  · rw [getD_set_ne false hyi] at hy
    exact getD_set_true (h y o hy ho e he hb)

/-! ### The registers behind some of the operations -/
def regsX (io : List IOper) (vs : Nat → Value) (X : Nat → Bool) (R0 : List Value) : Nat → List Value
  | 0 => R0
  | p + 1 => match io[p]? with
    | some i => if X p = true then put (regsX io vs X R0 p) i.dst (vs p) else regsX io vs X R0 p
    | none => regsX io vs X R0 p

theorem put_get {R : List Value} {d : Option Nat} {v : Value} {t : Nat} (h : d ≠ some t) : (put R d v)[t]? = R[t]? := by
  cases d with
  | none => rfl
  | some d =>
    simp only [put]
    rw [List.getElem?_set, if_neg (fun e => h (by rw [e]))]

theorem put_len {R : List Value} {d : Option Nat} {v : Value} : (put R d v).length = R.length := by
  cases d <;> simp [put]

theorem regsX_agree {io : List IOper} {vs : Nat → Value} {X Y : Nat → Bool} {R0 : List Value} {t : Nat} :
    ∀ (p : Nat), (∀ q i, q < p → io[q]? = some i → i.dst = some t → X q = Y q) → (regsX io vs X R0 p)[t]? = (regsX io vs Y R0 p)[t]? := by
  intro p
  induction p with
  | zero => intro _; rfl
  | succ p ih =>
    intro h
    have ih' := ih fun q i hq => h q i (by omega)
    simp only [regsX]
    cases hp : io[p]? with
    | none => exact ih'
    | some i =>
      simp only
      by_cases hd : i.dst = some t
      · rw [h p i (by omega) hp hd]
        split
        · rw [hd]
          simp only [put, List.getElem?_set, if_true]
          have : (regsX io vs X R0 p).length = (regsX io vs Y R0 p).length := by
            have len : ∀ Z q, (regsX io vs Z R0 q).length = R0.length := by
              intro Z q
              induction q with
              | zero => rfl
              | succ q ihq =>
                simp only [regsX]
                split
                · split
                  · rw [put_len, ihq]
                  · exact ihq
                · exact ihq
            rw [len, len]
          rw [this]
        · exact ih'
      · have e1 : (if X p = true then put (regsX io vs X R0 p) i.dst (vs p) else regsX io vs X R0 p)[t]? = (regsX io vs X R0 p)[t]? := by
          split
          · exact put_get hd
          · rfl
        have e2 : (if Y p = true then put (regsX io vs Y R0 p) i.dst (vs p) else regsX io vs Y R0 p)[t]? = (regsX io vs Y R0 p)[t]? := by
          split
          · exact put_get hd
          · rfl
        rw [e1, e2, ih']

theorem regsX_len {io : List IOper} {vs : Nat → Value} {Z : Nat → Bool} {R0 : List Value} (q : Nat) : (regsX io vs Z R0 q).length = R0.length := by
  induction q with
  | zero => rfl
  | succ q ihq =>
    simp only [regsX]
    split
    · split
      · rw [put_len, ihq]
      · exact ihq
    · exact ihq

theorem regsX_lex {C : CallS} {io : List IOper} {Rs : Nat → List Value} {Ss : Nat → St} {vs : Nat → Value} {Hs : Nat → List (Nat × St)} (tr : Trace C io Rs Ss vs Hs)
    {X : Nat → Bool} : ∀ (p : Nat), p ≤ io.length → (∀ q, q < p → X q = true) → regsX io vs X (Rs 0) p = Rs p := by
  intro p
  induction p with
  | zero => intro _ _; rfl
  | succ p ih =>
    intro hp hX
    have hi : io[p]? = some io[p] := List.getElem?_eq_getElem (by omega)
    simp only [regsX, hi, hX p (by omega), if_true, ih (by omega) fun q hq => hX q (by omega)]
    exact (tr.regs p _ hi).symm

theorem regsX_stop {io : List IOper} {vs : Nat → Value} {X : Nat → Bool} {R0 : List Value} {k : Nat} : ∀ (p : Nat), k ≤ p → (∀ q, k ≤ q → q < p → X q = false) →
    regsX io vs X R0 p = regsX io vs X R0 k := by
  intro p
  induction p with
  | zero => intro hk _; have : k = 0 := by omega
            subst this; rfl
  | succ p ih =>
    intro hk hX
    by_cases hkp : k = p + 1
    · rw [hkp]
    · simp only [regsX, hX p (by omega) (by omega), Bool.false_eq_true, if_false]
      have := ih (by omega) fun q hq hq' => hX q hq (by omega)
      cases io[p]? <;> exact this

/-- One operation more. -/
theorem regsX_add {io : List IOper} {vs : Nat → Value} {X X' : Nat → Bool} {R0 : List Value} {k : Nat} {ik : IOper} (hk : io[k]? = some ik)
    (hX' : ∀ q, X' q = true ↔ (X q = true ∨ q = k)) (hno : ∀ q i d, k < q → io[q]? = some i → X q = true → ik.dst = some d → i.dst ≠ some d) :
    ∀ (p : Nat), k < p → regsX io vs X' R0 p = put (regsX io vs X R0 p) ik.dst (vs k) := by
  have hXq : ∀ q, q ≠ k → X' q = X q := fun q hq => by
    have := hX' q
    cases h1 : X' q <;> cases h2 : X q <;> simp_all
  intro p hp
  apply List.ext_getElem?
  intro t
  by_cases hd : ik.dst = some t
  · -- the temporary that it writes
    rw [hd]
    simp only [put, List.getElem?_set, if_true, regsX_len]
    have key : ∀ p, k < p → (regsX io vs X' R0 p)[t]? = if t < R0.length then some (vs k) else none := by
      intro p
      induction p with
      | zero => intro h; omega
      | succ p ih =>
        intro hp
        by_cases hpk : p = k
        · subst hpk
          simp only [regsX, hk, (hX' p).2 (.inr rfl), if_true, hd, put, List.getElem?_set, regsX_len]
        · have ih' := ih (by omega)
          simp only [regsX]
          cases hi : io[p]? with
          | none => exact ih'
          | some i =>
            simp only
            split
            · rename_i hx
              rw [put_get (hno p i t (by omega) hi (by rw [← hXq p hpk]; exact hx) hd)]
              exact ih'
            · exact ih'
    exact key p hp
  · rw [put_get hd]
    refine regsX_agree p fun q i _ hi hdi => ?_
    refine hXq q ?_
    rintro rfl
    rw [hk] at hi
    simp only [Option.some.injEq] at hi
    subst hi
    exact hd hdi

end Go.Proofs.YtepddcemoofmlaaGreat.AE
