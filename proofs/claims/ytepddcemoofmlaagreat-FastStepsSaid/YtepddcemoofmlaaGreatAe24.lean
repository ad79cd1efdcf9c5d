/- The same evaluation in a form that the kernel reckons with fast: temporaries in a tree, each kind of step a function of its own. -/
import Derived.Test.YtepddcemoofmlaaGreatAe23
namespace Go.Proofs.YtepddcemoofmlaaGreat.AE
open Go

theorem beq_no {a b : Nat} (h : a ≠ b) : Nat.beq a b = false := by
  cases e : Nat.beq a b with
  | false => rfl
  | true => exact absurd (Nat.eq_of_beq_eq_true e) h

inductive Tr where
  | nil
  | node (v : Value) (l r : Tr)

noncomputable def Tr.get (T : Tr) : Nat → Value :=
  Tr.rec (motive := fun _ => Nat → Value) (fun _ => undef) (fun v _ _ gl gr n => cond (Nat.beq n 0) v (cond (Nat.beq (n % 2) 1) (gl (n / 2)) (gr (n / 2 - 1)))) T

noncomputable def Tr.get? (T : Tr) : Nat → Option Value :=
  Tr.rec (motive := fun _ => Nat → Option Value) (fun _ => none) (fun v _ _ gl gr n => cond (Nat.beq n 0) (some v) (cond (Nat.beq (n % 2) 1) (gl (n / 2)) (gr (n / 2 - 1)))) T

noncomputable def Tr.set (T : Tr) : Nat → Value → Tr :=
  Tr.rec (motive := fun _ => Nat → Value → Tr) (fun _ _ => .nil) (fun v l r sl sr n u => cond (Nat.beq n 0) (.node u l r) (cond (Nat.beq (n % 2) 1) (.node v (sl (n / 2) u) r) (.node v l (sr (n / 2 - 1) u)))) T

noncomputable def Tr.blank (f : Nat) : Nat → Tr :=
  Nat.rec (motive := fun _ => Nat → Tr) (fun _ => .nil) (fun _ b n => cond (Nat.beq n 0) .nil (.node undef (b (n / 2)) (b ((n - 1) / 2)))) f

noncomputable def Tr.lay (l : List Value) : Nat → Tr → Tr :=
  List.rec (motive := fun _ => Nat → Tr → Tr) (fun _ T => T) (fun v _ k i T => k (i + 1) (T.set i v)) l

theorem get_get? : ∀ (T : Tr) (n : Nat), T.get n = (T.get? n).getD undef
  | .nil, _ => rfl
  | .node v l r, n => by
    show cond (Nat.beq n 0) v (cond (Nat.beq (n % 2) 1) (l.get (n / 2)) (r.get (n / 2 - 1))) = (cond (Nat.beq n 0) (some v) (cond (Nat.beq (n % 2) 1) (l.get? (n / 2)) (r.get? (n / 2 - 1)))).getD undef
    cases Nat.beq n 0 with
    | true => rfl
    | false => cases Nat.beq (n % 2) 1 with
      | true => exact get_get? l _
      | false => exact get_get? r _

theorem get?_node (v : Value) (l r : Tr) (n : Nat) : (Tr.node v l r).get? n = if n = 0 then some v else if n % 2 = 1 then l.get? (n / 2) else r.get? (n / 2 - 1) := by
  show cond (Nat.beq n 0) (some v) (cond (Nat.beq (n % 2) 1) (l.get? (n / 2)) (r.get? (n / 2 - 1))) = _
  by_cases h0 : n = 0
  · subst h0; rfl
  · have e0 : Nat.beq n 0 = false := beq_no h0
    rw [if_neg h0, e0]
    by_cases h1 : n % 2 = 1
    · rw [if_pos h1, h1]; rfl
    · have e1 : Nat.beq (n % 2) 1 = false := beq_no h1
      rw [if_neg h1, e1]; rfl

theorem set_node (v : Value) (l r : Tr) (n : Nat) (u : Value) : (Tr.node v l r).set n u = if n = 0 then .node u l r else if n % 2 = 1 then .node v (l.set (n / 2) u) r else .node v l (r.set (n / 2 - 1) u) := by
  show cond (Nat.beq n 0) (Tr.node u l r) (cond (Nat.beq (n % 2) 1) (Tr.node v (l.set (n / 2) u) r) (Tr.node v l (r.set (n / 2 - 1) u))) = _
  by_cases h0 : n = 0
  · subst h0; rfl
  · have e0 : Nat.beq n 0 = false := beq_no h0
    rw [if_neg h0, e0]
    by_cases h1 : n % 2 = 1
    · rw [if_pos h1, h1]; rfl
    · have e1 : Nat.beq (n % 2) 1 = false := beq_no h1
      rw [if_neg h1, e1]; rfl

theorem get?_set : ∀ (T : Tr) (n : Nat) (u : Value) (m : Nat), (T.set n u).get? m = if n = m then (T.get? m).map (fun _ => u) else T.get? m
  | .nil, n, u, m => by
    show (none : Option Value) = if n = m then (none : Option Value).map _ else none
    split <;> rfl
  | .node v l r, n, u, m => by
    rw [set_node]
    by_cases h0 : n = 0
    · subst h0
      rw [if_pos rfl, get?_node, get?_node]
      by_cases hm : m = 0
      · subst hm; simp
      · rw [if_neg hm, if_neg (show ¬ (0 = m) from fun h => hm h.symm), if_neg hm]
    · rw [if_neg h0]
      by_cases h1 : n % 2 = 1
      · rw [if_pos h1, get?_node, get?_node]
        by_cases hm : m = 0
        · subst hm; rw [if_pos rfl, if_pos rfl, if_neg h0]
        · rw [if_neg hm, if_neg hm]
          by_cases hm1 : m % 2 = 1
          · rw [if_pos hm1, if_pos hm1, get?_set l]
            by_cases e : n = m
            · subst e; rw [if_pos rfl, if_pos rfl]
            · rw [if_neg e, if_neg (by omega)]
          · rw [if_neg hm1, if_neg hm1, if_neg (by rintro rfl; exact hm1 h1)]
      · rw [if_neg h1, get?_node, get?_node]
        by_cases hm : m = 0
        · subst hm; rw [if_pos rfl, if_pos rfl, if_neg h0]
        · rw [if_neg hm, if_neg hm]
          by_cases hm1 : m % 2 = 1
          · rw [if_pos hm1, if_pos hm1, if_neg (by rintro rfl; exact h1 hm1)]
          · rw [if_neg hm1, if_neg hm1, get?_set r]
            by_cases e : n = m
            · subst e; rw [if_pos rfl, if_pos rfl]
            · rw [if_neg e, if_neg (by omega)]

theorem get?_blank : ∀ (f n m : Nat), n < 2 ^ f → (Tr.blank f n).get? m = if m < n then some undef else none
  | 0, n, m, h => by
    have : n = 0 := by simpa using h
    subst this
    show (none : Option Value) = _
    simp
  | f + 1, n, m, h => by
    have e : Tr.blank (f + 1) n = cond (Nat.beq n 0) .nil (.node undef (Tr.blank f (n / 2)) (Tr.blank f ((n - 1) / 2))) := rfl
    rw [e]
    by_cases h0 : n = 0
    · subst h0
      show (none : Option Value) = _
      simp
    · have e0 : Nat.beq n 0 = false := beq_no h0
      rw [e0]
      show (Tr.node undef _ _).get? m = _
      rw [get?_node, get?_blank f _ _ (by rw [Nat.pow_succ] at h; omega), get?_blank f _ _ (by rw [Nat.pow_succ] at h; omega)]
      by_cases hm : m = 0
      · subst hm; rw [if_pos rfl, if_pos (by omega)]
      · rw [if_neg hm]
        by_cases hm1 : m % 2 = 1
        · rw [if_pos hm1]
          by_cases hmn : m < n
          · rw [if_pos hmn, if_pos (by omega)]
          · rw [if_neg hmn, if_neg (by omega)]
        · rw [if_neg hm1]
          by_cases hmn : m < n
          · rw [if_pos hmn, if_pos (by omega)]
          · rw [if_neg hmn, if_neg (by omega)]

theorem get?_lay : ∀ (l : List Value) (i : Nat) (T : Tr) (m : Nat), (Tr.lay l i T).get? m = if i ≤ m ∧ m < i + l.length then (T.get? m).bind (fun _ => l[m - i]?) else T.get? m
  | [], i, T, m => by
    show T.get? m = _
    rw [if_neg (by simp)]
  | v :: l, i, T, m => by
    show (Tr.lay l (i + 1) (T.set i v)).get? m = _
    rw [get?_lay l, get?_set]
    simp only [List.length_cons]
    by_cases h : i = m
    · subst h
      rw [if_neg (by omega), if_pos rfl, if_pos (by omega)]
      cases T.get? i <;> simp
    · rw [if_neg h]
      by_cases h2 : i + 1 ≤ m ∧ m < i + 1 + l.length
      · rw [if_pos h2, if_pos (by omega)]
        have : m - i = (m - (i + 1)) + 1 := by omega
        rw [this, List.getElem?_cons_succ]
      · rw [if_neg h2, if_neg (by omega)]

/-- The tree holds what the list holds. -/
def Like (T : Tr) (R : List Value) : Prop := ∀ n, T.get? n = R[n]?

theorem Like.get {T : Tr} {R : List Value} (h : Like T R) (n : Nat) : T.get n = R.getD n undef := by
  rw [get_get?, h n, List.getD_eq_getElem?_getD]

theorem Like.fn {T : Tr} {R : List Value} (h : Like T R) : T.get = fun n => R.getD n undef := funext h.get

theorem Like.set {T : Tr} {R : List Value} (h : Like T R) (d : Nat) (v : Value) : Like (T.set d v) (R.set d v) := by
  intro n
  rw [get?_set, List.getElem?_set, h n]
  by_cases hd : d = n
  · subst hd
    rw [if_pos rfl, if_pos rfl]
    by_cases hl : d < R.length
    · simp [hl]
    · simp [hl]
  · rw [if_neg hd, if_neg hd]

noncomputable def Tr.start (n : Nat) (vs : List Value) : Tr := Tr.lay vs 0 (Tr.blank 20 (vs.length + (n - vs.length)))

theorem like_start {n : Nat} {vs : List Value} (h : Nat.blt (vs.length + (n - vs.length)) 1000000 = true) : Like (Tr.start n vs) (vs ++ List.replicate (n - vs.length) undef) := by
  have hb : vs.length + (n - vs.length) < 1000000 := by simpa [Nat.blt_eq] using h
  intro m
  unfold Tr.start
  rw [get?_lay, get?_blank 20 _ _ (by omega)]
  rw [List.getElem?_append]
  by_cases h1 : m < vs.length
  · rw [if_pos ⟨Nat.zero_le _, by omega⟩, if_pos (by omega), if_pos h1]; simp
  · rw [if_neg (by omega), if_neg h1, List.getElem?_replicate]
    by_cases h2 : m < vs.length + (n - vs.length)
    · rw [if_pos h2, if_pos (by omega)]
    · rw [if_neg h2, if_neg (by omega)]

end Go.Proofs.YtepddcemoofmlaaGreat.AE
