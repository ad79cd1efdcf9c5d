/- Rows that a call makes by append; calls that leave old blocks as they were; walks from number to number. -/
import Derived.Test.YtpecefjgadecfaaAe37
namespace Go.Proofs.Ytpecefjgadecfaa.AE
open Go

/-- Behind a call that wrote nothing old. -/
structure Grown (S S' : St) : Prop where
  top : S.top ≤ S'.top
  at' : ∀ j, j < S.top → S'.at j = S.at j
  kept : ∀ T, Kept T S → Kept T S'

theorem Grown.refl (S : St) : Grown S S := ⟨Nat.le_refl _, fun _ _ => rfl, fun _ h => h⟩
theorem Grown.left {S S1 : St} (h : Kept S S1) : Grown S (S.left S1) := ⟨h.top, h.at', fun _ k => k.left h⟩
theorem Grown.same {S S' : St} (h : Grown S S') {b : Nat} {o : AObj} (hb : S.at b = some o) : S'.at b = some o := by rw [h.at' b (lt_top hb)]; exact hb

/-- A row that this call made (none yet: nil), out of blocks from lo on: n elements of sz cells. -/
def OutRow (S : St) (lo : Nat) (e : TypeId) (sz : Nat) (v : Value) (c : List Value) (n : Nat) : Prop :=
  (n = 0 ∧ c = [] ∧ v = .slice none 0 0) ∨ (0 < n ∧ c.length = n * sz ∧ ∃ b, v = .slice (some ⟨b, 0, none⟩) n 0 ∧ lo ≤ b ∧ S.at b = some (.cells e c))

theorem OutRow.nil {S : St} {lo : Nat} {e : TypeId} {sz : Nat} : OutRow S lo e sz (.slice none 0 0) [] 0 := .inl ⟨rfl, rfl, rfl⟩

theorem OutRow.same {S S' : St} {lo : Nat} {e : TypeId} {sz : Nat} {v : Value} {c : List Value} {n : Nat} (h : OutRow S lo e sz v c n) (k : ∀ b o, lo ≤ b → S.at b = some o → S'.at b = some o) : OutRow S' lo e sz v c n := by
  rcases h with h | ⟨h1, h2, b, h3, h4, h5⟩
  · exact .inl h
  · exact .inr ⟨h1, h2, b, h3, h4, k b _ h4 h5⟩

theorem OutRow.low {S : St} {lo lo' : Nat} {e : TypeId} {sz : Nat} {v : Value} {c : List Value} {n : Nat} (h : OutRow S lo e sz v c n) (hl : lo' ≤ lo) : OutRow S lo' e sz v c n := by
  rcases h with h | ⟨h1, h2, b, h3, h4, h5⟩
  · exact .inl h
  · exact .inr ⟨h1, h2, b, h3, Nat.le_trans hl h4, h5⟩

/-- out = append(out, x). -/
theorem out_app {S : St} {lo : Nat} {e : TypeId} {sz bytes cp : Nat} {v : Value} {c xs : List Value} {n : Nat} (h : OutRow S lo e sz v c n) (hx : xs.length = sz) (hs : 0 < sz) (ho : xs.all one = true) (hn : n ≤ 1000000) (hy : bytes ≤ 1000) (hlo : lo ≤ S.top) :
    ∃ v' S', appK e sz bytes v (rowS (S.push (.cells e xs)) sz (.slice (some ⟨S.top, 0, none⟩) 1 cp)) (S.push (.cells e xs)) = some (v', S') ∧ OutRow S' lo e sz v' (c ++ xs) (n + 1) ∧ one v' = true ∧
      (∀ T, Kept T S → T.top ≤ lo → Kept T S') ∧ (∀ b, b < lo → b < S.top → S'.at b = S.at b) ∧ S.top ≤ S'.top := by
  rcases h with ⟨rfl, rfl, rfl⟩ | ⟨h1, h2, b, rfl, h4, h5⟩
  · refine ⟨_, _, app_first (n := 1) (sz := sz) (by omega) (by omega) ho (by omega) hy, .inr ⟨by omega, by simp [hx], _, rfl, ?_, by simp⟩, rfl, fun T k _ => (k.push _).push _, fun b hb hb' => ?_, ?_⟩
    · rw [top_push]; omega
    · have hb1 : b < S.blks.length := hb'
      simp only [St.at, St.push]
      rw [List.getElem?_append_left (by simp; omega), List.getElem?_append_left hb1]
    · rw [top_push, top_push]; omega
  · refine ⟨_, _, app_row (sz := sz) h5 h2 (by omega) hs (by omega) ho (by omega) hy, .inr ⟨by omega, by simp [h2, hx, Nat.succ_mul], _, rfl, ?_, by simp⟩, rfl, fun T k hT => (k.push _).app _ (by omega), fun b' hb hb' => ?_, ?_⟩
    · rw [top_push]; omega
    · have hb1 : b' < S.blks.length := hb'
      simp only [St.at, St.push, St.app]
      rw [List.getElem?_append_left (by simp; omega), List.getElem?_set_ne (by omega), List.getElem?_append_left hb1]
    · rw [top_app, top_push]; omega

/-- A value that is no slice of that block. -/
def Avoids (v : Value) (b : Nat) : Prop := ∀ a n c, v = .slice (some a) n c → a.block ≠ b
theorem avoids_nil {n c b : Nat} : Avoids (.slice none n c) b := fun a m d h => by cases h
theorem avoids_iff {a : Addr} {n c b : Nat} : Avoids (.slice (some a) n c) b ↔ a.block ≠ b :=
  ⟨fun h => h a n c rfl, fun h a' n' c' e => by simp only [Value.slice.injEq, Option.some.injEq] at e; rw [← e.1]; exact h⟩

/-- out = append(out, x): all but the old row's block stand as they were. -/
theorem out_app2 {S : St} {lo : Nat} {e : TypeId} {sz bytes cp : Nat} {v : Value} {c xs : List Value} {n : Nat} (h : OutRow S lo e sz v c n) (hx : xs.length = sz) (hs : 0 < sz) (ho : xs.all one = true) (hn : n ≤ 1000000) (hy : bytes ≤ 1000) (hlo : lo ≤ S.top) :
    ∃ v' S', appK e sz bytes v (rowS (S.push (.cells e xs)) sz (.slice (some ⟨S.top, 0, none⟩) 1 cp)) (S.push (.cells e xs)) = some (v', S') ∧ OutRow S' lo e sz v' (c ++ xs) (n + 1) ∧ one v' = true ∧
      (∀ T, Kept T S → T.top ≤ lo → Kept T S') ∧ (∀ b, b < S.top → Avoids v b → S'.at b = S.at b) ∧ S.top ≤ S'.top ∧ ∀ b, b < S.top → Avoids v' b := by
  rcases h with ⟨rfl, rfl, rfl⟩ | ⟨h1, h2, b, rfl, h4, h5⟩
  · refine ⟨_, _, app_first (n := 1) (sz := sz) (by omega) (by omega) ho (by omega) hy, .inr ⟨by omega, by simp [hx], _, rfl, ?_, by simp⟩, rfl, fun T k _ => (k.push _).push _, fun b hb' _ => ?_, ?_, fun b hb => avoids_iff.2 ?_⟩
    · rw [top_push]; omega
    · have hb1 : b < S.blks.length := hb'
      simp only [St.at, St.push]
      rw [List.getElem?_append_left (by simp; omega), List.getElem?_append_left hb1]
    · rw [top_push, top_push]; omega
    · rw [top_push]; show S.top + 1 ≠ b; omega
  · refine ⟨_, _, app_row (sz := sz) h5 h2 (by omega) hs (by omega) ho (by omega) hy, .inr ⟨by omega, by simp [h2, hx, Nat.succ_mul], _, rfl, ?_, by simp⟩, rfl, fun T k hT => (k.push _).app _ (by omega), fun b' hb' hav => ?_, ?_, fun b' hb' => avoids_iff.2 ?_⟩
    · rw [top_push]; omega
    · have hb1 : b' < S.blks.length := hb'
      have hne := avoids_iff.1 hav
      simp only [St.at, St.push, St.app]
      rw [List.getElem?_append_left (by simp; omega), List.getElem?_set_ne hne, List.getElem?_append_left hb1]
    · rw [top_app, top_push]; omega
    · rw [top_push]; show S.top + 1 ≠ b'; omega

/-! ### Walks -/
/-- From number to number, till there is none (-1): all that were met; none: a number comes again, or leads nowhere. -/
inductive Walks (nx : Int → Option Int) : List Int → Int → Option (List Int) → Prop
  | stop (seen : List Int) : Walks nx seen (-1) (some seen)
  | again {seen : List Int} {x : Int} : x ≠ -1 → x ∈ seen → Walks nx seen x none
  | lost {seen : List Int} {x : Int} : x ≠ -1 → x ∉ seen → nx x = none → Walks nx seen x none
  | on {seen : List Int} {x y : Int} {r : Option (List Int)} : x ≠ -1 → x ∉ seen → nx x = some y → Walks nx (seen ++ [x]) y r → Walks nx seen x r

theorem Walks.unique {nx : Int → Option Int} {seen : List Int} {x : Int} {r r' : Option (List Int)} (h : Walks nx seen x r) : Walks nx seen x r' → r = r' := by
  induction h with
  | stop seen => intro h'; cases h' <;> first | rfl | exact absurd rfl (by assumption)
  | again h1 h2 => intro h'; cases h' <;> first | rfl | exact absurd rfl h1 | exact absurd h2 (by assumption)
  | lost h1 h2 h3 =>
    intro h'
    cases h' with
    | stop => exact absurd rfl h1
    | again _ _ => rfl
    | lost _ _ _ => rfl
    | on _ _ k _ => rw [h3] at k; cases k
  | on h1 h2 h3 _ ih =>
    intro h'
    cases h' with
    | stop => exact absurd rfl h1
    | again _ k => exact absurd k h2
    | lost _ _ k => rw [h3] at k; cases k
    | on _ _ k k' =>
      rw [h3] at k
      obtain rfl := Option.some.inj k
      exact ih k'

/-- How many numbers below N were not met. -/
def unmet (N : Nat) (seen : List Int) : Nat := ((List.range N).filter fun (i : Nat) => decide ((i : Int) ∉ seen)).length

theorem unmet_lt {N : Nat} {seen : List Int} {x : Int} (h0 : 0 ≤ x) (h1 : x < N) (hx : x ∉ seen) : unmet N (seen ++ [x]) < unmet N seen := by
  unfold unmet
  have e : (List.range N).filter (fun (i : Nat) => decide ((i : Int) ∉ seen ++ [x])) = ((List.range N).filter fun (i : Nat) => decide ((i : Int) ∉ seen)).filter fun (i : Nat) => decide ((i : Int) ≠ x) := by
    rw [List.filter_filter]
    congr 1
    funext i
    simp only [List.mem_append, List.mem_singleton, not_or, ne_eq, Bool.decide_and, Bool.and_comm]
  rw [e, List.length_filter_lt_length_iff_exists]
  refine ⟨x.toNat, ?_, ?_⟩
  · simp only [List.mem_filter, List.mem_range, decide_eq_true_eq]
    have : ((x.toNat : Nat) : Int) = x := by omega
    exact ⟨by omega, by rw [this]; exact hx⟩
  · simp; omega

theorem unmet_le (N : Nat) (seen : List Int) : unmet N seen ≤ N := by
  unfold unmet
  exact Nat.le_trans (List.length_filter_le _ _) (by simp)

/-- Which numbers below N were met, as bools. -/
def metC (N : Nat) (seen : List Int) : List Value := (List.range N).map fun (i : Nat) => .bool (decide ((i : Int) ∈ seen))
theorem metC_len {N : Nat} {seen : List Int} : (metC N seen).length = N := by simp [metC]
theorem metC_get {N x : Nat} {seen : List Int} (h : x < N) : (metC N seen)[x]? = some (.bool (decide ((x : Int) ∈ seen))) := by simp [metC, h]
theorem metC_set {N x : Nat} {seen : List Int} : (metC N seen).set x (.bool true) = metC N (seen ++ [(x : Int)]) := by
  refine List.ext_getElem? fun j => ?_
  by_cases hj : j < N
  · by_cases he : x = j
    · subst he
      rw [List.getElem?_set_self (by simpa [metC] using hj), metC_get hj]
      simp
    · rw [List.getElem?_set_ne he, metC_get hj, metC_get hj]
      have : ¬ ((j : Int) = x) := by omega
      simp [this]
  · rw [List.getElem?_eq_none (by simp [metC]; omega), List.getElem?_eq_none (by simp [metC]; omega)]

end Go.Proofs.Ytpecefjgadecfaa.AE
