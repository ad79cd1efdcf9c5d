/- Calls that write some old blocks, or none; rows that a call makes by append; walks from number to number. -/
import Derived.Test.YtepddcemoofmlaaGreatAe37
set_option linter.unusedSimpArgs false
set_option linter.unusedVariables false
namespace Go.Proofs.YtepddcemoofmlaaGreat.AE
open Go

/-- From S to S': of S's blocks only those of D were written. -/
structure Aft (D : Nat → Prop) (S S' : St) : Prop where
  top : S.top ≤ S'.top
  mono : S'.wr ≤ S.wr
  at' : ∀ j, j < S.top → ¬ D j → S'.at j = S.at j
  low : ∀ j, j < S.top → j < S'.wr → S'.at j = S.at j
  wr : ∀ t, t ≤ S.top → t ≤ S.wr → (∀ d, D d → d < S.top → t ≤ d) → t ≤ S'.wr
  esc : ∀ t, t ≤ S.top → t ≤ S.esc → t ≤ S'.esc

section
variable {D D' : Nat → Prop} {S S1 S2 S' : St}

theorem Aft.refl (D : Nat → Prop) (S : St) : Aft D S S := ⟨Nat.le_refl _, Nat.le_refl _, fun _ _ _ => rfl, fun _ _ _ => rfl, fun _ _ h _ => h, fun _ _ h => h⟩

theorem Aft.trans (h : Aft D S S1) (k : Aft D' S1 S2) (hD : ∀ j, j < S.top → D' j → D j) : Aft D S S2 := by
  refine ⟨Nat.le_trans h.top k.top, Nat.le_trans k.mono h.mono, fun j hj hd => ?_, fun j hj hw => ?_, fun t ht hw hd => ?_, fun t ht he => ?_⟩
  · rw [k.at' j (Nat.lt_of_lt_of_le hj h.top) fun x => hd (hD j hj x)]; exact h.at' j hj hd
  · rw [k.low j (Nat.lt_of_lt_of_le hj h.top) hw]; exact h.low j hj (Nat.lt_of_lt_of_le hw k.mono)
  · refine k.wr t (Nat.le_trans ht h.top) (h.wr t ht hw hd) fun d h1 h2 => ?_
    by_cases hlt : d < S.top
    · exact hd d (hD d hlt h1) hlt
    · omega
  · exact k.esc t (Nat.le_trans ht h.top) (h.esc t ht he)

theorem Aft.more (h : Aft D S S1) (hD : ∀ j, j < S.top → D j → D' j) : Aft D' S S1 := (Aft.refl D' S).trans h hD

theorem Aft.push (h : Aft D S S1) (o : AObj) : Aft D S (S1.push o) := by
  refine ⟨by rw [top_push]; have := h.top; omega, h.mono, fun j hj hd => ?_, fun j hj hw => ?_, h.wr, h.esc⟩
  · rw [← h.at' j hj hd]
    have : j < S1.blks.length := Nat.lt_of_lt_of_le hj h.top
    simp only [St.at, St.push]
    rw [List.getElem?_append_left this]
  · rw [← h.low j hj hw]
    have : j < S1.blks.length := Nat.lt_of_lt_of_le hj h.top
    simp only [St.at, St.push]
    rw [List.getElem?_append_left this]

theorem Aft.wroteNew (h : Aft D S S1) {b : Nat} (o : AObj) (v : Value) (hb : S.top ≤ b) : Aft D S (S1.wrote b o v) := by
  refine ⟨by rw [top_wrote]; exact h.top, Nat.le_trans (Nat.min_le_left _ _) h.mono, fun j hj hd => by rw [m_wrote_ne (by omega)]; exact h.at' j hj hd, fun j hj hw => ?_, fun t ht hw hd => Nat.le_min.2 ⟨h.wr t ht hw hd, by omega⟩, fun t ht he => ?_⟩
  · rw [m_wrote_ne (by omega)]; exact h.low j hj (Nat.lt_of_lt_of_le hw (Nat.min_le_left _ _))
  · show t ≤ if refsLt (b + 1) v then S1.esc else min S1.esc b
    have := h.esc t ht he
    split
    · exact this
    · omega

theorem Aft.wroteOld (h : Aft D S S1) {b : Nat} (o : AObj) {v : Value} (hb : D b) (hv : refsLt (b + 1) v = true) : Aft D S (S1.wrote b o v) := by
  refine ⟨by rw [top_wrote]; exact h.top, Nat.le_trans (Nat.min_le_left _ _) h.mono, fun j hj hd => ?_, fun j hj hw => ?_, fun t ht hw hd => Nat.le_min.2 ⟨h.wr t ht hw hd, ?_⟩, fun t ht he => ?_⟩
  · rw [m_wrote_ne (fun e => hd (by rw [← e]; exact hb))]; exact h.at' j hj hd
  · have h2 : j < b := Nat.lt_of_lt_of_le hw (Nat.min_le_right _ _)
    rw [m_wrote_ne (by omega)]; exact h.low j hj (Nat.lt_of_lt_of_le hw (Nat.min_le_left _ _))
  · by_cases hlt : b < S.top
    · exact hd b hb hlt
    · omega
  · show t ≤ if refsLt (b + 1) v then S1.esc else min S1.esc b
    rw [if_pos hv]; exact h.esc t ht he

theorem Aft.app (h : Aft D S S1) {b : Nat} (o : AObj) (hb : S.top ≤ b) : Aft D S (S1.app b o) := by
  have key : ∀ j, j < S.top → (S1.app b o).at j = S1.at j := fun j hj => by
    have : j < S1.blks.length := Nat.lt_of_lt_of_le hj h.top
    simp only [St.at, St.app]
    rw [List.getElem?_append_left (by simpa using this), List.getElem?_set_ne (by omega)]
  refine ⟨by rw [top_app]; have := h.top; omega, Nat.le_trans (Nat.min_le_left _ _) h.mono, fun j hj hd => by rw [key j hj]; exact h.at' j hj hd, fun j hj hw => ?_, fun t ht hw hd => Nat.le_min.2 ⟨h.wr t ht hw hd, by omega⟩, h.esc⟩
  rw [key j hj]; exact h.low j hj (Nat.lt_of_lt_of_le hw (Nat.min_le_left _ _))

theorem Aft.kept {T : St} (h : Aft D S S') (hk : Kept T S) (hD : ∀ d, D d → d < S.top → T.top ≤ d) : Kept T S' :=
  ⟨h.wr _ hk.top hk.wr hD, h.esc _ hk.top hk.esc, Nat.le_trans hk.top h.top, fun j hj => by
    have hjs := Nat.lt_of_lt_of_le hj hk.top
    rw [h.at' j hjs fun hd => by have := hD j hd hjs; omega]
    exact hk.at' j hj⟩

theorem at_back' {b : Nat} (h : b < S.top) : (S.back S1).at b = S1.at b := by
  simp only [St.at, St.back]
  rw [List.getElem?_take_of_lt h]

/-- A call that hands back nothing new. -/
theorem Aft.leave (h : Aft D S.enter S1) {v : Value} (hv : refsLt S.top v = true) : ∃ S' q, AE.leave S S1 v = (v, S', q) ∧ Aft D S S' ∧ S'.top = S.top ∧ ∀ j, j < S.top → S'.at j = S1.at j := by
  by_cases hw : S.top ≤ S1.wr
  · exact ⟨S, true, leave_quiet hw hv, Aft.refl D S, rfl, fun j hj => (h.low j hj (Nat.lt_of_lt_of_le hj hw)).symm⟩
  · have he : S.top ≤ S1.esc := h.esc S.top (Nat.le_refl _) (Nat.le_refl _)
    have ht0 : S.top ≤ S1.top := h.top
    refine ⟨S.back S1, false, leave_dirty (by unfold Dirty; omega) he hv, ⟨by rw [top_back ht0]; exact Nat.le_refl _, Nat.min_le_left _ _, fun j hj hd => ?_, fun j hj hw => ?_, fun t ht hw hd => Nat.le_min.2 ⟨hw, h.wr t ht ht hd⟩, fun t ht he => Nat.le_min.2 ⟨he, h.esc t ht ht⟩⟩, top_back ht0, fun j hj => at_back' hj⟩
    · rw [at_back' hj]; exact h.at' j hj hd
    · rw [at_back' hj]; exact h.low j hj (Nat.lt_of_lt_of_le hw (Nat.min_le_right _ _))

/-- A call comes to this value, and to a state of which P says so. -/
def EndsIn (x : Option (Value × St × Bool)) (v : Value) (P : St → Prop) : Prop := ∃ S' q, x = some (v, S', q) ∧ P S'

@[simp] theorem ends_some {v : Value} {q : Bool} {P : St → Prop} : EndsIn (some (v, S', q)) v P ↔ P S' := by
  constructor
  · rintro ⟨S2, q2, h, k⟩
    simp only [Option.some.injEq, Prod.mk.injEq] at h
    obtain ⟨_, rfl, _⟩ := h
    exact k
  · exact fun h => ⟨_, _, rfl, h⟩

theorem Aft.ends (h : Aft D S.enter S1) {v : Value} {P : St → Prop} (hv : refsLt S.top v = true) (hP : ∀ S', Aft D S S' → S'.top = S.top → (∀ j, j < S.top → S'.at j = S1.at j) → P S') : EndsIn (some (AE.leave S S1 v)) v P := by
  obtain ⟨S', q, e, k1, k2, k3⟩ := h.leave hv
  exact ⟨S', q, by rw [e], hP S' k1 k2 k3⟩

/-- A call that hands back something new. -/
theorem Aft.leaveNew (h : Aft D S.enter S1) {v : Value} (hv : refsLt S.top v = false) : ∃ q, AE.leave S S1 v = (v, S.left S1, q) ∧ Aft D S (S.left S1) := by
  refine ⟨decide (S.top ≤ S1.wr), by rw [leave_eq]; simp [hv, St.left], ⟨h.top, Nat.min_le_left _ _, h.at', fun j hj hw => h.low j hj (Nat.lt_of_lt_of_le hw (Nat.min_le_right _ _)), fun t ht hw hd => Nat.le_min.2 ⟨hw, h.wr t ht ht hd⟩, fun t ht he => Nat.le_min.2 ⟨he, h.esc t ht ht⟩⟩⟩

/-- Behind a call that wrote nothing old. -/
abbrev Grown (S S' : St) : Prop := Aft (fun _ => False) S S'

theorem Grown.at' (h : Grown S S') : ∀ j, j < S.top → S'.at j = S.at j := fun j hj => Aft.at' h j hj id
theorem Grown.kept (h : Grown S S') (T : St) (k : Kept T S) : Kept T S' := Aft.kept h k fun _ x => x.elim
theorem Grown.refl (S : St) : Grown S S := Aft.refl _ S
theorem Grown.left {S S1 : St} (h : Kept S S1) : Grown S (S.left S1) :=
  ⟨h.top, Nat.min_le_left _ _, fun j hj _ => h.at' j hj, fun j hj _ => h.at' j hj, fun t ht hw _ => Nat.le_min.2 ⟨hw, Nat.le_trans ht h.wr⟩, fun t ht he => Nat.le_min.2 ⟨he, Nat.le_trans ht h.esc⟩⟩
theorem Grown.same (h : Grown S S') {b : Nat} {o : AObj} (hb : S.at b = some o) : S'.at b = some o := by rw [Grown.at' h b (lt_top hb)]; exact hb
theorem Aft.same (h : Aft D S S') {b : Nat} {o : AObj} (hb : S.at b = some o) (hd : ¬ D b) : S'.at b = some o := by rw [h.at' b (lt_top hb) hd]; exact hb
end

/-- A row that this call made (none yet: nil), out of blocks from lo on: n elements of sz cells. -/
def OutRow (S : St) (lo : Nat) (e : TypeId) (sz : Nat) (v : Value) (c : List Value) (n : Nat) : Prop :=
  (n = 0 ∧ c = [] ∧ v = .slice none 0 0) ∨ (0 < n ∧ c.length = n * sz ∧ ∃ b, v = .slice (some ⟨b, 0, none⟩) n 0 ∧ lo ≤ b ∧ S.at b = some (.cells e c))

theorem OutRow.nil {S : St} {lo : Nat} {e : TypeId} {sz : Nat} : OutRow S lo e sz (.slice none 0 0) [] 0 := .inl ⟨rfl, rfl, rfl⟩

theorem OutRow.same {S S' : St} {lo : Nat} {e : TypeId} {sz : Nat} {v : Value} {c : List Value} {n : Nat} (h : OutRow S lo e sz v c n) (k : ∀ b o, lo ≤ b → S.at b = some o → S'.at b = some o) : OutRow S' lo e sz v c n := by
  rcases h with h | ⟨h1, h2, b, h3, h4, h5⟩
  · exact .inl h
  · exact .inr ⟨h1, h2, b, h3, h4, k b _ h4 h5⟩

theorem OutRow.low {S : St} {lo lo' : Nat} {e : TypeId} {sz : Nat} {v : Value} {c : List Value} {n : Nat} (h : OutRow S lo e sz v c n) (hl : lo' ≤ lo) : OutRow S lo' e sz v c n := by
  rcases h with h | ⟨h1, h2, b, h3, h4, h5⟩
  · exact .inl h
  · exact .inr ⟨h1, h2, b, h3, Nat.le_trans hl h4, h5⟩

/-- out = append(out, x). -/
theorem out_app {S : St} {lo : Nat} {e : TypeId} {sz bytes cp : Nat} {v : Value} {c xs : List Value} {n : Nat} (h : OutRow S lo e sz v c n) (hx : xs.length = sz) (hs : 0 < sz) (ho : xs.all one = true) (hn : n ≤ 1000000) (hy : bytes ≤ 1000) (hlo : lo ≤ S.top) :
    ∃ v' S', appK e sz bytes v (rowS (S.push (.cells e xs)) sz (.slice (some ⟨S.top, 0, none⟩) 1 cp)) (S.push (.cells e xs)) = some (v', S') ∧ OutRow S' lo e sz v' (c ++ xs) (n + 1) ∧ one v' = true ∧
      (∀ T, Kept T S → T.top ≤ lo → Kept T S') ∧ (∀ b, b < lo → b < S.top → S'.at b = S.at b) ∧ S.top ≤ S'.top := by
  rcases h with ⟨rfl, rfl, rfl⟩ | ⟨h1, h2, b, rfl, h4, h5⟩
  · refine ⟨_, _, app_first (n := 1) (sz := sz) (by omega) (by omega) ho (by omega) hy, .inr ⟨by omega, by simp [hx], _, rfl, ?_, by simp⟩, rfl, fun T k _ => (k.push _).push _, fun b hb hb' => ?_, ?_⟩
    · rw [top_push]; omega
    · have hb1 : b < S.blks.length := hb'
      simp only [St.at, St.push]
      rw [List.getElem?_append_left (by simp; omega), List.getElem?_append_left hb1]
    · rw [top_push, top_push]; omega
  · refine ⟨_, _, app_row (sz := sz) h5 h2 (by omega) hs (by omega) ho (by omega) hy, .inr ⟨by omega, by simp [h2, hx, Nat.succ_mul], _, rfl, ?_, by simp⟩, rfl, fun T k hT => (k.push _).app _ (by omega), fun b' hb hb' => ?_, ?_⟩
    · rw [top_push]; omega
    · have hb1 : b' < S.blks.length := hb'
      simp only [St.at, St.push, St.app]
      rw [List.getElem?_append_left (by simp; omega), List.getElem?_set_ne (by omega), List.getElem?_append_left hb1]
    · rw [top_app, top_push]; omega

/-- A value that is no slice of that block. -/
def Avoids (v : Value) (b : Nat) : Prop := ∀ a n c, v = .slice (some a) n c → a.block ≠ b
theorem avoids_nil {n c b : Nat} : Avoids (.slice none n c) b := fun a m d h => by cases h
theorem avoids_iff {a : Addr} {n c b : Nat} : Avoids (.slice (some a) n c) b ↔ a.block ≠ b :=
  ⟨fun h => h a n c rfl, fun h a' n' c' e => by simp only [Value.slice.injEq, Option.some.injEq] at e; rw [← e.1]; exact h⟩

/-- out = append(out, x): all but the old row's block stand as they were. -/
theorem out_app2 {S : St} {lo : Nat} {e : TypeId} {sz bytes cp : Nat} {v : Value} {c xs : List Value} {n : Nat} (h : OutRow S lo e sz v c n) (hx : xs.length = sz) (hs : 0 < sz) (ho : xs.all one = true) (hn : n ≤ 1000000) (hy : bytes ≤ 1000) (hlo : lo ≤ S.top) :
    ∃ v' S', appK e sz bytes v (rowS (S.push (.cells e xs)) sz (.slice (some ⟨S.top, 0, none⟩) 1 cp)) (S.push (.cells e xs)) = some (v', S') ∧ OutRow S' lo e sz v' (c ++ xs) (n + 1) ∧ one v' = true ∧
      (∀ T, Kept T S → T.top ≤ lo → Kept T S') ∧ (∀ b, b < S.top → Avoids v b → S'.at b = S.at b) ∧ S.top ≤ S'.top ∧ ∀ b, b < S.top → Avoids v' b := by
  rcases h with ⟨rfl, rfl, rfl⟩ | ⟨h1, h2, b, rfl, h4, h5⟩
  · refine ⟨_, _, app_first (n := 1) (sz := sz) (by omega) (by omega) ho (by omega) hy, .inr ⟨by omega, by simp [hx], _, rfl, ?_, by simp⟩, rfl, fun T k _ => (k.push _).push _, fun b hb' _ => ?_, ?_, fun b hb => avoids_iff.2 ?_⟩
    · rw [top_push]; omega
    · have hb1 : b < S.blks.length := hb'
      simp only [St.at, St.push]
      rw [List.getElem?_append_left (by simp; omega), List.getElem?_append_left hb1]
    · rw [top_push, top_push]; omega
    · rw [top_push]; show S.top + 1 ≠ b; omega
  · refine ⟨_, _, app_row (sz := sz) h5 h2 (by omega) hs (by omega) ho (by omega) hy, .inr ⟨by omega, by simp [h2, hx, Nat.succ_mul], _, rfl, ?_, by simp⟩, rfl, fun T k hT => (k.push _).app _ (by omega), fun b' hb' hav => ?_, ?_, fun b' hb' => avoids_iff.2 ?_⟩
    · rw [top_push]; omega
    · have hb1 : b' < S.blks.length := hb'
      have hne := avoids_iff.1 hav
      simp only [St.at, St.push, St.app]
      rw [List.getElem?_append_left (by simp; omega), List.getElem?_set_ne hne, List.getElem?_append_left hb1]
    · rw [top_app, top_push]; omega
    · rw [top_push]; show S.top + 1 ≠ b'; omega

/-! ### Walks -/
/-- From number to number, till there is none (-1): all that were met; none: a number comes again, or leads nowhere. -/
inductive Walks (nx : Int → Option Int) : List Int → Int → Option (List Int) → Prop
  | stop (seen : List Int) : Walks nx seen (-1) (some seen)
  | again {seen : List Int} {x : Int} : x ≠ -1 → x ∈ seen → Walks nx seen x none
  | lost {seen : List Int} {x : Int} : x ≠ -1 → x ∉ seen → nx x = none → Walks nx seen x none
  | on {seen : List Int} {x y : Int} {r : Option (List Int)} : x ≠ -1 → x ∉ seen → nx x = some y → Walks nx (seen ++ [x]) y r → Walks nx seen x r

theorem Walks.unique {nx : Int → Option Int} {seen : List Int} {x : Int} {r r' : Option (List Int)} (h : Walks nx seen x r) : Walks nx seen x r' → r = r' := by
  induction h with
  | stop seen => intro h'; cases h' <;> first | rfl | exact absurd rfl (by assumption)
  | again h1 h2 => intro h'; cases h' <;> first | rfl | exact absurd rfl h1 | exact absurd h2 (by assumption)
  | lost h1 h2 h3 =>
    intro h'
    cases h' with
    | stop => exact absurd rfl h1
    | again _ _ => rfl
    | lost _ _ _ => rfl
    | on _ _ k _ => rw [h3] at k; cases k
  | on h1 h2 h3 _ ih =>
    intro h'
    cases h' with
    | stop => exact absurd rfl h1
    | again _ k => exact absurd k h2
    | lost _ _ k => rw [h3] at k; cases k
    | on _ _ k k' =>
      rw [h3] at k
      obtain rfl := Option.some.inj k
      exact ih k'

/-- How many numbers below N were not met. -/
def unmet (N : Nat) (seen : List Int) : Nat := ((List.range N).filter fun (i : Nat) => decide ((i : Int) ∉ seen)).length

theorem unmet_lt {N : Nat} {seen : List Int} {x : Int} (h0 : 0 ≤ x) (h1 : x < N) (hx : x ∉ seen) : unmet N (seen ++ [x]) < unmet N seen := by
  unfold unmet
  have e : (List.range N).filter (fun (i : Nat) => decide ((i : Int) ∉ seen ++ [x])) = ((List.range N).filter fun (i : Nat) => decide ((i : Int) ∉ seen)).filter fun (i : Nat) => decide ((i : Int) ≠ x) := by
    rw [List.filter_filter]
    congr 1
    funext i
    simp only [List.mem_append, List.mem_singleton, not_or, ne_eq, Bool.decide_and, Bool.and_comm]
  rw [e, List.length_filter_lt_length_iff_exists]
  refine ⟨x.toNat, ?_, ?_⟩
  · simp only [List.mem_filter, List.mem_range, decide_eq_true_eq]
    have : ((x.toNat : Nat) : Int) = x := by omega
    exact ⟨by omega, by rw [this]; exact hx⟩
  · simp; omega

theorem unmet_le (N : Nat) (seen : List Int) : unmet N seen ≤ N := by
  unfold unmet
  exact Nat.le_trans (List.length_filter_le _ _) (by simp)

/-- Which numbers below N were met, as bools. -/
def metC (N : Nat) (seen : List Int) : List Value := (List.range N).map fun (i : Nat) => .bool (decide ((i : Int) ∈ seen))
theorem metC_len {N : Nat} {seen : List Int} : (metC N seen).length = N := by simp [metC]
theorem metC_get {N x : Nat} {seen : List Int} (h : x < N) : (metC N seen)[x]? = some (.bool (decide ((x : Int) ∈ seen))) := by simp [metC, h]
theorem metC_set {N x : Nat} {seen : List Int} : (metC N seen).set x (.bool true) = metC N (seen ++ [(x : Int)]) := by
  refine List.ext_getElem? fun j => ?_
  by_cases hj : j < N
  · by_cases he : x = j
    · subst he
      rw [List.getElem?_set_self (by simpa [metC] using hj), metC_get hj]
      simp
    · rw [List.getElem?_set_ne he, metC_get hj, metC_get hj]
      have : ¬ ((j : Int) = x) := by omega
      simp [this]
  · rw [List.getElem?_eq_none (by simp [metC]; omega), List.getElem?_eq_none (by simp [metC]; omega)]

end Go.Proofs.YtepddcemoofmlaaGreat.AE
