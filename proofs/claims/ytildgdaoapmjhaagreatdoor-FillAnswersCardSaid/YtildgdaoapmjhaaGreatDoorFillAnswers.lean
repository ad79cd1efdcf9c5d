/- FillAnswers' own text: what it comes to. -/
import Derived.Test.YtildgdaoapmjhaaGreatDoorFillNodes
import Derived.Test.YtildgdaoapmjhaaGreatDoorFillWorks
namespace Go.Proofs.YtildgdaoapmjhaaGreatDoor.Fill
open Go Go.Proofs.YtildgdaoapmjhaaGreatDoor.AE Go.RowKit
set_option maxRecDepth 10000
set_option linter.unusedSimpArgs false

def tk (job cpu pc en want slab obj h t f k n last many to bk fo : Int) : List Value :=
  [.int .i64 job, .int .i64 cpu, .int .i64 pc, .int .i64 en, .int .i64 want, .int .i64 slab, .int .i64 obj, .int .u64 h, .int .u64 t, .int .u64 f, .int .u64 k, .int .u64 n, .int .i64 last, .int .i64 many, .int .i64 to, .int .i64 bk, .int .i64 fo]
def zt : List Value := tk 0 0 0 0 0 0 0 0 0 0 0 0 0 0 0 0 0

section
variable {m : Nat} {S : St} {job cpu pc en want slab obj h t f k n last many to bk fo i : Int} {yes : Bool}

/-- What Answer answers. -/
def answerOf (job cpu pc en want slab obj h t f k n last many to bk fo : Int) (yes : Bool) (i : Int) : List Value × Int :=
  if en = 0 ∧ want = 1 then
    if yes = true then (if 0 ≤ i ∧ i < 32 then (tk job cpu 43 0 0 i obj h t f k n last 0 to bk fo, 0) else (zt, 2))
    else (tk job cpu pc 2 0 slab obj h t f k n last many to bk fo, 0)
  else (zt, 292)

set_option maxHeartbeats 4000000 in
theorem sAnswer : calls table.find (m + 5) 7 [.agg (tk job cpu pc en want slab obj h t f k n last many to bk fo).toArray, .bool yes, .int .i64 i] S =
    some (.tuple #[.agg (answerOf job cpu pc en want slab obj h t f k n last many to bk fo yes i).1.toArray, .int .i64 (answerOf job cpu pc en want slab obj h t f k n last many to bk fo yes i).2], S, true) := by
  unfold answerOf tk zt
  by_cases e1 : en = 0
  · by_cases e2 : want = 1
    · subst e1 e2
      cases yes with
      | false => simp (maxDischargeDepth := 30) [q7, tk]
      | true =>
        by_cases e3 : i < 0
        · have e4 : ¬ 0 ≤ i := by omega
          simp (maxDischargeDepth := 30) [q7, tk, e3, e4]
        · by_cases e4 : i < 32
          · have e5 : 0 ≤ i := by omega
            have e6 : ¬ 32 ≤ i := by omega
            simp (maxDischargeDepth := 30) [q7, tk, e3, e4, e5, e6]
          · have e5 : 0 ≤ i := by omega
            have e6 : 32 ≤ i := by omega
            simp (maxDischargeDepth := 30) [q7, tk, e3, e4, e5, e6]
    · have e : (want != 1) = true := by simp [e2]
      simp (maxDischargeDepth := 30) [q7, tk, e1, e2, e]
  · have e : (en != 0) = true := by simp [e1]
    simp (maxDischargeDepth := 30) [q7, tk, e1, e]

set_option maxHeartbeats 4000000 in
theorem rAnswer : calls table.find (m + 5) 8 [.agg (tk job cpu pc en want slab obj h t f k n last many to bk fo).toArray, .bool yes, .int .i64 i] S =
    some (.tuple #[.agg (answerOf job cpu pc en want slab obj h t f k n last many to bk fo yes i).1.toArray, .int .i64 (answerOf job cpu pc en want slab obj h t f k n last many to bk fo yes i).2], S, true) := by
  unfold answerOf tk zt
  by_cases e1 : en = 0
  · by_cases e2 : want = 1
    · subst e1 e2
      cases yes with
      | false => simp (maxDischargeDepth := 30) [q8, tk]
      | true =>
        by_cases e3 : i < 0
        · have e4 : ¬ 0 ≤ i := by omega
          simp (maxDischargeDepth := 30) [q8, tk, e3, e4]
        · by_cases e4 : i < 32
          · have e5 : 0 ≤ i := by omega
            have e6 : ¬ 32 ≤ i := by omega
            simp (maxDischargeDepth := 30) [q8, tk, e3, e4, e5, e6]
          · have e5 : 0 ≤ i := by omega
            have e6 : 32 ≤ i := by omega
            simp (maxDischargeDepth := 30) [q8, tk, e3, e4, e5, e6]
    · have e : (want != 1) = true := by simp [e2]
      simp (maxDischargeDepth := 30) [q8, tk, e1, e2, e]
  · have e : (en != 0) = true := by simp [e1]
    simp (maxDischargeDepth := 30) [q8, tk, e1, e]


theorem answer_is : ∃ job' cpu' pc' en' want' slab' obj' h' t' f' k' n' last' many' to' bk' fo' e, answerOf job cpu pc en want slab obj h t f k n last many to bk fo yes i = (tk job' cpu' pc' en' want' slab' obj' h' t' f' k' n' last' many' to' bk' fo', e) := by
  unfold answerOf zt
  (repeat' split) <;> exact ⟨_, _, _, _, _, _, _, _, _, _, _, _, _, _, _, _, _, _, rfl⟩

/-- Both answer alike, and with a task's cells. -/
theorem answer_both (en want : Int) (yes : Bool) (i : Int) : ∃ job' cpu' pc' en' want' slab' obj' h' t' f' k' n' last' many' to' bk' fo' e,
    (∀ S : St, known 7 [.agg (tk job cpu pc en want slab obj h t f k n last many to bk fo).toArray, .bool yes, .int .i64 i] S = some (.tuple #[.agg (tk job' cpu' pc' en' want' slab' obj' h' t' f' k' n' last' many' to' bk' fo').toArray, .int .i64 e], S, true)) ∧
    ∀ S : St, known 8 [.agg (tk job cpu pc en want slab obj h t f k n last many to bk fo).toArray, .bool yes, .int .i64 i] S = some (.tuple #[.agg (tk job' cpu' pc' en' want' slab' obj' h' t' f' k' n' last' many' to' bk' fo').toArray, .int .i64 e], S, true) := by
  obtain ⟨aa1, aa2, aa3, aa4, aa5, aa6, aa7, aa8, aa9, aa10, aa11, aa12, aa13, aa14, aa15, aa16, aa17, ae, h⟩ := @answer_is job cpu pc en want slab obj h t f k n last many to bk fo i yes
  refine ⟨aa1, aa2, aa3, aa4, aa5, aa6, aa7, aa8, aa9, aa10, aa11, aa12, aa13, aa14, aa15, aa16, aa17, ae, fun S => ?_, fun S => ?_⟩
  · rw [known_cons, sAnswer (m := 59), h]
  · rw [known_cons, rAnswer (m := 59), h]
end

section
variable {job cpu pc en want slab obj h t f k n last many to bk fo j : Int} {yes : Bool}

set_option maxHeartbeats 4000000 in
theorem faLoop {R : List Value} {S : St} (hR : R.length = 45) (h3 : rd R 3 = .pointer (some ⟨1, 0, none⟩)) (h1 : rd R 1 = .bool yes) (h2 : rd R 2 = .int .i64 j) (h7 : rd R 7 = .int .i64 0)
    (hb : S.at 1 = some (.cells 24 (tk job cpu pc en want slab obj h t f k n last many to bk fo))) (hg0 : S.at 0 = some (.view goesC)) {S0 : St} (hq : Quiet S0 S) (ht : S0.top ≤ S.top) :
    Leads (evCode known loop3_0 R S) fun o R' S' => o = .exit 0 ∧ R'.length = 45 ∧ S'.at 0 = some (.view goesC) ∧ Quiet S0 S' := by
  rw [eloop3_0]
  refine loop_goes (fun q R S => ∃ i : Nat, i + q = 2 ∧ R.length = 45 ∧ rd R 3 = .pointer (some ⟨1, 0, none⟩) ∧ rd R 1 = .bool yes ∧ rd R 2 = .int .i64 j ∧ rd R 7 = .int .i64 i ∧ S.at 1 = some (.cells 24 (tk job cpu pc en want slab obj h t f k n last many to bk fo)) ∧ S.at 0 = some (.view goesC) ∧ Quiet S0 S ∧ S0.top ≤ S.top) _ 2 (by omega) ⟨0, by omega, hR, h3, h1, h2, h7, hb, hg0, hq, ht⟩ ?_
  clear hR h1 h2 h3 h7 hb hg0 hq ht
  rintro q R S ⟨i, hk, hR, h3, h1, h2, h7, hb, hg0, hq, ht⟩
  unfold tk at hb ⊢
  match i, hk, h7 with
  | 0, hk, h7 =>
    obtain rfl : q = 2 := by omega
    obtain ⟨aa1, aa2, aa3, aa4, aa5, aa6, aa7, aa8, aa9, aa10, aa11, aa12, aa13, aa14, aa15, aa16, aa17, ae, hg, hr⟩ := @answer_both job cpu pc slab obj h t f k n last many to bk fo en want yes j
    unfold tk at hg hr
    have w1 : W .i64 1 = 1 := W_i64 (by omega)
    simp (maxDischargeDepth := 30) (maxSteps := 1000000) [hR, h1, h2, h3, h7, hb, hg0, hg, hr, w1, hq, ht]
    exact ⟨1, by omega, 1, by omega, by simp⟩
  | 1, hk, h7 =>
    obtain rfl : q = 1 := by omega
    obtain ⟨aa1, aa2, aa3, aa4, aa5, aa6, aa7, aa8, aa9, aa10, aa11, aa12, aa13, aa14, aa15, aa16, aa17, ae, hg, hr⟩ := @answer_both job cpu pc slab obj h t f k n last many to bk fo 0 1 yes j
    unfold tk at hg hr
    have w1 : W .i64 2 = 2 := W_i64 (by omega)
    simp (maxDischargeDepth := 30) (maxSteps := 1000000) [hR, h1, h2, h3, h7, hb, hg0, hg, hr, w1, hq, ht]
  | 2, hk, h7 =>
    simp (maxDischargeDepth := 30) (maxSteps := 1000000) [hR, h1, h2, h3, h7, hb, hg0, hq]
  | i + 3, hk, h7 => omega

set_option maxHeartbeats 4000000 in
theorem ranAnswers : evFun table.find known 3 [.agg (tk job cpu pc en want slab obj h t f k n last many to bk fo).toArray, .bool yes, .int .i64 j] ⟨[.view goesC], 1, 1⟩ = some (.bool true, ⟨[.view goesC], 1, 1⟩, true) := by
  rw [law_step b3]
  simp (maxDischargeDepth := 30) (maxSteps := 1000000) [tk]
  generalize hR2 : wr (wr _ _ _) 7 _ = R2
  generalize hS : St.push _ _ = S2
  have hl := faLoop (R := R2) (S := S2) (yes := yes) (j := j) (job := job) (cpu := cpu) (pc := pc) (en := en) (want := want) (slab := slab) (obj := obj) (h := h) (t := t) (f := f) (k := k) (n := n) (last := last) (many := many) (to := to) (bk := bk) (fo := fo)
    (by simp [← hR2]) (by simp [← hR2]; rfl) (by simp [← hR2]) (by simp [← hR2]) (by simp [← hR2]) (by rw [← hS]; rfl) (by rw [← hS]; rfl) (S0 := ⟨[.view goesC], 1, 1⟩) (by rw [← hS]; exact Nat.le_refl _) (by rw [← hS]; exact Nat.le_succ _)
  obtain ⟨o, R3, S3, he, rfl, hR3, h0, hq⟩ := hl
  rw [he]
  simp (maxDischargeDepth := 30) (maxSteps := 1000000) [known_works h0, hR3, hq]
end

end Go.Proofs.YtildgdaoapmjhaaGreatDoor.Fill
