/- FlushGiven's own text: what it comes to. -/
import Derived.Test.YtpgacehfoeoakaaRRGreatFlushNodes
import Derived.Test.YtpgacehfoeoakaaRRGreatAe35
import Derived.Test.YtpgacehfoeoakaaRRGreatFlushWorks
namespace Go.Proofs.YtpgacehfoeoakaaRRGreat.Flush
open Go Go.Proofs.YtpgacehfoeoakaaRRGreat.AE Go.RowKit
set_option maxRecDepth 10000
set_option linter.unusedSimpArgs false

def tk (job cpu pc en want slab obj h t f k n last many to bk fo : Int) : List Value :=
  [.int .i64 job, .int .i64 cpu, .int .i64 pc, .int .i64 en, .int .i64 want, .int .i64 slab, .int .i64 obj, .int .u64 h, .int .u64 t, .int .u64 f, .int .u64 k, .int .u64 n, .int .i64 last, .int .i64 many, .int .i64 to, .int .i64 bk, .int .i64 fo]
def zt : List Value := tk 0 0 0 0 0 0 0 0 0 0 0 0 0 0 0 0 0

section
variable {m : Nat} {S : St} {job cpu pc en want slab obj h t f k n last many to bk fo : Int}

/-- What Given answers. -/
def givenOf (job cpu pc en want slab obj h t f k n last many to bk fo : Int) : List Value × Int :=
  if en = 0 ∧ want = 2 then
    if bk = 79 then (if h = 0 then (tk job cpu pc 1 0 slab obj h t f k n last many to bk fo, 0) else (tk job cpu bk 0 0 slab obj h t f k n last many to bk fo, 0))
    else if bk = 73 ∨ bk = 95 then (tk job cpu bk 0 0 slab obj h t f k n last many to bk fo, 0)
    else if bk = 0 then (tk job cpu pc 1 0 slab obj h t f k n last many to bk fo, 0)
    else (zt, 292)
  else (zt, 292)

set_option maxHeartbeats 4000000 in
theorem sGiven : calls table.find (m + 5) 4 [.agg (tk job cpu pc en want slab obj h t f k n last many to bk fo).toArray] S =
    some (.tuple #[.agg (givenOf job cpu pc en want slab obj h t f k n last many to bk fo).1.toArray, .int .i64 (givenOf job cpu pc en want slab obj h t f k n last many to bk fo).2], S, true) := by
  unfold givenOf tk zt
  by_cases e1 : en = 0
  · by_cases e2 : want = 2
    · subst e1 e2
      by_cases e3 : bk = 79
      · subst e3
        by_cases e4 : h = 0
        · subst e4
          simp (maxDischargeDepth := 30) [q4, q7, q20, q21, q22, tk, leave_dirty]
        · have e5 : (h == 0) = false := by simp [e4]
          have e6 : (h != 0) = true := by simp [e4]
          simp (maxDischargeDepth := 30) [q4, q7, q20, q21, q22, tk, leave_dirty, e4, e5, e6]
      · by_cases e4 : bk = 73
        · subst e4
          simp (maxDischargeDepth := 30) [q4, q7, q20, q21, q22, tk, leave_dirty]
        · by_cases e5 : bk = 95
          · subst e5
            simp (maxDischargeDepth := 30) [q4, q7, q20, q21, q22, tk, leave_dirty]
          · by_cases e6 : bk = 0
            · subst e6
              simp (maxDischargeDepth := 30) [q4, q7, q20, q21, q22, tk, leave_dirty]
            · have b3 : (bk == 79) = false := by simp [e3]
              have b4 : (bk == 73) = false := by simp [e4]
              have b5 : (bk == 95) = false := by simp [e5]
              have b6 : (bk == 0) = false := by simp [e6]
              simp (maxDischargeDepth := 30) [q4, q7, q20, q21, q22, tk, leave_dirty, e3, e4, e5, e6, b3, b4, b5, b6]
    · have e : (want != 2) = true := by simp [e2]
      simp (maxDischargeDepth := 30) [q4, q7, q20, q21, q22, e1, e2, e, tk]
  · have e : (en != 0) = true := by simp [e1]
    simp (maxDischargeDepth := 30) [q4, q7, q20, q21, q22, e1, e, tk]

set_option maxHeartbeats 4000000 in
theorem rGiven : calls table.find (m + 5) 5 [.agg (tk job cpu pc en want slab obj h t f k n last many to bk fo).toArray] S =
    some (.tuple #[.agg (givenOf job cpu pc en want slab obj h t f k n last many to bk fo).1.toArray, .int .i64 (givenOf job cpu pc en want slab obj h t f k n last many to bk fo).2], S, true) := by
  unfold givenOf tk zt
  by_cases e1 : en = 0
  · by_cases e2 : want = 2
    · subst e1 e2
      by_cases e3 : bk = 79
      · subst e3
        by_cases e4 : h = 0
        · subst e4
          simp (maxDischargeDepth := 30) [q5, q8, q23, q24, tk, leave_dirty]
        · have e5 : (h == 0) = false := by simp [e4]
          have e6 : (h != 0) = true := by simp [e4]
          simp (maxDischargeDepth := 30) [q5, q8, q23, q24, tk, leave_dirty, e4, e5, e6]
      · by_cases e4 : bk = 73
        · subst e4
          simp (maxDischargeDepth := 30) [q5, q8, q23, q24, tk, leave_dirty]
        · by_cases e5 : bk = 95
          · subst e5
            simp (maxDischargeDepth := 30) [q5, q8, q23, q24, tk, leave_dirty]
          · by_cases e6 : bk = 0
            · subst e6
              simp (maxDischargeDepth := 30) [q5, q8, q23, q24, tk, leave_dirty]
            · have b3 : (bk == 79) = false := by simp [e3]
              have b4 : (bk == 73) = false := by simp [e4]
              have b5 : (bk == 95) = false := by simp [e5]
              have b6 : (bk == 0) = false := by simp [e6]
              simp (maxDischargeDepth := 30) [q5, q8, q23, q24, tk, leave_dirty, e3, e4, e5, e6, b3, b4, b5, b6]
    · have e : (want != 2) = true := by simp [e2]
      simp (maxDischargeDepth := 30) [q5, q8, q23, q24, e1, e2, e, tk]
  · have e : (en != 0) = true := by simp [e1]
    simp (maxDischargeDepth := 30) [q5, q8, q23, q24, e1, e, tk]


theorem given_is : ∃ job' cpu' pc' en' want' slab' obj' h' t' f' k' n' last' many' to' bk' fo' e, givenOf job cpu pc en want slab obj h t f k n last many to bk fo = (tk job' cpu' pc' en' want' slab' obj' h' t' f' k' n' last' many' to' bk' fo', e) := by
  unfold givenOf zt
  (repeat' split) <;> exact ⟨_, _, _, _, _, _, _, _, _, _, _, _, _, _, _, _, _, _, rfl⟩

/-- Both answer alike, and with a task's cells. -/
theorem given_both (en want bk : Int) : ∃ job' cpu' pc' en' want' slab' obj' h' t' f' k' n' last' many' to' bk' fo' e,
    (∀ S : St, known 4 [.agg (tk job cpu pc en want slab obj h t f k n last many to bk fo).toArray] S = some (.tuple #[.agg (tk job' cpu' pc' en' want' slab' obj' h' t' f' k' n' last' many' to' bk' fo').toArray, .int .i64 e], S, true)) ∧
    ∀ S : St, known 5 [.agg (tk job cpu pc en want slab obj h t f k n last many to bk fo).toArray] S = some (.tuple #[.agg (tk job' cpu' pc' en' want' slab' obj' h' t' f' k' n' last' many' to' bk' fo').toArray, .int .i64 e], S, true) := by
  obtain ⟨aa1, aa2, aa3, aa4, aa5, aa6, aa7, aa8, aa9, aa10, aa11, aa12, aa13, aa14, aa15, aa16, aa17, ae, h⟩ := @given_is job cpu pc en want slab obj h t f k n last many to bk fo
  refine ⟨aa1, aa2, aa3, aa4, aa5, aa6, aa7, aa8, aa9, aa10, aa11, aa12, aa13, aa14, aa15, aa16, aa17, ae, fun S => ?_, fun S => ?_⟩
  · rw [known_cons, sGiven (m := 59), h]
  · rw [known_cons, rGiven (m := 59), h]
end

section
variable {job cpu pc en want slab obj h t f k n last many to bk fo : Int}

set_option maxHeartbeats 4000000 in
theorem giLoop {R : List Value} {S : St} (hR : R.length = 43) (h1 : rd R 1 = .pointer (some ⟨0, 0, none⟩)) (h3 : rd R 3 = .int .i64 0) (hb : S.at 0 = some (.cells 24 (tk job cpu pc en want slab obj h t f k n last many to bk fo))) :
    Leads (evCode known loop3_0 R S) fun o R' _ => o = .exit 0 ∧ R'.length = 43 := by
  rw [eloop3_0]
  refine loop_goes (fun q R S => ∃ i : Nat, i + q = 5 ∧ R.length = 43 ∧ rd R 1 = .pointer (some ⟨0, 0, none⟩) ∧ rd R 3 = .int .i64 i ∧ S.at 0 = some (.cells 24 (tk job cpu pc en want slab obj h t f k n last many to bk fo))) _ 5 (by omega) ⟨0, by omega, hR, h1, h3, hb⟩ ?_
  clear hR h1 h3 hb
  rintro q R S ⟨i, hk, hR, h1, h3, hb⟩
  unfold tk at hb ⊢
  match i, hk, h3 with
  | 0, hk, h3 =>
    obtain rfl : q = 5 := by omega
    obtain ⟨aa1, aa2, aa3, aa4, aa5, aa6, aa7, aa8, aa9, aa10, aa11, aa12, aa13, aa14, aa15, aa16, aa17, ae, hg, hr⟩ := @given_both job cpu pc slab obj h t f k n last many to fo en want bk
    unfold tk at hg hr
    have w1 : W .i64 1 = 1 := W_i64 (by omega)
    have w2 : W .i64 0 = 0 := W_i64 (by omega)
    simp (maxDischargeDepth := 30) (maxSteps := 1000000) [hR, h1, h3, hb, hg, hr, w1, w2]
    exact ⟨4, by omega, 1, by omega, by simp⟩
  | 1, hk, h3 =>
    obtain rfl : q = 4 := by omega
    obtain ⟨aa1, aa2, aa3, aa4, aa5, aa6, aa7, aa8, aa9, aa10, aa11, aa12, aa13, aa14, aa15, aa16, aa17, ae, hg, hr⟩ := @given_both job cpu pc slab obj h t f k n last many to fo 0 2 0
    unfold tk at hg hr
    have w1 : W .i64 2 = 2 := W_i64 (by omega)
    have w2 : W .i64 0 = 0 := W_i64 (by omega)
    simp (maxDischargeDepth := 30) (maxSteps := 1000000) [hR, h1, h3, hb, hg, hr, w1, w2]
    exact ⟨3, by omega, 2, by omega, by simp⟩
  | 2, hk, h3 =>
    obtain rfl : q = 3 := by omega
    obtain ⟨aa1, aa2, aa3, aa4, aa5, aa6, aa7, aa8, aa9, aa10, aa11, aa12, aa13, aa14, aa15, aa16, aa17, ae, hg, hr⟩ := @given_both job cpu pc slab obj h t f k n last many to fo 0 2 73
    unfold tk at hg hr
    have w1 : W .i64 3 = 3 := W_i64 (by omega)
    have w2 : W .i64 1 = 1 := W_i64 (by omega)
    simp (maxDischargeDepth := 30) (maxSteps := 1000000) [hR, h1, h3, hb, hg, hr, w1, w2]
    exact ⟨2, by omega, 3, by omega, by simp⟩
  | 3, hk, h3 =>
    obtain rfl : q = 2 := by omega
    obtain ⟨aa1, aa2, aa3, aa4, aa5, aa6, aa7, aa8, aa9, aa10, aa11, aa12, aa13, aa14, aa15, aa16, aa17, ae, hg, hr⟩ := @given_both job cpu pc slab obj h t f k n last many to fo 0 2 79
    unfold tk at hg hr
    have w1 : W .i64 4 = 4 := W_i64 (by omega)
    have w2 : W .i64 2 = 2 := W_i64 (by omega)
    simp (maxDischargeDepth := 30) (maxSteps := 1000000) [hR, h1, h3, hb, hg, hr, w1, w2]
    exact ⟨1, by omega, 4, by omega, by simp⟩
  | 4, hk, h3 =>
    obtain rfl : q = 1 := by omega
    obtain ⟨aa1, aa2, aa3, aa4, aa5, aa6, aa7, aa8, aa9, aa10, aa11, aa12, aa13, aa14, aa15, aa16, aa17, ae, hg, hr⟩ := @given_both job cpu pc slab obj h t f k n last many to fo 0 2 95
    unfold tk at hg hr
    have w1 : W .i64 5 = 5 := W_i64 (by omega)
    have w2 : W .i64 3 = 3 := W_i64 (by omega)
    simp (maxDischargeDepth := 30) (maxSteps := 1000000) [hR, h1, h3, hb, hg, hr, w1, w2]
  | 5, hk, h3 =>
    simp (maxDischargeDepth := 30) (maxSteps := 1000000) [hR, h1, h3, hb]
  | i + 6, hk, h3 => omega

set_option maxHeartbeats 4000000 in
theorem ranGiven : evFun table.find known 3 [.agg (tk job cpu pc en want slab obj h t f k n last many to bk fo).toArray] ⟨[], 0, 0⟩ = some (.bool true, ⟨[], 0, 0⟩, true) := by
  rw [law_step b3]
  simp (maxDischargeDepth := 30) (maxSteps := 1000000) [tk]
  generalize hR2 : wr (wr _ _ _) 3 _ = R2
  generalize hS : St.push _ _ = S2
  have hl := giLoop (R := R2) (S := S2) (job := job) (cpu := cpu) (pc := pc) (en := en) (want := want) (slab := slab) (obj := obj) (h := h) (t := t) (f := f) (k := k) (n := n) (last := last) (many := many) (to := to) (bk := bk) (fo := fo)
    (by simp [← hR2]) (by simp [← hR2]; rfl) (by simp [← hR2]) (by rw [← hS]; rfl)
  obtain ⟨o, R3, S3, he, rfl, hR3⟩ := hl
  rw [he]
  simp (maxDischargeDepth := 30) (maxSteps := 1000000) [known_works, hR3]
  exact leave_quiet (Nat.zero_le _) rfl
end

end Go.Proofs.YtpgacehfoeoakaaRRGreat.Flush
