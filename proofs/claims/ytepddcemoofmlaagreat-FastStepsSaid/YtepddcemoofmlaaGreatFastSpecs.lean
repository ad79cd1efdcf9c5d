/- What chart's functions answer. -/
import Derived.Test.YtepddcemoofmlaaGreatFastNodesA
set_option linter.unusedSimpArgs false
set_option linter.unusedVariables false
namespace Go.Proofs.YtepddcemoofmlaaGreat.Fast
open Go Go.Proofs.YtepddcemoofmlaaGreat.AE
set_option maxRecDepth 10000
set_option linter.unusedSimpArgs false

def chart (p s o mn cp : Int) (k : Int) : Value := .agg #[.int .i64 p, .int .i64 s, .int .i64 o, .int .i64 mn, .int .i64 cp, .int .u64 k]

def may (p s o mn cp : Int) : Bool := !(decide (p < 1) || decide (p > 8) || decide (s < 1) || decide (s > 32) || decide (o < 1) || decide (o > 16) || decide (mn < 0) || decide (mn > 32) || decide (cp < 0) || decide (cp > 32))

def errno (b : Bool) : Int := if b then 0 else 2

set_option maxHeartbeats 1000000 in
theorem s18 (n : Nat) (p s o mn cp k : Int) (S : St) : calls table.find (n + 1) 18 [chart p s o mn cp k] S = some (.int .i64 (errno (may p s o mn cp)), S, true) := by
  unfold may errno
  cases e1 : decide (p < 1) with
  | true => simp (maxDischargeDepth := 30) [q18, chart, e1]
  | false =>
  cases e2 : decide (p > 8) with
  | true => simp (maxDischargeDepth := 30) [q18, chart, e1, e2]
  | false =>
  cases e3 : decide (s < 1) with
  | true => simp (maxDischargeDepth := 30) [q18, chart, e1, e2, e3]
  | false =>
  cases e4 : decide (s > 32) with
  | true => simp (maxDischargeDepth := 30) [q18, chart, e1, e2, e3, e4]
  | false =>
  cases e5 : decide (o < 1) with
  | true => simp (maxDischargeDepth := 30) [q18, chart, e1, e2, e3, e4, e5]
  | false =>
  cases e6 : decide (o > 16) with
  | true => simp (maxDischargeDepth := 30) [q18, chart, e1, e2, e3, e4, e5, e6]
  | false =>
  cases e7 : decide (mn < 0) with
  | true => simp (maxDischargeDepth := 30) [q18, chart, e1, e2, e3, e4, e5, e6, e7]
  | false =>
  cases e8 : decide (mn > 32) with
  | true => simp (maxDischargeDepth := 30) [q18, chart, e1, e2, e3, e4, e5, e6, e7, e8]
  | false =>
  cases e9 : decide (cp < 0) with
  | true => simp (maxDischargeDepth := 30) [q18, chart, e1, e2, e3, e4, e5, e6, e7, e8, e9]
  | false =>
  cases e10 : decide (cp > 32) with
  | true => simp (maxDischargeDepth := 30) [q18, chart, e1, e2, e3, e4, e5, e6, e7, e8, e9, e10]
  | false => simp (maxDischargeDepth := 30) [q18, chart, e1, e2, e3, e4, e5, e6, e7, e8, e9, e10]

set_option maxHeartbeats 1000000 in
theorem s98 (n : Nat) (p s o mn cp k : Int) (S : St) : calls table.find (n + 6) 98 [chart p s o mn cp k] S = some (.int .i64 (W .i64 (4 * p)), S, true) := by
  unfold chart
  simp (maxDischargeDepth := 30) [-Array.all_toList, -Array.all_eq_true, -List.all_eq_true, q98]

set_option maxHeartbeats 1000000 in
theorem s86 (n : Nat) (p s o mn cp k : Int) (S : St) : calls table.find (n + 6) 86 [chart p s o mn cp k] S = some (.int .i64 (W .i64 (W .i64 (4 * p) + 4)), S, true) := by
  unfold chart
  simp (maxDischargeDepth := 30) [-Array.all_toList, -Array.all_eq_true, -List.all_eq_true, q86, q98]

set_option maxHeartbeats 1000000 in
theorem s77 (n : Nat) (p s o mn cp k : Int) (S : St) : calls table.find (n + 6) 77 [chart p s o mn cp k] S = some (.int .i64 (W .i64 (W .i64 (W .i64 (4 * p) + 4) + W .i64 (4 * s))), S, true) := by
  unfold chart
  simp (maxDischargeDepth := 30) [-Array.all_toList, -Array.all_eq_true, -List.all_eq_true, q77, q86, q98]

set_option maxHeartbeats 1000000 in
theorem s56 (n : Nat) (p s o mn cp k : Int) (S : St) : calls table.find (n + 6) 56 [chart p s o mn cp k] S = some (.int .i64 (if may p s o mn cp then W .i64 (W .i64 (W .i64 (W .i64 (4 * p) + 4) + W .i64 (4 * s)) + W .i64 (s * o)) else 0), S, true) := by
  have h8 := fun m => s18 m p s o mn cp k
  unfold chart at h8 ⊢
  cases e0 : may p s o mn cp with
  | false => simp (maxDischargeDepth := 30) [-Array.all_toList, -Array.all_eq_true, -List.all_eq_true, q56, h8, errno, e0]
  | true => simp (maxDischargeDepth := 30) [-Array.all_toList, -Array.all_eq_true, -List.all_eq_true, q56, q77, q86, q98, h8, errno, e0]

set_option maxHeartbeats 2000000 in
theorem s62 (n : Nat) (p s o mn cp k i : Int) (S : St) : calls table.find (n + 6) 62 [chart p s o mn cp k, .int .i64 i] S = some (.int .i64 (if may p s o mn cp && !decide (i < 0) && !decide (i ≥ p) then W .i64 (4 * i) else -1), S, true) := by
  have h8 := fun m => s18 m p s o mn cp k
  unfold chart at h8 ⊢
  cases e0 : may p s o mn cp with
  | false => simp (maxDischargeDepth := 30) [-Array.all_toList, -Array.all_eq_true, -List.all_eq_true, q62, q79, q84, h8, errno, e0]
  | true =>
  cases e1 : decide (i < 0) with
  | true => simp (maxDischargeDepth := 30) [-Array.all_toList, -Array.all_eq_true, -List.all_eq_true, q62, q79, q84, h8, errno, e0, e1]
  | false =>
  cases e2 : decide (i ≥ p) with
  | true => simp (maxDischargeDepth := 30) [-Array.all_toList, -Array.all_eq_true, -List.all_eq_true, q62, q79, q84, h8, errno, e0, e1, e2]
  | false =>
    simp (maxDischargeDepth := 30) [-Array.all_toList, -Array.all_eq_true, -List.all_eq_true, q62, q79, q84, h8, errno, e0, e1, e2]

set_option maxHeartbeats 2000000 in
theorem s87 (n : Nat) (p s o mn cp k : Int) (S : St) : calls table.find (n + 6) 87 [chart p s o mn cp k] S = some (.int .i64 (if may p s o mn cp then W .i64 (4 * p) else -1), S, true) := by
  have h8 := fun m => s18 m p s o mn cp k
  unfold chart at h8 ⊢
  cases e0 : may p s o mn cp with
  | false => simp (maxDischargeDepth := 30) [-Array.all_toList, -Array.all_eq_true, -List.all_eq_true, q87, q79, q99, q98, h8, errno, e0]
  | true =>
    simp (maxDischargeDepth := 30) [-Array.all_toList, -Array.all_eq_true, -List.all_eq_true, q87, q79, q99, q98, h8, errno, e0]

set_option maxHeartbeats 2000000 in
theorem s90 (n : Nat) (p s o mn cp k : Int) (S : St) : calls table.find (n + 6) 90 [chart p s o mn cp k] S = some (.int .i64 (if may p s o mn cp then W .i64 (W .i64 (4 * p) + 1) else -1), S, true) := by
  have h8 := fun m => s18 m p s o mn cp k
  unfold chart at h8 ⊢
  cases e0 : may p s o mn cp with
  | false => simp (maxDischargeDepth := 30) [-Array.all_toList, -Array.all_eq_true, -List.all_eq_true, q90, q79, q103, q98, h8, errno, e0]
  | true =>
    simp (maxDischargeDepth := 30) [-Array.all_toList, -Array.all_eq_true, -List.all_eq_true, q90, q79, q103, q98, h8, errno, e0]

set_option maxHeartbeats 2000000 in
theorem s63 (n : Nat) (p s o mn cp k i : Int) (S : St) : calls table.find (n + 6) 63 [chart p s o mn cp k, .int .i64 i] S = some (.int .i64 (if may p s o mn cp && !decide (i < 0) && !decide (i ≥ s) then W .i64 (W .i64 (W .i64 (4 * p) + 4) + W .i64 (4 * i)) else -1), S, true) := by
  have h8 := fun m => s18 m p s o mn cp k
  unfold chart at h8 ⊢
  cases e0 : may p s o mn cp with
  | false => simp (maxDischargeDepth := 30) [-Array.all_toList, -Array.all_eq_true, -List.all_eq_true, q63, q79, q85, q86, q98, h8, errno, e0]
  | true =>
  cases e1 : decide (i < 0) with
  | true => simp (maxDischargeDepth := 30) [-Array.all_toList, -Array.all_eq_true, -List.all_eq_true, q63, q79, q85, q86, q98, h8, errno, e0, e1]
  | false =>
  cases e2 : decide (i ≥ s) with
  | true => simp (maxDischargeDepth := 30) [-Array.all_toList, -Array.all_eq_true, -List.all_eq_true, q63, q79, q85, q86, q98, h8, errno, e0, e1, e2]
  | false =>
    simp (maxDischargeDepth := 30) [-Array.all_toList, -Array.all_eq_true, -List.all_eq_true, q63, q79, q85, q86, q98, h8, errno, e0, e1, e2]

set_option maxHeartbeats 2000000 in
theorem s102 (n : Nat) (p s o mn cp k i : Int) (S : St) : calls table.find (n + 6) 102 [chart p s o mn cp k, .int .i64 i] S = some (.int .i64 (if may p s o mn cp && !decide (i < 0) && !decide (i ≥ s) then W .i64 (W .i64 (W .i64 (W .i64 (4 * p) + 4) + W .i64 (4 * i)) + 2) else -1), S, true) := by
  have h8 := fun m => s18 m p s o mn cp k
  unfold chart at h8 ⊢
  cases e0 : may p s o mn cp with
  | false => simp (maxDischargeDepth := 30) [-Array.all_toList, -Array.all_eq_true, -List.all_eq_true, q102, q79, q111, q86, q98, h8, errno, e0]
  | true =>
  cases e1 : decide (i < 0) with
  | true => simp (maxDischargeDepth := 30) [-Array.all_toList, -Array.all_eq_true, -List.all_eq_true, q102, q79, q111, q86, q98, h8, errno, e0, e1]
  | false =>
  cases e2 : decide (i ≥ s) with
  | true => simp (maxDischargeDepth := 30) [-Array.all_toList, -Array.all_eq_true, -List.all_eq_true, q102, q79, q111, q86, q98, h8, errno, e0, e1, e2]
  | false =>
    simp (maxDischargeDepth := 30) [-Array.all_toList, -Array.all_eq_true, -List.all_eq_true, q102, q79, q111, q86, q98, h8, errno, e0, e1, e2]

set_option maxHeartbeats 4000000 in
theorem s59 (n : Nat) (p s o mn cp k i j : Int) (S : St) : calls table.find (n + 6) 59 [chart p s o mn cp k, .int .i64 i, .int .i64 j] S = some (.int .i64 (if may p s o mn cp && !decide (i < 0) && !decide (i ≥ s) && !decide (j < 0) && !decide (j ≥ o) then W .i64 (W .i64 (W .i64 (W .i64 (W .i64 (4 * p) + 4) + W .i64 (4 * s)) + W .i64 (i * o)) + j) else -1), S, true) := by
  have h8 := fun m => s18 m p s o mn cp k
  unfold chart at h8 ⊢
  cases e1 : decide (i < 0) with
  | true => simp (maxDischargeDepth := 30) [-Array.all_toList, -Array.all_eq_true, -List.all_eq_true, q59, e1]
  | false =>
  cases e2 : decide (i ≥ s) with
  | true => simp (maxDischargeDepth := 30) [-Array.all_toList, -Array.all_eq_true, -List.all_eq_true, q59, e1, e2]
  | false =>
  cases e0 : may p s o mn cp with
  | false => simp (maxDischargeDepth := 30) [-Array.all_toList, -Array.all_eq_true, -List.all_eq_true, q59, q79, h8, errno, e0, e1, e2]
  | true =>
  cases e3 : decide (j < 0) with
  | true => simp (maxDischargeDepth := 30) [-Array.all_toList, -Array.all_eq_true, -List.all_eq_true, q59, q79, h8, errno, e0, e1, e2, e3]
  | false =>
  cases e4 : decide (j ≥ o) with
  | true => simp (maxDischargeDepth := 30) [-Array.all_toList, -Array.all_eq_true, -List.all_eq_true, q59, q79, h8, errno, e0, e1, e2, e3, e4]
  | false => simp (maxDischargeDepth := 30) [-Array.all_toList, -Array.all_eq_true, -List.all_eq_true, q59, q79, q80, q77, q86, q98, h8, errno, e0, e1, e2, e3, e4]

set_option maxHeartbeats 1000000 in
theorem s58 (n : Nat) (p s o mn cp k i : Int) (S : St) : calls table.find (n + 6) 58 [chart p s o mn cp k, .int .i64 i] S = some (.int .u64 (W .u64 (k + W .u64 (W .u64 i * 11400714819323198485))), S, true) := by
  unfold chart
  simp (maxDischargeDepth := 30) [-Array.all_toList, -Array.all_eq_true, -List.all_eq_true, q58]

end Go.Proofs.YtepddcemoofmlaaGreat.Fast
