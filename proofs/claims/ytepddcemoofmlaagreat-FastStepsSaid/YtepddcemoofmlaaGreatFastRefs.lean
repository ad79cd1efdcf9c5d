/- What the reference's functions answer; and Link and Key. -/
import Derived.Test.YtepddcemoofmlaaGreatFastSpecs
import Derived.Test.YtepddcemoofmlaaGreatFastNodesB
set_option linter.unusedSimpArgs false
set_option linter.unusedVariables false
namespace Go.Proofs.YtepddcemoofmlaaGreat.Fast
open Go Go.Proofs.YtepddcemoofmlaaGreat.AE
set_option maxRecDepth 10000
set_option linter.unusedSimpArgs false

def within (i m : Int) : Bool := decide (i ≥ 0) && decide (i < m)

theorem s74 (n : Nat) (i m : Int) (S : St) : calls table.find (n + 1) 74 [.int .i64 i, .int .i64 m] S = some (.bool (within i m), S, true) := by
  unfold within
  cases e1 : decide (i ≥ 0) with
  | false => simp (maxDischargeDepth := 30) [-Array.all_toList, -Array.all_eq_true, -List.all_eq_true, q74, e1]
  | true => simp (maxDischargeDepth := 30) [-Array.all_toList, -Array.all_eq_true, -List.all_eq_true, q74, e1]

noncomputable def mayR (p s o mn cp : Int) : Bool := within (W .i64 (p - 1)) 8 && within (W .i64 (s - 1)) 32 && within (W .i64 (o - 1)) 16 && within mn 33 && within cp 33

set_option maxHeartbeats 2000000 in
theorem s45 (n : Nat) (p s o mn cp k : Int) (S : St) : calls table.find (n + 2) 45 [chart p s o mn cp k] S = some (.int .i64 (errno (mayR p s o mn cp)), S, true) := by
  have h := fun m i j => s74 m i j
  unfold mayR errno chart
  cases e1 : within (W .i64 (p - 1)) 8 with
  | false => simp (maxDischargeDepth := 30) [-Array.all_toList, -Array.all_eq_true, -List.all_eq_true, q45, h, e1]
  | true =>
  cases e2 : within (W .i64 (s - 1)) 32 with
  | false => simp (maxDischargeDepth := 30) [-Array.all_toList, -Array.all_eq_true, -List.all_eq_true, q45, h, e1, e2]
  | true =>
  cases e3 : within (W .i64 (o - 1)) 16 with
  | false => simp (maxDischargeDepth := 30) [-Array.all_toList, -Array.all_eq_true, -List.all_eq_true, q45, h, e1, e2, e3]
  | true =>
  cases e4 : within mn 33 with
  | false => simp (maxDischargeDepth := 30) [-Array.all_toList, -Array.all_eq_true, -List.all_eq_true, q45, h, e1, e2, e3, e4]
  | true =>
  cases e5 : within cp 33 with
  | false => simp (maxDischargeDepth := 30) [-Array.all_toList, -Array.all_eq_true, -List.all_eq_true, q45, h, e1, e2, e3, e4, e5]
  | true =>
    simp (maxDischargeDepth := 30) [-Array.all_toList, -Array.all_eq_true, -List.all_eq_true, q45, h, e1, e2, e3, e4, e5]

set_option maxHeartbeats 2000000 in
theorem s34 (n : Nat) (p s o mn cp k x : Int) (b : Bool) (S : St) : calls table.find (n + 3) 34 [chart p s o mn cp k, .bool b, .int .i64 x] S = some (.int .i64 (if mayR p s o mn cp && b then x else -1), S, true) := by
  have h := fun m => s45 m p s o mn cp k
  unfold chart at h ⊢
  cases e0 : mayR p s o mn cp with
  | false => simp (maxDischargeDepth := 30) [-Array.all_toList, -Array.all_eq_true, -List.all_eq_true, q34, h, errno, e0]
  | true => cases b <;> simp (maxDischargeDepth := 30) [-Array.all_toList, -Array.all_eq_true, -List.all_eq_true, q34, h, errno, e0]

set_option maxHeartbeats 2000000 in
theorem s48 (n : Nat) (p s o mn cp k i : Int) (S : St) : calls table.find (n + 6) 48 [chart p s o mn cp k, .int .i64 i] S = some (.int .i64 (if mayR p s o mn cp && within i p then W .i64 (4 * i) else -1), S, true) := by
  have h := fun m x b => s34 m p s o mn cp k x b
  have h2 := fun m i j => s74 m i j
  unfold chart at h ⊢
  simp (maxDischargeDepth := 30) [-Array.all_toList, -Array.all_eq_true, -List.all_eq_true, q48, h, h2, evMin]

set_option maxHeartbeats 2000000 in
theorem s50 (n : Nat) (p s o mn cp k i j : Int) (S : St) : calls table.find (n + 6) 50 [chart p s o mn cp k, .int .i64 i, .int .i64 j] S = some (.int .i64 (if mayR p s o mn cp && (within i s && within j o) then W .i64 (W .i64 (W .i64 (W .i64 (W .i64 (4 * p) + 4) + W .i64 (4 * s)) + W .i64 (i * o)) + j) else -1), S, true) := by
  have h := fun m x b => s34 m p s o mn cp k x b
  have h2 := fun m i j => s74 m i j
  unfold chart at h ⊢
  cases e1 : within i s <;> simp (maxDischargeDepth := 30) [-Array.all_toList, -Array.all_eq_true, -List.all_eq_true, q50, h, h2, e1, evMin]

set_option maxHeartbeats 2000000 in
theorem s12 (n : Nat) (p s o mn cp k : Int) (S : St) : calls table.find (n + 6) 12 [chart p s o mn cp k] S = some (.int .i64 (max (if mayR p s o mn cp then W .i64 (W .i64 (W .i64 (W .i64 (4 * p) + 4) + W .i64 (4 * s)) + W .i64 (s * o)) else -1) 0), S, true) := by
  have h := fun m x b => s34 m p s o mn cp k x b
  unfold chart at h ⊢
  cases e0 : mayR p s o mn cp with
  | false => simp (maxDischargeDepth := 30) [-Array.all_toList, -Array.all_eq_true, -List.all_eq_true, q12, h, e0]; rfl
  | true =>
    simp (maxDischargeDepth := 30) [-Array.all_toList, -Array.all_eq_true, -List.all_eq_true, q12, h, e0]
    split <;> omega

set_option maxHeartbeats 1000000 in
theorem s52 (n : Nat) (p s o mn cp k i : Int) (S : St) : calls table.find (n + 6) 52 [chart p s o mn cp k, .int .i64 i] S = some (.int .u64 (W .u64 (k + W .u64 (W .u64 i * 11400714819323198485))), S, true) := by
  unfold chart
  simp (maxDischargeDepth := 30) [-Array.all_toList, -Array.all_eq_true, -List.all_eq_true, q52]

end Go.Proofs.YtepddcemoofmlaaGreat.Fast
