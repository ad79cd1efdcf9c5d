/- Where the words of a chart that may be lie. -/
import Derived.Test.YtepddcemoofmlaaGreatFastSpecs
set_option linter.unusedSimpArgs false
set_option linter.unusedVariables false
namespace Go.Proofs.YtepddcemoofmlaaGreat.Fast
open Go Go.Proofs.YtepddcemoofmlaaGreat.AE
set_option linter.unusedSimpArgs false

theorem may_iff {p s o mn cp : Int} : may p s o mn cp = true ↔ (1 ≤ p ∧ p ≤ 8) ∧ (1 ≤ s ∧ s ≤ 32) ∧ (1 ≤ o ∧ o ≤ 16) ∧ (0 ≤ mn ∧ mn ≤ 32) ∧ 0 ≤ cp ∧ cp ≤ 32 := by
  unfold may
  simp
  omega

section
variable {n : Nat} {p s o mn cp k i j : Int} {S : St} (hm : may p s o mn cp = true)
include hm

theorem mul_le {x : Int} (h0 : 0 ≤ x) (h1 : x ≤ 32) : 0 ≤ x * o ∧ x * o ≤ 512 := by
  obtain ⟨h1', h2, h3, _⟩ := may_iff.1 hm
  have h5 : x * o ≤ 32 * 16 := Int.mul_le_mul h1 h3.2 (by omega) (by omega)
  exact ⟨Int.mul_nonneg h0 (by omega), by omega⟩

theorem vCheck : calls table.find (n + 1) 18 [chart p s o mn cp k] S = some (.int .i64 0, S, true) := by
  rw [s18, hm]; rfl

theorem vWords : calls table.find (n + 6) 56 [chart p s o mn cp k] S = some (.int .i64 (4 * p + 4 + 4 * s + s * o), S, true) := by
  obtain ⟨h1, h2, h3, _⟩ := may_iff.1 hm
  have h5 := mul_le hm (x := s) (by omega) (by omega)
  rw [s56, hm, W_i64 (n := 4 * p) (by omega), W_i64 (n := 4 * p + 4) (by omega), W_i64 (n := 4 * s) (by omega), W_i64 (n := 4 * p + 4 + 4 * s) (by omega), W_i64 (n := s * o) (by omega), W_i64 (by omega)]
  rfl

theorem vLock : calls table.find (n + 6) 87 [chart p s o mn cp k] S = some (.int .i64 (4 * p), S, true) := by
  obtain ⟨h1, h2, h3, _⟩ := may_iff.1 hm
  rw [s87, hm, W_i64 (n := 4 * p) (by omega)]; rfl

theorem vShelf : calls table.find (n + 6) 90 [chart p s o mn cp k] S = some (.int .i64 (4 * p + 1), S, true) := by
  obtain ⟨h1, h2, h3, _⟩ := may_iff.1 hm
  rw [s90, hm, W_i64 (n := 4 * p) (by omega), W_i64 (by omega)]; rfl

theorem vHead (hi : 0 ≤ i) (hi' : i < p) : calls table.find (n + 6) 62 [chart p s o mn cp k, .int .i64 i] S = some (.int .i64 (4 * i), S, true) := by
  obtain ⟨h1, h2, h3, _⟩ := may_iff.1 hm
  have e1 : decide (i < 0) = false := by simp; omega
  have e2 : decide (i ≥ p) = false := by simp; omega
  rw [s62, hm, e1, e2, W_i64 (by omega)]; rfl

theorem vFirst (hi : 0 ≤ i) (hi' : i < s) : calls table.find (n + 6) 63 [chart p s o mn cp k, .int .i64 i] S = some (.int .i64 (4 * p + 4 + 4 * i), S, true) := by
  obtain ⟨h1, h2, h3, _⟩ := may_iff.1 hm
  have e1 : decide (i < 0) = false := by simp; omega
  have e2 : decide (i ≥ s) = false := by simp; omega
  rw [s63, hm, e1, e2, W_i64 (n := 4 * p) (by omega), W_i64 (n := 4 * p + 4) (by omega), W_i64 (n := 4 * i) (by omega), W_i64 (by omega)]; rfl

theorem vNext (hi : 0 ≤ i) (hi' : i < s) : calls table.find (n + 6) 102 [chart p s o mn cp k, .int .i64 i] S = some (.int .i64 (4 * p + 4 + 4 * i + 2), S, true) := by
  obtain ⟨h1, h2, h3, _⟩ := may_iff.1 hm
  have e1 : decide (i < 0) = false := by simp; omega
  have e2 : decide (i ≥ s) = false := by simp; omega
  rw [s102, hm, e1, e2, W_i64 (n := 4 * p) (by omega), W_i64 (n := 4 * p + 4) (by omega), W_i64 (n := 4 * i) (by omega), W_i64 (n := 4 * p + 4 + 4 * i) (by omega), W_i64 (by omega)]; rfl

theorem vLink (hi : 0 ≤ i) (hi' : i < s) (hj : 0 ≤ j) (hj' : j < o) : calls table.find (n + 6) 59 [chart p s o mn cp k, .int .i64 i, .int .i64 j] S = some (.int .i64 (4 * p + 4 + 4 * s + i * o + j), S, true) := by
  obtain ⟨h1, h2, h3, _⟩ := may_iff.1 hm
  have h5 := mul_le hm (x := i) (by omega) (by omega)
  have e1 : decide (i < 0) = false := by simp; omega
  have e2 : decide (i ≥ s) = false := by simp; omega
  have e3 : decide (j < 0) = false := by simp; omega
  have e4 : decide (j ≥ o) = false := by simp; omega
  rw [s59, hm, e1, e2, e3, e4, W_i64 (n := 4 * p) (by omega), W_i64 (n := 4 * p + 4) (by omega), W_i64 (n := 4 * s) (by omega), W_i64 (n := 4 * p + 4 + 4 * s) (by omega), W_i64 (n := i * o) (by omega), W_i64 (n := 4 * p + 4 + 4 * s + i * o) (by omega), W_i64 (by omega)]; rfl
end

end Go.Proofs.YtepddcemoofmlaaGreat.Fast
