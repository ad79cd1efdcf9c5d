/- ChartPlaces' own text: what it comes to. -/
import Derived.Test.YtpecefjgadecfaaChartRefs
import Derived.Test.YtpecefjgadecfaaChartLists
import Derived.Test.YtpecefjgadecfaaChartWorks
namespace Go.Proofs.Ytpecefjgadecfaa.Chart
open Go Go.Proofs.Ytpecefjgadecfaa.AE
set_option maxRecDepth 10000
set_option linter.unusedSimpArgs false

theorem within_eq (i m : Int) : within i m = (!decide (i < 0) && !decide (i ≥ m)) := by
  unfold within
  rw [Bool.eq_iff_iff]
  simp

def InI (x : Int) : Prop := -9223372036854775808 ≤ x ∧ x ≤ 9223372036854775807

theorem W_form (n : Int) : W .i64 n = (n + 9223372036854775808) % 18446744073709551616 - 9223372036854775808 := by rw [W_wrap]; exact IntKind.wrap_i64 n

theorem may_eq {p s o mn cp : Int} (hp : InI p) (hs : InI s) (ho : InI o) : mayR p s o mn cp = may p s o mn cp := by
  unfold mayR may within InI at *
  rw [W_form, W_form, W_form, Bool.eq_iff_iff]
  simp
  omega

theorem may_iff {p s o mn cp : Int} : may p s o mn cp = true ↔ (1 ≤ p ∧ p ≤ 8) ∧ (1 ≤ s ∧ s ≤ 32) ∧ (1 ≤ o ∧ o ≤ 16) ∧ (0 ≤ mn ∧ mn ≤ 32) ∧ 0 ≤ cp ∧ cp ≤ 32 := by
  unfold may
  simp
  omega

theorem words_eq (p s o mn cp : Int) : (if may p s o mn cp = true then W .i64 (W .i64 (W .i64 (W .i64 (4 * p) + 4) + W .i64 (4 * s)) + W .i64 (s * o)) else 0) =
    max (if may p s o mn cp = true then W .i64 (W .i64 (W .i64 (W .i64 (4 * p) + 4) + W .i64 (4 * s)) + W .i64 (s * o)) else -1) 0 := by
  cases h : may p s o mn cp with
  | false => simp; rfl
  | true =>
    obtain ⟨h1, h2, h3, _⟩ := may_iff.1 h
    have h5 : s * o ≤ 32 * 16 := Int.mul_le_mul h2.2 h3.2 (by omega) (by omega)
    have h6 : 0 ≤ s * o := Int.mul_nonneg (by omega) (by omega)
    rw [W_i64 (n := 4 * p) (by omega), W_i64 (n := 4 * p + 4) (by omega), W_i64 (n := 4 * s) (by omega), W_i64 (n := 4 * p + 4 + 4 * s) (by omega), W_i64 (n := s * o) (by omega), W_i64 (by omega)]
    simp
    omega

set_option maxHeartbeats 4000000 in
theorem ranPlaces {p s o mn cp k i j : Int} (hp : InI p) (hs : InI s) (ho : InI o) : evFun table.find known 3 [chart p s o mn cp k, .int .i64 i, .int .i64 j] ⟨[], 0, 0⟩ = some (.bool true, ⟨[], 0, 0⟩, true) := by
  obtain ⟨a8, h8, h18⟩ : ∃ a, (∀ m S, calls table.find (m + 1) 8 [.agg #[.int .i64 p, .int .i64 s, .int .i64 o, .int .i64 mn, .int .i64 cp, .int .u64 k]] S = some (.int .i64 a, S, true)) ∧ ∀ m S, calls table.find (m + 2) 18 [.agg #[.int .i64 p, .int .i64 s, .int .i64 o, .int .i64 mn, .int .i64 cp, .int .u64 k]] S = some (.int .i64 a, S, true) :=
    ⟨_, fun m S => s8 m p s o mn cp k S, fun m S => (s18 m p s o mn cp k S).trans (congrArg (fun x => some (Value.int .i64 x, S, true)) (by rw [may_eq hp hs ho]))⟩
  obtain ⟨a9, h9, h19⟩ : ∃ a, (∀ m S, calls table.find (m + 6) 9 [.agg #[.int .i64 p, .int .i64 s, .int .i64 o, .int .i64 mn, .int .i64 cp, .int .u64 k]] S = some (.int .i64 a, S, true)) ∧ ∀ m S, calls table.find (m + 6) 19 [.agg #[.int .i64 p, .int .i64 s, .int .i64 o, .int .i64 mn, .int .i64 cp, .int .u64 k]] S = some (.int .i64 a, S, true) :=
    ⟨_, fun m S => s9 m p s o mn cp k S, fun m S => (s19 m p s o mn cp k S).trans (congrArg (fun x => some (Value.int .i64 x, S, true)) (by rw [may_eq hp hs ho]; exact (words_eq p s o mn cp).symm))⟩
  obtain ⟨a10, h10, h20⟩ : ∃ a, (∀ m S, calls table.find (m + 6) 10 [.agg #[.int .i64 p, .int .i64 s, .int .i64 o, .int .i64 mn, .int .i64 cp, .int .u64 k], .int .i64 i] S = some (.int .i64 a, S, true)) ∧ ∀ m S, calls table.find (m + 6) 20 [.agg #[.int .i64 p, .int .i64 s, .int .i64 o, .int .i64 mn, .int .i64 cp, .int .u64 k], .int .i64 i] S = some (.int .i64 a, S, true) :=
    ⟨_, fun m S => s10 m p s o mn cp k i S, fun m S => (s20 m p s o mn cp k i S).trans (congrArg (fun x => some (Value.int .i64 x, S, true)) (by rw [may_eq hp hs ho]; simp [within_eq, Bool.and_assoc]))⟩
  obtain ⟨a11, h11, h21⟩ : ∃ a, (∀ m S, calls table.find (m + 6) 11 [.agg #[.int .i64 p, .int .i64 s, .int .i64 o, .int .i64 mn, .int .i64 cp, .int .u64 k], .int .i64 i] S = some (.int .i64 a, S, true)) ∧ ∀ m S, calls table.find (m + 6) 21 [.agg #[.int .i64 p, .int .i64 s, .int .i64 o, .int .i64 mn, .int .i64 cp, .int .u64 k], .int .i64 i] S = some (.int .i64 a, S, true) :=
    ⟨_, fun m S => s11 m p s o mn cp k i S, fun m S => (s21 m p s o mn cp k i S).trans (congrArg (fun x => some (Value.int .i64 x, S, true)) (by rw [may_eq hp hs ho]; simp [within_eq, Bool.and_assoc]))⟩
  obtain ⟨a12, h12, h22⟩ : ∃ a, (∀ m S, calls table.find (m + 6) 12 [.agg #[.int .i64 p, .int .i64 s, .int .i64 o, .int .i64 mn, .int .i64 cp, .int .u64 k]] S = some (.int .i64 a, S, true)) ∧ ∀ m S, calls table.find (m + 6) 22 [.agg #[.int .i64 p, .int .i64 s, .int .i64 o, .int .i64 mn, .int .i64 cp, .int .u64 k]] S = some (.int .i64 a, S, true) :=
    ⟨_, fun m S => s12 m p s o mn cp k S, fun m S => (s22 m p s o mn cp k S).trans (congrArg (fun x => some (Value.int .i64 x, S, true)) (by rw [may_eq hp hs ho]; simp [within_eq, Bool.and_assoc]))⟩
  obtain ⟨a13, h13, h23⟩ : ∃ a, (∀ m S, calls table.find (m + 6) 13 [.agg #[.int .i64 p, .int .i64 s, .int .i64 o, .int .i64 mn, .int .i64 cp, .int .u64 k]] S = some (.int .i64 a, S, true)) ∧ ∀ m S, calls table.find (m + 6) 23 [.agg #[.int .i64 p, .int .i64 s, .int .i64 o, .int .i64 mn, .int .i64 cp, .int .u64 k]] S = some (.int .i64 a, S, true) :=
    ⟨_, fun m S => s13 m p s o mn cp k S, fun m S => (s23 m p s o mn cp k S).trans (congrArg (fun x => some (Value.int .i64 x, S, true)) (by rw [may_eq hp hs ho]; simp [within_eq, Bool.and_assoc]))⟩
  obtain ⟨a14, h14, h24⟩ : ∃ a, (∀ m S, calls table.find (m + 6) 14 [.agg #[.int .i64 p, .int .i64 s, .int .i64 o, .int .i64 mn, .int .i64 cp, .int .u64 k]] S = some (.int .i64 a, S, true)) ∧ ∀ m S, calls table.find (m + 6) 24 [.agg #[.int .i64 p, .int .i64 s, .int .i64 o, .int .i64 mn, .int .i64 cp, .int .u64 k]] S = some (.int .i64 a, S, true) :=
    ⟨_, fun m S => s14 m p s o mn cp k S, fun m S => (s24 m p s o mn cp k S).trans (congrArg (fun x => some (Value.int .i64 x, S, true)) (by rw [may_eq hp hs ho]; simp [within_eq, Bool.and_assoc]))⟩
  obtain ⟨a15, h15, h25⟩ : ∃ a, (∀ m S, calls table.find (m + 6) 15 [.agg #[.int .i64 p, .int .i64 s, .int .i64 o, .int .i64 mn, .int .i64 cp, .int .u64 k], .int .i64 i] S = some (.int .i64 a, S, true)) ∧ ∀ m S, calls table.find (m + 6) 25 [.agg #[.int .i64 p, .int .i64 s, .int .i64 o, .int .i64 mn, .int .i64 cp, .int .u64 k], .int .i64 i] S = some (.int .i64 a, S, true) :=
    ⟨_, fun m S => s15 m p s o mn cp k i S, fun m S => (s25 m p s o mn cp k i S).trans (congrArg (fun x => some (Value.int .i64 x, S, true)) (by rw [may_eq hp hs ho]; simp [within_eq, Bool.and_assoc]))⟩
  obtain ⟨a16, h16, h26⟩ : ∃ a, (∀ m S, calls table.find (m + 6) 16 [.agg #[.int .i64 p, .int .i64 s, .int .i64 o, .int .i64 mn, .int .i64 cp, .int .u64 k], .int .i64 i] S = some (.int .i64 a, S, true)) ∧ ∀ m S, calls table.find (m + 6) 26 [.agg #[.int .i64 p, .int .i64 s, .int .i64 o, .int .i64 mn, .int .i64 cp, .int .u64 k], .int .i64 i] S = some (.int .i64 a, S, true) :=
    ⟨_, fun m S => s16 m p s o mn cp k i S, fun m S => (s26 m p s o mn cp k i S).trans (congrArg (fun x => some (Value.int .i64 x, S, true)) (by rw [may_eq hp hs ho]; simp [within_eq, Bool.and_assoc]))⟩
  obtain ⟨a17, h17, h27⟩ : ∃ a, (∀ m S, calls table.find (m + 6) 17 [.agg #[.int .i64 p, .int .i64 s, .int .i64 o, .int .i64 mn, .int .i64 cp, .int .u64 k], .int .i64 i, .int .i64 j] S = some (.int .i64 a, S, true)) ∧ ∀ m S, calls table.find (m + 6) 27 [.agg #[.int .i64 p, .int .i64 s, .int .i64 o, .int .i64 mn, .int .i64 cp, .int .u64 k], .int .i64 i, .int .i64 j] S = some (.int .i64 a, S, true) :=
    ⟨_, fun m S => s17 m p s o mn cp k i j S, fun m S => (s27 m p s o mn cp k i j S).trans (congrArg (fun x => some (Value.int .i64 x, S, true)) (by rw [may_eq hp hs ho]; simp [within_eq, Bool.and_assoc]))⟩
  obtain ⟨a29, h29, h30⟩ : ∃ a, (∀ m S, calls table.find (m + 6) 29 [.agg #[.int .i64 p, .int .i64 s, .int .i64 o, .int .i64 mn, .int .i64 cp, .int .u64 k], .int .i64 i] S = some (.int .u64 a, S, true)) ∧ ∀ m S, calls table.find (m + 6) 30 [.agg #[.int .i64 p, .int .i64 s, .int .i64 o, .int .i64 mn, .int .i64 cp, .int .u64 k], .int .i64 i] S = some (.int .u64 a, S, true) :=
    ⟨_, fun m S => s29 m p s o mn cp k i S, fun m S => (s30 m p s o mn cp k i S).trans (congrArg (fun x => some (Value.int .u64 x, S, true)) (rfl))⟩
  unfold chart
  rw [law_step b3]
  simp [-Array.all_toList, -Array.all_eq_true, -List.all_eq_true, known, h8, h9, h10, h11, h12, h13, h14, h15, h16, h17, h29, h18, h19, h20, h21, h22, h23, h24, h25, h26, h27, h30]
  have h28 := eqInts 63 (S := ⟨[.cells 24 [.int .i64 p, .int .i64 s, .int .i64 o, .int .i64 mn, .int .i64 cp, .int .u64 k], .cells 3 ([a8, a9, a10, a11, a12, a13, a14, a15, a16, a17].map (Value.int .i64)), .cells 3 ([a8, a9, a10, a11, a12, a13, a14, a15, a16, a17].map (Value.int .i64))], 0, 0⟩)
    (v := .slice (some ⟨1, 0, none⟩) 10 0) (u := .slice (some ⟨2, 0, none⟩) 10 0) (xs := [a8, a9, a10, a11, a12, a13, a14, a15, a16, a17]) (ys := [a8, a9, a10, a11, a12, a13, a14, a15, a16, a17]) (isInts_map (b := 1) rfl rfl) (isInts_map (b := 2) rfl rfl) (by simp)
  simp only [List.map_cons, List.map_nil] at h28
  simp [-Array.all_toList, -Array.all_eq_true, -List.all_eq_true, h28, h29, h30]

end Go.Proofs.Ytpecefjgadecfaa.Chart
