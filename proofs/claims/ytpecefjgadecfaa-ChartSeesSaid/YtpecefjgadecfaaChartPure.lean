/- No two places are alike, and all lie within the words. -/
import Derived.Test.YtpecefjgadecfaaChartPl
namespace Go.Proofs.Ytpecefjgadecfaa.Chart
open Go Go.Proofs.Ytpecefjgadecfaa.AE
set_option linter.unusedSimpArgs false

/-! ### No two places are alike -/
theorem mem_heads {n : Nat} {x : Int} : x ∈ headsL n ↔ 0 ≤ x ∧ x < 4 * n := by
  simp only [headsL, List.mem_flatMap, List.mem_range, List.mem_cons, List.not_mem_nil, or_false]
  constructor
  · rintro ⟨i, hi, h⟩; omega
  · rintro ⟨h0, h1⟩; exact ⟨(x / 4).toNat, by omega, by omega⟩

theorem nodup_heads (n : Nat) : (headsL n).Nodup := by
  induction n with
  | zero => simp [headsL]
  | succ n ih =>
    rw [headsL_succ, List.nodup_append]
    refine ⟨ih, by simp <;> omega, fun a ha b hb => ?_⟩
    have := mem_heads.1 ha
    simp only [List.mem_cons, List.not_mem_nil, or_false] at hb
    omega

theorem mem_links {M : Int} {O t n : Nat} {x : Int} : x ∈ linksL M O t n ↔ M + (t : Int) * O ≤ x ∧ x < M + (t : Int) * O + n := by
  simp only [linksL, List.mem_map, List.mem_range]
  constructor
  · rintro ⟨i, hi, h⟩; omega
  · rintro ⟨h0, h1⟩; exact ⟨(x - (M + (t : Int) * O)).toNat, by omega, by omega⟩

theorem nodup_links (M : Int) (O t n : Nat) : (linksL M O t n).Nodup := by
  induction n with
  | zero => simp [linksL]
  | succ n ih =>
    rw [linksL_succ, List.nodup_append]
    refine ⟨ih, by simp, fun a ha b hb => ?_⟩
    have := mem_links.1 ha
    simp only [List.mem_cons, List.not_mem_nil, or_false] at hb
    omega

/-- What lies among the first slabs' words: one of their three, or one of their links. -/
theorem mem_slabs {P N O n : Nat} {x : Int} (hx : x ∈ slabsL P N O n) :
    (4 * (P : Int) + 4 ≤ x ∧ x < 4 * (P : Int) + 4 + 4 * n) ∨ (4 * (P : Int) + 4 + 4 * N ≤ x ∧ x < 4 * (P : Int) + 4 + 4 * N + (n : Int) * O) := by
  induction n with
  | zero => simp [slabsL] at hx
  | succ n ih =>
    rw [slabsL_succ, List.mem_append, List.mem_append] at hx
    have e : ((n + 1 : Nat) : Int) * O = (n : Int) * O + O := by rw [Int.natCast_add, Int.add_mul]; simp
    have h0 : 0 ≤ (n : Int) * O := Int.mul_nonneg (by omega) (by omega)
    rw [e]
    rcases hx with hx | hx | hx
    · have := ih hx; omega
    · simp only [slabL, List.mem_cons, List.not_mem_nil, or_false] at hx; omega
    · have := mem_links.1 hx; omega

theorem nodup_slabs (P N O : Nat) : ∀ n, n ≤ N → (slabsL P N O n).Nodup
  | 0, _ => by simp [slabsL]
  | n + 1, h => by
    rw [slabsL_succ, List.nodup_append, List.nodup_append]
    have h0 : 0 ≤ (n : Int) * O := Int.mul_nonneg (by omega) (by omega)
    refine ⟨nodup_slabs P N O n (by omega), ⟨by simp [slabL] <;> omega, nodup_links _ _ _ _, fun a ha b hb => ?_⟩, fun a ha b hb => ?_⟩
    · have := mem_links.1 hb
      simp only [slabL, List.mem_cons, List.not_mem_nil, or_false] at ha
      omega
    · have h1 := mem_slabs ha
      rw [List.mem_append] at hb
      rcases hb with hb | hb
      · simp only [slabL, List.mem_cons, List.not_mem_nil, or_false] at hb; omega
      · have := mem_links.1 hb; omega

theorem places_nodup (P N O : Nat) : (placesL P N O).Nodup := by
  unfold placesL
  rw [List.nodup_append, List.nodup_append]
  refine ⟨⟨by simp [frontL] <;> omega, nodup_heads P, fun a ha b hb => ?_⟩, nodup_slabs P N O N (Nat.le_refl _), fun a ha b hb => ?_⟩
  · have := mem_heads.1 hb
    simp only [frontL, List.mem_cons, List.not_mem_nil, or_false] at ha
    omega
  · have h1 := mem_slabs hb
    rw [List.mem_append] at ha
    rcases ha with ha | ha
    · simp only [frontL, List.mem_cons, List.not_mem_nil, or_false] at ha; omega
    · have := mem_heads.1 ha; omega

theorem places_in {P N O : Nat} {x : Int} (hx : x ∈ placesL P N O) : 0 ≤ x ∧ x < 4 * (P : Int) + 4 + 4 * N + (N : Int) * O := by
  have h0 : 0 ≤ (N : Int) * O := Int.mul_nonneg (by omega) (by omega)
  unfold placesL at hx
  rw [List.mem_append, List.mem_append] at hx
  rcases hx with (hx | hx) | hx
  · simp only [frontL, List.mem_cons, List.not_mem_nil, or_false] at hx; omega
  · have := mem_heads.1 hx; omega
  · have := mem_slabs hx; omega

end Go.Proofs.Ytpecefjgadecfaa.Chart
