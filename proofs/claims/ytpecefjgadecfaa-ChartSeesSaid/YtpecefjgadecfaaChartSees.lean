/- What the reference's functions of count and link answer that reckon with words alone. -/
import Derived.Test.YtpecefjgadecfaaChartBlind
import Derived.Test.YtpecefjgadecfaaChartRefs
namespace Go.Proofs.Ytpecefjgadecfaa.Chart
open Go Go.Proofs.Ytpecefjgadecfaa.AE
set_option maxRecDepth 10000
set_option linter.unusedSimpArgs false

/-! ### Turning by one, again and again -/
theorem rotl_step (x : BitVec 64) (a : Nat) : (x.rotateLeft a).rotateLeft 1 = x.rotateLeft (a + 1) := by
  refine BitVec.eq_of_getLsbD_eq fun i hi => ?_
  rw [BitVec.getLsbD_rotateLeft, BitVec.getLsbD_rotateLeft]
  by_cases h0 : i = 0
  · subst h0
    rw [BitVec.getLsbD_rotateLeft]
    have e1 : ¬ 63 < a % 64 := by omega
    by_cases h : a % 64 = 63
    · have e2 : (a + 1) % 64 = 0 := by omega
      simp [e2, h]
    · have e2 : (a + 1) % 64 = a % 64 + 1 := by omega
      have e3 : 64 - (a % 64 + 1) = 63 - a % 64 := by omega
      simp [e1, e2, e3]
      exact BitVec.getLsbD_eq_getElem (by omega)
  · rw [BitVec.getLsbD_rotateLeft]
    have e0 : ¬ i < 1 := by omega
    by_cases h : a % 64 = 63
    · have e2 : (a + 1) % 64 = 0 := by omega
      have e3 : i - 1 < 63 := by omega
      have e4 : 64 - 63 + (i - 1) = i := by omega
      have e5 : 1 + (i - 1) = i := by omega
      simp [e0, e2, h, e3, hi, e4, e5]
    · have e2 : (a + 1) % 64 = a % 64 + 1 := by omega
      by_cases h2 : i - 1 < a % 64
      · have e3 : i < a % 64 + 1 := by omega
        have e4 : 64 - a % 64 + (i - 1) = 64 - (a % 64 + 1) + i := by omega
        simp [e0, e2, h2, e3, e4, hi]
        exact BitVec.getLsbD_eq_getElem (by omega)
      · have e3 : ¬ i < a % 64 + 1 := by omega
        have e4 : i - 1 - a % 64 = i - (a % 64 + 1) := by omega
        have e5 : i - 1 < 64 := by omega
        simp [e0, e2, h2, e3, e4, e5, hi]
        exact BitVec.getLsbD_eq_getElem (by omega)

theorem shl_nat {m r : Nat} (hr : r ≤ 64) : B .shl .u64 (m : Int) r = ((m * 2 ^ r % 18446744073709551616 : Nat) : Int) := by
  rw [shl_mul hr, W_u64]
  omega
theorem shr_nat {m r : Nat} (hr : r ≤ 64) : B .shr .u64 (m : Int) r = ((m / 2 ^ r : Nat) : Int) := by
  rw [shr_div hr]
  exact (Int.natCast_ediv m (2 ^ r)).symm

theorem rotl_nat {m r : Nat} (hm : m < 18446744073709551616) (hr : r < 64) : ((BitVec.ofNat 64 m).rotateLeft r).toNat = (m * 2 ^ r % 18446744073709551616) ||| (m / 2 ^ (64 - r)) := by
  have hmod : r % 64 = r := by omega
  simp only [BitVec.rotateLeft, BitVec.rotateLeftAux, hmod, BitVec.toNat_or, BitVec.toNat_shiftLeft, BitVec.toNat_ushiftRight, BitVec.toNat_ofNat, Nat.shiftLeft_eq, Nat.shiftRight_eq_div_pow]
  rw [Nat.mod_eq_of_lt (a := m) (by omega)]

theorem rotP_nat {m a : Nat} (hm : m < 18446744073709551616) (ha : a < 1000) : rotP (m : Int) (a : Int) = ((((BitVec.ofNat 64 m).rotateLeft a).toNat : Nat) : Int) := by
  have e0 : W .u64 (a : Int) = a := W_in (by omega) (by omega)
  have e1 : B .and .u64 (a : Int) 63 = ((a % 64 : Nat) : Int) := by rw [and_63 ⟨by omega, by omega⟩]; omega
  have e2 : W .u64 (64 - ((a % 64 : Nat) : Int)) = ((64 - a % 64 : Nat) : Int) := by rw [W_in (by omega) (by omega)]; omega
  have hl : a % 64 < 64 := Nat.mod_lt _ (by decide)
  have e3 : (BitVec.ofNat 64 m).rotateLeft a = (BitVec.ofNat 64 m).rotateLeft (a % 64) := by
    simp only [BitVec.rotateLeft, Nat.mod_mod]
  unfold rotP
  rw [e0, e1, e2, shl_nat (by omega), shr_nat (by omega), B_or_nat (Nat.mod_lt _ (by decide)) (Nat.lt_of_le_of_lt (Nat.div_le_self _ _) hm), e3, rotl_nat hm hl]

theorem rotP_zero {k : Int} (hk : Word k) : rotP k 0 = k := by
  obtain ⟨m, rfl, hm⟩ := hk.nat
  have := rotP_nat (a := 0) hm (by omega)
  rw [show ((0 : Nat) : Int) = 0 from rfl] at this
  rw [this, rotl_nat hm (by omega)]
  have e : m / 2 ^ (64 - 0) = 0 := Nat.div_eq_of_lt hm
  rw [e]
  simp
  omega

theorem rotP_word {k : Int} {a : Nat} (hk : Word k) (ha : a < 1000) : Word (rotP k a) := by
  obtain ⟨m, rfl, hm⟩ := hk.nat
  rw [rotP_nat hm ha]
  have := ((BitVec.ofNat 64 m).rotateLeft a).isLt
  exact ⟨by omega, by omega⟩

theorem rotP_step {k : Int} {a : Nat} (hk : Word k) (ha : a < 900) : B .or .u64 (B .shl .u64 (rotP k a) 1) (B .shr .u64 (rotP k a) 63) = rotP k ((a : Int) + 1) := by
  obtain ⟨m, rfl, hm⟩ := hk.nat
  have e : ((a : Int) + 1) = ((a + 1 : Nat) : Int) := by omega
  rw [e, rotP_nat hm (by omega), rotP_nat hm (by omega), ← rotl_step]
  generalize (BitVec.ofNat 64 m).rotateLeft a = x
  have hx := x.isLt
  have h1 := rotl_nat (m := x.toNat) (r := 1) hx (by omega)
  rw [show BitVec.ofNat 64 x.toNat = x by simp] at h1
  rw [h1]
  have s1 := shl_nat (m := x.toNat) (r := 1) (by omega)
  have s2 := shr_nat (m := x.toNat) (r := 63) (by omega)
  rw [show ((1 : Nat) : Int) = 1 from rfl] at s1
  rw [show ((63 : Nat) : Int) = 63 from rfl] at s2
  rw [s1, s2, B_or_nat (Nat.mod_lt _ (by decide)) (Nat.lt_of_le_of_lt (Nat.div_le_self _ _) hx)]

noncomputable section
variable {n : Nat} {S : St}

set_option maxHeartbeats 4000000 in
theorem rTurned {key : Int} {a : Nat} (hk : Word key) (ha : a < 16) : calls table.find (n + 1) 90 [.int .u64 key, .int .i64 a] S = some (.int .u64 (turnedP key a), S, true) := by
  refine call_rd (x := fun y => y = _) b90 (by simp) fun R hR hargs => ?_
  have r0 : rd R 0 = .int .u64 key := hargs 0 (by simp)
  have r1 : rd R 1 = .int .i64 a := hargs 1 (by simp)
  clear hargs
  have w5 : W .i64 (5 * (a : Int)) = 5 * a := W_i64 (by omega)
  have l1 : ∀ R : List Value, R.length = 28 → rd R 1 = .int .i64 a → rd R 5 = .int .u64 key → rd R 6 = .int .i64 0 → Leads (evCode (calls table.find n) loop90_0 R S.enter) fun o R' S' =>
      o = .exit 0 ∧ S' = S.enter ∧ R'.length = 28 ∧ rd R' 1 = .int .i64 a ∧ rd R' 5 = .int .u64 (rotP key (5 * a)) := by
    intro R hR r1 r5 r6
    rw [eloop90_0]
    refine loop_goes (fun q R S' => S' = S.enter ∧ R.length = 28 ∧ rd R 1 = .int .i64 a ∧ ∃ i : Nat, i + q = 5 * a ∧ rd R 6 = .int .i64 i ∧ rd R 5 = .int .u64 (rotP key i)) _ (5 * a) (by omega)
      ⟨rfl, hR, r1, 0, by omega, r6, by rw [r5]; exact congrArg _ (rotP_zero hk).symm⟩ ?_
    rintro q R S' ⟨rfl, hR, r1, i, hq, r6, r5⟩
    cases q with
    | zero =>
      have e1 : ¬ (i : Int) < 5 * (a : Int) := by omega
      have e2 : (i : Int) = 5 * (a : Int) := by omega
      simp (maxDischargeDepth := 30) [hR, r1, r6, w5, e1]
      rw [r5, e2]
    | succ q =>
      have e1 : (i : Int) < 5 * (a : Int) := by omega
      have w1 : W .i64 ((i : Int) + 1) = (i : Int) + 1 := W_i64 (by omega)
      have hs := rotP_step (a := i) hk (by omega)
      simp (maxDischargeDepth := 30) [hR, r1, r5, r6, w5, e1, w1, hs]
      exact ⟨q, by omega, i + 1, by omega, by simp, by simp⟩
  have l2 : ∀ R : List Value, R.length = 28 → rd R 1 = .int .i64 a → rd R 5 = .int .u64 (rotP key (5 * a)) → rd R 7 = .int .i64 0 → Leads (evCode (calls table.find n) loop90_1 R S.enter) fun o R' S' =>
      o = .exit 2 ∧ S' = S.enter ∧ R'.length = 28 ∧ rd R' 5 = .int .u64 (turnedP key a) := by
    intro R hR r1 r5 r7
    have hrot : Word (rotP key (5 * a)) := by
      have := rotP_word (k := key) (a := 5 * a) hk (by omega)
      rwa [show ((5 * a : Nat) : Int) = 5 * (a : Int) by omega] at this
    have ht : turnedP key a = W .u64 (rotP key (5 * a) + a * 2654435769) := by
      unfold turnedP
      rw [w5, W_u64, W_u64, W_u64, W_u64]
      omega
    rw [ht]
    generalize rotP key (5 * a) = r at *
    rw [eloop90_1]
    refine loop_goes (fun q R S' => S' = S.enter ∧ R.length = 28 ∧ rd R 1 = .int .i64 a ∧ ∃ i : Nat, i + q = a ∧ rd R 7 = .int .i64 i ∧ rd R 5 = .int .u64 (W .u64 (r + i * 2654435769))) _ a (by omega)
      ⟨rfl, hR, r1, 0, by omega, r7, by rw [r5, W_in (by have := hrot.1; simpa using this) (by have := hrot.2; simpa using this)]; simp⟩ ?_
    rintro q R S' ⟨rfl, hR, r1, i, hq, r7, r5⟩
    cases q with
    | zero =>
      have e1 : ¬ (i : Int) < (a : Int) := by omega
      have e1' : ¬ i < a := by omega
      simp (maxDischargeDepth := 30) [hR, r1, r7, e1, e1']
      rw [r5, show i = a by omega]
    | succ q =>
      have e1 : (i : Int) < (a : Int) := by omega
      have e1' : i < a := by omega
      have w1 : W .i64 ((i : Int) + 1) = (i : Int) + 1 := W_i64 (by omega)
      have hs : W .u64 (W .u64 (r + (i : Int) * 2654435769) + 2654435769) = W .u64 (r + ((i : Int) + 1) * 2654435769) := by
        rw [W_u64, W_u64, W_u64]; omega
      simp (maxDischargeDepth := 30) [hR, r1, r5, r7, e1, e1', w1, hs]
      exact ⟨q, by omega, i + 1, by omega, by simp, by simp⟩
  simp (maxDischargeDepth := 30) [hR, r0, r1]
  generalize hR2 : wr (wr _ 5 _) 6 _ = R2
  obtain ⟨o, R3, S3, he, rfl, rfl, hR3, q1, q5⟩ := l1 R2 (by simp [← hR2, hR]) (by simp [← hR2, r1]) (by simp [← hR2, hR]) (by simp [← hR2, hR])
  rw [he]
  simp (maxDischargeDepth := 30) [hR3]
  generalize hR4 : wr R3 7 _ = R4
  obtain ⟨o, R5, S5, he5, rfl, rfl, hR5, p5⟩ := l2 R4 (by simp [← hR4, hR3]) (by simp [← hR4, q1]) (by simp [← hR4, q5]) (by simp [← hR4, hR3])
  rw [he5]
  simp (maxDischargeDepth := 30) [hR5, p5]

theorem rShow {w k i : Int} (hw : Word w) (hk : Word k) : calls table.find (n + 2) 85 [.int .u64 w, .int .u64 k, .int .i64 i] S = some (numOf (showP w k i), S, true) := by
  unfold showP numOf
  by_cases f1 : i < 0
  · have e : isObj i = false := by simp [isObj]; omega
    simp (maxDischargeDepth := 30) [q85, e, f1]
  · by_cases f2 : 16 ≤ i
    · have e : isObj i = false := by simp [isObj]; omega
      simp (maxDischargeDepth := 30) [q85, e, f1, f2]
    · have e : isObj i = true := by simp [isObj]; omega
      obtain ⟨a, rfl⟩ : ∃ a : Nat, i = a := ⟨i.toNat, by omega⟩
      have h2 := fun (m : Nat) (S : St) => @rTurned m S k a hk (by omega)
      have f3 : ¬ 16 ≤ a := by omega
      have hx := word_xor hw (word_turned k a)
      obtain ⟨x, hxe⟩ : ∃ x, B .xor .u64 w (turnedP k a) = x := ⟨_, rfl⟩
      rw [hxe] at hx ⊢
      by_cases h : x ≤ 16
      · have h3 : ¬ 16 < x := by omega
        have h4 : W .i64 x = x := W_i64 ⟨by have := hx.1; omega, by omega⟩
        have h5 : W .i64 (x - 1) = x - 1 := W_i64 ⟨by have := hx.1; omega, by omega⟩
        simp (maxDischargeDepth := 30) [q85, h2, e, f1, f2, f3, h, h3, h4, h5, hxe]
      · have h3 : 16 < x := by omega
        simp (maxDischargeDepth := 30) [q85, h2, e, f1, f2, f3, h, h3, hxe]

theorem rHead {s i : Int} : calls table.find (n + 1) 77 [.int .i64 s, .int .i64 i] S = some (wordOf (headP s i), S, true) := by
  by_cases e0 : s = -1 ∧ i = -1
  · obtain ⟨rfl, rfl⟩ := e0
    simp (maxDischargeDepth := 30) [q77, headP, wordOf]
  · by_cases e1 : 0 ≤ s ∧ s < 32
    · have b2 : (s == -1) = false := by simp; omega
      have g1 : ¬ s < 0 := by omega
      have g2 : ¬ 32 ≤ s := by omega
      by_cases e2 : -1 ≤ i ∧ i < 16
      · have w1 : W .i64 (s + 1) = s + 1 := W_i64 (by omega)
        have w2 : W .i64 (64 * (s + 1)) = 64 * (s + 1) := W_i64 (by omega)
        have w3 : W .i64 (64 * (s + 1) + i) = 64 * (s + 1) + i := W_i64 (by omega)
        have w4 : W .i64 (64 * (s + 1) + i + 1) = 64 * (s + 1) + i + 1 := W_i64 (by omega)
        have w5 : W .u64 (64 * (s + 1) + i + 1) = (s + 1) * 64 + (i + 1) := by rw [W_in (by omega) (by omega)]; omega
        have f1 : ¬ i < -1 := by omega
        have f2 : ¬ 16 ≤ i := by omega
        have hv : headP s i = some ((s + 1) * 64 + (i + 1)) := by unfold headP; rw [if_neg e0, if_pos ⟨e1, e2⟩]
        rw [hv]
        simp (maxDischargeDepth := 30) [q77, wordOf, b2, g1, g2, f1, f2, w1, w2, w3, w4, w5]
      · have hv : headP s i = none := by unfold headP; rw [if_neg e0, if_neg (fun h => e2 h.2)]
        rw [hv]
        by_cases f1 : i < -1
        · simp (maxDischargeDepth := 30) [q77, wordOf, b2, g1, g2, f1]
        · have f2 : 16 ≤ i := by omega
          simp (maxDischargeDepth := 30) [q77, wordOf, b2, g1, g2, f1, f2]
    · have hv : headP s i = none := by unfold headP; rw [if_neg e0, if_neg (fun h => e1 h.1)]
      rw [hv]
      by_cases g1 : s < 0
      · by_cases e3 : s = -1
        · have b2 : (s == -1) = true := by simp [e3]
          have b3 : (i == -1) = false := by simp; omega
          simp (maxDischargeDepth := 30) [q77, wordOf, b2, b3, g1]
        · have b2 : (s == -1) = false := by simp [e3]
          simp (maxDischargeDepth := 30) [q77, wordOf, b2, g1]
      · have g2 : 32 ≤ s := by omega
        have b2 : (s == -1) = false := by simp; omega
        simp (maxDischargeDepth := 30) [q77, wordOf, b2, g1, g2]

theorem headP_iff {w s i : Int} (hw : Word w) : headP s i = some w ↔ headOfP w = some (s, i) := by
  have h0 := hw.1
  unfold headP headOfP
  constructor
  · intro h
    split at h
    · rename_i e
      simp only [Option.some.injEq] at h
      rw [if_pos h.symm, e.1, e.2]
    · split at h
      · rename_i e
        simp only [Option.some.injEq] at h
        have e1 : w / 64 = s + 1 := by omega
        have e2 : w % 64 = i + 1 := by omega
        rw [if_neg (by omega), if_pos (by omega), e1, e2]
        congr 1
        rw [Prod.mk.injEq]; omega
      · cases h
  · intro h
    split at h
    · rename_i e
      simp only [Option.some.injEq, Prod.mk.injEq] at h
      rw [if_pos ⟨h.1.symm, h.2.symm⟩, e]
    · split at h
      · simp only [Option.some.injEq, Prod.mk.injEq] at h
        rw [if_neg (by omega), if_pos (by omega)]
        congr 1
        omega
      · cases h

theorem headP_range {s i w : Int} (h : headP s i = some w) : (-1 ≤ s ∧ s < 32) ∧ -1 ≤ i ∧ i < 16 := by
  unfold headP at h
  split at h
  · omega
  · split at h
    · omega
    · cases h

set_option maxHeartbeats 4000000 in
theorem rHeadOf {w : Int} (hw : Word w) : calls table.find (n + 2) 66 [.int .u64 w] S = some (pairOf (headOfP w) (-1), S, true) := by
  refine call_rd (x := fun y => y = _) b66 (by simp) fun R hR hargs => ?_
  have r0 : rd R 0 = .int .u64 w := hargs 0 (by simp)
  clear hargs
  have inner : ∀ (s : Int) (R : List Value), -1 ≤ s → s < 32 → R.length = 32 → rd R 0 = .int .u64 w → rd R 5 = .int .i64 s → rd R 6 = .int .i64 (-1) → Leads (evCode (calls table.find (n + 1)) loop66_1 R S.enter) fun o R' S' =>
      S' = S.enter ∧ R'.length = 32 ∧ ((o = .exit 2 ∧ rd R' 0 = .int .u64 w ∧ rd R' 5 = .int .i64 s ∧ ∀ i, headP s i ≠ some w) ∨ (o = .ret ∧ ∃ i, headP s i = some w ∧ rd R' 2 = .int .i64 s ∧ rd R' 3 = .int .i64 i ∧ rd R' 4 = .bool true)) := by
    intro s R s1 s2 hR r0 r5 r6
    rw [eloop66_1]
    refine loop_goes (fun q R S' => S' = S.enter ∧ R.length = 32 ∧ rd R 0 = .int .u64 w ∧ rd R 5 = .int .i64 s ∧ ∃ i : Int, -1 ≤ i ∧ i + q = 16 ∧ rd R 6 = .int .i64 i ∧ ∀ j, j < i → headP s j ≠ some w) _ 17 (by omega)
      ⟨rfl, hR, r0, r5, -1, by omega, by omega, r6, fun j hj h => by have := headP_range h; omega⟩ ?_
    rintro q R S' ⟨rfl, hR, r0, r5, i, hi, hq, r6, hno⟩
    cases q with
    | zero =>
      have e1 : ¬ i < 16 := by omega
      simp (maxDischargeDepth := 30) [hR, r0, r5, r6, e1]
      intro j h
      have := headP_range h
      exact hno j (by omega) h
    | succ q =>
      have e1 : i < 16 := by omega
      have w1 : W .i64 (i + 1) = i + 1 := W_i64 (by omega)
      have hh := fun (m : Nat) (S : St) => @rHead m S s i
      cases hp : headP s i with
      | none =>
        simp (maxDischargeDepth := 30) [hR, r0, r5, r6, e1, w1, hh, hp, wordOf]
        refine ⟨q, by omega, i + 1, by omega, by omega, rfl, fun j hj => ?_⟩
        by_cases hji : j < i
        · exact hno j hji
        · obtain rfl : j = i := by omega
          rw [hp]; simp
      | some x =>
        by_cases hx : x = w
        · subst hx
          simp (maxDischargeDepth := 30) [hR, r0, r5, r6, e1, w1, hh, hp, wordOf]
        · have b1 : (x == w) = false := by simp [hx]
          simp (maxDischargeDepth := 30) [hR, r0, r5, r6, e1, w1, hh, hp, wordOf, b1]
          refine ⟨q, by omega, i + 1, by omega, by omega, rfl, fun j hj => ?_⟩
          by_cases hji : j < i
          · exact hno j hji
          · obtain rfl : j = i := by omega
            rw [hp]; simpa using hx
  have outer : ∀ R : List Value, R.length = 32 → rd R 0 = .int .u64 w → rd R 5 = .int .i64 (-1) → Leads (evCode (calls table.find (n + 1)) loop66_0 R S.enter) fun o R' S' =>
      S' = S.enter ∧ R'.length = 32 ∧ ((o = .exit 0 ∧ ∀ s i, headP s i ≠ some w) ∨ (o = .ret ∧ ∃ s i, headP s i = some w ∧ rd R' 2 = .int .i64 s ∧ rd R' 3 = .int .i64 i ∧ rd R' 4 = .bool true)) := by
    intro R hR r0 r5
    rw [eloop66_0]
    refine loop_goes (fun q R S' => S' = S.enter ∧ R.length = 32 ∧ rd R 0 = .int .u64 w ∧ ∃ s : Int, -1 ≤ s ∧ s + q = 32 ∧ rd R 5 = .int .i64 s ∧ ∀ t i, t < s → headP t i ≠ some w) _ 33 (by omega)
      ⟨rfl, hR, r0, -1, by omega, by omega, r5, fun t i ht h => by have := headP_range h; omega⟩ ?_
    rintro q R S' ⟨rfl, hR, r0, s, hs, hq, r5, hno⟩
    cases q with
    | zero =>
      have e1 : ¬ s < 32 := by omega
      simp (maxDischargeDepth := 30) [hR, r0, r5, e1]
      intro t i h
      have := headP_range h
      exact hno t i (by omega) h
    | succ q =>
      have e1 : s < 32 := by omega
      have w1 : W .i64 (s + 1) = s + 1 := W_i64 (by omega)
      simp (maxDischargeDepth := 30) [hR, r0, r5, e1]
      generalize hR2 : wr _ 6 _ = R2
      obtain ⟨o, R3, S3, he, rfl, hR3, hcase⟩ := inner s R2 hs e1 (by simp [← hR2, hR]) (by simp [← hR2, r0]) (by simp [← hR2, r5]) (by simp [← hR2, hR])
      rw [he]
      rcases hcase with ⟨rfl, p0, p5, hnone⟩ | ⟨rfl, i, hp, p2, p3, p4⟩
      · simp (maxDischargeDepth := 30) [hR3, p0, p5, w1]
        refine ⟨q, by omega, s + 1, by omega, by omega, rfl, fun t i ht => ?_⟩
        by_cases hts : t < s
        · exact hno t i hts
        · obtain rfl : t = s := by omega
          exact hnone i
      · simp (maxDischargeDepth := 30) [hR3, p2, p3, p4]
        exact hp
  simp (maxDischargeDepth := 30) [hR, r0]
  generalize hR2 : wr (wr _ 4 _) 5 _ = R2
  obtain ⟨o, R3, S3, he, rfl, hR3, hcase⟩ := outer R2 (by simp [← hR2, hR]) (by simp [← hR2, r0]) (by simp [← hR2, hR])
  rw [he]
  rcases hcase with ⟨rfl, hnone⟩ | ⟨rfl, s, i, hp, p2, p3, p4⟩
  · have hv : headOfP w = none := by
      cases h : headOfP w with
      | none => rfl
      | some p => exact absurd ((headP_iff hw).2 h) (hnone p.1 p.2)
    rw [hv]
    simp (maxDischargeDepth := 30) [hR3, pairOf]
  · rw [(headP_iff hw).1 hp]
    simp (maxDischargeDepth := 30) [hR3, p2, p3, p4, pairOf]

theorem rPart {s m : Int} : calls table.find (n + 1) 86 [.int .i64 s, .int .i64 m] S = some (wordOf (partP s m), S, true) := by
  by_cases e0 : s = -1 ∧ m = 0
  · obtain ⟨rfl, rfl⟩ := e0
    simp (maxDischargeDepth := 30) [q86, partP, wordOf]
  · by_cases e1 : 0 ≤ s ∧ s < 32
    · have b2 : (s == -1) = false := by simp; omega
      have g1 : ¬ s < 0 := by omega
      have g2 : ¬ 32 ≤ s := by omega
      by_cases e2 : 1 ≤ m ∧ m ≤ 63
      · have w1 : W .i64 (s + 1) = s + 1 := W_i64 (by omega)
        have w2 : W .i64 (64 * m) = 64 * m := W_i64 (by omega)
        have w3 : W .i64 (s + 1 + 64 * m) = s + 1 + 64 * m := W_i64 (by omega)
        have w5 : W .u64 (s + 1 + 64 * m) = m * 64 + (s + 1) := by rw [W_in (by omega) (by omega)]; omega
        have f1 : ¬ m < 1 := by omega
        have f2 : ¬ 63 < m := by omega
        have hv : partP s m = some (m * 64 + (s + 1)) := by unfold partP; rw [if_neg e0, if_pos ⟨e1, e2⟩]
        rw [hv]
        simp (maxDischargeDepth := 30) [q86, wordOf, b2, g1, g2, f1, f2, w1, w2, w3, w5]
      · have hv : partP s m = none := by unfold partP; rw [if_neg e0, if_neg (fun h => e2 h.2)]
        rw [hv]
        by_cases f1 : m < 1
        · simp (maxDischargeDepth := 30) [q86, wordOf, b2, g1, g2, f1]
        · have f2 : 63 < m := by omega
          simp (maxDischargeDepth := 30) [q86, wordOf, b2, g1, g2, f1, f2]
    · have hv : partP s m = none := by unfold partP; rw [if_neg e0, if_neg (fun h => e1 h.1)]
      rw [hv]
      by_cases g1 : s < 0
      · by_cases e3 : s = -1
        · have b2 : (s == -1) = true := by simp [e3]
          have b3 : (m == 0) = false := by simp; omega
          simp (maxDischargeDepth := 30) [q86, wordOf, b2, b3, g1]
        · have b2 : (s == -1) = false := by simp [e3]
          simp (maxDischargeDepth := 30) [q86, wordOf, b2, g1]
      · have g2 : 32 ≤ s := by omega
        have b2 : (s == -1) = false := by simp; omega
        simp (maxDischargeDepth := 30) [q86, wordOf, b2, g1, g2]

theorem tmod_pos {a b : Int} (h : 0 ≤ a) : a.tmod b = a % b := Int.tmod_eq_emod_of_nonneg h
theorem tdiv_pos {a b : Int} (h : 0 ≤ a) : a.tdiv b = a / b := Int.tdiv_eq_ediv_of_nonneg h

theorem rPartOf {w : Int} (hw : Word w) : calls table.find (n + 2) 79 [.int .u64 w] S = some (pairOf (partOfP w) 0, S, true) := by
  have w0 := hw.1
  have w9 := hw.2
  by_cases h0 : w = 0
  · subst h0
    simp (maxDischargeDepth := 30) [q79, partOfP, pairOf]
  · have b0 : (w == 0) = false := by simp [h0]
    have hh := fun (m : Nat) (S : St) => @rPart m S (w % 64 - 1) (w / 64 % 64)
    have t1 : w.tmod 64 = w % 64 := tmod_pos w0
    have t2 : w.tdiv 64 = w / 64 := tdiv_pos w0
    have w1 : W .i64 (w % 64) = w % 64 := W_i64 (by omega)
    have w2 : W .i64 (w % 64 - 1) = w % 64 - 1 := W_i64 (by omega)
    have w3 : W .u64 (w / 64) = w / 64 := W_in (by omega) (by omega)
    have t3 : (w / 64).tmod 64 = w / 64 % 64 := tmod_pos (by omega)
    have w4 : W .i64 (w / 64 % 64) = w / 64 % 64 := W_i64 (by omega)
    cases hp : partP (w % 64 - 1) (w / 64 % 64) with
    | none =>
      have hv : partOfP w = none := by
        unfold partOfP
        unfold partP at hp
        rw [if_neg h0, if_neg]
        intro h
        split at hp
        · cases hp
        · split at hp
          · cases hp
          · rename_i h2; exact h2 (by omega)
      rw [hv]
      simp (maxDischargeDepth := 30) [q79, b0, t1, t2, t3, w1, w2, w3, w4, hh, hp, wordOf, pairOf]
    | some v =>
      by_cases hx : v = w
      · subst hx
        have hv : partOfP v = some (v % 64 - 1, v / 64 % 64) := by
          unfold partOfP
          unfold partP at hp
          split at hp
          · simp only [Option.some.injEq] at hp; omega
          · split at hp
            · simp only [Option.some.injEq] at hp
              rw [if_neg h0, if_pos (by omega)]
              congr 1
              rw [Prod.mk.injEq]; omega
            · cases hp
        rw [hv]
        simp (maxDischargeDepth := 30) [q79, b0, t1, t2, t3, w1, w2, w3, w4, hh, hp, wordOf, pairOf]
      · have b1 : (v != w) = true := by simp [hx]
        have hv : partOfP w = none := by
          unfold partOfP
          unfold partP at hp
          rw [if_neg h0, if_neg]
          intro h
          split at hp
          · omega
          · split at hp
            · simp only [Option.some.injEq] at hp; omega
            · cases hp
        rw [hv]
        simp (maxDischargeDepth := 30) [q79, b0, b1, t1, t2, t3, w1, w2, w3, w4, hh, hp, wordOf, pairOf]

/-! ### counts -/
@[simp] theorem isBit_undef {w : Bool} : isBit undef w = false := (rfl)

set_option maxHeartbeats 4000000 in
theorem rMay {u o : Int} {f l : Bool} : calls table.find (n + 1) 87 [.agg #[.int .i64 u, .int .i64 o, .bool f, .bool l]] S = some (.bool (cMay u o f l), S, true) := by
  unfold cMay
  cases l with
  | false => cases b1 : (u == 0) <;> cases b2 : (o == 0) <;> cases f <;> simp (maxDischargeDepth := 30) (maxSteps := 1000000) [q87, b1, b2]
  | true =>
    cases e1 : decide (1 ≤ o) with
    | false => simp (maxDischargeDepth := 30) [q87, e1]
    | true =>
    cases e2 : decide (o ≤ 16) with
    | false => simp (maxDischargeDepth := 30) [q87, e1, e2]
    | true =>
    cases e3 : decide (0 ≤ u) with
    | false => simp (maxDischargeDepth := 30) [q87, e1, e2, e3]
    | true =>
    cases e4 : decide (u ≤ o) with
    | false => simp (maxDischargeDepth := 30) [q87, e1, e2, e3, e4]
    | true => simp (maxDischargeDepth := 30) [q87, e1, e2, e3, e4]

/-- The word of counts. -/
def packV (c : CountsP) : Int := c.inuse + 256 * c.objects + (if c.frozen then 65536 else 0) + (if c.live then 131072 else 0)
def packP (c : CountsP) : Option Int := if cMay c.inuse c.objects c.frozen c.live = true then some (packV c) else none

theorem cMay_range {u o : Int} {f l : Bool} (h : cMay u o f l = true) : (0 ≤ u ∧ u ≤ 16) ∧ 0 ≤ o ∧ o ≤ 16 := by
  unfold cMay at h
  simp at h
  omega

set_option maxHeartbeats 1000000 in
theorem rPack {c : CountsP} : calls table.find (n + 2) 80 [.agg c.cells.toArray] S = some (wordOf (packP c), S, true) := by
  obtain ⟨u, o, f, l⟩ := c
  have hm := fun (k : Nat) (S : St) => @rMay k S u o f l
  unfold packP packV
  cases e : cMay u o f l with
  | false => simp (maxDischargeDepth := 30) [q80, CountsP.cells, wordOf, hm, e]
  | true =>
    have hr := cMay_range e
    have w1 : W .u64 u = u := W_in (by omega) (by omega)
    have w2 : W .u64 o = o := W_in (by omega) (by omega)
    have w3 : W .u64 (256 * o) = 256 * o := W_in (by omega) (by omega)
    have w4 : W .u64 (u + 256 * o) = u + 256 * o := W_in (by omega) (by omega)
    have w5 : W .u64 (u + 256 * o + 65536) = u + 256 * o + 65536 := W_in (by omega) (by omega)
    have w6 : W .u64 (u + 256 * o + 65536 + 131072) = u + 256 * o + 65536 + 131072 := W_in (by omega) (by omega)
    have w7 : W .u64 (u + 256 * o + 131072) = u + 256 * o + 131072 := W_in (by omega) (by omega)
    cases f <;> cases l <;> simp (maxDischargeDepth := 30) [q80, CountsP.cells, wordOf, hm, e, w1, w2, w3, w4, w5, w6, w7]

theorem packP_counts {w : Int} (hw : Word w) : packP (readC w) = some w ↔ countsP w = some (readC w) := by
  have := hw.1
  unfold packP countsP packV
  cases e : cMay (readC w).inuse (readC w).objects (readC w).frozen (readC w).live with
  | false => simp
  | true =>
    simp only [readC, if_true, and_true, Option.some.injEq, ite_eq_left_iff, reduceCtorEq, imp_false, Decidable.not_not, decide_eq_true_eq]
    split <;> split <;> omega

set_option maxHeartbeats 1000000 in
theorem rCounts {w : Int} (hw : Word w) : calls table.find (n + 3) 70 [.int .u64 w] S = some (countsOf (countsP w), S, true) := by
  have w0 := hw.1
  have w9 := hw.2
  have hh := fun (m : Nat) (S : St) => @rPack m S (readC w)
  unfold readC CountsP.cells at hh
  have t1 : w.tmod 256 = w % 256 := tmod_pos w0
  have t2 : w.tdiv 256 = w / 256 := tdiv_pos w0
  have t4 : w.tdiv 65536 = w / 65536 := tdiv_pos w0
  have t6 : w.tdiv 131072 = w / 131072 := tdiv_pos w0
  have t3 : (w / 256).tmod 256 = w / 256 % 256 := tmod_pos (by omega)
  have t5 : (w / 65536).tmod 2 = w / 65536 % 2 := tmod_pos (by omega)
  have t7 : (w / 131072).tmod 2 = w / 131072 % 2 := tmod_pos (by omega)
  have w1 : W .i64 (w % 256) = w % 256 := W_i64 (by omega)
  have w2 : W .i64 (w / 256 % 256) = w / 256 % 256 := W_i64 (by omega)
  have w3 : W .u64 (w / 256) = w / 256 := W_in (by omega) (by omega)
  have w4 : W .u64 (w / 65536) = w / 65536 := W_in (by omega) (by omega)
  have w5 : W .u64 (w / 131072) = w / 131072 := W_in (by omega) (by omega)
  have d1 : ((w / 65536 % 2 : Int) == 1) = decide (w / 65536 % 2 = 1) := by rw [Bool.eq_iff_iff]; simp
  have d2 : ((w / 131072 % 2 : Int) == 1) = decide (w / 131072 % 2 = 1) := by rw [Bool.eq_iff_iff]; simp
  have hi := packP_counts hw
  have hn : packP (readC w) ≠ some w → countsP w = none := fun h => by
    cases hc : countsP w with
    | none => rfl
    | some c =>
      have : c = readC w := by
        unfold countsP at hc
        split at hc
        · exact (Option.some.inj hc).symm
        · cases hc
      rw [this] at hc
      exact absurd (hi.2 hc) h
  unfold readC at hi hn
  cases hp : packP ⟨w % 256, w / 256 % 256, decide (w / 65536 % 2 = 1), decide (w / 131072 % 2 = 1)⟩ with
  | none =>
    rw [hp] at hn
    rw [hn (by simp)]
    simp (maxDischargeDepth := 30) [q70, countsOf, CountsP.cells, t1, t2, t3, t4, t5, t6, t7, w1, w2, w3, w4, w5, d1, d2, hh, hp, wordOf]
  | some v =>
    rw [hp] at hn hi
    by_cases hx : v = w
    · subst hx
      rw [hi.1 rfl]
      simp (maxDischargeDepth := 30) [q70, countsOf, CountsP.cells, t1, t2, t3, t4, t5, t6, t7, w1, w2, w3, w4, w5, d1, d2, hh, hp, wordOf]
    · have b1 : (v != w) = true := by simp [hx]
      rw [hn (by simpa using hx)]
      simp (maxDischargeDepth := 30) [q70, countsOf, CountsP.cells, t1, t2, t3, t4, t5, t6, t7, w1, w2, w3, w4, w5, d1, d2, hh, hp, wordOf, b1]
end

end Go.Proofs.Ytpecefjgadecfaa.Chart

/- What the reference's functions over rows answer: has, List, list, parts, shelf. -/
namespace Go.Proofs.Ytpecefjgadecfaa.Chart
open Go Go.Proofs.Ytpecefjgadecfaa.AE
set_option maxRecDepth 10000
set_option linter.unusedSimpArgs false

/-- A call that hands back a row, and a number. -/
theorem row_leaveI {S T S' : St} {v' : Value} {r : Option (List Int)} (hk : Kept S S') (hT : S.top ≤ T.top) (hout : RowOut T S' v' r) (b : Int) :
    ∃ S2, leave S S' (.tuple #[v', .int .i64 b]) = (.tuple #[v', .int .i64 b], S2, true) ∧ Grown S S2 ∧ RowOut S S2 v' r := by
  have hq : v' = .slice none 0 0 → leave S S' (.tuple #[v', .int .i64 b]) = (.tuple #[v', .int .i64 b], S, true) := fun e => by
    subst e; exact leave_quiet hk.quiet rfl
  cases r with
  | none => exact ⟨S, hq hout, Grown.refl S, hout⟩
  | some l =>
    rcases hout with ⟨h1, h2, h3⟩ | ⟨h1, h2, x, h3, h4, h5⟩
    · exact ⟨S, hq h3, Grown.refl S, .inl ⟨h1, h2, h3⟩⟩
    · subst h3
      exact ⟨S.left S', leave_new hk (by simp; omega), Grown.left hk, .inr ⟨h1, h2, x, rfl, by omega, by rw [at_left]; exact h5⟩⟩

def errOf (r : Bool) : Int := if r then 0 else 150

section
variable {g : Int → Option Int} {ws : List Int} {P N : Nat} {seen : List Int} {w : Int}
theorem CWalk.no (h : startP g N w = none) : CWalk g ws P N seen w none := by unfold CWalk; rw [h]
theorem CWalk.stop (h : startP g N w = some (-1)) : CWalk g ws P N seen w (some seen) := by unfold CWalk; rw [h]; exact .stop seen
theorem CWalk.again {s : Int} (h : startP g N w = some s) (h1 : s ≠ -1) (h2 : s ∈ seen) : CWalk g ws P N seen w none := by unfold CWalk; rw [h]; exact .again h1 h2
theorem CWalk.on {t : Nat} {w' : Int} {r : Option (List Int)} (h : startP g N w = some (t : Int)) (h2 : (t : Int) ∉ seen) (hw : ws[nextAt P t]? = some w') (k : CWalk g ws P N (seen ++ [(t : Int)]) w' r) : CWalk g ws P N seen w r := by
  unfold CWalk at k ⊢
  rw [h]
  cases hst : startP g N w' with
  | none =>
    rw [hst] at k
    subst k
    exact .lost (by omega) h2 (by simp [nextC, hw, hst])
  | some y =>
    rw [hst] at k
    exact .on (by omega) h2 (by simp [nextC, hw, hst]) k
end

noncomputable section
variable {n : Nat} {S : St}

set_option maxHeartbeats 1000000 in
theorem rHas {v : Value} {xs : List Int} {x : Int} (hv : IsInts S.at .i64 v xs) (hl : xs.length < 1000000000) :
    calls table.find (n + 1) 69 [v, .int .i64 x] S = some (.bool (decide (x ∈ xs)), S, true) := by
  refine call_rd (x := fun y => y = _) b69 (by simp) fun R hR hargs => ?_
  have h0 : rd R 0 = v := hargs 0 (by simp)
  have h1 : rd R 1 = .int .i64 x := hargs 1 (by simp)
  clear hargs
  obtain ⟨p, cp, rfl, hx⟩ := hv
  have hloop : ∀ R : List Value, R.length = 18 → rd R 0 = .slice p xs.length cp → rd R 1 = .int .i64 x → rd R 5 = .int .i64 0 →
      Leads (evCode (calls table.find n) loop69_0 R S.enter) fun o R' S' => S' = S.enter ∧ R'.length = 18 ∧ ((o = .exit 0 ∧ x ∉ xs) ∨ (o = .ret ∧ rd R' 4 = .bool true ∧ x ∈ xs)) := by
    intro R hR h0 h1 h5
    rw [eloop69_0]
    refine loop_goes (fun k R S' => S' = S.enter ∧ R.length = 18 ∧ rd R 0 = .slice p xs.length cp ∧ rd R 1 = .int .i64 x ∧ ∃ i : Nat, rd R 5 = .int .i64 i ∧ i + k = xs.length ∧ ∀ j, j < i → xs[j]? ≠ some x) _ xs.length (by omega)
      ⟨rfl, hR, h0, h1, 0, h5, by omega, fun j hj => absurd hj (Nat.not_lt_zero j)⟩ ?_
    rintro k R S' ⟨rfl, hR, h0, h1, i, h5, hk, hj⟩
    cases k with
    | zero =>
      have e1 : ¬ i < xs.length := by omega
      simp (maxDischargeDepth := 30) [hR, h0, h1, h5, e1]
      intro hm
      obtain ⟨j, hjl, hj2⟩ := List.mem_iff_getElem.1 hm
      exact hj j (by omega) (by rw [List.getElem?_eq_getElem hjl, hj2])
    | succ k =>
      have e1 : i < xs.length := by omega
      have g1 : xs[i]? = some xs[i] := List.getElem?_eq_getElem e1
      have gm : xs[i] ∈ xs := List.getElem_mem e1
      generalize xs[i] = y at g1 gm
      obtain ⟨b, off, c, rfl, hc, hcx⟩ := hx i _ g1
      have e4 : W .i64 ((i : Int) + 1) = (i : Int) + 1 := W_i64 (by omega)
      by_cases hxy : y = x
      · subst hxy
        simp (maxDischargeDepth := 30) [hR, h0, h1, h5, e1, hc, hcx]
        exact gm
      · have e5 : (y == x) = false := by simp [hxy]
        simp (maxDischargeDepth := 30) [hR, h0, h1, h5, e1, hc, hcx, e5, e4]
        refine ⟨k, by omega, i + 1, by simp, by omega, fun j hj' => ?_⟩
        by_cases hji : j < i
        · exact hj j hji
        · obtain rfl : j = i := by omega
          rw [g1]; simpa using hxy
  simp (maxDischargeDepth := 30) [hR, h0, h1]
  generalize hR2 : wr _ 5 _ = R2
  obtain ⟨o, R3, S3, he, rfl, hR3, hq⟩ := hloop R2 (by simp [← hR2, hR]) (by simp [← hR2, h0]) (by simp [← hR2, h1]) (by simp [← hR2, hR])
  rw [he]
  rcases hq with ⟨rfl, hq⟩ | ⟨rfl, h4, hq⟩
  · simp (maxDischargeDepth := 30) [hR3, hq]
  · simp (maxDischargeDepth := 30) [hR3, h4, hq]

set_option maxHeartbeats 4000000 in
theorem rListIn {R : List Value} {S' : St} {v vo : Value} {seen : List Int} {key cur : Int} (hv : IsInts S'.at .i64 vo seen) (hl : seen.length < 1000000)
    (hR : R.length = 63) (r0 : rd R 0 = v) (r1 : rd R 1 = .int .u64 key) (r2 : rd R 2 = .int .i64 cur) (r8 : rd R 8 = vo) (r9 : rd R 9 = .int .i64 0) :
    Leads (evCode (calls table.find n) loop78_1 R S') fun o R' S'' => S'' = S' ∧ R'.length = 63 ∧
      ((o = .exit 2 ∧ cur ∉ seen ∧ rd R' 0 = v ∧ rd R' 1 = .int .u64 key ∧ rd R' 2 = .int .i64 cur ∧ rd R' 8 = vo) ∨ (o = .ret ∧ cur ∈ seen ∧ rd R' 6 = .slice none 0 0 ∧ rd R' 7 = .int .i64 150)) := by
  obtain ⟨p, cp, hvo, hx⟩ := hv
  rw [eloop78_1]
  refine loop_goes (fun k R S'' => S'' = S' ∧ R.length = 63 ∧ rd R 0 = v ∧ rd R 1 = .int .u64 key ∧ rd R 2 = .int .i64 cur ∧ rd R 8 = vo ∧ ∃ i : Nat, rd R 9 = .int .i64 i ∧ i + k = seen.length ∧ ∀ j, j < i → seen[j]? ≠ some cur) _ seen.length (by omega)
    ⟨rfl, hR, r0, r1, r2, r8, 0, r9, by omega, fun j hj => absurd hj (Nat.not_lt_zero j)⟩ ?_
  clear hR r0 r1 r2 r8 r9
  rintro k R S'' ⟨rfl, hR, r0, r1, r2, r8, i, r9, hk, hj⟩
  subst hvo
  cases k with
  | zero =>
    have e1 : ¬ i < seen.length := by omega
    simp (maxDischargeDepth := 30) [hR, r0, r1, r2, r8, r9, e1]
    intro hm
    obtain ⟨j, hjl, hj2⟩ := List.mem_iff_getElem.1 hm
    exact hj j (by omega) (by rw [List.getElem?_eq_getElem hjl, hj2])
  | succ k =>
    have e1 : i < seen.length := by omega
    have g1 : seen[i]? = some seen[i] := List.getElem?_eq_getElem e1
    have gm : seen[i] ∈ seen := List.getElem_mem e1
    generalize seen[i] = y at g1 gm
    obtain ⟨b, off, c, rfl, hc, hcx⟩ := hx i _ g1
    have e4 : W .i64 ((i : Int) + 1) = (i : Int) + 1 := W_i64 (by omega)
    by_cases hxy : y = cur
    · subst hxy
      simp (maxDischargeDepth := 30) [hR, r0, r1, r2, r8, r9, e1, hc, hcx]
      exact gm
    · have e5 : (y == cur) = false := by simp [hxy]
      simp (maxDischargeDepth := 30) [hR, r0, r1, r2, r8, r9, e1, hc, hcx, e5, e4]
      refine ⟨k, by omega, i + 1, by simp, by omega, fun j hj' => ?_⟩
      by_cases hji : j < i
      · exact hj j hji
      · obtain rfl : j = i := by omega
        rw [g1]; simpa using hxy

set_option maxHeartbeats 4000000 in
theorem rListLoop {v : Value} {ws : List Int} {key first : Int} {R : List Value} {S' : St} (hrow : WRow S v ws) (hw : ∀ x ∈ ws, Word x) (hkey : Word key) (hl : ws.length ≤ 16) (h1 : -1 ≤ first) (h2 : first < ws.length)
    (hR : R.length = 63) (r0 : rd R 0 = v) (r1 : rd R 1 = .int .u64 key) (r2 : rd R 2 = .int .i64 first) (r8 : rd R 8 = .slice none 0 0) (hk : Kept S S') :
    Leads (evCode (calls table.find (n + 2)) loop78_0 R S') fun o R' S' => R'.length = 63 ∧ Kept S S' ∧ ∃ r, Walks (nextP ws key) [] first r ∧
      ((o = .exit 0 ∧ ∃ l vo, r = some l ∧ rd R' 8 = vo ∧ one vo = true ∧ OutRow S' S.top 3 1 vo (l.map (Value.int .i64)) l.length) ∨ (o = .ret ∧ r = none ∧ rd R' 6 = .slice none 0 0 ∧ rd R' 7 = .int .i64 150)) := by
  rw [eloop78_0]
  refine loop_goes (fun q R S' => ∃ (seen : List Int) (cur : Int) (vo : Value), unmet 16 seen = q ∧ (∀ x ∈ seen, 0 ≤ x ∧ x < 16) ∧ -1 ≤ cur ∧ cur < ws.length ∧ (∀ r, Walks (nextP ws key) seen cur r → Walks (nextP ws key) [] first r) ∧
    R.length = 63 ∧ rd R 0 = v ∧ rd R 1 = .int .u64 key ∧ rd R 2 = .int .i64 cur ∧ rd R 8 = vo ∧ Kept S S' ∧ one vo = true ∧ seen.length ≤ 17 - q ∧ OutRow S' S.top 3 1 vo (seen.map (Value.int .i64)) seen.length) _ (unmet 16 []) (by have := unmet_le 16 []; omega)
    ⟨[], first, _, rfl, by simp, h1, h2, fun r h => h, hR, r0, r1, r2, r8, hk, rfl, by simp, .nil⟩ ?_
  clear hR r0 r1 r2 r8 hk
  rintro q R S' ⟨seen, cur, vo, hq, hseen, c1, c2, hwalk, hR, r0, r1, r2, r8, hk, ho, hle, hout⟩
  by_cases e0 : cur = -1
  · subst e0
    simp (maxDischargeDepth := 30) [hR, r2]
    exact ⟨hk, some seen, hwalk _ (.stop seen), seen, rfl, by rw [r8]; exact ho, by rw [r8]; exact hout⟩
  · obtain ⟨x, rfl⟩ : ∃ x : Nat, cur = x := ⟨cur.toNat, by omega⟩
    have hx : x < ws.length := by omega
    simp (maxDischargeDepth := 30) [hR, r2]
    generalize hR2 : wr _ 9 _ = R2
    obtain ⟨o, R3, S3, he, rfl, hR3, hcase⟩ := rListIn (n := n + 2) (R := R2) (S' := S') (v := v) (key := key) (cur := x) (Ints.isInts (lo := S.top) ⟨ho, hout⟩) (by omega) (by simp [← hR2, hR]) (by simp [← hR2, r0]) (by simp [← hR2, r1]) (by simp [← hR2, r2]) (by simp [← hR2, r8]) (by simp [← hR2, hR])
    rw [he]
    rcases hcase with ⟨rfl, e1, p0, p1, p2, p8⟩ | ⟨rfl, e1, p6, p7⟩
    · simp (maxDischargeDepth := 30) [hR3, p0, p1, p2, p8]
      have hq1 : unmet 16 (seen ++ [(x : Int)]) < q := by rw [← hq]; exact unmet_lt (by omega) (by omega) e1
      obtain ⟨v', S2, he2, hout2, hone, hkept, hold, htop⟩ := out_app (xs := [.int .i64 x]) (bytes := 8) (cp := 0) hout rfl (by omega) rfl (by omega) (by omega) hk.top
      rw [he2]
      have hk2 : Kept S S2 := hkept S hk (by omega)
      obtain ⟨bw, off, c, hv, hc0, hcl, hel⟩ := hrow.grown hk2.at'
      have hc := rowAt_cells hc0
      obtain ⟨w, hwx⟩ : ∃ w, ws[x]? = some w := ⟨_, List.getElem?_eq_getElem hx⟩
      have hcw := hel x w hwx
      have hcw2 : ∀ h : off + x < c.length, c[off + x] = .int .u64 w := fun h => (List.getElem?_eq_some_iff.1 hcw).2
      have hlt : off + x < c.length := by omega
      have hword : Word w := hw w (List.mem_of_getElem? hwx)
      have hshow := fun (m : Nat) (S : St) => @rShow m S w key x hword hkey
      subst hv
      cases hsp : showP w key x with
      | none =>
        simp (maxDischargeDepth := 30) [hR3, p0, p1, p2, p8, hx, hc, hlt, hcw2, hshow, hsp, numOf]
        refine ⟨hk2, hwalk _ (.lost e0 e1 ?_)⟩
        simp [nextP, hwx, hsp]
      | some y =>
        have hy := show_range hword hsp
        by_cases hyl : y < ws.length
        · have hyl' : ¬ (ws.length : Int) ≤ y := by omega
          simp (maxDischargeDepth := 30) [hR3, p0, p1, p2, p8, hx, hc, hlt, hcw2, hshow, hsp, numOf, hyl']
          have hu := unmet_le 16 seen
          refine ⟨_, hq1, seen ++ [(x : Int)], rfl, ?_, y, by omega, hyl, fun r h => hwalk r (.on e0 e1 (by simp [nextP, hwx, hsp, hyl]) h), rfl, hk2, hone, ?_, by simpa using hout2⟩
          · intro z hz
            rcases List.mem_append.1 hz with hz | hz
            · exact hseen z hz
            · simp only [List.mem_singleton] at hz; omega
          · rw [List.length_append]; simp; omega
        · have hyl' : (ws.length : Int) ≤ y := by omega
          simp (maxDischargeDepth := 30) [hR3, p0, p1, p2, p8, hx, hc, hlt, hcw2, hshow, hsp, numOf, hyl']
          refine ⟨hk2, hwalk _ (.lost e0 e1 ?_)⟩
          simp [nextP, hwx, hsp, hyl]
    · simp (maxDischargeDepth := 30) [hR3, p6, p7]
      exact ⟨hk, hwalk _ (.again e0 e1)⟩

set_option maxHeartbeats 4000000 in
theorem rList {v : Value} {ws : List Int} {key first : Int} (hrow : WRow S v ws) (hw : ∀ x ∈ ws, Word x) (hkey : Word key) (hl : ws.length ≤ 16) (h1 : -1 ≤ first) (h2 : first < ws.length) :
    ∃ r v' S', Walks (nextP ws key) [] first r ∧ calls table.find (n + 3) 78 [v, .int .u64 key, .int .i64 first] S = some (.tuple #[v', .int .i64 (errOf r.isSome)], S', true) ∧
      Grown S S' ∧ one v' = true ∧ RowOut S S' v' r := by
  refine call_rd (x := fun y => ∃ r v' S', Walks (nextP ws key) [] first r ∧ y = some (.tuple #[v', .int .i64 (errOf r.isSome)], S', true) ∧ Grown S S' ∧ one v' = true ∧ RowOut S S' v' r) b78 (by simp) fun R hR hargs => ?_
  have r0 : rd R 0 = v := hargs 0 (by simp)
  have r1 : rd R 1 = .int .u64 key := hargs 1 (by simp)
  have r2 : rd R 2 = .int .i64 first := hargs 2 (by simp)
  clear hargs
  obtain ⟨bw, off, c, hv, hc, hcl, hel⟩ := id hrow
  have f1 : ¬ 16 < ws.length := by omega
  have f2 : ¬ first < -1 := by omega
  have f3 : ¬ (ws.length : Int) ≤ first := by omega
  have f4 : ¬ (16 : Int) < ws.length := by omega
  rw [hv] at r0
  simp (maxDischargeDepth := 30) [hR, r0, r1, r2, f1, f2, f3, f4]
  generalize hR2 : wr _ 8 _ = R2
  obtain ⟨o, R3, S3, he, hR3, hk, r, hwalk, hr⟩ := rListLoop (n := n) (R := R2) (S' := S.enter) (key := key) hrow hw hkey hl h1 h2 (by simp [← hR2, hR]) (by rw [hv]; simp [← hR2, r0]) (by simp [← hR2, r1]) (by simp [← hR2, r2]) (by simp [← hR2, hR]) (Kept.enter S)
  rw [he]
  rcases hr with ⟨rfl, l, vo, rfl, r8, ho, hout⟩ | ⟨rfl, rfl, r6, r7⟩
  · simp (maxDischargeDepth := 30) [hR3, r8]
    obtain ⟨S2, hle, hg2, hr2⟩ := row_leaveI (T := S) (r := some l) hk (Nat.le_refl _) hout 0
    exact ⟨some l, hwalk, vo, S2, hle, hg2, ho, hr2⟩
  · simp (maxDischargeDepth := 30) [hR3, r6, r7, hk.quiet]
    exact ⟨none, hwalk, _, S, ⟨⟨rfl, rfl⟩, rfl⟩, Grown.refl S, rfl, rfl⟩

end

theorem mayR_may {p s o mn cp : Int} (hm : may p s o mn cp = true) : mayR p s o mn cp = true := by
  obtain ⟨h1, h2, h3, h4, h5⟩ := may_iff.1 hm
  unfold mayR within
  rw [W_i64 (n := p - 1) (by omega), W_i64 (n := s - 1) (by omega), W_i64 (n := o - 1) (by omega)]
  simp; omega

section
variable {n : Nat} {p s o mn cp k i j : Int} {S : St} (hm : may p s o mn cp = true)
include hm

theorem uCheck : calls table.find (n + 2) 18 [chart p s o mn cp k] S = some (.int .i64 0, S, true) := by
  rw [s18, mayR_may hm]; rfl

theorem uWords : calls table.find (n + 6) 19 [chart p s o mn cp k] S = some (.int .i64 (4 * p + 4 + 4 * s + s * o), S, true) := by
  obtain ⟨h1, h2, h3, _⟩ := may_iff.1 hm
  have h5 := mul_le hm (x := s) (by omega) (by omega)
  rw [s19, mayR_may hm, W_i64 (n := 4 * p) (by omega), W_i64 (n := 4 * p + 4) (by omega), W_i64 (n := 4 * s) (by omega), W_i64 (n := 4 * p + 4 + 4 * s) (by omega), W_i64 (n := s * o) (by omega), W_i64 (by omega), if_pos rfl, Int.max_eq_left (by omega)]

theorem uLock : calls table.find (n + 6) 22 [chart p s o mn cp k] S = some (.int .i64 (4 * p), S, true) := by
  obtain ⟨h1, h2, h3, _⟩ := may_iff.1 hm
  rw [s22, mayR_may hm, W_i64 (n := 4 * p) (by omega)]; rfl

theorem uShelf : calls table.find (n + 6) 23 [chart p s o mn cp k] S = some (.int .i64 (4 * p + 1), S, true) := by
  obtain ⟨h1, h2, h3, _⟩ := may_iff.1 hm
  rw [s23, mayR_may hm, W_i64 (n := 4 * p) (by omega), W_i64 (by omega)]; rfl

theorem uHead (hi : 0 ≤ i) (hi' : i < p) : calls table.find (n + 6) 20 [chart p s o mn cp k, .int .i64 i] S = some (.int .i64 (4 * i), S, true) := by
  obtain ⟨h1, h2, h3, _⟩ := may_iff.1 hm
  have e1 : within i p = true := by simp [within]; omega
  rw [s20, mayR_may hm, e1, W_i64 (by omega)]; rfl

theorem uFirst (hi : 0 ≤ i) (hi' : i < s) : calls table.find (n + 6) 25 [chart p s o mn cp k, .int .i64 i] S = some (.int .i64 (4 * p + 4 + 4 * i), S, true) := by
  obtain ⟨h1, h2, h3, _⟩ := may_iff.1 hm
  have e1 : within i s = true := by simp [within]; omega
  rw [s25, mayR_may hm, e1, W_i64 (n := 4 * p) (by omega), W_i64 (n := 4 * p + 4) (by omega), W_i64 (n := 4 * i) (by omega), W_i64 (by omega)]; rfl

theorem uNext (hi : 0 ≤ i) (hi' : i < s) : calls table.find (n + 6) 26 [chart p s o mn cp k, .int .i64 i] S = some (.int .i64 (4 * p + 4 + 4 * i + 2), S, true) := by
  obtain ⟨h1, h2, h3, _⟩ := may_iff.1 hm
  have e1 : within i s = true := by simp [within]; omega
  rw [s26, mayR_may hm, e1, W_i64 (n := 4 * p) (by omega), W_i64 (n := 4 * p + 4) (by omega), W_i64 (n := 4 * i) (by omega), W_i64 (n := 4 * p + 4 + 4 * i) (by omega), W_i64 (by omega)]; rfl

theorem uLink (hi : 0 ≤ i) (hi' : i < s) (hj : 0 ≤ j) (hj' : j < o) : calls table.find (n + 6) 27 [chart p s o mn cp k, .int .i64 i, .int .i64 j] S = some (.int .i64 (4 * p + 4 + 4 * s + i * o + j), S, true) := by
  obtain ⟨h1, h2, h3, _⟩ := may_iff.1 hm
  have h5 := mul_le hm (x := i) (by omega) (by omega)
  have e1 : within i s = true := by simp [within]; omega
  have e2 : within j o = true := by simp [within]; omega
  rw [s27, mayR_may hm, e1, e2, W_i64 (n := 4 * p) (by omega), W_i64 (n := 4 * p + 4) (by omega), W_i64 (n := 4 * s) (by omega), W_i64 (n := 4 * p + 4 + 4 * s) (by omega), W_i64 (n := i * o) (by omega), W_i64 (n := 4 * p + 4 + 4 * s + i * o) (by omega), W_i64 (by omega)]; rfl
end

end Go.Proofs.Ytpecefjgadecfaa.Chart

/- What the reference's list, parts and shelf answer. -/
namespace Go.Proofs.Ytpecefjgadecfaa.Chart
open Go Go.Proofs.Ytpecefjgadecfaa.AE
set_option maxRecDepth 10000
set_option linter.unusedSimpArgs false

theorem keyP_word (k : Int) (t : Nat) : Word (keyP k t) := word_W _

theorem words_le {P N O : Nat} {mn cp : Int} (hm : may P N O mn cp = true) : nWords P N O ≤ 1000 := by
  obtain ⟨m1, m2, m3, _⟩ := may_iff.1 hm
  have hNO := mul_le hm (x := N) (by omega) (by omega)
  rw [nWords]
  have : ((N * O : Nat) : Int) ≤ 512 := by simpa using hNO.2
  omega

section
variable {n : Nat} {P N O : Nat} {mn cp k : Int} {S : St} {v : Value} {ws : List Int} (hm : may P N O mn cp = true)
include hm

set_option maxHeartbeats 4000000 in
theorem rRList {t : Nat} {obj : Int} (hrow : WRow S v ws) (hw : ∀ x ∈ ws, Word x) (hn : ws.length = nWords P N O) (ht : t < N) (ho : -1 ≤ obj) :
    ∃ r v' S', LWalk ws P N O k t obj r ∧ calls table.find (n + 7) 67 [v, chart P N O mn cp k, .int .i64 t, .int .i64 obj] S = some (.tuple #[v', .int .i64 (errOf r.isSome)], S', true) ∧ Grown S S' ∧ one v' = true ∧ RowOut S S' v' r := by
  obtain ⟨m1, m2, m3, _⟩ := may_iff.1 hm
  have hl := fun (m : Nat) (S : St) => @uLink m P N O mn cp k t 0 S hm (by omega) (by omega) (by omega) (by omega)
  have hkey := fun (m : Nat) (S : St) => s30 m P N O mn cp k t S
  unfold chart at hl hkey
  obtain ⟨bw, off, c, hv, hc, hcl, hel⟩ := id hrow
  obtain ⟨A, hA⟩ : ∃ A : Nat, A = 4 * P + 4 + 4 * N + t * O := ⟨_, rfl⟩
  have hAi : 4 * (P : Int) + 4 + 4 * N + (t : Int) * O + 0 = (A : Int) := by rw [hA]; simp
  have hAO : A + O ≤ ws.length := by
    rw [hn, hA, nWords]
    have : t * O + O ≤ N * O := by rw [← Nat.succ_mul]; exact Nat.mul_le_mul_right O ht
    omega
  have hws : ws.length ≤ 1000 := by rw [hn]; exact words_le hm
  have w1 : W .i64 ((A : Int) + O) = (A : Int) + O := W_i64 (by omega)
  rw [hAi] at hl
  refine call_rd (x := fun y => ∃ r v' S', LWalk ws P N O k t obj r ∧ y = some (.tuple #[v', .int .i64 (errOf r.isSome)], S', true) ∧ Grown S S' ∧ one v' = true ∧ RowOut S S' v' r) b67 (by simp) fun R hR hargs => ?_
  have r0 : rd R 0 = v := hargs 0 (by simp)
  have r1 : rd R 1 = chart P N O mn cp k := hargs 1 (by simp)
  have r2 : rd R 2 = .int .i64 t := hargs 2 (by simp)
  have r3 : rd R 3 = .int .i64 obj := hargs 3 (by simp)
  clear hargs
  unfold chart at r1
  subst hv
  have f1 : ¬ (t : Int) < 0 := by omega
  have f2 : ¬ (N : Int) ≤ t := by omega
  have f2' : ¬ N ≤ t := by omega
  by_cases e0 : obj < O
  · have f0 : ¬ (O : Int) ≤ obj := by omega
    obtain ⟨T, hT⟩ : ∃ T, S.enter.push (AObj.cells 24 [Value.int IntKind.i64 (P : Int), Value.int IntKind.i64 (N : Int), Value.int IntKind.i64 (O : Int), Value.int IntKind.i64 mn, Value.int IntKind.i64 cp, Value.int IntKind.u64 k]) = T := ⟨_, rfl⟩
    have hTk : Kept S T := by rw [← hT]; exact (Kept.enter S).push _
    have hTm : T.at S.top = some (AObj.cells 24 [Value.int IntKind.i64 (P : Int), Value.int IntKind.i64 (N : Int), Value.int IntKind.i64 (O : Int), Value.int IntKind.i64 mn, Value.int IntKind.i64 cp, Value.int IntKind.u64 k]) := by rw [← hT]; exact m_push_top
    have hc' := rowAt_same hTk.at' hc
    have hcut : cutS T.at 22 ⟨bw, off, none⟩ ws.length (A : Int) ((A : Int) + O) = some (.slice (some ⟨bw, off + A, none⟩) O 0) := by
      have := cut_row (l := A) (h := A + O) hc' hcl (by omega) hAO
      rw [Int.natCast_add, Nat.add_sub_cancel_left] at this
      exact this
    have hsub := WRow.sub (A := A) (O := O) hc' hcl hel hAO
    obtain ⟨r, v', S', hwalk, hcall, hgr, hone, hout⟩ := rList (n := n + 3) (key := keyP k t) (first := obj) hsub (fun x hx => hw x (List.mem_of_mem_drop (List.mem_of_mem_take hx))) (keyP_word k t) (by simp; omega) ho (by simp; omega)
    have e3 : S.enter.top = S.top := rfl
    simp (maxDischargeDepth := 30) [hR, r0, r1, r2, r3, f0, f1, f2, f2', hl, hT, e3, hTm, w1, hcut, hkey]
    rw [keyP, show n + 3 + 3 = n + 6 from rfl] at hcall
    rw [hcall]
    have hlw : LWalk ws P N O k t obj r := by
      unfold LWalk linkWords
      rw [if_pos e0, ← hA]
      exact hwalk
    have hk2 := hgr.kept S hTk
    obtain ⟨S2, hle, hg2, hr2⟩ := row_leaveI hk2 hTk.top hout (errOf r.isSome)
    refine ⟨r, hlw, v', S2, ?_, hg2, hone, hr2⟩
    rw [← hle]
    cases r with
    | none =>
      simp only [RowOut] at hout
      subst hout
      simp (maxDischargeDepth := 30) [hR, errOf]
    | some l => simp (maxDischargeDepth := 30) [hR, errOf]
  · have f0 : (O : Int) ≤ obj := by omega
    simp (maxDischargeDepth := 30) [hR, r0, r1, r2, r3, f0, f1, f2, f2']
    exact ⟨none, by unfold LWalk; rw [if_neg e0], _, S, ⟨⟨rfl, rfl⟩, rfl⟩, Grown.refl S, rfl, rfl⟩

set_option maxHeartbeats 4000000 in
theorem rRListNo {t obj : Int} (ht : N ≤ t) :
    calls table.find (n + 7) 67 [v, chart P N O mn cp k, .int .i64 t, .int .i64 obj] S = some (.tuple #[.slice none 0 0, .int .i64 150], S, true) := by
  obtain ⟨m1, m2, m3, _⟩ := may_iff.1 hm
  have f1 : ¬ t < 0 := by omega
  simp (maxDischargeDepth := 30) [q67, chart, ht, f1]

set_option maxHeartbeats 8000000 in
theorem rPartsLoop {R : List Value} {S' : St} {w0 : Int} (hrow : WRow S v ws) (hw : ∀ x ∈ ws, Word x) (hn : ws.length = nWords P N O) (hw0 : Word w0)
    (hR : R.length = 44) (r0 : rd R 0 = v) (r2 : rd R 2 = .int .u64 w0) (r4 : rd R 4 = .pointer (some ⟨S.top, 0, none⟩)) (r8 : rd R 8 = .slice none 0 0)
    (hk : Kept S S') (ht : S.top < S'.top) (hc : S'.at S.top = some (.cells 24 [.int .i64 P, .int .i64 N, .int .i64 O, .int .i64 mn, .int .i64 cp, .int .u64 k])) :
    Leads (evCode (calls table.find (n + 6)) loop68_0 R S') fun o R' S' => R'.length = 44 ∧ Kept S S' ∧ o = .ret ∧ ∃ r vo, CWalk ofPart ws P N [] w0 r ∧ rd R' 6 = vo ∧ one vo = true ∧ rd R' 7 = .int .i64 (errOf r.isSome) ∧
      (match r with | some l => OutRow S' (S.top + 1) 3 1 vo (l.map (Value.int .i64)) l.length | none => vo = .slice none 0 0) := by
  obtain ⟨m1, m2, m3, _⟩ := may_iff.1 hm
  rw [eloop68_0]
  refine loop_goes (fun q R S' => ∃ (seen : List Int) (w : Int) (vo : Value), unmet 32 seen = q ∧ seen.length ≤ 33 - q ∧ Word w ∧ (∀ x ∈ seen, 0 ≤ x ∧ x < N) ∧ (∀ r, CWalk ofPart ws P N seen w r → CWalk ofPart ws P N [] w0 r) ∧
    R.length = 44 ∧ rd R 0 = v ∧ rd R 2 = .int .u64 w ∧ rd R 4 = .pointer (some ⟨S.top, 0, none⟩) ∧ rd R 8 = vo ∧ one vo = true ∧
    Kept S S' ∧ S.top < S'.top ∧ S'.at S.top = some (.cells 24 [.int .i64 P, .int .i64 N, .int .i64 O, .int .i64 mn, .int .i64 cp, .int .u64 k]) ∧
    OutRow S' (S.top + 1) 3 1 vo (seen.map (Value.int .i64)) seen.length) _ (unmet 32 []) (by have := unmet_le 32 []; omega)
    ⟨[], w0, _, rfl, by have := unmet_le 32 []; simp, hw0, by simp, fun r h => h, hR, r0, r2, r4, r8, rfl, hk, ht, hc, .nil⟩ ?_
  clear hR r0 r2 r4 r8 hk ht hc
  rintro q R S' ⟨seen, w, vo, hq, hle, hww, hseen, hwalk, hR, r0, r2, r4, r8, hone, hk, ht, hch, hout⟩
  have hcall := fun (m : Nat) (S : St) => @rPartOf m S w hww
  have hii : IsInts S'.at .i64 vo seen := Ints.isInts (lo := S.top + 1) ⟨hone, hout⟩
  have hhas := fun (m : Nat) (x : Int) => @rHas m S' vo seen x hii (by omega)
  cases hg : partOfP w with
  | none =>
    have hst : startP ofPart N w = none := by unfold startP ofPart; rw [hg]; rfl
    simp (maxDischargeDepth := 30) [hR, r0, r2, hcall, hg, pairOf]
    exact ⟨hk, none, hwalk none (.no hst), rfl, trivial⟩
  | some sm =>
    obtain ⟨s, m⟩ := sm
    have hlow : -1 ≤ s := tellsPart.low w s hww (by unfold ofPart; rw [hg]; rfl)
    by_cases e0 : s < N
    · have f0 : ¬ (N : Int) ≤ s := by omega
      have hst : startP ofPart N w = some s := by unfold startP ofPart; rw [hg]; simp [e0]
      by_cases e1 : s ∈ seen
      · simp (maxDischargeDepth := 30) [hR, r0, r2, r4, r8, hcall, hg, pairOf, hch, f0, hhas, e1]
        have hs0 := hseen s e1
        exact ⟨hk, none, hwalk none (.again hst (by omega) e1), rfl, trivial⟩
      · by_cases e2 : s = -1
        · subst e2
          simp (maxDischargeDepth := 30) [hR, r0, r2, r4, r8, hcall, hg, pairOf, hch, f0, hhas, e1]
          exact ⟨hk, some seen, hwalk _ (.stop hst), hone, rfl, hout⟩
        · have b2 : ¬ s < 0 := by omega
          simp (maxDischargeDepth := 30) [hR, r0, r2, r4, r8, hcall, hg, pairOf, hch, f0, hhas, e1, b2]
          obtain ⟨t, rfl⟩ : ∃ t : Nat, s = t := ⟨s.toNat, by omega⟩
          have htN : t < N := by omega
          have hq1 : unmet 32 (seen ++ [(t : Int)]) < q := by rw [← hq]; exact unmet_lt (by omega) (by omega) e1
          obtain ⟨v', S2, he, hout2, hone2, hkept, hold, htop⟩ := out_app (xs := [.int .i64 t]) (bytes := 8) (cp := 0) hout rfl (by omega) rfl (by omega) (by omega) ht
          rw [he]
          have hk2 : Kept S S2 := hkept S hk (by omega)
          have hch2 : S2.at S.top = some (.cells 24 [.int .i64 P, .int .i64 N, .int .i64 O, .int .i64 mn, .int .i64 cp, .int .u64 k]) := by rw [hold _ (by omega) (by omega)]; exact hch
          have hnx := fun (m : Nat) (S : St) => @uNext m P N O mn cp k t S hm (by omega) (by omega)
          have hnat : 4 * (P : Int) + 4 + 4 * (t : Int) + 2 = ((nextAt P t : Nat) : Int) := by simp [nextAt]
          rw [hnat] at hnx
          unfold chart at hnx
          have hlt : nextAt P t < ws.length := by
            rw [hn, nextAt, nWords]
            have : 0 ≤ N * O := Nat.zero_le _
            omega
          obtain ⟨bw, off, c, hv, hc0, hcl, hel⟩ := hrow.grown hk2.at'
          have hc := rowAt_cells hc0
          obtain ⟨w', hwx⟩ : ∃ w', ws[nextAt P t]? = some w' := ⟨_, List.getElem?_eq_getElem hlt⟩
          have hcw := hel _ w' hwx
          have hcw2 : ∀ h : off + nextAt P t < c.length, c[off + nextAt P t] = .int .u64 w' := fun h => (List.getElem?_eq_some_iff.1 hcw).2
          have hlt2 : off + nextAt P t < c.length := by omega
          have hword : Word w' := hw w' (List.mem_of_getElem? hwx)
          subst hv
          simp (maxDischargeDepth := 30) [hR, r0, r2, r4, r8, hch2, hnx, hlt, hc, hlt2, hcw2]
          have hu := unmet_le 32 seen
          refine ⟨_, hq1, seen ++ [(t : Int)], rfl, by rw [List.length_append]; simp; omega, w', hword, ?_, fun r h => hwalk r (.on hst e1 hwx h), rfl, hone2, hk2, by simpa using hout2⟩
          intro z hz
          rcases List.mem_append.1 hz with hz | hz
          · exact hseen z hz
          · simp only [List.mem_singleton] at hz; omega
    · have f0 : (N : Int) ≤ s := by omega
      have hst : startP ofPart N w = none := by unfold startP ofPart; rw [hg]; simp [e0]
      simp (maxDischargeDepth := 30) [hR, r0, r2, r4, hcall, hg, pairOf, hch, f0]
      exact ⟨hk, none, hwalk none (.no hst), rfl, trivial⟩

set_option maxHeartbeats 4000000 in
theorem rParts {w : Int} (hrow : WRow S v ws) (hw : ∀ x ∈ ws, Word x) (hn : ws.length = nWords P N O) (hww : Word w) :
    ∃ r v' S', CWalk ofPart ws P N [] w r ∧ calls table.find (n + 7) 68 [v, chart P N O mn cp k, .int .u64 w] S = some (.tuple #[v', .int .i64 (errOf r.isSome)], S', true) ∧ Grown S S' ∧ one v' = true ∧ RowOut S S' v' r := by
  refine call_rd (x := fun y => ∃ r v' S', CWalk ofPart ws P N [] w r ∧ y = some (.tuple #[v', .int .i64 (errOf r.isSome)], S', true) ∧ Grown S S' ∧ one v' = true ∧ RowOut S S' v' r) b68 (by simp) fun R hR hargs => ?_
  have r0 : rd R 0 = v := hargs 0 (by simp)
  have r1 : rd R 1 = chart P N O mn cp k := hargs 1 (by simp)
  have r2 : rd R 2 = .int .u64 w := hargs 2 (by simp)
  clear hargs
  unfold chart at r1
  simp (maxDischargeDepth := 30) [hR, r0, r1, r2]
  generalize hR2 : wr (wr _ _ _) 8 _ = R2
  generalize hS2 : St.push S.enter _ = S2
  obtain ⟨o, R3, S3, he, hR3, hk, rfl, r, vo, hwalk, r6, ho, r7, hout⟩ := rPartsLoop hm (n := n) (R := R2) (S' := S2) hrow hw hn hww (by simp [← hR2, hR]) (by simp [← hR2, r0]) (by simp [← hR2, r2]) (by simp [← hR2, hR]; rfl) (by simp [← hR2, hR])
    (by rw [← hS2]; exact (Kept.enter S).push _) (by rw [← hS2, top_push, top_enter]; omega) (by rw [← hS2]; exact m_push_top)
  rw [he]
  simp (maxDischargeDepth := 30) [hR3, r6, r7]
  have hro : RowOut S S3 vo r := by
    cases r with
    | none => exact hout
    | some l => exact hout.low (by omega)
  obtain ⟨S2, hle, hg2, hr2⟩ := row_leaveI hk (Nat.le_refl _) hro (errOf r.isSome)
  exact ⟨r, hwalk, vo, S2, hle, hg2, ho, hr2⟩

set_option maxHeartbeats 8000000 in
theorem rShelfLoop {R : List Value} {S' : St} {w0 : Int} (hrow : WRow S v ws) (hw : ∀ x ∈ ws, Word x) (hn : ws.length = nWords P N O) (hw0 : Word w0)
    (hR : R.length = 42) (r0 : rd R 0 = v) (r3 : rd R 3 = .pointer (some ⟨S.top, 0, none⟩)) (r6 : rd R 6 = .slice none 0 0) (r7 : rd R 7 = .int .u64 w0)
    (hk : Kept S S') (ht : S.top < S'.top) (hc : S'.at S.top = some (.cells 24 [.int .i64 P, .int .i64 N, .int .i64 O, .int .i64 mn, .int .i64 cp, .int .u64 k])) :
    Leads (evCode (calls table.find (n + 6)) loop59_0 R S') fun o R' S' => R'.length = 42 ∧ Kept S S' ∧ ∃ r, CWalk ofShelf ws P N [] w0 r ∧
      ((o = .exit 0 ∧ ∃ l vo, r = some l ∧ rd R' 6 = vo ∧ one vo = true ∧ OutRow S' (S.top + 1) 3 1 vo (l.map (Value.int .i64)) l.length) ∨ (o = .ret ∧ r = none ∧ rd R' 4 = .slice none 0 0 ∧ rd R' 5 = .int .i64 150)) := by
  obtain ⟨m1, m2, m3, _⟩ := may_iff.1 hm
  rw [eloop59_0]
  refine loop_goes (fun q R S' => ∃ (seen : List Int) (w : Int) (vo : Value), unmet 32 seen = q ∧ seen.length ≤ 33 - q ∧ Word w ∧ (∀ x ∈ seen, 0 ≤ x ∧ x < N) ∧ (∀ r, CWalk ofShelf ws P N seen w r → CWalk ofShelf ws P N [] w0 r) ∧
    R.length = 42 ∧ rd R 0 = v ∧ rd R 7 = .int .u64 w ∧ rd R 3 = .pointer (some ⟨S.top, 0, none⟩) ∧ rd R 6 = vo ∧ one vo = true ∧
    Kept S S' ∧ S.top < S'.top ∧ S'.at S.top = some (.cells 24 [.int .i64 P, .int .i64 N, .int .i64 O, .int .i64 mn, .int .i64 cp, .int .u64 k]) ∧
    OutRow S' (S.top + 1) 3 1 vo (seen.map (Value.int .i64)) seen.length) _ (unmet 32 []) (by have := unmet_le 32 []; omega)
    ⟨[], w0, _, rfl, by have := unmet_le 32 []; simp, hw0, by simp, fun r h => h, hR, r0, r7, r3, r6, rfl, hk, ht, hc, .nil⟩ ?_
  clear hR r0 r3 r6 r7 hk ht hc
  rintro q R S' ⟨seen, w, vo, hq, hle, hww, hseen, hwalk, hR, r0, r7, r3, r6, hone, hk, ht, hch, hout⟩
  have hii : IsInts S'.at .i64 vo seen := Ints.isInts (lo := S.top + 1) ⟨hone, hout⟩
  have hhas := fun (m : Nat) (x : Int) => @rHas m S' vo seen x hii (by omega)
  have h0 := hww.1
  have wN : W .u64 (N : Int) = N := W_in (by omega) (by omega)
  by_cases hz : w = 0
  · subst hz
    have hst : startP ofShelf N 0 = some (-1) := by unfold startP ofShelf; simp; omega
    simp (maxDischargeDepth := 30) [hR, r7]
    exact ⟨hk, some seen, hwalk _ (.stop hst), seen, rfl, by rw [r6]; exact hone, by rw [r6]; exact hout⟩
  · have bz : (w != 0) = true := by simp [hz]
    by_cases e0 : w ≤ N
    · have f0 : ¬ (N : Int) < w := by omega
      have w1 : W .i64 w = w := W_i64 (by omega)
      have w2 : W .i64 (w - 1) = w - 1 := W_i64 (by omega)
      have hst : startP ofShelf N w = some (w - 1) := by unfold startP ofShelf; rw [if_pos (by omega)]; simp; omega
      obtain ⟨t, ht1⟩ : ∃ t : Nat, w - 1 = t := ⟨(w - 1).toNat, by omega⟩
      have htN : t < N := by omega
      rw [ht1] at hst w2
      by_cases e1 : (t : Int) ∈ seen
      · simp (maxDischargeDepth := 30) [hR, r0, r3, r6, r7, bz, hch, f0, wN, w1, w2, ht1, hhas, e1]
        exact ⟨hk, hwalk none (.again hst (by omega) e1)⟩
      · simp (maxDischargeDepth := 30) [hR, r0, r3, r6, r7, bz, hch, f0, wN, w1, w2, ht1, hhas, e1]
        have hq1 : unmet 32 (seen ++ [(t : Int)]) < q := by rw [← hq]; exact unmet_lt (by omega) (by omega) e1
        obtain ⟨v', S2, he, hout2, hone2, hkept, hold, htop⟩ := out_app (xs := [.int .i64 t]) (bytes := 8) (cp := 0) hout rfl (by omega) rfl (by omega) (by omega) ht
        rw [he]
        have hk2 : Kept S S2 := hkept S hk (by omega)
        have hch2 : S2.at S.top = some (.cells 24 [.int .i64 P, .int .i64 N, .int .i64 O, .int .i64 mn, .int .i64 cp, .int .u64 k]) := by rw [hold _ (by omega) (by omega)]; exact hch
        have hnx := fun (m : Nat) (S : St) => @uNext m P N O mn cp k t S hm (by omega) (by omega)
        have hnat : 4 * (P : Int) + 4 + 4 * (t : Int) + 2 = ((nextAt P t : Nat) : Int) := by simp [nextAt]
        rw [hnat] at hnx
        unfold chart at hnx
        have hlt : nextAt P t < ws.length := by
          rw [hn, nextAt, nWords]
          have : 0 ≤ N * O := Nat.zero_le _
          omega
        obtain ⟨bw, off, c, hv, hc0, hcl, hel⟩ := hrow.grown hk2.at'
        have hc := rowAt_cells hc0
        obtain ⟨w', hwx⟩ : ∃ w', ws[nextAt P t]? = some w' := ⟨_, List.getElem?_eq_getElem hlt⟩
        have hcw := hel _ w' hwx
        have hcw2 : ∀ h : off + nextAt P t < c.length, c[off + nextAt P t] = .int .u64 w' := fun h => (List.getElem?_eq_some_iff.1 hcw).2
        have hlt2 : off + nextAt P t < c.length := by omega
        have hword : Word w' := hw w' (List.mem_of_getElem? hwx)
        subst hv
        simp (maxDischargeDepth := 30) [hR, r0, r3, r6, r7, hch2, hnx, hlt, hc, hlt2, hcw2, w1, w2, ht1]
        have hu := unmet_le 32 seen
        refine ⟨_, hq1, seen ++ [(t : Int)], rfl, by rw [List.length_append]; simp; omega, w', hword, ?_, fun r h => hwalk r (.on hst e1 hwx h), rfl, hone2, hk2, by simpa using hout2⟩
        intro z hz
        rcases List.mem_append.1 hz with hz | hz
        · exact hseen z hz
        · simp only [List.mem_singleton] at hz; omega
    · have f0 : (N : Int) < w := by omega
      have hst : startP ofShelf N w = none := by
        unfold startP ofShelf
        split
        · rename_i s hs
          split at hs
          · simp only [Option.some.injEq] at hs; rw [if_neg (by omega)]
          · cases hs
        · rfl
      simp (maxDischargeDepth := 30) [hR, r0, r3, r6, r7, bz, hch, f0, wN]
      exact ⟨hk, hwalk none (.no hst)⟩

set_option maxHeartbeats 4000000 in
theorem rShelf (hrow : WRow S v ws) (hw : ∀ x ∈ ws, Word x) (hn : ws.length = nWords P N O) :
    ∃ r v' S', CWalk ofShelf ws P N [] (wd ws (4 * P + 1)) r ∧ calls table.find (n + 7) 59 [v, chart P N O mn cp k] S = some (.tuple #[v', .int .i64 (errOf r.isSome)], S', true) ∧ Grown S S' ∧ one v' = true ∧ RowOut S S' v' r := by
  obtain ⟨m1, m2, m3, _⟩ := may_iff.1 hm
  refine call_rd (x := fun y => ∃ r v' S', CWalk ofShelf ws P N [] (wd ws (4 * P + 1)) r ∧ y = some (.tuple #[v', .int .i64 (errOf r.isSome)], S', true) ∧ Grown S S' ∧ one v' = true ∧ RowOut S S' v' r) b59 (by simp) fun R hR hargs => ?_
  have r0 : rd R 0 = v := hargs 0 (by simp)
  have r1 : rd R 1 = chart P N O mn cp k := hargs 1 (by simp)
  clear hargs
  unfold chart at r1
  have hsh := fun (m : Nat) (S : St) => @uShelf m P N O mn cp k S hm
  obtain ⟨A, hA⟩ : ∃ A : Nat, A = 4 * P + 1 := ⟨_, rfl⟩
  rw [show 4 * (P : Int) + 1 = (A : Int) by omega] at hsh
  rw [← hA]
  unfold chart at hsh
  obtain ⟨bw, off, c, hv, hc0, hcl, hel⟩ := id hrow
  have hc := rowAt_cells hc0
  have hbwS : (S.at bw).isSome = true := by
    cases hb : S.at bw with
    | none => rw [hb] at hc; cases hc
    | some o => rfl
  have lA : A < ws.length := by rw [hn, nWords]; have : 0 ≤ N * O := Nat.zero_le _; omega
  have eA : ws[A]? = some (wd ws A) := by simp [wd, lA]
  have gA : ∀ h : off + A < c.length, c[off + A] = .int .u64 (wd ws A) := fun h => (List.getElem?_eq_some_iff.1 (hel A _ eA)).2
  have kA : off + A < c.length := by omega
  have wA : Word (wd ws A) := hw _ (List.mem_of_getElem? eA)
  rw [hv] at r0
  simp (maxDischargeDepth := 30) [hR, r0, r1, hsh, hc, hbwS, lA, kA, gA]
  generalize hR2 : wr (wr _ _ _) 7 _ = R2
  generalize hS2 : St.push S.enter _ = S2
  obtain ⟨o, R3, S3, he, hR3, hk, r, hwalk, hcase⟩ := rShelfLoop hm (n := n) (R := R2) (S' := S2) (w0 := wd ws A) hrow hw hn wA (by simp [← hR2, hR]) (by rw [hv]; simp [← hR2, r0]) (by simp [← hR2, hR]; rfl) (by simp [← hR2, hR]) (by simp [← hR2, hR])
    (by rw [← hS2]; exact (Kept.enter S).push _) (by rw [← hS2, top_push, top_enter]; omega) (by rw [← hS2]; exact m_push_top)
  rw [he]
  rcases hcase with ⟨rfl, l, vo, rfl, r6, ho, hout⟩ | ⟨rfl, rfl, r4, r5⟩
  · simp (maxDischargeDepth := 30) [hR3, r6]
    have hro : RowOut S S3 vo (some l) := OutRow.low hout (by omega)
    obtain ⟨S2, hle, hg2, hr2⟩ := row_leaveI hk (Nat.le_refl _) hro 0
    exact ⟨some l, hwalk, vo, S2, hle, hg2, ho, hr2⟩
  · simp (maxDischargeDepth := 30) [hR3, r4, r5, hk.quiet]
    exact ⟨none, hwalk, _, S, ⟨⟨rfl, rfl⟩, rfl⟩, Grown.refl S, rfl, rfl⟩
end

end Go.Proofs.Ytpecefjgadecfaa.Chart

/- What the reference's slot and slab answer. -/
namespace Go.Proofs.Ytpecefjgadecfaa.Chart
open Go Go.Proofs.Ytpecefjgadecfaa.AE
set_option maxRecDepth 10000
set_option linter.unusedSimpArgs false

section
variable {n : Nat} {P N O : Nat} {mn cp k : Int} {S : St} {v : Value} {ws : List Int} (hm : may P N O mn cp = true)
include hm

set_option maxHeartbeats 8000000 in
theorem rSlotTail {A A2 : Nat} {R : List Value} {Sk : St} {s turn : Int} {vl : Value} {l : List Int} (hrow : WRow S v ws) (hw : ∀ x ∈ ws, Word x) (hn : ws.length = nWords P N O) (hA2 : A2 = A + 2) (hlen : A + 2 < ws.length)
    (hk : Kept S Sk) (ht : S.top + 2 < Sk.top) (hch : Sk.at S.top = some (.cells 24 [.int .i64 P, .int .i64 N, .int .i64 O, .int .i64 mn, .int .i64 cp, .int .u64 k]))
    (hre : Sk.at (S.top + 1) = some (.cells 58 [.int .i64 0, .slice none 0 0, .int .u64 0, .slice none 0 0]))
    (hsl : Sk.at (S.top + 2) = some (.cells 58 [.int .i64 s, vl, .int .u64 turn, .slice none 0 0])) (hvl : Ints Sk (S.top + 3) vl l)
    (hR : R.length = 71) (r0 : rd R 0 = v) (r4 : rd R 4 = .pointer (some ⟨S.top, 0, none⟩)) (r6 : rd R 6 = .pointer (some ⟨S.top + 1, 0, none⟩)) (r8 : rd R 8 = .int .i64 A) (r12 : rd R 12 = .pointer (some ⟨S.top + 2, 0, none⟩)) (r13 : rd R 13 = .int .i64 0) :
    ∃ rp cs S', CWalk ofPart ws P N [] (wd ws A2) rp ∧ endK S [.cell 6 true 4, .tmp 7] (evCode (calls table.find (n + 7)) n58_24 R Sk) = some (.tuple #[.agg cs.toArray, .int .i64 (errOf rp.isSome)], S', true) ∧ Grown S S' ∧
      SlotOut S' S.top cs (rp.map fun ps => ⟨s, l, turn, ps⟩) := by
  have hws : ws.length ≤ 1000 := by rw [hn]; exact words_le hm
  obtain ⟨bw, off, c, hv, hc0, hcl, hel⟩ := hrow.grown hk.at'
  have hc := rowAt_cells hc0
  have lA2 : A2 < ws.length := by omega
  have kA2 : off + A2 < c.length := by omega
  have w2 : W .i64 ((A : Int) + 2) = (A2 : Int) := by rw [W_i64 (by omega)]; omega
  have gA2 : ws[A2]? = some (wd ws A2) := by simp [wd, lA2]
  have gA : ∀ h : off + A2 < c.length, c[off + A2] = .int .u64 (wd ws A2) := fun h => (List.getElem?_eq_some_iff.1 (hel _ _ gA2)).2
  have wA2 : Word (wd ws A2) := hw _ (List.mem_of_getElem? gA2)
  obtain ⟨rp, v', S2, hwalk, hcall, hgr, hone, hout⟩ := rParts hm (n := n) (S := Sk) (v := v) (ws := ws) (cp := cp) (k := k) (hrow.grown hk.at') hw hn wA2
  unfold chart at hcall
  have hk2 := hgr.kept S hk
  have hsl2 := hgr.same hsl
  have hre2 := hgr.same hre
  have ht2 := Nat.lt_of_lt_of_le ht hgr.top
  subst hv
  have hone1 : one vl = true := hvl.1
  refine ⟨rp, ?_⟩
  cases rp with
  | none =>
    simp only [RowOut] at hout
    subst hout
    refine ⟨[.int .i64 0, .slice none 0 0, .int .u64 0, .slice none 0 0], S, hwalk, ?_, Grown.refl S, rfl⟩
    simp only [errOf, Option.isSome_none, Bool.false_eq_true, if_false] at hcall ⊢
    simp (maxDischargeDepth := 30) [hR, r0, r4, r6, r8, r12, r13, hch, hc, lA2, kA2, gA, w2, hcall, hsl2, hre2, hone1]
    exact leave_quiet (hk2.wrote _ _ (by omega)).wr rfl
  | some ps =>
    simp only [RowOut] at hout
    simp only [errOf, Option.isSome_some, if_true] at hcall ⊢
    simp (maxDischargeDepth := 30) [hR, r0, r4, r6, r8, r12, r13, hch, hc, lA2, kA2, gA, w2, hcall, hsl2, hre2, hone1, hone]
    have hF := (hk2.wrote (b := S.top + 2) (.cells 58 [.int .i64 s, vl, .int .u64 turn, v']) v' (by omega)).wrote (b := S.top + 1) (.cells 58 [.int .i64 s, vl, .int .u64 turn, v']) (.agg ⟨[.int .i64 s, vl, .int .u64 turn, v']⟩) (by omega)
    refine ⟨hwalk, ?_⟩
    generalize hFe : St.wrote (St.wrote _ _ _ _) _ _ _ = F at hF ⊢
    have i1 : Ints F (S.top + 3) vl l := hvl.grown fun b o hb hbo => by rw [← hFe, m_wrote_ne (by omega), m_wrote_ne (by omega)]; exact hgr.same hbo
    have i2 : Ints F Sk.top v' ps := Ints.grown ⟨hone, hout⟩ fun b o hb hbo => by rw [← hFe, m_wrote_ne (by omega), m_wrote_ne (by omega)]; exact hbo
    obtain ⟨S3, hle, hg3, hcase⟩ := leave_any hF (.tuple #[.agg #[.int .i64 s, vl, .int .u64 turn, v'], .int .i64 0])
    refine ⟨[.int .i64 s, vl, .int .u64 turn, v'], S3, hle, hg3, vl, v', rfl, ?_⟩
    rcases hcase with ⟨hr, rfl⟩ | ⟨_, rfl⟩
    · simp at hr
      obtain ⟨rfl, rfl⟩ := i1.refs (by omega) hr.1
      obtain ⟨rfl, rfl⟩ := i2.refs (by omega) hr.2
      exact ⟨.nil, .nil⟩
    · exact ⟨(i1.grown fun b o _ h => by rw [at_left]; exact h).low (by omega), (i2.grown fun b o _ h => by rw [at_left]; exact h).low (by omega)⟩

set_option maxHeartbeats 8000000 in
theorem rSlot {cpu : Nat} (hrow : WRow S v ws) (hw : ∀ x ∈ ws, Word x) (hn : ws.length = nWords P N O) (hcpu : cpu < P) :
    ∃ r cs S', SlotR ws P N O k cpu r ∧ calls table.find (n + 8) 58 [v, chart P N O mn cp k, .int .i64 cpu] S = some (.tuple #[.agg cs.toArray, .int .i64 (errOf r.isSome)], S', true) ∧ Grown S S' ∧ SlotOut S' S.top cs r := by
  obtain ⟨m1, m2, m3, _⟩ := may_iff.1 hm
  refine call_rd (x := fun y => ∃ r cs S', SlotR ws P N O k cpu r ∧ y = some (.tuple #[.agg cs.toArray, .int .i64 (errOf r.isSome)], S', true) ∧ Grown S S' ∧ SlotOut S' S.top cs r) (args := [v, chart P N O mn cp k, .int .i64 cpu]) b58 (by simp) fun R hR hargs => ?_
  have r0 : rd R 0 = v := hargs 0 (by simp)
  have r1 : rd R 1 = chart P N O mn cp k := hargs 1 (by simp)
  have r2 : rd R 2 = .int .i64 cpu := hargs 2 (by simp)
  clear hargs
  unfold chart at r1
  obtain ⟨bw, off, c, hv, hc0, hcl, hel⟩ := id hrow
  have hc := rowAt_cells hc0
  obtain ⟨A, hA⟩ : ∃ A : Nat, A = 4 * cpu := ⟨_, rfl⟩
  obtain ⟨A1, hA1⟩ : ∃ A1 : Nat, A1 = A + 1 := ⟨_, rfl⟩
  obtain ⟨A2, hA2⟩ : ∃ A2 : Nat, A2 = A + 2 := ⟨_, rfl⟩
  have hlen : A + 2 < ws.length := by rw [hn, nWords]; have : 0 ≤ N * O := Nat.zero_le _; omega
  have hh := fun (m : Nat) (S : St) => @uHead m P N O mn cp k cpu S hm (by omega) (by omega)
  rw [show 4 * (cpu : Int) = (A : Int) by omega] at hh
  unfold chart at hh
  have w1 : W .i64 ((A : Int) + 1) = (A1 : Int) := by rw [W_i64 (by omega)]; omega
  have g : ∀ i, i < ws.length → ws[i]? = some (wd ws i) ∧ ∀ h : off + i < c.length, c[off + i] = .int .u64 (wd ws i) := by
    intro i hi
    have e : ws[i]? = some (wd ws i) := by simp [wd, hi]
    exact ⟨e, fun h => (List.getElem?_eq_some_iff.1 (hel i _ e)).2⟩
  have gA := (g A (by omega)).2
  have gA1 := (g A1 (by omega)).2
  have lA : A < ws.length := by omega
  have lA1 : A1 < ws.length := by omega
  have kA : off + A < c.length := by omega
  have kA1 : off + A1 < c.length := by omega
  have wA : Word (wd ws A) := hw _ (List.mem_of_getElem? (g A lA).1)
  have hho := fun (m : Nat) (S : St) => @rHeadOf m S (wd ws A) wA
  have hbwS : (S.at bw).isSome = true := by
    cases hb : S.at bw with
    | none => rw [hb] at hc; cases hc
    | some o => rfl
  subst hv
  unfold SlotR
  rw [← hA, ← hA1, ← hA2]
  have fin : ∀ (Z T : St), Z.top = S.top + 2 → T = (Z.push (.cells 58 [.int .i64 0, .slice none 0 0, .int .u64 0, .slice none 0 0])) → T.at (S.top + 2) = some (.cells 58 [.int .i64 0, .slice none 0 0, .int .u64 0, .slice none 0 0]) := fun Z T h e => by rw [e, ← h, m_push_top]
  cases hho2 : headOfP (wd ws A) with
  | none =>
    refine ⟨none, [.int .i64 0, .slice none 0 0, .int .u64 0, .slice none 0 0], S, rfl, ?_, Grown.refl S, rfl⟩
    simp (maxDischargeDepth := 30) [hR, r0, r1, r2, hh, hc, lA, kA, gA, lA1, kA1, gA1, hho, hho2, pairOf, hbwS, w1, errOf]
  | some so =>
    obtain ⟨s, obj⟩ := so
    have hsr : -1 ≤ s ∧ -1 ≤ obj := by
      have := wA.1
      unfold headOfP at hho2
      split at hho2
      · simp at hho2; omega
      · split at hho2
        · simp at hho2; omega
        · cases hho2
    simp (maxDischargeDepth := 30) [hR, r0, r1, r2, hh, hc, lA, kA, gA, lA1, kA1, gA1, -en58_24, -en58_18, hho, hho2, pairOf, hbwS, w1]
    generalize hT : St.wrote _ _ _ _ = T
    have tp1 : ∀ o : AObj, (S.enter.push o).top = S.top + 1 := fun o => by rw [top_push, top_enter]
    have tp2 : ∀ o o' : AObj, ((S.enter.push o).push o').top = S.top + 2 := fun o o' => by rw [top_push, tp1]
    have hTk : Kept S T := by rw [← hT]; exact ((((Kept.enter S).push _).push _).push _).wrote _ _ (by rw [tp2]; omega)
    have hTr : T.at S.top = some (.cells 24 [Value.int IntKind.i64 (P : Int), Value.int IntKind.i64 (N : Int), Value.int IntKind.i64 (O : Int), Value.int IntKind.i64 mn, Value.int IntKind.i64 cp, Value.int IntKind.u64 k]) := by
      have e : S.top = S.enter.top := rfl
      rw [← hT, m_wrote_ne (by rw [tp2]; omega), e, m_push (by rw [m_push (by simp)]; simp), m_push (by simp), m_push_top]
    have hTt : S.top + 2 < T.top := by rw [← hT, top_wrote, top_push, tp2]; omega
    have hTe : T.at (S.top + 1) = some (.cells 58 [.int .i64 0, .slice none 0 0, .int .u64 0, .slice none 0 0]) := by
      rw [← hT, m_wrote_ne (by rw [tp2]; omega), m_push (by rw [← tp1, m_push_top]; rfl), ← tp1, m_push_top]
    have hTs : T.at (S.top + 2) = some (.cells 58 [.int .i64 s, .slice none 0 0, .int .u64 (wd ws A1), .slice none 0 0]) := by
      rw [← hT, ← tp2, m_wrote (by rw [m_push_top]; rfl)]
    clear hT
    rw [tp2, tp1]
    generalize hR2 : wr _ 13 _ = R2
    have q0 : rd R2 0 = .slice (some ⟨bw, off, none⟩) ws.length 0 := by simp [← hR2, hR, r0]
    have q4 : rd R2 4 = .pointer (some ⟨S.top, 0, none⟩) := by simp [← hR2, hR]; rfl
    have q6 : rd R2 6 = .pointer (some ⟨S.top + 1, 0, none⟩) := by simp [← hR2, hR]
    have q8 : rd R2 8 = .int .i64 A := by simp [← hR2, hR]
    have q9 : rd R2 9 = .int .i64 s := by simp [← hR2, hR]
    have q10 : rd R2 10 = .int .i64 obj := by simp [← hR2, hR]
    have q12 : rd R2 12 = .pointer (some ⟨S.top + 2, 0, none⟩) := by simp [← hR2, hR]
    have q13 : rd R2 13 = .int .i64 0 := by simp [← hR2, hR]
    have lR2 : R2.length = 71 := by simp [← hR2, hR]
    clear hR2
    by_cases e1 : s = -1
    · have b1 : ¬ 0 ≤ s := by omega
      have e0 : s < N := by omega
      simp (maxDischargeDepth := 30) [lR2, q9, b1, -en58_24]
      generalize hR3 : wr _ 39 _ = R3
      obtain ⟨rp, cs, S3, hwalk, hend, hg3, hso⟩ := rSlotTail hm (n := n) (R := R3) (Sk := T) (A := A) (A2 := A2) (l := []) hrow hw hn hA2 hlen hTk hTt hTr hTe hTs .nil (by simp [← hR3, lR2]) (by simp [← hR3, q0]) (by simp [← hR3, q4]) (by simp [← hR3, q6]) (by simp [← hR3, q8]) (by simp [← hR3, q12]) (by simp [← hR3, q13])
      refine ⟨rp.map fun ps => ⟨s, [], wd ws A1, ps⟩, ?_, cs, S3, by rw [hend]; cases rp <;> rfl, hg3, hso⟩
      rw [if_pos e0]
      refine ⟨some [], by rw [if_pos e1], rp, hwalk, ?_⟩
      cases rp <;> rfl
    · have b1 : 0 ≤ s := by omega
      by_cases e0 : s < N
      · obtain ⟨t, rfl⟩ : ∃ t : Nat, s = t := ⟨s.toNat, by omega⟩
        obtain ⟨rl, vl, S2, hlw, hcall, hgr, hone, hout⟩ := rRList hm (n := n) (S := T) (v := .slice (some ⟨bw, off, none⟩) ws.length 0) (t := t) (obj := obj) (cp := cp) (k := k) (hrow.grown hTk.at') hw hn (by omega) hsr.2
        unfold chart at hcall
        have hk2 := hgr.kept S hTk
        have hs2 := hgr.same hTs
        have he2 := hgr.same hTe
        cases rl with
        | none =>
          simp only [RowOut] at hout
          subst hout
          simp only [errOf, Option.isSome_none, Bool.false_eq_true, if_false] at hcall
          refine ⟨none, ?_, [.int .i64 0, .slice none 0 0, .int .u64 0, .slice none 0 0], S, ?_, Grown.refl S, rfl⟩
          · rw [if_pos e0]
            exact ⟨none, by rw [if_neg e1]; exact hlw, rfl⟩
          · simp (maxDischargeDepth := 30) [lR2, q0, q4, q6, q9, q10, q12, b1, hTr, hcall, hs2, he2, errOf]
            exact leave_quiet ((hk2.wrote _ _ (by omega)).wrote _ _ (by omega)).wr rfl
        | some l =>
          simp only [errOf, Option.isSome_some, if_true] at hcall
          simp (maxDischargeDepth := 30) [lR2, q0, q4, q6, q9, q10, q12, b1, hTr, hcall, hs2, he2, hone, -en58_24]
          generalize hT3 : St.wrote S2 _ _ _ = T3
          have hT3k : Kept S T3 := by rw [← hT3]; exact hk2.wrote _ _ (by omega)
          have hT3r : T3.at S.top = some (.cells 24 [.int .i64 P, .int .i64 N, .int .i64 O, .int .i64 mn, .int .i64 cp, .int .u64 k]) := by rw [← hT3, m_wrote_ne (by omega)]; exact hgr.same hTr
          have hT3e : T3.at (S.top + 1) = some (.cells 58 [.int .i64 0, .slice none 0 0, .int .u64 0, .slice none 0 0]) := by rw [← hT3, m_wrote_ne (by omega)]; exact he2
          have hT3s : T3.at (S.top + 2) = some (.cells 58 [.int .i64 (t : Int), vl, .int .u64 (wd ws A1), .slice none 0 0]) := by rw [← hT3, m_wrote (by rw [hs2]; rfl)]
          have hT3t : S.top + 2 < T3.top := by rw [← hT3, top_wrote]; exact Nat.lt_of_lt_of_le hTt hgr.top
          have hT3i : Ints T3 (S.top + 3) vl l := (Ints.grown (S' := S2) (lo := T.top) ⟨hone, hout⟩ fun b o hb hbo => by rw [← hT3, m_wrote_ne (by omega)]; exact hbo).low (by omega)
          generalize hR3 : wr _ 13 _ = R3
          obtain ⟨rp, cs, S3, hwalk, hend, hg3, hso⟩ := rSlotTail hm (n := n) (R := R3) (Sk := T3) (A := A) (A2 := A2) (l := l) hrow hw hn hA2 hlen hT3k hT3t hT3r hT3e hT3s hT3i (by simp [← hR3, lR2]) (by simp [← hR3, q0]) (by simp [← hR3, q4]) (by simp [← hR3, q6]) (by simp [← hR3, q8]) (by simp [← hR3, q12]) (by simp [← hR3, lR2])
          refine ⟨rp.map fun ps => ⟨t, l, wd ws A1, ps⟩, ?_, cs, S3, by rw [hend]; cases rp <;> rfl, hg3, hso⟩
          rw [if_pos (by omega : t < N)]
          refine ⟨some l, hlw, rp, hwalk, ?_⟩
          cases rp <;> rfl
      · have hcall := rRListNo hm (n := n) (S := T) (v := .slice (some ⟨bw, off, none⟩) ws.length 0) (t := s) (obj := obj) (cp := cp) (k := k) (by omega)
        unfold chart at hcall
        refine ⟨none, by rw [if_neg e0], [.int .i64 0, .slice none 0 0, .int .u64 0, .slice none 0 0], S, ?_, Grown.refl S, rfl⟩
        simp (maxDischargeDepth := 30) [lR2, q0, q4, q6, q9, q10, q12, b1, hTr, hcall, hTs, hTe, errOf]
        exact leave_quiet ((hTk.wrote _ _ (by omega)).wrote _ _ (by omega)).wr rfl

set_option maxHeartbeats 8000000 in
theorem rSlab {t : Nat} (hrow : WRow S v ws) (hw : ∀ x ∈ ws, Word x) (hn : ws.length = nWords P N O) (ht : t < N) :
    ∃ r cs S', SlabR ws P N O k t r ∧ calls table.find (n + 8) 60 [v, chart P N O mn cp k, .int .i64 t] S = some (.tuple #[.agg cs.toArray, .int .i64 (errOf r.isSome)], S', true) ∧ Grown S S' ∧ SlabOut S' S.top cs r := by
  obtain ⟨m1, m2, m3, _⟩ := may_iff.1 hm
  refine call_rd (x := fun y => ∃ r cs S', SlabR ws P N O k t r ∧ y = some (.tuple #[.agg cs.toArray, .int .i64 (errOf r.isSome)], S', true) ∧ Grown S S' ∧ SlabOut S' S.top cs r) (args := [v, chart P N O mn cp k, .int .i64 t]) b60 (by simp) fun R hR hargs => ?_
  have r0 : rd R 0 = v := hargs 0 (by simp)
  have r1 : rd R 1 = chart P N O mn cp k := hargs 1 (by simp)
  have r2 : rd R 2 = .int .i64 t := hargs 2 (by simp)
  clear hargs
  unfold chart at r1
  obtain ⟨bw, off, c, hv, hc0, hcl, hel⟩ := id hrow
  have hc := rowAt_cells hc0
  have hbwS : (S.at bw).isSome = true := by
    cases hb : S.at bw with
    | none => rw [hb] at hc; cases hc
    | some o => rfl
  have hws : ws.length ≤ 1000 := by rw [hn]; exact words_le hm
  obtain ⟨A, hA⟩ : ∃ A : Nat, A = 4 * P + 4 + 4 * t := ⟨_, rfl⟩
  obtain ⟨A1, hA1⟩ : ∃ A1 : Nat, A1 = A + 1 := ⟨_, rfl⟩
  have hlen : A + 1 < ws.length := by rw [hn, nWords]; have : 0 ≤ N * O := Nat.zero_le _; omega
  have hh := fun (m : Nat) (S : St) => @uFirst m P N O mn cp k t S hm (by omega) (by omega)
  rw [show 4 * (P : Int) + 4 + 4 * (t : Int) = (A : Int) by omega] at hh
  unfold chart at hh
  have w1 : W .i64 ((A : Int) + 1) = (A1 : Int) := by rw [W_i64 (by omega)]; omega
  have g : ∀ i, i < ws.length → ws[i]? = some (wd ws i) ∧ ∀ h : off + i < c.length, c[off + i] = .int .u64 (wd ws i) := by
    intro i hi
    have e : ws[i]? = some (wd ws i) := by simp [wd, hi]
    exact ⟨e, fun h => (List.getElem?_eq_some_iff.1 (hel i _ e)).2⟩
  have gA := (g A (by omega)).2
  have gA1 := (g A1 (by omega)).2
  have lA : A < ws.length := by omega
  have lA1 : A1 < ws.length := by omega
  have kA : off + A < c.length := by omega
  have kA1 : off + A1 < c.length := by omega
  have wA : Word (wd ws A) := hw _ (List.mem_of_getElem? (g A lA).1)
  have wA1 : Word (wd ws A1) := hw _ (List.mem_of_getElem? (g A1 lA1).1)
  have hco := fun (m : Nat) (S : St) => @rCounts m S (wd ws A1) wA1
  have w2 : W .u64 (O : Int) = O := W_in (by omega) (by omega)
  subst hv
  unfold SlabR
  rw [← hA, ← hA1]
  cases hct : countsP (wd ws A1) with
  | none =>
    refine ⟨none, [.int .i64 0, .int .i64 0, .bool false, .bool false, .slice none 0 0], S, rfl, ?_, Grown.refl S, rfl⟩
    simp (maxDischargeDepth := 30) [hR, r0, r1, r2, hh, hc, lA, kA, gA, lA1, kA1, gA1, w1, hco, hct, countsOf, CountsP.cells, hbwS, errOf]
  | some ct =>
    by_cases e0 : wd ws A ≤ O
    · have f0 : ¬ (O : Int) < wd ws A := by omega
      have a0 := wA.1
      have w3 : W .i64 (wd ws A) = wd ws A := W_i64 (by omega)
      have w4 : W .i64 (wd ws A - 1) = wd ws A - 1 := W_i64 (by omega)
      simp (maxDischargeDepth := 30) [hR, r0, r1, r2, hh, hc, lA, kA, gA, lA1, kA1, gA1, w1, hco, hct, countsOf, CountsP.cells, hbwS, w2, f0, w3, w4]
      generalize hT : St.wrote _ _ _ _ = T
      have tp1 : ∀ o : AObj, (S.enter.push o).top = S.top + 1 := fun o => by rw [top_push, top_enter]
      have tp2 : ∀ o o' : AObj, ((S.enter.push o).push o').top = S.top + 2 := fun o o' => by rw [top_push, tp1]
      have hTk : Kept S T := by rw [← hT]; exact ((((Kept.enter S).push _).push _).push _).wrote _ _ (by rw [tp2]; omega)
      have hTe : T.at (S.top + 1) = some (.cells 62 [.int .i64 0, .int .i64 0, .bool false, .bool false, .slice none 0 0]) := by
        rw [← hT, m_wrote_ne (by rw [tp2]; omega), m_push (by rw [← tp1, m_push_top]; rfl), ← tp1, m_push_top]
      have hTs : T.at (S.top + 2) = some (.cells 60 [.int .i64 ct.inuse, .int .i64 ct.objects, .bool ct.frozen, .bool ct.live]) := by
        rw [← hT, ← tp2, m_wrote (by rw [m_push_top]; rfl)]
      have hTt : S.top + 2 < T.top := by rw [← hT, top_wrote, top_push, tp2]; omega
      clear hT
      rw [tp2, tp1]
      obtain ⟨rl, vl, S2, hlw, hcall, hgr, hone, hout⟩ := rRList hm (n := n) (S := T) (v := .slice (some ⟨bw, off, none⟩) ws.length 0) (t := t) (obj := wd ws A - 1) (cp := cp) (k := k) (hrow.grown hTk.at') hw hn (by omega) (by omega)
      unfold chart at hcall
      rw [hcall]
      have hk2 := hgr.kept S hTk
      have hs2 := hgr.same hTs
      have he2 := hgr.same hTe
      refine ⟨rl.map fun l => ⟨ct, l⟩, ?_⟩
      rw [if_pos e0]
      cases rl with
      | none =>
        simp only [RowOut] at hout
        subst hout
        refine ⟨⟨none, hlw, rfl⟩, [.int .i64 0, .int .i64 0, .bool false, .bool false, .slice none 0 0], S, ?_, Grown.refl S, rfl⟩
        simp (maxDischargeDepth := 30) [hR, hs2, he2, errOf]
        exact leave_quiet (hk2.wrote _ _ (by omega)).wr rfl
      | some l =>
        refine ⟨⟨some l, hlw, rfl⟩, ?_⟩
        simp (maxDischargeDepth := 30) [hR, hs2, he2, hone, errOf]
        have hF := hk2.wrote (b := S.top + 1) (.cells 62 [.int .i64 ct.inuse, .int .i64 ct.objects, .bool ct.frozen, .bool ct.live, vl]) (.agg ⟨[.int .i64 ct.inuse, .int .i64 ct.objects, .bool ct.frozen, .bool ct.live, vl]⟩) (by omega)
        generalize hFe : St.wrote _ _ _ _ = F at hF ⊢
        have i1 : Ints F T.top vl l := Ints.grown ⟨hone, hout⟩ fun b o hb hbo => by rw [← hFe, m_wrote_ne (by omega)]; exact hbo
        obtain ⟨S3, hle, hg3, hcase⟩ := leave_any hF (.tuple #[.agg #[.int .i64 ct.inuse, .int .i64 ct.objects, .bool ct.frozen, .bool ct.live, vl], .int .i64 0])
        refine ⟨[.int .i64 ct.inuse, .int .i64 ct.objects, .bool ct.frozen, .bool ct.live, vl], S3, hle, hg3, vl, rfl, ?_⟩
        rcases hcase with ⟨hr, rfl⟩ | ⟨_, rfl⟩
        · simp at hr
          obtain ⟨rfl, rfl⟩ := i1.refs (by omega) hr
          exact .nil
        · exact (i1.grown fun b o _ h => by rw [at_left]; exact h).low (by omega)
    · have f0 : (O : Int) < wd ws A := by omega
      refine ⟨none, [.int .i64 0, .int .i64 0, .bool false, .bool false, .slice none 0 0], S, by simp [e0], ?_, Grown.refl S, rfl⟩
      simp (maxDischargeDepth := 30) [hR, r0, r1, r2, hh, hc, lA, kA, gA, lA1, kA1, gA1, w1, hco, hct, countsOf, CountsP.cells, hbwS, w2, f0, errOf]
end

end Go.Proofs.Ytpecefjgadecfaa.Chart

/- What the reference's See answers. -/
namespace Go.Proofs.Ytpecefjgadecfaa.Chart
open Go Go.Proofs.Ytpecefjgadecfaa.AE
set_option maxRecDepth 10000
set_option linter.unusedSimpArgs false
set_option linter.unusedVariables false

section
variable {n : Nat} {P N O : Nat} {mn cp k : Int} {S : St} {v : Value} {ws : List Int} (hm : may P N O mn cp = true)
include hm

/-- What stands while the reference's See runs. -/
structure RefSt (S : St) (v : Value) (P N O : Nat) (mn cp k : Int) (lk : Bool) (R : List Value) (S' : St) (vs vh vt : Value) : Prop where
  len : R.length = 92
  r0 : rd R 0 = v
  r3 : rd R 3 = .pointer (some ⟨S.top, 0, none⟩)
  r4 : rd R 4 = .pointer (some ⟨S.top + 1, 0, none⟩)
  r6 : rd R 6 = .pointer (some ⟨S.top + 2, 0, none⟩)
  kept : Kept S S'
  top : S.top + 2 < S'.top
  chart : S'.at S.top = some (.cells 24 [.int .i64 P, .int .i64 N, .int .i64 O, .int .i64 mn, .int .i64 cp, .int .u64 k])
  res : S'.at (S.top + 1) = some (.cells 40 [.slice none 0 0, .slice none 0 0, .bool false, .slice none 0 0])
  core : S'.at (S.top + 2) = some (.cells 40 [vs, vh, .bool lk, vt])

set_option maxHeartbeats 8000000 in
theorem rSlotsLoop {R : List Value} {S' : St} {lk : Bool} (hrow : WRow S v ws) (hw : ∀ x ∈ ws, Word x) (hn : ws.length = nWords P N O)
    (h0 : RefSt S v P N O mn cp k lk R S' (.slice none 0 0) (.slice none 0 0) (.slice none 0 0)) (r7 : rd R 7 = .int .i64 0) :
    Leads (evCode (calls table.find (n + 8)) loop34_0 R S') fun o R' S' =>
      (o = .exit 0 ∧ ∃ xs vs, xs.length = P ∧ (∀ i, i < P → SlotR ws P N O k i xs[i]?) ∧ RefSt S v P N O mn cp k lk R' S' vs (.slice none 0 0) (.slice none 0 0) ∧ SlotsOut S' (S.top + 3) vs xs) ∨
      (o = .ret ∧ (∃ i, i < P ∧ SlotR ws P N O k i none) ∧ R'.length = 92 ∧ Kept S S' ∧ rd R' 4 = .pointer (some ⟨S.top + 1, 0, none⟩) ∧ rd R' 5 = .int .i64 150 ∧
        S'.at (S.top + 1) = some (.cells 40 [.slice none 0 0, .slice none 0 0, .bool false, .slice none 0 0])) := by
  obtain ⟨m1, m2, m3, _⟩ := may_iff.1 hm
  rw [eloop34_0]
  refine loop_goes (fun q R S' => ∃ (i : Nat) (xs : List SlotP) (vs : Value), i + q = P ∧ xs.length = i ∧ (∀ j, j < i → SlotR ws P N O k j xs[j]?) ∧ rd R 7 = .int .i64 i ∧
    RefSt S v P N O mn cp k lk R S' vs (.slice none 0 0) (.slice none 0 0) ∧ SlotsOut S' (S.top + 3) vs xs) _ P (by omega)
    ⟨0, [], _, by omega, rfl, fun j hj => absurd hj (Nat.not_lt_zero j), r7, h0, rfl, [], trivial, .nil⟩ ?_
  clear h0 r7
  rintro q R S' ⟨i, xs, vs, hq, hxs, hsl, r7, ⟨hR, r0, r3, r4, r6, hk, ht, hch, hre, hco⟩, hone, css, hcss, hout⟩
  obtain ⟨bw, off, c, hv, _⟩ := id hrow
  have honev : one v = true := by rw [hv]; rfl
  cases q with
  | zero =>
    have e1 : ¬ i < P := by omega
    obtain rfl : i = P := by omega
    simp (maxDischargeDepth := 30) [hR, r3, r7, hch, e1]
    refine ⟨xs, hxs, hsl, vs, ⟨by simp [hR], by simp [r0], by simp [r3], by simp [r4], by simp [r6], hk, ht, hch, hre, hco⟩, hone, css, hcss, by rw [hxs]; rw [hxs] at hout; exact hout⟩
  | succ q =>
    have e1 : i < P := by omega
    obtain ⟨r, cs, S2, hsr, hcall, hgr, hso⟩ := rSlot hm (n := n) (S := S') (v := v) (cpu := i) (cp := cp) (k := k) (hrow.grown hk.at') hw hn e1
    unfold chart at hcall
    have w1 : W .i64 ((i : Int) + 1) = (i : Int) + 1 := W_i64 (by omega)
    have hk2 := hgr.kept S hk
    have hre2 := hgr.same hre
    have hco2 := hgr.same hco
    have ht2 := Nat.lt_of_lt_of_le ht hgr.top
    cases r with
    | none =>
      simp only [SlotOut] at hso
      subst hso
      simp only [errOf, Option.isSome_none, Bool.false_eq_true, if_false] at hcall
      simp (maxDischargeDepth := 30) [hR, r0, r3, r4, r6, r7, e1, hch, hcall, hre2, hco2]
      exact ⟨⟨i, e1, hsr⟩, ((hk2.push _).wrote _ _ (by have := hgr.top; have := hk.top; omega)).wrote _ _ (by omega)⟩
    | some x =>
      obtain ⟨vl, vp, rfl, il, ip⟩ := hso
      simp only [errOf, Option.isSome_some, if_true] at hcall
      have ol : one vl = true := il.1
      have op : one vp = true := ip.1
      simp (maxDischargeDepth := 30) [hR, r0, r3, r4, r6, r7, e1, hch, hcall, hre2, hco2, ol, op, hone]
      generalize hT : St.wrote (St.push S2 _) _ _ _ = T
      have hge : S.top + 2 < S2.top := ht2
      have hTk : Kept S T := by rw [← hT]; exact (hk2.push _).wrote _ _ (by omega)
      have hT2 : ∀ b o, S2.at b = some o → T.at b = some o := fun b o hb => by
        have := lt_top hb
        rw [← hT, m_wrote_ne (by omega), m_push (by rw [hb]; rfl)]; exact hb
      have hTt : S2.top < T.top := by rw [← hT, top_wrote, top_push]; omega
      have hTo : OutRow T (S.top + 3) 58 4 vs css.flatten xs.length := OutRow.same hout fun b o _ h => hT2 _ _ (hgr.same h)
      have hcs : AllIs (SlotIs T (S.top + 3) vs) css xs := hcss.imp fun c x ⟨vl, vp, h1, h2, h3⟩ =>
        ⟨vl, vp, h1, h2.move (fun b o _ _ h => hT2 _ _ (hgr.same h)) (fun _ _ _ h _ => h), h3.move (fun b o _ _ h => hT2 _ _ (hgr.same h)) (fun _ _ _ h _ => h)⟩
      have hfr : ∀ {u : Value} {l : List Int}, Ints S2 S'.top u l → Deep T (S.top + 3) vs u l := fun hu => Deep.fresh (hu.grown fun b o _ h => hT2 _ _ h) (by omega) fun b hb => OutRow.avoids hout (.inr hb)
      obtain ⟨v', T2, he, hout2, hone2, hkept2, hold2, htop2, hnew2⟩ := out_app2 (xs := [.int .i64 x.slab, vl, .int .u64 x.turn, vp]) (bytes := 64) (cp := 0) hTo rfl (by omega) (by simp [ol, op]) (by omega) (by omega) (by omega)
      rw [he]
      have keep : ∀ b o, Avoids vs b → T.at b = some o → T2.at b = some o := fun b o ha hb => by rw [hold2 b (lt_top hb) ha]; exact hb
      have low : ∀ b, b < S.top + 3 → Avoids vs b := fun b hb => OutRow.avoids hout (.inl hb)
      have hco3 := keep _ _ (low (S.top + 2) (by omega)) (hT2 _ _ hco2)
      simp (maxDischargeDepth := 30) [hR, r6, r7, hco3, hone2, w1]
      have hav : ∀ b o, T.at b = some o → Avoids v' b := fun b o hb => hnew2 b (lt_top hb)
      refine ⟨q, by omega, i + 1, by omega, xs ++ [x], by simp [hxs], fun j hj => ?_, by simp, v', ?_, ?_⟩
      · by_cases hji : j < i
        · rw [List.getElem?_append_left (by omega)]; exact hsl j hji
        · obtain rfl : j = i := by omega
          have e5 : (xs ++ [x])[j]? = some x := by simp [hxs]
          rw [e5]; exact hsr
      · have hF : ∀ b o, b ≠ S.top + 2 → T2.at b = some o → (T2.wrote (S.top + 2) (AObj.cells 40 [v', Value.slice none 0 0, Value.bool lk, Value.slice none 0 0]) v').at b = some o := fun b o hb h => by rw [m_wrote_ne (by omega)]; exact h
        refine ⟨by simp [hR], by simp [r0], by simp [r3], by simp [r4], by simp [r6], (hkept2 S hTk (by omega)).wrote _ _ (by omega), by rw [top_wrote]; omega,
          hF _ _ (by omega) (keep _ _ (low _ (by omega)) (hT2 _ _ (hgr.same hch))), hF _ _ (by omega) (keep _ _ (low _ (by omega)) (hT2 _ _ hre2)), by rw [m_wrote (by rw [hco3]; rfl)]⟩
      · have hF : ∀ b o, S.top + 3 ≤ b → T2.at b = some o → (T2.wrote (S.top + 2) (AObj.cells 40 [v', Value.slice none 0 0, Value.bool lk, Value.slice none 0 0]) v').at b = some o := fun b o hb h => by rw [m_wrote_ne (by omega)]; exact h
        have mv : ∀ {u : Value} {l : List Int}, Deep T (S.top + 3) vs u l → Deep (T2.wrote (S.top + 2) (AObj.cells 40 [v', Value.slice none 0 0, Value.bool lk, Value.slice none 0 0]) v') (S.top + 3) v' u l :=
          fun hu => hu.move (fun b o hb ha h => hF _ _ hb (keep _ _ ha h)) (fun b o _ _ h => hav b o h)
        refine ⟨hone2, css ++ [[.int .i64 x.slab, vl, .int .u64 x.turn, vp]], (hcs.imp fun c x ⟨vl, vp, h1, h2, h3⟩ => ⟨vl, vp, h1, mv h2, mv h3⟩).snoc ⟨vl, vp, rfl, mv (hfr il), mv (hfr ip)⟩, ?_⟩
        have := hout2.same (fun b o hb h => hF b o hb h)
        simpa using this

set_option maxHeartbeats 8000000 in
theorem rSlabsLoop {R : List Value} {S0 : St} {lk : Bool} {vs vh : Value} (hrow : WRow S v ws) (hw : ∀ x ∈ ws, Word x) (hn : ws.length = nWords P N O) (ovs : one vs = true) (ovh : one vh = true)
    (h0 : RefSt S v P N O mn cp k lk R S0 vs vh (.slice none 0 0)) (r12 : rd R 12 = .int .i64 0) :
    Leads (evCode (calls table.find (n + 8)) loop34_1 R S0) fun o R' S' =>
      (o = .exit 2 ∧ ∃ xs vt, xs.length = N ∧ (∀ i, i < N → SlabR ws P N O k i xs[i]?) ∧ RefSt S v P N O mn cp k lk R' S' vs vh vt ∧ SlabsOut S' S0.top vt xs ∧ ∀ b o, S.top + 3 ≤ b → S0.at b = some o → S'.at b = some o) ∨
      (o = .ret ∧ (∃ i, i < N ∧ SlabR ws P N O k i none) ∧ R'.length = 92 ∧ Kept S S' ∧ rd R' 4 = .pointer (some ⟨S.top + 1, 0, none⟩) ∧ rd R' 5 = .int .i64 150 ∧
        S'.at (S.top + 1) = some (.cells 40 [.slice none 0 0, .slice none 0 0, .bool false, .slice none 0 0])) := by
  obtain ⟨m1, m2, m3, _⟩ := may_iff.1 hm
  rw [eloop34_1]
  refine loop_goes (fun q R S' => ∃ (i : Nat) (xs : List SlabP) (vt : Value), i + q = N ∧ xs.length = i ∧ (∀ j, j < i → SlabR ws P N O k j xs[j]?) ∧ rd R 12 = .int .i64 i ∧ S0.top ≤ S'.top ∧
    RefSt S v P N O mn cp k lk R S' vs vh vt ∧ SlabsOut S' S0.top vt xs ∧ ∀ b o, S.top + 3 ≤ b → S0.at b = some o → S'.at b = some o) _ N (by omega)
    ⟨0, [], _, by omega, rfl, fun j hj => absurd hj (Nat.not_lt_zero j), r12, Nat.le_refl _, h0, ⟨rfl, [], trivial, .nil⟩, fun _ _ _ h => h⟩ ?_
  have ht0 := h0.top
  clear h0 r12
  rintro q R S' ⟨i, xs, vt, hq, hxs, hsl, r12, ht1, ⟨hR, r0, r3, r4, r6, hk, ht, hch, hre, hco⟩, ⟨hone, css, hcss, hout⟩, hkeep⟩
  obtain ⟨bw, off, c, hv, _⟩ := id hrow
  have honev : one v = true := by rw [hv]; rfl
  cases q with
  | zero =>
    have e1 : ¬ i < N := by omega
    obtain rfl : i = N := by omega
    simp (maxDischargeDepth := 30) [hR, r3, r12, hch, e1]
    refine ⟨xs, hxs, hsl, vt, ⟨by simp [hR], by simp [r0], by simp [r3], by simp [r4], by simp [r6], hk, ht, hch, hre, hco⟩, ⟨hone, css, hcss, by rw [hxs]; rw [hxs] at hout; exact hout⟩, hkeep⟩
  | succ q =>
    have e1 : i < N := by omega
    obtain ⟨r, cs, S2, hsr, hcall, hgr, hso⟩ := rSlab hm (n := n) (S := S') (v := v) (t := i) (cp := cp) (k := k) (hrow.grown hk.at') hw hn e1
    unfold chart at hcall
    have w1 : W .i64 ((i : Int) + 1) = (i : Int) + 1 := W_i64 (by omega)
    have hk2 := hgr.kept S hk
    have hre2 := hgr.same hre
    have hco2 := hgr.same hco
    have ht2 := Nat.lt_of_lt_of_le ht hgr.top
    cases r with
    | none =>
      simp only [SlabOut] at hso
      subst hso
      simp only [errOf, Option.isSome_none, Bool.false_eq_true, if_false] at hcall
      simp (maxDischargeDepth := 30) [hR, r0, r3, r4, r6, r12, e1, hch, hcall, hre2, hco2]
      exact ⟨⟨i, e1, hsr⟩, ((hk2.push _).wrote _ _ (by have := hgr.top; have := hk.top; omega)).wrote _ _ (by omega)⟩
    | some x =>
      obtain ⟨vl, rfl, il⟩ := hso
      simp only [errOf, Option.isSome_some, if_true] at hcall
      have ol : one vl = true := il.1
      simp (maxDischargeDepth := 30) [hR, r0, r3, r4, r6, r12, e1, hch, hcall, hre2, hco2, ol, hone, ovs, ovh]
      generalize hT : St.wrote (St.push S2 _) _ _ _ = T
      have hge : S.top + 2 < S2.top := ht2
      have hTk : Kept S T := by rw [← hT]; exact (hk2.push _).wrote _ _ (by omega)
      have hT2 : ∀ b o, S2.at b = some o → T.at b = some o := fun b o hb => by
        have := lt_top hb
        rw [← hT, m_wrote_ne (by omega), m_push (by rw [hb]; rfl)]; exact hb
      have hTt : S2.top < T.top := by rw [← hT, top_wrote, top_push]; omega
      have hT0 : S0.top ≤ T.top := by have := hgr.top; omega
      have hTo : OutRow T S0.top 62 5 vt css.flatten xs.length := OutRow.same hout fun b o _ h => hT2 _ _ (hgr.same h)
      have hcs : AllIs (SlabIs T S0.top vt) css xs := hcss.imp fun c x ⟨vl, h1, h2⟩ => ⟨vl, h1, h2.move (fun b o _ _ h => hT2 _ _ (hgr.same h)) (fun _ _ _ h _ => h)⟩
      have hfr : ∀ {u : Value} {l : List Int}, Ints S2 S'.top u l → Deep T S0.top vt u l := fun hu => Deep.fresh (hu.grown fun b o _ h => hT2 _ _ h) (by omega) fun b hb => OutRow.avoids hout (.inr hb)
      obtain ⟨v', T2, he, hout2, hone2, hkept2, hold2, htop2, hnew2⟩ := out_app2 (xs := [.int .i64 x.counts.inuse, .int .i64 x.counts.objects, .bool x.counts.frozen, .bool x.counts.live, vl]) (bytes := 48) (cp := 0) hTo rfl (by omega) (by simp [ol]) (by omega) (by omega) hT0
      rw [he]
      have keep : ∀ b o, Avoids vt b → T.at b = some o → T2.at b = some o := fun b o ha hb => by rw [hold2 b (lt_top hb) ha]; exact hb
      have low : ∀ b, b < S0.top → Avoids vt b := fun b hb => OutRow.avoids hout (.inl hb)
      have hco3 := keep _ _ (low (S.top + 2) (by omega)) (hT2 _ _ hco2)
      simp (maxDischargeDepth := 30) [hR, r6, r12, hco3, hone2, w1]
      have hav : ∀ b o, T.at b = some o → Avoids v' b := fun b o hb => hnew2 b (lt_top hb)
      have hF : ∀ b o, b ≠ S.top + 2 → T2.at b = some o → (T2.wrote (S.top + 2) (AObj.cells 40 [vs, vh, Value.bool lk, v']) v').at b = some o := fun b o hb h => by rw [m_wrote_ne (by omega)]; exact h
      refine ⟨q, by omega, i + 1, by omega, xs ++ [x], by simp [hxs], fun j hj => ?_, by simp, by rw [top_wrote]; omega, v', ?_, ?_, fun b o hb h => ?_⟩
      · by_cases hji : j < i
        · rw [List.getElem?_append_left (by omega)]; exact hsl j hji
        · obtain rfl : j = i := by omega
          have e5 : (xs ++ [x])[j]? = some x := by simp [hxs]
          rw [e5]; exact hsr
      · refine ⟨by simp [hR], by simp [r0], by simp [r3], by simp [r4], by simp [r6], (hkept2 S hTk (by omega)).wrote _ _ (by omega), by rw [top_wrote]; omega,
          hF _ _ (by omega) (keep _ _ (low _ (by omega)) (hT2 _ _ (hgr.same hch))), hF _ _ (by omega) (keep _ _ (low _ (by omega)) (hT2 _ _ hre2)), by rw [m_wrote (by rw [hco3]; rfl)]⟩
      · have mv : ∀ {u : Value} {l : List Int}, Deep T S0.top vt u l → Deep (T2.wrote (S.top + 2) (AObj.cells 40 [vs, vh, Value.bool lk, v']) v') S0.top v' u l :=
          fun hu => hu.move (fun b o hb ha h => hF _ _ (by omega) (keep _ _ ha h)) (fun b o _ _ h => hav b o h)
        refine ⟨hone2, css ++ [[.int .i64 x.counts.inuse, .int .i64 x.counts.objects, .bool x.counts.frozen, .bool x.counts.live, vl]], (hcs.imp fun c x ⟨vl, h1, h2⟩ => ⟨vl, h1, mv h2⟩).snoc ⟨vl, rfl, mv (hfr il)⟩, ?_⟩
        have := hout2.same (fun b o hb h => hF b o (by omega) h)
        simpa using this
      · have hb0 := lt_top h
        exact hF b o (by omega) (keep b o (low b hb0) (hT2 _ _ (hgr.same (hkeep b o hb h))))

set_option maxHeartbeats 8000000 in
theorem rSee (hrow : WRow S v ws) (hw : ∀ x ∈ ws, Word x) (hn : ws.length = nWords P N O) :
    ∃ r cs S', SeeR ws P N O k r ∧ calls table.find (n + 9) 34 [v, chart P N O mn cp k] S = some (.tuple #[.agg cs.toArray, .int .i64 (errOf r.isSome)], S', true) ∧ Grown S S' ∧ CoreOut S' S.top cs r := by
  obtain ⟨m1, m2, m3, _⟩ := may_iff.1 hm
  refine call_rd (x := fun y => ∃ r cs S', SeeR ws P N O k r ∧ y = some (.tuple #[.agg cs.toArray, .int .i64 (errOf r.isSome)], S', true) ∧ Grown S S' ∧ CoreOut S' S.top cs r) (args := [v, chart P N O mn cp k]) b34 (by simp) fun R hR hargs => ?_
  have r0 : rd R 0 = v := hargs 0 (by simp)
  have r1 : rd R 1 = chart P N O mn cp k := hargs 1 (by simp)
  clear hargs
  have hNO := mul_le hm (x := N) (by omega) (by omega)
  have hws : ws.length ≤ 1000 := by rw [hn]; exact words_le hm
  have hck := fun (m : Nat) (S : St) => @uCheck m P N O mn cp k S hm
  have hwo := fun (m : Nat) (S : St) => @uWords m P N O mn cp k S hm
  have hlo := fun (m : Nat) (S : St) => @uLock m P N O mn cp k S hm
  have hwn : 4 * (P : Int) + 4 + 4 * N + (N : Int) * O = (ws.length : Int) := by rw [hn, nWords]; simp
  rw [hwn] at hwo
  obtain ⟨A, hA⟩ : ∃ A : Nat, A = 4 * P := ⟨_, rfl⟩
  rw [show 4 * (P : Int) = (A : Int) by omega] at hlo
  unfold chart at hck hwo hlo r1
  obtain ⟨bw, off, c, hv, hc0, hcl, hel⟩ := id hrow
  have hc := rowAt_cells hc0
  have hbwS : (S.at bw).isSome = true := by
    cases hb : S.at bw with
    | none => rw [hb] at hc; cases hc
    | some o => rfl
  have lA : A < ws.length := by rw [hn, nWords]; omega
  have g : ∀ i, i < ws.length → ws[i]? = some (wd ws i) ∧ ∀ h : off + i < c.length, c[off + i] = .int .u64 (wd ws i) := by
    intro i hi
    have e : ws[i]? = some (wd ws i) := by simp [wd, hi]
    exact ⟨e, fun h => (List.getElem?_eq_some_iff.1 (hel i _ e)).2⟩
  have gA := (g A lA).2
  have kA : off + A < c.length := by omega
  subst hv
  have b0 : ((ws.length : Int) != ws.length) = false := by simp
  simp (maxDischargeDepth := 30) [hR, r0, r1, hck, hwo, hlo, hc, hbwS, lA, kA, gA, b0]
  generalize hU1 : St.push S.enter _ = U1
  generalize hU2 : St.push U1 _ = U2
  generalize hU5 : St.push U2 _ = U5
  generalize hT : St.wrote U5 _ _ _ = T
  have t1 : U1.top = S.top + 1 := by rw [← hU1, top_push, top_enter]
  have t2 : U2.top = S.top + 2 := by rw [← hU2, top_push, t1]
  have t5 : U5.top = S.top + 3 := by rw [← hU5, top_push, t2]
  have tT : T.top = S.top + 3 := by rw [← hT, top_wrote, t5]
  have a1 : U1.at S.top = some (.cells 24 [.int .i64 P, .int .i64 N, .int .i64 O, .int .i64 mn, .int .i64 cp, .int .u64 k]) := by rw [← hU1]; exact m_push_top
  have a2 : U2.at S.top = some (.cells 24 [.int .i64 P, .int .i64 N, .int .i64 O, .int .i64 mn, .int .i64 cp, .int .u64 k]) := by rw [← hU2, m_push (by rw [a1]; rfl)]; exact a1
  have b2 : U2.at (S.top + 1) = some (.cells 40 [.slice none 0 0, .slice none 0 0, .bool false, .slice none 0 0]) := by rw [← hU2, ← t1]; exact m_push_top
  have step5 : ∀ b o, U2.at b = some o → b ≠ U2.top → T.at b = some o := fun b o h hb => by rw [← hT, m_wrote_ne (by omega), ← hU5, m_push (by rw [h]; rfl)]; exact h
  have dT : T.at (S.top + 2) = some (.cells 40 [.slice none 0 0, .slice none 0 0, .bool (wd ws A != 0), .slice none 0 0]) := by rw [← hT, ← t2, m_wrote (by rw [← hU5, m_push_top]; rfl)]
  have kT : Kept S T := by
    rw [← hT, ← hU5, ← hU2, ← hU1]
    exact ((((Kept.enter S).push _).push _).push _).wrote _ _ (by rw [top_push, top_push, top_enter]; omega)
  generalize hR2 : wr (wr _ _ _) 7 _ = R2
  have hst : RefSt S (.slice (some ⟨bw, off, none⟩) ws.length 0) P N O mn cp k (wd ws A != 0) R2 T (.slice none 0 0) (.slice none 0 0) (.slice none 0 0) :=
    ⟨by simp [← hR2, hR], by simp [← hR2, r0], by simp [← hR2, hR]; rfl, by simp [← hR2, hR, t1], by simp [← hR2, hR, t2], kT, by omega, step5 _ _ a2 (by omega), step5 _ _ b2 (by omega), dT⟩
  obtain ⟨o, R3, S3, he, hr⟩ := rSlotsLoop hm (n := n) hrow hw hn hst (by simp [← hR2, hR])
  rw [he]
  rcases hr with ⟨rfl, xs, vs, hxs, hsl, ⟨g0, g1, g3, g4, g6, gk, gt, gch, gre, gco⟩, gout⟩ | ⟨rfl, hno, hR3, hk3, r34, r35, hat⟩
  · obtain ⟨rh, vh, S4, hch, hcall, hgr, hone, hout⟩ := rShelf hm (n := n + 1) (S := S3) (v := .slice (some ⟨bw, off, none⟩) ws.length 0) (ws := ws) (cp := cp) (k := k) (hrow.grown gk.at') hw hn
    rw [show n + 1 + 7 = n + 8 from rfl] at hcall
    unfold chart at hcall
    have gk4 := hgr.kept S gk
    have gre4 := hgr.same gre
    have gco4 := hgr.same gco
    have gt4 := Nat.lt_of_lt_of_le gt hgr.top
    have ovs : one vs = true := gout.1
    cases rh with
    | none =>
      simp only [RowOut] at hout
      subst hout
      simp only [errOf, Option.isSome_none, Bool.false_eq_true, if_false] at hcall
      refine ⟨none, .inr ⟨rfl, .inr (.inl hch)⟩, [.slice none 0 0, .slice none 0 0, .bool false, .slice none 0 0], S, ?_, Grown.refl S, rfl⟩
      simp (maxDischargeDepth := 30) [g0, g1, g3, g4, g6, gch, hcall, gre4, errOf]
      exact leave_quiet (gk4.wrote _ _ (by omega)).wr rfl
    | some sh =>
      simp only [RowOut] at hout
      simp only [errOf, Option.isSome_some, if_true] at hcall
      simp (maxDischargeDepth := 30) [g0, g1, g3, g4, g6, gch, hcall, gre4, gco4, hone]
      generalize hS5 : St.wrote S4 _ _ _ = S5
      generalize hR5 : wr _ 12 _ = R5
      have keep5 : ∀ b o, b ≠ S.top + 2 → S4.at b = some o → S5.at b = some o := fun b o hb h => by rw [← hS5, m_wrote_ne (by omega)]; exact h
      have hst5 : RefSt S (.slice (some ⟨bw, off, none⟩) ws.length 0) P N O mn cp k (wd ws A != 0) R5 S5 vs vh (.slice none 0 0) :=
        ⟨by simp [← hR5, g0], by simp [← hR5, g1], by simp [← hR5, g3], by simp [← hR5, g4], by simp [← hR5, g6], by rw [← hS5]; exact gk4.wrote _ _ (by omega), by rw [← hS5, top_wrote]; exact gt4,
          keep5 _ _ (by omega) (hgr.same gch), keep5 _ _ (by omega) gre4, by rw [← hS5, m_wrote (by rw [gco4]; rfl)]⟩
      obtain ⟨o, R6, S6, he6, hr6⟩ := rSlabsLoop hm (n := n) hrow hw hn ovs hone hst5 (by simp [← hR5, g0])
      rw [he6]
      rcases hr6 with ⟨rfl, ys, vt, hys, hsb, ⟨q0, q1, q3, q4, q6, qk, qt, qch, qre, qco⟩, qout, qkeep⟩ | ⟨rfl, hno, hR6, hk6, r64, r65, hat⟩
      · have ovt : one vt = true := qout.1
        have kp : ∀ b o, S.top + 3 ≤ b → S3.at b = some o → S6.at b = some o := fun b o hb h => qkeep b o hb (keep5 b o (by omega) (hgr.same h))
        have i1 : SlotsOut S6 (S.top + 3) vs xs := gout.move kp
        have i2 : Ints S6 (S.top + 3) vh sh := (Ints.grown (S' := S4) (lo := S3.top) ⟨hone, hout⟩ fun b o hb h => qkeep b o (by omega) (keep5 b o (by omega) h)).low (by omega)
        have i3 : SlabsOut S6 (S.top + 3) vt ys := qout.low (by rw [← hS5, top_wrote]; omega)
        simp (maxDischargeDepth := 30) [q0, q1, q3, q4, q6, qco, qre, ovs, hone, ovt]
        have hF := qk.wrote (b := S.top + 1) (.cells 40 [vs, vh, .bool (wd ws A != 0), vt]) (.agg ⟨[vs, vh, .bool (wd ws A != 0), vt]⟩) (by omega)
        generalize hFe : St.wrote S6 _ _ _ = F at hF ⊢
        have kF : ∀ b o, S.top + 3 ≤ b → S6.at b = some o → F.at b = some o := fun b o hb h => by rw [← hFe, m_wrote_ne (by omega)]; exact h
        obtain ⟨S7, hle, hg7, hcase⟩ := leave_any hF (.tuple #[.agg #[vs, vh, .bool (wd ws A != 0), vt], .int .i64 0])
        refine ⟨some ⟨xs, sh, wd ws A != 0, ys⟩, .inl ⟨_, rfl, hxs, hsl, hch, by rw [hA], hys, hsb⟩, [vs, vh, .bool (wd ws A != 0), vt], S7, hle, hg7, vs, vh, vt, rfl, ?_⟩
        rcases hcase with ⟨hr, rfl⟩ | ⟨_, rfl⟩
        · exfalso
          simp at hr
          obtain ⟨_, css, _, hrow2⟩ := gout
          rcases hrow2 with ⟨h1, _, _⟩ | ⟨_, _, b, h3, h4, _⟩
          · omega
          · rw [h3] at hr; simp at hr; omega
        · have k7 : ∀ b o, S.top + 3 ≤ b → S6.at b = some o → (S.left F).at b = some o := fun b o hb h => by rw [at_left]; exact kF b o hb h
          exact ⟨(i1.move k7).low (by omega), (i2.grown k7).low (by omega), (i3.move k7).low (by omega)⟩
      · refine ⟨none, .inr ⟨rfl, .inr (.inr hno)⟩, [.slice none 0 0, .slice none 0 0, .bool false, .slice none 0 0], S, ?_, Grown.refl S, rfl⟩
        simp (maxDischargeDepth := 30) [hR6, r64, r65, hat, errOf]
        exact leave_quiet hk6.wr rfl
  · refine ⟨none, .inr ⟨rfl, .inl hno⟩, [.slice none 0 0, .slice none 0 0, .bool false, .slice none 0 0], S, ?_, Grown.refl S, rfl⟩
    simp (maxDischargeDepth := 30) [hR3, r34, r35, hat, errOf]
    exact leave_quiet hk3.wr rfl
end

end Go.Proofs.Ytpecefjgadecfaa.Chart

/- ChartSees' own text: what it comes to. -/
namespace Go.Proofs.Ytpecefjgadecfaa.Chart
open Go Go.Proofs.Ytpecefjgadecfaa.AE
set_option maxRecDepth 10000
set_option linter.unusedSimpArgs false
set_option linter.unusedVariables false

def InI (x : Int) : Prop := -9223372036854775808 ≤ x ∧ x ≤ 9223372036854775807

theorem W_form (n : Int) : W .i64 n = (n + 9223372036854775808) % 18446744073709551616 - 9223372036854775808 := by rw [W_wrap]; exact IntKind.wrap_i64 n

theorem may_eq {p s o mn cp : Int} (hp : InI p) (hs : InI s) (ho : InI o) : mayR p s o mn cp = may p s o mn cp := by
  unfold mayR may within InI at *
  rw [W_form, W_form, W_form, Bool.eq_iff_iff]
  simp
  omega

/-- Words that a slice tells, or none. -/
def Row (S : St) (u : Value) (ws : List Int) : Prop := (u = .slice none 0 0 ∧ ws = []) ∨ WRow S u ws

theorem Row.grown {S S' : St} {u : Value} {ws : List Int} (h : Row S u ws) (k : ∀ j, j < S.top → S'.at j = S.at j) : Row S' u ws := by
  rcases h with h | h
  · exact .inl h
  · exact .inr (h.grown k)

theorem Row.kept {S S' : St} {u : Value} {ws : List Int} (h : Row S u ws) (k : ∀ b o, S.at b = some o → S'.at b = some o) : Row S' u ws := by
  rcases h with h | ⟨b, off, c, h1, h2, h3⟩
  · exact .inl h
  · refine .inr ⟨b, off, c, h1, ?_, h3⟩
    unfold AE.rowAt at h2 ⊢
    cases hb : S.at b with
    | none => rw [hb] at h2; cases h2
    | some o => rw [k b o hb]; rw [hb] at h2; exact h2

theorem Row.ints {S : St} {u : Value} {ws : List Int} (h : Row S u ws) : IsInts S.at .u64 u ws := by
  rcases h with ⟨rfl, rfl⟩ | ⟨b, off, c, h1, h2, h3, h4⟩
  · exact ⟨none, 0, rfl, fun i x hx => by simp at hx⟩
  · exact ⟨some ⟨b, off, none⟩, 0, h1, fun i x hx => ⟨b, off, c, rfl, rowAt_cells h2, h4 i x hx⟩⟩

theorem Row.one {S : St} {u : Value} {ws : List Int} (h : Row S u ws) : AE.one u = true := by
  rcases h with ⟨rfl, rfl⟩ | ⟨b, off, c, rfl, h2, h3, h4⟩ <;> rfl

theorem Row.len {S : St} {u : Value} {ws : List Int} (h : Row S u ws) : ∃ q cp, u = .slice q ws.length cp := by
  rcases h with ⟨rfl, rfl⟩ | ⟨b, off, c, rfl, h2, h3, h4⟩
  · exact ⟨none, 0, rfl⟩
  · exact ⟨_, _, rfl⟩

/-- append(nil, words...). -/
theorem Row.app {S : St} {u : Value} {ws : List Int} (h : Row S u ws) (hl : ws.length ≤ 17592186043904) :
    ∃ u' S', appK 22 1 8 (.slice none 0 0) (rowS S 1 u) S = some (u', S') ∧ (∀ T, Kept T S → Kept T S') ∧ (∀ b o, S.at b = some o → S'.at b = some o) ∧ Row S' u' ws ∧ S.top ≤ S'.top := by
  rcases h with ⟨rfl, rfl⟩ | ⟨b, off, c, rfl, h2, h3, h4⟩
  · exact ⟨.slice none 0 0, S, by simp [rowS, appK], fun _ k => k, fun _ _ h => h, .inl ⟨rfl, rfl⟩, Nat.le_refl _⟩
  · have hc := rowAt_cells h2
    have hx : (c.drop off).take ws.length = ws.map (Value.int .u64) := by
      refine List.ext_getElem? fun i => ?_
      by_cases hi : i < ws.length
      · have g : ws[i]? = some ws[i] := List.getElem?_eq_getElem hi
        rw [List.getElem?_take_of_lt hi, List.getElem?_drop, h4 i _ g, List.getElem?_map, g]; rfl
      · rw [List.getElem?_eq_none (by rw [List.length_take]; omega), List.getElem?_eq_none (by rw [List.length_map]; omega)]
    have hr : rowS S 1 (.slice (some ⟨b, off, none⟩) ws.length 0) = some (ws.length, ws.map (Value.int .u64)) := by
      simp only [rowS, hc, rowC, Nat.mul_one, hx]
      rw [if_pos ⟨by simp, by rw [List.all_eq_true]; intro x hx; obtain ⟨y, _, rfl⟩ := List.mem_map.1 hx; rfl⟩]
    rw [hr]
    by_cases h0 : ws.length = 0
    · obtain rfl : ws = [] := List.length_eq_zero_iff.1 h0
      exact ⟨.slice none 0 0, S, by simp [appK], fun _ k => k, fun _ _ h => h, .inl ⟨rfl, rfl⟩, Nat.le_refl _⟩
    · refine ⟨_, _, app_nil (by omega) ⟨by omega, by omega⟩, fun T k => k.push _, fun b o hb => by rw [m_push (by rw [hb]; rfl)]; exact hb, .inr ⟨S.top, 0, ws.map (Value.int .u64), rfl, ?_, by simp, fun i x hi => by simp [hi]⟩, by rw [top_push]; omega⟩
      unfold AE.rowAt
      rw [m_push_top]; rfl

section
variable {n : Nat} {S : St}

set_option maxHeartbeats 4000000 in
theorem eqWords {v u : Value} {xs : List Int} (hv : IsInts S.at .u64 v xs) (hu : IsInts S.at .u64 u xs) (hl : xs.length < 1000000000000000) :
    calls table.find (n + 1) 36 [v, u] S = some (.bool true, S, true) := by
  refine call_rd (x := fun y => y = _) b36 (by simp) fun R hR hargs => ?_
  have h0 : rd R 0 = v := hargs 0 (by simp)
  have h1 : rd R 1 = u := hargs 1 (by simp)
  clear hargs
  obtain ⟨p, cp, rfl, hx⟩ := hv
  obtain ⟨p', cp', rfl, hy⟩ := hu
  have e : ((xs.length : Int) != xs.length) = false := by simp
  have hloop : ∀ R : List Value, R.length = 26 → rd R 0 = .slice p xs.length cp → rd R 1 = .slice p' xs.length cp' → rd R 5 = .int .i64 0 →
      Leads (evCode (calls table.find n) loop36_0 R S.enter) fun o R' S' => S' = S.enter ∧ R'.length = 26 ∧ o = .exit 0 := by
    intro R hR h0 h1 h5
    rw [eloop36_0]
    refine loop_goes (fun k R S' => S' = S.enter ∧ R.length = 26 ∧ rd R 0 = .slice p xs.length cp ∧ rd R 1 = .slice p' xs.length cp' ∧ ∃ i : Nat, rd R 5 = .int .i64 i ∧ i + k = xs.length) _ xs.length (by omega)
      ⟨rfl, hR, h0, h1, 0, h5, by omega⟩ ?_
    rintro k R S' ⟨rfl, hR, h0, h1, i, h5, hk⟩
    cases k with
    | zero =>
      have e1 : ¬ i < xs.length := by omega
      simp (maxDischargeDepth := 30) [hR, h0, h1, h5, e1]
    | succ k =>
      have e1 : i < xs.length := by omega
      have g1 : xs[i]? = some xs[i] := List.getElem?_eq_getElem e1
      obtain ⟨b, off, c, rfl, hc, hcx⟩ := hx i _ g1
      obtain ⟨b', off', c', rfl, hc', hcy⟩ := hy i _ g1
      have e4 : W .i64 ((i : Int) + 1) = (i : Int) + 1 := W_i64 (by omega)
      simp (maxDischargeDepth := 30) [hR, h0, h1, h5, e1, hc, hc', hcx, hcy, e4]
      exact ⟨k, by omega, i + 1, by simp, by omega⟩
  simp (maxDischargeDepth := 30) [hR, h0, h1, e]
  generalize hR2 : wr (wr _ _ _) _ _ = R2
  obtain ⟨o, R', S', he, rfl, hl', rfl⟩ := hloop R2 (by simp (maxDischargeDepth := 30) [← hR2, hR]) (by simp (maxDischargeDepth := 30) [← hR2, h0]) (by simp (maxDischargeDepth := 30) [← hR2, h1]) (by simp (maxDischargeDepth := 30) [← hR2, hR])
  rw [he]
  simp (maxDischargeDepth := 30) [hl']

set_option maxHeartbeats 4000000 in
theorem sSeeNo {q : Option Addr} {len cap : Nat} {p s o mn cp k : Int} (h : may p s o mn cp = false ∨ (may p s o mn cp = true ∧ (len : Int) ≠ 4 * p + 4 + 4 * s + s * o)) :
    calls table.find (n + 9) 33 [.slice q len cap, chart p s o mn cp k] S = some (.tuple #[.agg #[.slice none 0 0, .slice none 0 0, .bool false, .slice none 0 0], .int .i64 2], S, true) := by
  have h8 := fun m S => s8 m p s o mn cp k S
  rcases h with h | ⟨hm, h⟩
  · simp only [h, errno] at h8
    unfold chart at h8 ⊢
    simp (maxDischargeDepth := 30) [q33, h8]
  · have h9 := fun (m : Nat) (S : St) => @vWords m p s o mn cp k S hm
    simp only [hm, errno] at h8
    unfold chart at h8 h9 ⊢
    have b0 : ((len : Int) != 4 * p + 4 + 4 * s + s * o) = true := by simpa using h
    simp (maxDischargeDepth := 30) [q33, h8, h9, b0]

set_option maxHeartbeats 4000000 in
theorem rSeeNo {q : Option Addr} {len cap : Nat} {p s o mn cp k : Int} (hp : InI p) (hs : InI s) (ho : InI o) (h : may p s o mn cp = false ∨ (may p s o mn cp = true ∧ (len : Int) ≠ 4 * p + 4 + 4 * s + s * o)) :
    calls table.find (n + 9) 34 [.slice q len cap, chart p s o mn cp k] S = some (.tuple #[.agg #[.slice none 0 0, .slice none 0 0, .bool false, .slice none 0 0], .int .i64 2], S, true) := by
  have h8 := fun m S => s18 m p s o mn cp k S
  rw [may_eq hp hs ho] at h8
  rcases h with h | ⟨hm, h⟩
  · simp only [h, errno] at h8
    unfold chart at h8 ⊢
    simp (maxDischargeDepth := 30) [q34, h8]
  · have h9 := fun (m : Nat) (S : St) => @uWords m p s o mn cp k S hm
    simp only [hm, errno] at h8
    unfold chart at h8 h9 ⊢
    have b0 : ((len : Int) != 4 * p + 4 + 4 * s + s * o) = true := by simpa using h
    simp (maxDischargeDepth := 30) [q34, h8, h9, b0]

/-- Both answer the same. -/
theorem seeBoth {T : St} {u : Value} {ws : List Int} {p s o mn cp k : Int} (hp : InI p) (hs : InI s) (ho : InI o) (hr : Row T u ws) (hw : ∀ x ∈ ws, Word x) :
    ∃ r e cs S', calls table.find (n + 9) 33 [u, chart p s o mn cp k] T = some (.tuple #[.agg cs.toArray, .int .i64 e], S', true) ∧ Grown T S' ∧ CoreOut S' T.top cs r ∧ (∀ x, r = some x → x.Small) ∧
      ∀ T2 u2, Row T2 u2 ws → ∃ cs2 S2, calls table.find (n + 9) 34 [u2, chart p s o mn cp k] T2 = some (.tuple #[.agg cs2.toArray, .int .i64 e], S2, true) ∧ Grown T2 S2 ∧ CoreOut S2 T2.top cs2 r := by
  by_cases hm : may p s o mn cp = true
  · obtain ⟨m1, m2, m3, _⟩ := may_iff.1 hm
    obtain ⟨P, rfl⟩ : ∃ P : Nat, p = P := ⟨p.toNat, by omega⟩
    obtain ⟨N, rfl⟩ : ∃ N : Nat, s = N := ⟨s.toNat, by omega⟩
    obtain ⟨O, rfl⟩ : ∃ O : Nat, o = O := ⟨o.toNat, by omega⟩
    have hwn : 4 * (P : Int) + 4 + 4 * N + (N : Int) * O = (nWords P N O : Int) := by rw [nWords]; simp
    by_cases hn : ws.length = nWords P N O
    · have wr : ∀ T u, Row T u ws → WRow T u ws := fun T u h => by
        rcases h with ⟨_, rfl⟩ | h
        · rw [nWords] at hn; simp at hn; omega
        · exact h
      obtain ⟨r, cs, S', h1, h2, h3, h4⟩ := sSee hm (n := n) (k := k) (wr _ _ hr) hw hn
      refine ⟨r, errOf r.isSome, cs, S', h2, h3, h4, fun x e => by subst e; exact SeeR.small hw hm h1, fun T2 u2 hr2 => ?_⟩
      obtain ⟨r2, cs2, S2, k1, k2, k3, k4⟩ := rSee hm (n := n) (k := k) (wr _ _ hr2) hw hn
      obtain rfl : r2 = r := k1.unique h1
      exact ⟨cs2, S2, k2, k3, k4⟩
    · have hno : may (P : Int) N O mn cp = false ∨ (may (P : Int) N O mn cp = true ∧ (ws.length : Int) ≠ 4 * P + 4 + 4 * N + (N : Int) * O) := .inr ⟨hm, by rw [hwn]; omega⟩
      obtain ⟨q, cap, hu⟩ := hr.len
      refine ⟨none, 2, _, T, by rw [hu]; exact sSeeNo hno, Grown.refl T, rfl, by simp, fun T2 u2 hr2 => ?_⟩
      obtain ⟨q2, cap2, hu2⟩ := hr2.len
      exact ⟨_, T2, by rw [hu2]; exact rSeeNo hp hs ho hno, Grown.refl T2, rfl⟩
  · have hno : may p s o mn cp = false ∨ (may p s o mn cp = true ∧ (ws.length : Int) ≠ 4 * p + 4 + 4 * s + s * o) := .inl (by simpa using hm)
    obtain ⟨q, cap, hu⟩ := hr.len
    refine ⟨none, 2, _, T, by rw [hu]; exact sSeeNo hno, Grown.refl T, rfl, by simp, fun T2 u2 hr2 => ?_⟩
    obtain ⟨q2, cap2, hu2⟩ := hr2.len
    exact ⟨_, T2, by rw [hu2]; exact rSeeNo hp hs ho hno, Grown.refl T2, rfl⟩

/-! ### fitted -/
set_option maxHeartbeats 4000000 in
theorem fitLoop {C : CallS} {R : List Value} {S0 S : St} {w : List Int} {n h : Nat} {v : Value} (hR : R.length = 30) (h0 : rd R 0 = v) (h5 : rd R 5 = .slice (some ⟨h, 0, none⟩) n 0) (h6 : rd R 6 = .int .i64 0)
    (hv : IsInts S0.at .u64 v w) (hk : Kept S0 S) (hh : S.at h = some (.cells 22 ((inW w n 0).map (Value.int .u64)))) (hlo : S0.top ≤ h) (hn : n < 10000) :
    Leads (evCode C loop32_0 R S) fun o R' S' => o = .exit 0 ∧ R'.length = 30 ∧ rd R' 5 = .slice (some ⟨h, 0, none⟩) n 0 ∧ Kept S0 S' ∧ S'.at h = some (.cells 22 ((inW w n (min n w.length)).map (Value.int .u64))) := by
  rw [eloop32_0]
  refine loop_goes (fun k R S' => R.length = 30 ∧ rd R 0 = v ∧ rd R 5 = .slice (some ⟨h, 0, none⟩) n 0 ∧ ∃ i : Nat, i + k = min n w.length ∧ rd R 6 = .int .i64 i ∧ Kept S0 S' ∧
    S'.at h = some (.cells 22 ((inW w n i).map (Value.int .u64)))) _ (min n w.length) (by omega) ⟨hR, h0, h5, 0, by omega, h6, hk, hh⟩ ?_
  clear hR h0 h5 h6 hk hh
  rintro k R S' ⟨hR, h0, h5, i, hi, h6, hk, hh⟩
  obtain ⟨p, cp, rfl, hx⟩ := id hv
  cases k with
  | zero =>
    have e0 : i = min n w.length := by omega
    by_cases e1 : i < n
    · have e2 : ¬ i < w.length := by omega
      simp (maxDischargeDepth := 30) [hR, h0, h5, h6, e1, e2]
      exact ⟨hk, by rw [← e0]; exact hh⟩
    · simp (maxDischargeDepth := 30) [hR, h0, h5, h6, e1]
      exact ⟨hk, by rw [← e0]; exact hh⟩
  | succ k =>
    have e1 : i < n := by omega
    have e2 : i < w.length := by omega
    have g1 : w[i]? = some w[i] := List.getElem?_eq_getElem e2
    obtain ⟨b, off, c, rfl, hc, hcx⟩ := hx i _ g1
    have hc' : cellsOf (S'.at b) = some c := by
      cases hb : S0.at b with
      | none => rw [hb] at hc; cases hc
      | some o => rw [hk.same hb]; rw [hb] at hc; exact hc
    have w1 : W .i64 ((i : Int) + 1) = ((i + 1 : Nat) : Int) := by rw [W_i64 (by omega)]; rfl
    have il : (inW w n i).length = n := inW_len
    simp (maxDischargeDepth := 30) [hR, h0, h5, h6, e1, e2, hc', hcx, hh, w1, il]
    refine ⟨k, by omega, i + 1, by omega, by omega, hk.wrote _ _ hlo, ?_⟩
    rw [← inW_set g1, List.map_set]

/-- How many words a chart has, whatever it is. -/
theorem words_any {p s o mn cp : Int} (k : Int) (hp : InI p) (hs : InI s) (ho : InI o) : ∃ L : Nat, L ≤ 4096 ∧ ∀ (m : Nat) (S : St), calls table.find (m + 6) 19 [chart p s o mn cp k] S = some (.int .i64 L, S, true) := by
  by_cases hm : may p s o mn cp = true
  · obtain ⟨m1, m2, m3, _⟩ := may_iff.1 hm
    have h5 := mul_le hm (x := s) (by omega) (by omega)
    refine ⟨(4 * p + 4 + 4 * s + s * o).toNat, by omega, fun m S => ?_⟩
    rw [uWords hm]
    congr 3
    rw [Int.toNat_of_nonneg (by omega)]
  · refine ⟨0, by omega, fun m S => ?_⟩
    rw [s19, may_eq hp hs ho, if_neg hm]
    rfl

set_option maxHeartbeats 4000000 in
theorem sFitted {v : Value} {w : List Int} {p s o mn cp k : Int} (hp : InI p) (hs : InI s) (ho : InI o) (hv : IsInts S.at .u64 v w) :
    ∃ L v' S', L ≤ 4096 ∧ calls table.find (n + 7) 32 [v, chart p s o mn cp k] S = some (v', S', true) ∧ Grown S S' ∧ WRow S' v' (inW w L (min L w.length)) := by
  obtain ⟨L, hL, hwo⟩ := words_any (p := p) (s := s) (o := o) (mn := mn) (cp := cp) k hp hs ho
  refine ⟨L, ?_⟩
  refine call_rd (x := fun y => ∃ v' S', L ≤ 4096 ∧ y = some (v', S', true) ∧ Grown S S' ∧ WRow S' v' (inW w L (min L w.length))) (args := [v, chart p s o mn cp k]) b32 (by simp) fun R hR hargs => ?_
  have r0 : rd R 0 = v := hargs 0 (by simp)
  have r1 : rd R 1 = chart p s o mn cp k := hargs 1 (by simp)
  clear hargs
  unfold chart at r1 hwo
  have e3 : (L : Int) ≤ 1000000000000000 := by omega
  have e4 : (L : Int) ≤ 281474976710656 := by omega
  have e5 : 8 * (L : Int) ≤ 281474976710656 := by omega
  simp (maxDischargeDepth := 30) [hR, r0, r1, hwo, e3, e4, e5]
  generalize hTe : St.push (St.push _ _) _ = T
  have tk : Kept S T := by rw [← hTe]; exact ((Kept.enter S).push _).push _
  have th : T.at (S.top + 1) = some (.cells 22 ((inW w L 0).map (Value.int .u64))) := by
    have z : ∀ (S' : St) (o : AObj), S'.top = S.top + 1 → (S'.push o).at (S.top + 1) = some o := fun S' o h => by rw [← h, m_push_top]
    rw [← hTe, z _ _ (by rw [top_push, top_enter]), inW_zero, List.map_replicate]
  clear hTe
  simp only [top_push, top_enter]
  generalize hR2 : wr (wr _ 5 _) 6 _ = R2
  obtain ⟨o, R3, S3, he, rfl, hR3, r5, k3, h3⟩ := fitLoop (C := calls table.find (n + 6)) (R := R2) (S0 := S) (S := T) (w := w) (n := L) (h := S.top + 1) (v := v)
    (by simp [← hR2, hR]) (by simp [← hR2, r0]) (by simp [← hR2, hR]) (by simp [← hR2, hR]) hv tk th (by omega) (by omega)
  rw [he]
  have hle := leave_new k3 (v := .slice (some ⟨S.top + 1, 0, none⟩) L 0) (by simp)
  have hl : (inW w L (min L w.length)).length = L := inW_len
  refine ⟨hL, .slice (some ⟨S.top + 1, 0, none⟩) L 0, S.left S3, ?_, Grown.left k3, S.top + 1, 0, (inW w L (min L w.length)).map (Value.int .u64), by rw [hl], ?_, by simp [hl], fun i x hi => by simp [hi]⟩
  · simp (maxDischargeDepth := 30) [hR3, r5, hle]
  · unfold AE.rowAt
    rw [at_left, h3]; rfl
end

/-! ### the law -/
set_option maxHeartbeats 4000000 in
theorem negLoop {C : CallS} {R : List Value} {S0 S : St} {b6 lo : Nat} {vs vh vt x0 x5 x10 : Value} {lk : Bool} {sh : List Int} (hR : R.length = 62) (h6 : rd R 6 = .pointer (some ⟨b6, 0, none⟩)) (h11 : rd R 11 = .int .i64 0)
    (h0 : rd R 0 = x0) (h5 : rd R 5 = x5) (h10 : rd R 10 = x10) (hk : Kept S0 S) (hc : S.at b6 = some (.cells 40 [vs, vh, .bool lk, vt])) (hi : Ints S lo vh sh) (hlo : S0.top ≤ lo) (hb6 : b6 < lo ∨ Avoids vh b6) (hsm : sh.length < 1000) :
    Leads (evCode C loop4_0 R S) fun o R' S' => o = .exit 0 ∧ R'.length = 62 ∧ rd R' 0 = x0 ∧ rd R' 5 = x5 ∧ rd R' 10 = x10 ∧ Kept S0 S' ∧ ∀ b o, Avoids vh b → S.at b = some o → S'.at b = some o := by
  obtain ⟨hone, hrow⟩ := hi
  rw [eloop4_0]
  rcases hrow with ⟨h1, _, rfl⟩ | ⟨_, h2, b, rfl, h4, h5'⟩
  · refine loop_goes (fun k R S' => S' = S ∧ R.length = 62 ∧ rd R 0 = x0 ∧ rd R 5 = x5 ∧ rd R 10 = x10 ∧ rd R 6 = .pointer (some ⟨b6, 0, none⟩) ∧ rd R 11 = .int .i64 0) _ 0 (by omega) ⟨rfl, hR, h0, h5, h10, h6, h11⟩ ?_
    rintro k R S' ⟨rfl, hR, h0, h5, h10, h6, h11⟩
    simp (maxDischargeDepth := 30) [hR, h0, h5, h10, h6, h11, hc]
    exact hk
  · have hne : b ≠ b6 := by
      rcases hb6 with h | h
      · omega
      · exact avoids_iff.1 h
    refine loop_goes (fun k R S' => R.length = 62 ∧ rd R 0 = x0 ∧ rd R 5 = x5 ∧ rd R 10 = x10 ∧ rd R 6 = .pointer (some ⟨b6, 0, none⟩) ∧ Kept S0 S' ∧ (∀ b' o, b' ≠ b → S.at b' = some o → S'.at b' = some o) ∧ (∃ c, S'.at b = some (.cells 3 c) ∧ c.length = sh.length) ∧ ∃ i : Nat, i + k = sh.length ∧ rd R 11 = .int .i64 i) _ sh.length (by omega)
      ⟨hR, h0, h5, h10, h6, hk, fun b' o _ h => h, ⟨_, h5', by simp⟩, 0, by omega, h11⟩ ?_
    clear hR h0 h5 h10 h6 h11 hk
    rintro k R S' ⟨hR, h0, h5, h10, h6, hk, hat, ⟨c, hc1, hc2⟩, i, hi, h11⟩
    have hc' := hat b6 _ (fun e => hne e.symm) hc
    cases k with
    | zero =>
      have e1 : ¬ i < sh.length := by omega
      simp (maxDischargeDepth := 30) [hR, h0, h5, h10, h6, h11, hc', e1]
      exact ⟨hk, fun b' o ha h => hat b' o (fun e => avoids_iff.1 ha e.symm) h⟩
    | succ k =>
      have e1 : i < sh.length := by omega
      have w1 : W .i64 ((i : Int) + 1) = ((i + 1 : Nat) : Int) := by rw [W_i64 (by omega)]; rfl
      simp (maxDischargeDepth := 30) [hR, h0, h5, h10, h6, h11, hc', e1, hc1, hc2, w1]
      refine ⟨k, by omega, hk.wrote _ _ (by omega), fun b' o hb h => by rw [m_wrote_ne (fun e => hb e.symm)]; exact hat b' o hb h, i + 1, by omega, by omega⟩

theorem Row.avoid {S : St} {u : Value} {ws : List Int} {b : Nat} (h : Row S u ws) (hb : S.top ≤ b) : Avoids u b := by
  rcases h with ⟨rfl, _⟩ | ⟨b', off, c, rfl, h2, _⟩
  · exact avoids_nil
  · have : b' < S.top := by
      refine isSome_lt ?_
      cases hb : S.at b' with
      | none => have := rowAt_cells h2; rw [hb] at this; cases this
      | some o => rfl
    exact avoids_iff.2 (by show b' ≠ b; omega)

/-- Words are as they were where their block is. -/
theorem Row.keep {S S' : St} {u vh : Value} {ws : List Int} (h : Row S u ws) (k : ∀ b o, Avoids vh b → S.at b = some o → S'.at b = some o) (hav : ∀ b off n c, u = .slice (some ⟨b, off, none⟩) n c → Avoids vh b) : Row S' u ws := by
  rcases h with h | ⟨b, off, c, h1, h2, h3⟩
  · exact .inl h
  · refine .inr ⟨b, off, c, h1, ?_, h3⟩
    have ha := hav b off _ _ h1
    unfold AE.rowAt at h2 ⊢
    cases hb : S.at b with
    | none => rw [hb] at h2; cases h2
    | some o => rw [k b o ha hb]; rw [hb] at h2; exact h2

theorem ints_avoid {S : St} {lo b : Nat} {v : Value} {l : List Int} (h : Ints S lo v l) (hb : b < lo) : Avoids v b := OutRow.avoids h.2 (.inl hb)

set_option maxHeartbeats 8000000 in
theorem seesTail {R : List Value} {S T : St} {u : Value} {ws : List Int} {p s o mn cp k : Int} (hp : InI p) (hs : InI s) (ho : InI o) (hR : R.length = 62) (r0 : rd R 0 = u) (r3 : rd R 3 = .pointer (some ⟨S.top, 0, none⟩))
    (hk : Kept S T) (hch : T.at S.top = some (.cells 24 [.int .i64 p, .int .i64 s, .int .i64 o, .int .i64 mn, .int .i64 cp, .int .u64 k])) (hr : Row T u ws) (hw : ∀ x ∈ ws, Word x) (hl : ws.length ≤ 17592186043904) :
    endK S [.tmp 4] (evCode known n4_8 R T) = some (.bool true, S, true) := by
  obtain ⟨u', T', happ, hk1, hold1, hr1, ht1⟩ := hr.app hl
  have hone := hr.one
  have hone' := hr1.one
  have kT' := hk1 S hk
  have hch1 := hold1 _ _ hch
  obtain ⟨r, e, cs1, S2, hca, hg2, ho2, hsm, hb⟩ := seeBoth (n := 55) (mn := mn) (cp := cp) (k := k) hp hs ho hr1 hw
  have k2 := hg2.kept S kT'
  have hch2 := hg2.same hch1
  obtain ⟨x1, vs1, vh1, vt1, ecs1, f1, f2, f3⟩ : ∃ x, CoreOut S2 T'.top cs1 (some x) := by
    cases r with
    | none => exact ⟨_, ho2.zero⟩
    | some x => exact ⟨x, ho2⟩
  subst ecs1
  have o1 := f1.1
  have o2 := f2.1
  have o3 := f3.1
  unfold chart at hca hb
  simp (maxDischargeDepth := 30) [known_cons, hR, r0, r3, happ, hone, hone', hch1, hca, o1, o2, o3]
  generalize hTe : St.wrote (St.push S2 _) _ _ _ = T3
  have k3 : Kept S T3 := by rw [← hTe]; exact (k2.push _).wrote _ _ k2.top
  have old3 : ∀ b o, S2.at b = some o → T3.at b = some o := fun b o h => by
    have := lt_top h
    rw [← hTe, m_wrote_ne (by omega), m_push (by rw [h]; rfl)]; exact h
  have c3 : T3.at S2.top = some (.cells 40 [vs1, vh1, .bool x1.locked, vt1]) := by rw [← hTe, m_wrote (by rw [m_push_top]; rfl)]
  have t3 : T3.top = S2.top + 1 := by rw [← hTe, top_wrote, top_push]
  clear hTe
  have hru : Row T3 u ws := ((hr.kept hold1).grown hg2.at').kept old3
  obtain ⟨cs2, S4, hcb, hg4, ho4⟩ := hb T3 u hru
  have k4 := hg4.kept S k3
  obtain ⟨x2, vs2, vh2, vt2, ecs2, w1, w2, w3⟩ : ∃ x, CoreOut S4 T3.top cs2 (some x) := by
    cases r with
    | none => exact ⟨_, ho4.zero⟩
    | some x => exact ⟨x, ho4⟩
  subst ecs2
  have o4 := w1.1
  have o5 := w2.1
  have o6 := w3.1
  have hch3 := old3 _ _ hch2
  have c4 := hg4.same c3
  simp (maxDischargeDepth := 30) [known_cons, hR, r0, r3, hch3, hcb, o4, o5, o6, c4]
  generalize hTe : St.wrote (St.push S4 _) _ _ _ = T5
  have k5 : Kept S T5 := by rw [← hTe]; exact (k4.push _).wrote _ _ k4.top
  have old5 : ∀ b o, S4.at b = some o → T5.at b = some o := fun b o h => by
    have := lt_top h
    rw [← hTe, m_wrote_ne (by omega), m_push (by rw [h]; rfl)]; exact h
  have c5 : T5.at S4.top = some (.cells 40 [vs2, vh2, .bool x2.locked, vt2]) := by rw [← hTe, m_wrote (by rw [m_push_top]; rfl)]
  have c5' := old5 _ _ c4
  clear hTe
  have hsame := sSame (n := 62) (S := T5) (ho2.move fun b o _ h => old5 _ _ (hg4.same (old3 _ _ h))) (ho4.move fun b o _ h => old5 _ _ h) hsm
  simp (maxDischargeDepth := 30) [known_cons, hR, r0, r3, c5, c5', o1, o2, o3, o4, o5, o6, hsame]
  generalize hR2 : wr _ 11 _ = R2
  have i5 : Ints T5 T'.top vh1 x1.shelf := f2.grown fun b o _ h => old5 _ _ (hg4.same (old3 _ _ h))
  have hsh : x1.shelf.length < 1000 := by
    cases r with
    | none =>
      have hz : vh1 = .slice none 0 0 := by
        have := ho2
        simp only [CoreOut, List.cons.injEq] at this
        exact this.2.1
      rcases f2.2 with ⟨h1, _, _⟩ | ⟨_, _, b, h3, _, _⟩
      · omega
      · rw [hz] at h3; cases h3
    | some x =>
      have h3 := (hsm x rfl).2.2.1
      obtain ⟨a1, a2, a3, a4, _, b2, _⟩ := ho2
      simp only [List.cons.injEq] at a4
      obtain ⟨rfl, rfl, _⟩ := a4
      obtain ⟨_, _, l1⟩ := len_of f2.2
      obtain ⟨_, _, l2⟩ := len_of b2.2
      rw [l1] at l2
      simp only [Value.slice.injEq] at l2
      omega
  obtain ⟨o, R3, S6, he, rfl, hR3, q0, q5, q10, k6, hkeep⟩ := negLoop (C := known) (R := R2) (S0 := S) (S := T5) (b6 := S2.top) (lo := T'.top) (vs := vs1) (vh := vh1) (vt := vt1) (lk := x1.locked) (sh := x1.shelf) (x0 := u) (x5 := u') (x10 := .bool true)
    (by simp [← hR2, hR]) (by simp [← hR2, hR]) (by simp [← hR2, hR]) (by simp [← hR2, hR, r0]) (by simp [← hR2, hR]) (by simp [← hR2, hR]) k5 c5' i5 kT'.top (.inr (OutRow.avoids f2.2 (.inr (Nat.le_refl _)))) hsh
  rw [he]
  have low : ∀ b, b < T'.top → Avoids vh1 b := fun b h => ints_avoid f2 h
  have blk : ∀ {Z : St} {y : Value} {b off n c : Nat}, Row Z y ws → Z.top ≤ T'.top → y = .slice (some ⟨b, off, none⟩) n c → Avoids vh1 b := fun {Z y b off n c} h1 h2 h3 => by
    refine low b ?_
    by_cases hlt : b < Z.top
    · omega
    · have := h1.avoid (b := b) (by omega)
      rw [h3] at this
      exact absurd rfl (avoids_iff.1 this)
  have ru6 : Row S6 u ws := (((hru.grown hg4.at').kept old5)).keep hkeep fun b off n c h => blk hr ht1 h
  have ru6' : Row S6 u' ws := ((((hr1.grown hg2.at').kept old3).grown hg4.at').kept old5).keep hkeep fun b off n c h => blk hr1 (Nat.le_refl _) h
  have heq := eqWords (n := 63) (S := S6) ru6'.ints ru6.ints (by omega)
  simp (maxDischargeDepth := 30) [known_cons, known_works, hR3, q0, q5, q10, heq]
  exact leave_quiet k6.wr rfl

set_option maxHeartbeats 8000000 in
theorem ranSees {S : St} {v : Value} {w : List Int} {p s o mn cp k : Int} (hp : InI p) (hs : InI s) (ho : InI o) (hv : Row S v w) (hw : ∀ x ∈ w, Word x) (hl : w.length ≤ 17592186043904) :
    evFun table.find known 4 [v, chart p s o mn cp k] S = some (.bool true, S, true) := by
  refine law_rd (x := fun y => y = _) b4 (by simp) fun R hR hargs => ?_
  have r0 : rd R 0 = v := hargs 0 (by simp)
  have r1 : rd R 1 = chart p s o mn cp k := hargs 1 (by simp)
  clear hargs
  unfold chart at r1
  obtain ⟨q, cap, hq⟩ := hv.len
  have hone := hv.one
  have r0' := r0
  rw [hq] at r0'
  obtain ⟨T, hT⟩ : ∃ T, S.enter.push (AObj.cells 24 [Value.int IntKind.i64 p, Value.int IntKind.i64 s, Value.int IntKind.i64 o, Value.int IntKind.i64 mn, Value.int IntKind.i64 cp, Value.int IntKind.u64 k]) = T := ⟨_, rfl⟩
  have hTk : Kept S T := by rw [← hT]; exact (Kept.enter S).push _
  have hTm : T.at S.top = some (AObj.cells 24 [Value.int IntKind.i64 p, Value.int IntKind.i64 s, Value.int IntKind.i64 o, Value.int IntKind.i64 mn, Value.int IntKind.i64 cp, Value.int IntKind.u64 k]) := by rw [← hT]; exact m_push_top
  have e3 : S.enter.top = S.top := rfl
  have hvT : Row T v w := hv.grown hTk.at'
  by_cases h7 : (w.length : Int).tmod 7 = 3
  · simp (maxDischargeDepth := 30) [hR, r0', r1, h7, -en4_8, hT, e3]
    generalize hR2 : wr _ 15 _ = R2
    exact seesTail hp hs ho (by simp [← hR2, hR]) (by simp [← hR2, r0]) (by simp [← hR2, hR]) hTk hTm hvT hw hl
  · have b7 : ((w.length : Int).tmod 7 != 3) = true := by simpa using h7
    obtain ⟨L, v', S', hL, hcall, hg, hrow⟩ := sFitted (n := 57) (S := T) (v := v) (mn := mn) (cp := cp) (k := k) hp hs ho hvT.ints
    unfold chart at hcall
    rw [hq] at hcall
    simp (maxDischargeDepth := 30) [known_cons, hR, r0', r1, b7, -en4_8, hT, e3, hTm, hcall]
    generalize hR2 : wr _ 0 _ = R2
    have hlen : (inW w L (min L w.length)).length = L := inW_len
    have hone' : one v' = true := by obtain ⟨b, off, c, h1, _⟩ := hrow; rw [h1]; rfl
    refine seesTail hp hs ho (u := v') (ws := inW w L (min L w.length)) (by simp [← hR2, hR]) (by simp [← hR2, hR]) (by simp [← hR2, hR]) (hg.kept S hTk) (hg.same hTm) (.inr hrow) (fun x hx => ?_) (by rw [hlen]; omega)
    rw [inW, List.mem_map] at hx
    obtain ⟨y, _, rfl⟩ := hx
    split
    · cases h : w[y]? with
      | none => exact ⟨by simp, by simp⟩
      | some z => exact hw z (List.mem_of_getElem? h)
    · exact ⟨by simp, by simp⟩

end Go.Proofs.Ytpecefjgadecfaa.Chart
