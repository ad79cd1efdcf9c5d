/- What the reference's functions of count and link answer that reckon with words alone. -/
import Derived.Test.YtepddcemoofmlaaGreatFastMemM
import Derived.Test.YtepddcemoofmlaaGreatFastNodesB
import Derived.Test.YtepddcemoofmlaaGreatFastRefs
set_option linter.unusedSimpArgs false
set_option linter.unusedVariables false
namespace Go.Proofs.YtepddcemoofmlaaGreat.Fast
open Go Go.Proofs.YtepddcemoofmlaaGreat.AE
set_option maxRecDepth 10000
set_option linter.unusedSimpArgs false
set_option linter.unusedVariables false

/-! ### Turning by one, again and again -/
theorem rotl_step (x : BitVec 64) (a : Nat) : (x.rotateLeft a).rotateLeft 1 = x.rotateLeft (a + 1) := by
  refine BitVec.eq_of_getLsbD_eq fun i hi => ?_
  rw [BitVec.getLsbD_rotateLeft, BitVec.getLsbD_rotateLeft]
  by_cases h0 : i = 0
  · subst h0
    rw [BitVec.getLsbD_rotateLeft]
    have e1 : ¬ 63 < a % 64 := by omega
    by_cases h : a % 64 = 63
    · have e2 : (a + 1) % 64 = 0 := by omega
      simp [e2, h]
    · have e2 : (a + 1) % 64 = a % 64 + 1 := by omega
      have e3 : 64 - (a % 64 + 1) = 63 - a % 64 := by omega
      simp [e1, e2, e3]
      exact BitVec.getLsbD_eq_getElem (by omega)
  · rw [BitVec.getLsbD_rotateLeft]
    have e0 : ¬ i < 1 := by omega
    by_cases h : a % 64 = 63
    · have e2 : (a + 1) % 64 = 0 := by omega
      have e3 : i - 1 < 63 := by omega
      have e4 : 64 - 63 + (i - 1) = i := by omega
      have e5 : 1 + (i - 1) = i := by omega
      simp [e0, e2, h, e3, hi, e4, e5]
    · have e2 : (a + 1) % 64 = a % 64 + 1 := by omega
      by_cases h2 : i - 1 < a % 64
      · have e3 : i < a % 64 + 1 := by omega
        have e4 : 64 - a % 64 + (i - 1) = 64 - (a % 64 + 1) + i := by omega
        simp [e0, e2, h2, e3, e4, hi]
        exact BitVec.getLsbD_eq_getElem (by omega)
      · have e3 : ¬ i < a % 64 + 1 := by omega
        have e4 : i - 1 - a % 64 = i - (a % 64 + 1) := by omega
        have e5 : i - 1 < 64 := by omega
        simp [e0, e2, h2, e3, e4, e5, hi]
        exact BitVec.getLsbD_eq_getElem (by omega)

theorem shl_nat {m r : Nat} (hr : r ≤ 64) : B .shl .u64 (m : Int) r = ((m * 2 ^ r % 18446744073709551616 : Nat) : Int) := by
  rw [shl_mul hr, W_u64]
  omega
theorem shr_nat {m r : Nat} (hr : r ≤ 64) : B .shr .u64 (m : Int) r = ((m / 2 ^ r : Nat) : Int) := by
  rw [shr_div hr]
  exact (Int.natCast_ediv m (2 ^ r)).symm

theorem rotl_nat {m r : Nat} (hm : m < 18446744073709551616) (hr : r < 64) : ((BitVec.ofNat 64 m).rotateLeft r).toNat = (m * 2 ^ r % 18446744073709551616) ||| (m / 2 ^ (64 - r)) := by
  have hmod : r % 64 = r := by omega
  simp only [BitVec.rotateLeft, BitVec.rotateLeftAux, hmod, BitVec.toNat_or, BitVec.toNat_shiftLeft, BitVec.toNat_ushiftRight, BitVec.toNat_ofNat, Nat.shiftLeft_eq, Nat.shiftRight_eq_div_pow]
  rw [Nat.mod_eq_of_lt (a := m) (by omega)]

theorem rotP_nat {m a : Nat} (hm : m < 18446744073709551616) (ha : a < 1000) : rotP (m : Int) (a : Int) = ((((BitVec.ofNat 64 m).rotateLeft a).toNat : Nat) : Int) := by
  have e0 : W .u64 (a : Int) = a := W_in (by omega) (by omega)
  have e1 : B .and .u64 (a : Int) 63 = ((a % 64 : Nat) : Int) := by rw [and_63 ⟨by omega, by omega⟩]; omega
  have e2 : W .u64 (64 - ((a % 64 : Nat) : Int)) = ((64 - a % 64 : Nat) : Int) := by rw [W_in (by omega) (by omega)]; omega
  have hl : a % 64 < 64 := Nat.mod_lt _ (by decide)
  have e3 : (BitVec.ofNat 64 m).rotateLeft a = (BitVec.ofNat 64 m).rotateLeft (a % 64) := by
    simp only [BitVec.rotateLeft, Nat.mod_mod]
  unfold rotP
  rw [e0, e1, e2, shl_nat (by omega), shr_nat (by omega), B_or_nat (Nat.mod_lt _ (by decide)) (Nat.lt_of_le_of_lt (Nat.div_le_self _ _) hm), e3, rotl_nat hm hl]

theorem rotP_zero {k : Int} (hk : Word k) : rotP k 0 = k := by
  obtain ⟨m, rfl, hm⟩ := hk.nat
  have := rotP_nat (a := 0) hm (by omega)
  rw [show ((0 : Nat) : Int) = 0 from rfl] at this
  rw [this, rotl_nat hm (by omega)]
  have e : m / 2 ^ (64 - 0) = 0 := Nat.div_eq_of_lt hm
  rw [e]
  simp
  omega

theorem rotP_word {k : Int} {a : Nat} (hk : Word k) (ha : a < 1000) : Word (rotP k a) := by
  obtain ⟨m, rfl, hm⟩ := hk.nat
  rw [rotP_nat hm ha]
  have := ((BitVec.ofNat 64 m).rotateLeft a).isLt
  exact ⟨by omega, by omega⟩

theorem rotP_step {k : Int} {a : Nat} (hk : Word k) (ha : a < 900) : B .or .u64 (B .shl .u64 (rotP k a) 1) (B .shr .u64 (rotP k a) 63) = rotP k ((a : Int) + 1) := by
  obtain ⟨m, rfl, hm⟩ := hk.nat
  have e : ((a : Int) + 1) = ((a + 1 : Nat) : Int) := by omega
  rw [e, rotP_nat hm (by omega), rotP_nat hm (by omega), ← rotl_step]
  generalize (BitVec.ofNat 64 m).rotateLeft a = x
  have hx := x.isLt
  have h1 := rotl_nat (m := x.toNat) (r := 1) hx (by omega)
  rw [show BitVec.ofNat 64 x.toNat = x by simp] at h1
  rw [h1]
  have s1 := shl_nat (m := x.toNat) (r := 1) (by omega)
  have s2 := shr_nat (m := x.toNat) (r := 63) (by omega)
  rw [show ((1 : Nat) : Int) = 1 from rfl] at s1
  rw [show ((63 : Nat) : Int) = 63 from rfl] at s2
  rw [s1, s2, B_or_nat (Nat.mod_lt _ (by decide)) (Nat.lt_of_le_of_lt (Nat.div_le_self _ _) hx)]

noncomputable section
variable {n : Nat} {S : St}

set_option maxHeartbeats 4000000 in
theorem rTurned {key : Int} {a : Nat} (hk : Word key) (ha : a < 16) : calls table.find (n + 1) 76 [.int .u64 key, .int .i64 a] S = some (.int .u64 (turnedP key a), S, true) := by
  refine call_rd (x := fun y => y = _) b76 (by simp) fun R hR hargs => ?_
  have r0 : rd R 0 = .int .u64 key := hargs 0 (by simp)
  have r1 : rd R 1 = .int .i64 a := hargs 1 (by simp)
  clear hargs
  have w5 : W .i64 (5 * (a : Int)) = 5 * a := W_i64 (by omega)
  have l1 : ∀ R : List Value, R.length = 28 → rd R 1 = .int .i64 a → rd R 5 = .int .u64 key → rd R 6 = .int .i64 0 → Leads (evCode (calls table.find n) loop76_0 R S.enter) fun o R' S' =>
      o = .exit 0 ∧ S' = S.enter ∧ R'.length = 28 ∧ rd R' 1 = .int .i64 a ∧ rd R' 5 = .int .u64 (rotP key (5 * a)) := by
    intro R hR r1 r5 r6
    rw [eloop76_0]
    refine loop_goes (fun q R S' => S' = S.enter ∧ R.length = 28 ∧ rd R 1 = .int .i64 a ∧ ∃ i : Nat, i + q = 5 * a ∧ rd R 6 = .int .i64 i ∧ rd R 5 = .int .u64 (rotP key i)) _ (5 * a) (by omega)
      ⟨rfl, hR, r1, 0, by omega, r6, by rw [r5]; exact congrArg _ (rotP_zero hk).symm⟩ ?_
    rintro q R S' ⟨rfl, hR, r1, i, hq, r6, r5⟩
    cases q with
    | zero =>
      have e1 : ¬ (i : Int) < 5 * (a : Int) := by omega
      have e2 : (i : Int) = 5 * (a : Int) := by omega
      simp (maxDischargeDepth := 30) [hR, r1, r6, w5, e1]
      rw [r5, e2]
    | succ q =>
      have e1 : (i : Int) < 5 * (a : Int) := by omega
      have w1 : W .i64 ((i : Int) + 1) = (i : Int) + 1 := W_i64 (by omega)
      have hs := rotP_step (a := i) hk (by omega)
      simp (maxDischargeDepth := 30) [hR, r1, r5, r6, w5, e1, w1, hs]
      exact ⟨q, by omega, i + 1, by omega, by simp, by simp⟩
  have l2 : ∀ R : List Value, R.length = 28 → rd R 1 = .int .i64 a → rd R 5 = .int .u64 (rotP key (5 * a)) → rd R 7 = .int .i64 0 → Leads (evCode (calls table.find n) loop76_1 R S.enter) fun o R' S' =>
      o = .exit 2 ∧ S' = S.enter ∧ R'.length = 28 ∧ rd R' 5 = .int .u64 (turnedP key a) := by
    intro R hR r1 r5 r7
    have hrot : Word (rotP key (5 * a)) := by
      have := rotP_word (k := key) (a := 5 * a) hk (by omega)
      rwa [show ((5 * a : Nat) : Int) = 5 * (a : Int) by omega] at this
    have ht : turnedP key a = W .u64 (rotP key (5 * a) + a * 2654435769) := by
      unfold turnedP
      rw [w5, W_u64, W_u64, W_u64, W_u64]
      omega
    rw [ht]
    generalize rotP key (5 * a) = r at *
    rw [eloop76_1]
    refine loop_goes (fun q R S' => S' = S.enter ∧ R.length = 28 ∧ rd R 1 = .int .i64 a ∧ ∃ i : Nat, i + q = a ∧ rd R 7 = .int .i64 i ∧ rd R 5 = .int .u64 (W .u64 (r + i * 2654435769))) _ a (by omega)
      ⟨rfl, hR, r1, 0, by omega, r7, by rw [r5, W_in (by have := hrot.1; simpa using this) (by have := hrot.2; simpa using this)]; simp⟩ ?_
    rintro q R S' ⟨rfl, hR, r1, i, hq, r7, r5⟩
    cases q with
    | zero =>
      have e1 : ¬ (i : Int) < (a : Int) := by omega
      have e1' : ¬ i < a := by omega
      simp (maxDischargeDepth := 30) [hR, r1, r7, e1, e1']
      rw [r5, show i = a by omega]
    | succ q =>
      have e1 : (i : Int) < (a : Int) := by omega
      have e1' : i < a := by omega
      have w1 : W .i64 ((i : Int) + 1) = (i : Int) + 1 := W_i64 (by omega)
      have hs : W .u64 (W .u64 (r + (i : Int) * 2654435769) + 2654435769) = W .u64 (r + ((i : Int) + 1) * 2654435769) := by
        rw [W_u64, W_u64, W_u64]; omega
      simp (maxDischargeDepth := 30) [hR, r1, r5, r7, e1, e1', w1, hs]
      exact ⟨q, by omega, i + 1, by omega, by simp, by simp⟩
  simp (maxDischargeDepth := 30) [hR, r0, r1]
  generalize hR2 : wr (wr _ 5 _) 6 _ = R2
  obtain ⟨o, R3, S3, he, rfl, rfl, hR3, q1, q5⟩ := l1 R2 (by simp [← hR2, hR]) (by simp [← hR2, r1]) (by simp [← hR2, hR]) (by simp [← hR2, hR])
  rw [he]
  simp (maxDischargeDepth := 30) [hR3]
  generalize hR4 : wr R3 7 _ = R4
  obtain ⟨o, R5, S5, he5, rfl, rfl, hR5, p5⟩ := l2 R4 (by simp [← hR4, hR3]) (by simp [← hR4, q1]) (by simp [← hR4, q5]) (by simp [← hR4, hR3])
  rw [he5]
  simp (maxDischargeDepth := 30) [hR5, p5]

theorem rShow {w k i : Int} (hw : Word w) (hk : Word k) : calls table.find (n + 2) 51 [.int .u64 w, .int .u64 k, .int .i64 i] S = some (numOf (showP w k i), S, true) := by
  unfold showP numOf
  by_cases f1 : i < 0
  · have e : isObj i = false := by simp [isObj]; omega
    simp (maxDischargeDepth := 30) [q51, e, f1]
  · by_cases f2 : 16 ≤ i
    · have e : isObj i = false := by simp [isObj]; omega
      simp (maxDischargeDepth := 30) [q51, e, f1, f2]
    · have e : isObj i = true := by simp [isObj]; omega
      obtain ⟨a, rfl⟩ : ∃ a : Nat, i = a := ⟨i.toNat, by omega⟩
      have h2 := fun (m : Nat) (S : St) => @rTurned m S k a hk (by omega)
      have f3 : ¬ 16 ≤ a := by omega
      have hx := word_xor hw (word_turned k a)
      obtain ⟨x, hxe⟩ : ∃ x, B .xor .u64 w (turnedP k a) = x := ⟨_, rfl⟩
      rw [hxe] at hx ⊢
      by_cases h : x ≤ 16
      · have h3 : ¬ 16 < x := by omega
        have h4 : W .i64 x = x := W_i64 ⟨by have := hx.1; omega, by omega⟩
        have h5 : W .i64 (x - 1) = x - 1 := W_i64 ⟨by have := hx.1; omega, by omega⟩
        simp (maxDischargeDepth := 30) [q51, h2, e, f1, f2, f3, h, h3, h4, h5, hxe]
      · have h3 : 16 < x := by omega
        simp (maxDischargeDepth := 30) [q51, h2, e, f1, f2, f3, h, h3, hxe]

theorem rHead {s i : Int} : calls table.find (n + 1) 54 [.int .i64 s, .int .i64 i] S = some (wordOf (headP s i), S, true) := by
  by_cases e0 : s = -1 ∧ i = -1
  · obtain ⟨rfl, rfl⟩ := e0
    simp (maxDischargeDepth := 30) [q54, headP, wordOf]
  · by_cases e1 : 0 ≤ s ∧ s < 32
    · have b2 : (s == -1) = false := by simp; omega
      have g1 : ¬ s < 0 := by omega
      have g2 : ¬ 32 ≤ s := by omega
      by_cases e2 : -1 ≤ i ∧ i < 16
      · have w1 : W .i64 (s + 1) = s + 1 := W_i64 (by omega)
        have w2 : W .i64 (64 * (s + 1)) = 64 * (s + 1) := W_i64 (by omega)
        have w3 : W .i64 (64 * (s + 1) + i) = 64 * (s + 1) + i := W_i64 (by omega)
        have w4 : W .i64 (64 * (s + 1) + i + 1) = 64 * (s + 1) + i + 1 := W_i64 (by omega)
        have w5 : W .u64 (64 * (s + 1) + i + 1) = (s + 1) * 64 + (i + 1) := by rw [W_in (by omega) (by omega)]; omega
        have f1 : ¬ i < -1 := by omega
        have f2 : ¬ 16 ≤ i := by omega
        have hv : headP s i = some ((s + 1) * 64 + (i + 1)) := by unfold headP; rw [if_neg e0, if_pos ⟨e1, e2⟩]
        rw [hv]
        simp (maxDischargeDepth := 30) [q54, wordOf, b2, g1, g2, f1, f2, w1, w2, w3, w4, w5]
      · have hv : headP s i = none := by unfold headP; rw [if_neg e0, if_neg (fun h => e2 h.2)]
        rw [hv]
        by_cases f1 : i < -1
        · simp (maxDischargeDepth := 30) [q54, wordOf, b2, g1, g2, f1]
        · have f2 : 16 ≤ i := by omega
          simp (maxDischargeDepth := 30) [q54, wordOf, b2, g1, g2, f1, f2]
    · have hv : headP s i = none := by unfold headP; rw [if_neg e0, if_neg (fun h => e1 h.1)]
      rw [hv]
      by_cases g1 : s < 0
      · by_cases e3 : s = -1
        · have b2 : (s == -1) = true := by simp [e3]
          have b3 : (i == -1) = false := by simp; omega
          simp (maxDischargeDepth := 30) [q54, wordOf, b2, b3, g1]
        · have b2 : (s == -1) = false := by simp [e3]
          simp (maxDischargeDepth := 30) [q54, wordOf, b2, g1]
      · have g2 : 32 ≤ s := by omega
        have b2 : (s == -1) = false := by simp; omega
        simp (maxDischargeDepth := 30) [q54, wordOf, b2, g1, g2]

theorem headP_iff {w s i : Int} (hw : Word w) : headP s i = some w ↔ headOfP w = some (s, i) := by
  have h0 := hw.1
  unfold headP headOfP
  constructor
  · intro h
    split at h
    · rename_i e
      simp only [Option.some.injEq] at h
      rw [if_pos h.symm, e.1, e.2]
    · split at h
      · rename_i e
        simp only [Option.some.injEq] at h
        have e1 : w / 64 = s + 1 := by omega
        have e2 : w % 64 = i + 1 := by omega
        rw [if_neg (by omega), if_pos (by omega), e1, e2]
        congr 1
        rw [Prod.mk.injEq]; omega
      · cases h
  · intro h
    split at h
    · rename_i e
      simp only [Option.some.injEq, Prod.mk.injEq] at h
      rw [if_pos ⟨h.1.symm, h.2.symm⟩, e]
    · split at h
      · simp only [Option.some.injEq, Prod.mk.injEq] at h
        rw [if_neg (by omega), if_pos (by omega)]
        congr 1
        omega
      · cases h

theorem headP_range {s i w : Int} (h : headP s i = some w) : (-1 ≤ s ∧ s < 32) ∧ -1 ≤ i ∧ i < 16 := by
  unfold headP at h
  split at h
  · omega
  · split at h
    · omega
    · cases h

set_option maxHeartbeats 4000000 in
theorem rHeadOf {w : Int} (hw : Word w) : calls table.find (n + 2) 75 [.int .u64 w] S = some (pairOf (headOfP w) (-1), S, true) := by
  refine call_rd (x := fun y => y = _) b75 (by simp) fun R hR hargs => ?_
  have r0 : rd R 0 = .int .u64 w := hargs 0 (by simp)
  clear hargs
  have inner : ∀ (s : Int) (R : List Value), -1 ≤ s → s < 32 → R.length = 32 → rd R 0 = .int .u64 w → rd R 5 = .int .i64 s → rd R 6 = .int .i64 (-1) → Leads (evCode (calls table.find (n + 1)) loop75_1 R S.enter) fun o R' S' =>
      S' = S.enter ∧ R'.length = 32 ∧ ((o = .exit 2 ∧ rd R' 0 = .int .u64 w ∧ rd R' 5 = .int .i64 s ∧ ∀ i, headP s i ≠ some w) ∨ (o = .ret ∧ ∃ i, headP s i = some w ∧ rd R' 2 = .int .i64 s ∧ rd R' 3 = .int .i64 i ∧ rd R' 4 = .bool true)) := by
    intro s R s1 s2 hR r0 r5 r6
    rw [eloop75_1]
    refine loop_goes (fun q R S' => S' = S.enter ∧ R.length = 32 ∧ rd R 0 = .int .u64 w ∧ rd R 5 = .int .i64 s ∧ ∃ i : Int, -1 ≤ i ∧ i + q = 16 ∧ rd R 6 = .int .i64 i ∧ ∀ j, j < i → headP s j ≠ some w) _ 17 (by omega)
      ⟨rfl, hR, r0, r5, -1, by omega, by omega, r6, fun j hj h => by have := headP_range h; omega⟩ ?_
    rintro q R S' ⟨rfl, hR, r0, r5, i, hi, hq, r6, hno⟩
    cases q with
    | zero =>
      have e1 : ¬ i < 16 := by omega
      simp (maxDischargeDepth := 30) [hR, r0, r5, r6, e1]
      intro j h
      have := headP_range h
      exact hno j (by omega) h
    | succ q =>
      have e1 : i < 16 := by omega
      have w1 : W .i64 (i + 1) = i + 1 := W_i64 (by omega)
      have hh := fun (m : Nat) (S : St) => @rHead m S s i
      cases hp : headP s i with
      | none =>
        simp (maxDischargeDepth := 30) [hR, r0, r5, r6, e1, w1, hh, hp, wordOf]
        refine ⟨q, by omega, i + 1, by omega, by omega, rfl, fun j hj => ?_⟩
        by_cases hji : j < i
        · exact hno j hji
        · obtain rfl : j = i := by omega
          rw [hp]; simp
      | some x =>
        by_cases hx : x = w
        · subst hx
          simp (maxDischargeDepth := 30) [hR, r0, r5, r6, e1, w1, hh, hp, wordOf]
        · have b1 : (x == w) = false := by simp [hx]
          simp (maxDischargeDepth := 30) [hR, r0, r5, r6, e1, w1, hh, hp, wordOf, b1]
          refine ⟨q, by omega, i + 1, by omega, by omega, rfl, fun j hj => ?_⟩
          by_cases hji : j < i
          · exact hno j hji
          · obtain rfl : j = i := by omega
            rw [hp]; simpa using hx
  have outer : ∀ R : List Value, R.length = 32 → rd R 0 = .int .u64 w → rd R 5 = .int .i64 (-1) → Leads (evCode (calls table.find (n + 1)) loop75_0 R S.enter) fun o R' S' =>
      S' = S.enter ∧ R'.length = 32 ∧ ((o = .exit 0 ∧ ∀ s i, headP s i ≠ some w) ∨ (o = .ret ∧ ∃ s i, headP s i = some w ∧ rd R' 2 = .int .i64 s ∧ rd R' 3 = .int .i64 i ∧ rd R' 4 = .bool true)) := by
    intro R hR r0 r5
    rw [eloop75_0]
    refine loop_goes (fun q R S' => S' = S.enter ∧ R.length = 32 ∧ rd R 0 = .int .u64 w ∧ ∃ s : Int, -1 ≤ s ∧ s + q = 32 ∧ rd R 5 = .int .i64 s ∧ ∀ t i, t < s → headP t i ≠ some w) _ 33 (by omega)
      ⟨rfl, hR, r0, -1, by omega, by omega, r5, fun t i ht h => by have := headP_range h; omega⟩ ?_
    rintro q R S' ⟨rfl, hR, r0, s, hs, hq, r5, hno⟩
    cases q with
    | zero =>
      have e1 : ¬ s < 32 := by omega
      simp (maxDischargeDepth := 30) [hR, r0, r5, e1]
      intro t i h
      have := headP_range h
      exact hno t i (by omega) h
    | succ q =>
      have e1 : s < 32 := by omega
      have w1 : W .i64 (s + 1) = s + 1 := W_i64 (by omega)
      simp (maxDischargeDepth := 30) [hR, r0, r5, e1]
      generalize hR2 : wr _ 6 _ = R2
      obtain ⟨o, R3, S3, he, rfl, hR3, hcase⟩ := inner s R2 hs e1 (by simp [← hR2, hR]) (by simp [← hR2, r0]) (by simp [← hR2, r5]) (by simp [← hR2, hR])
      rw [he]
      rcases hcase with ⟨rfl, p0, p5, hnone⟩ | ⟨rfl, i, hp, p2, p3, p4⟩
      · simp (maxDischargeDepth := 30) [hR3, p0, p5, w1]
        refine ⟨q, by omega, s + 1, by omega, by omega, rfl, fun t i ht => ?_⟩
        by_cases hts : t < s
        · exact hno t i hts
        · obtain rfl : t = s := by omega
          exact hnone i
      · simp (maxDischargeDepth := 30) [hR3, p2, p3, p4]
        exact hp
  simp (maxDischargeDepth := 30) [hR, r0]
  generalize hR2 : wr (wr _ 4 _) 5 _ = R2
  obtain ⟨o, R3, S3, he, rfl, hR3, hcase⟩ := outer R2 (by simp [← hR2, hR]) (by simp [← hR2, r0]) (by simp [← hR2, hR])
  rw [he]
  rcases hcase with ⟨rfl, hnone⟩ | ⟨rfl, s, i, hp, p2, p3, p4⟩
  · have hv : headOfP w = none := by
      cases h : headOfP w with
      | none => rfl
      | some p => exact absurd ((headP_iff hw).2 h) (hnone p.1 p.2)
    rw [hv]
    simp (maxDischargeDepth := 30) [hR3, pairOf]
  · rw [(headP_iff hw).1 hp]
    simp (maxDischargeDepth := 30) [hR3, p2, p3, p4, pairOf]

theorem tmod_pos {a b : Int} (h : 0 ≤ a) : a.tmod b = a % b := Int.tmod_eq_emod_of_nonneg h
theorem tdiv_pos {a b : Int} (h : 0 ≤ a) : a.tdiv b = a / b := Int.tdiv_eq_ediv_of_nonneg h

/-! ### counts -/
@[simp] theorem isBit_undef {w : Bool} : isBit undef w = false := (rfl)

/-- The word of counts. -/
def packV (c : CountsP) : Int := c.inuse + 256 * c.objects + (if c.frozen then 65536 else 0) + (if c.live then 131072 else 0)
def packP (c : CountsP) : Option Int := if cMay c.inuse c.objects c.frozen c.live = true then some (packV c) else none

theorem cMay_range {u o : Int} {f l : Bool} (h : cMay u o f l = true) : (0 ≤ u ∧ u ≤ 16) ∧ 0 ≤ o ∧ o ≤ 16 := by
  unfold cMay at h
  simp at h
  omega

theorem packP_counts {w : Int} (hw : Word w) : packP (readC w) = some w ↔ countsP w = some (readC w) := by
  have := hw.1
  unfold packP countsP packV
  cases e : cMay (readC w).inuse (readC w).objects (readC w).frozen (readC w).live with
  | false => simp
  | true =>
    simp only [readC, if_true, and_true, Option.some.injEq, ite_eq_left_iff, reduceCtorEq, imp_false, Decidable.not_not, decide_eq_true_eq]
    split <;> split <;> omega

end

end Go.Proofs.YtepddcemoofmlaaGreat.Fast

/- What the reference's memory answers, and does; its places. -/
namespace Go.Proofs.YtepddcemoofmlaaGreat.Fast
open Go Go.Proofs.YtepddcemoofmlaaGreat.AE
set_option maxRecDepth 10000
set_option linter.unusedSimpArgs false
set_option linter.unusedVariables false

/-- The reference's memory: its own block, its words' block, its words, how many accesses there were. -/
def RMem (S : St) (bm bw : Nat) (ws : List Int) (cnt : Int) : Prop :=
  bm ≠ bw ∧ S.at bm = some (.cells 66 [.slice (some ⟨bw, 0, none⟩) ws.length 0, .int .i64 cnt]) ∧ S.at bw = some (.cells 23 (ws.map (Value.int .u64)))

theorem RMem.move {S S' : St} {bm bw : Nat} {ws : List Int} {cnt : Int} (h : RMem S bm bw ws cnt) (h1 : S'.at bm = S.at bm) (h2 : S'.at bw = S.at bw) : RMem S' bm bw ws cnt :=
  ⟨h.1, h1.trans h.2.1, h2.trans h.2.2⟩

theorem RMem.push {S : St} {bm bw : Nat} {ws : List Int} {cnt : Int} (h : RMem S bm bw ws cnt) (o : AObj) : RMem (S.push o) bm bw ws cnt :=
  h.move (m_push (by rw [h.2.1]; rfl)) (m_push (by rw [h.2.2]; rfl))

theorem RMem.lt1 {S : St} {bm bw : Nat} {ws : List Int} {cnt : Int} (h : RMem S bm bw ws cnt) : bm < S.top := lt_top h.2.1
theorem RMem.lt2 {S : St} {bm bw : Nat} {ws : List Int} {cnt : Int} (h : RMem S bm bw ws cnt) : bw < S.top := lt_top h.2.2

/-- May a range be looked at? -/
def inRM (ws : List Int) (a many : Int) : Bool := decide (0 ≤ a) && decide (a < ws.length) && !(many == 2 && decide ((ws.length : Int) ≤ a + 1))

section
variable {n : Nat} {S : St} {bm bw : Nat} {ws : List Int} {cnt : Int}

set_option maxHeartbeats 4000000 in
theorem rThere {a : Int} (hM : RMem S bm bw ws cnt) (h0 : 0 ≤ a) (h1 : a < ws.length) (hc : 0 ≤ cnt ∧ cnt < 1000000000000000) :
    EndsIn (calls table.find (n + 1) 37 [.pointer (some ⟨bm, 0, none⟩), .int .i64 a, .int .i64 1] S) (.int .i64 0) fun S' => Aft (fun j => j = bm ∨ j = bw) S S' ∧ S'.top = S.top ∧ RMem S' bm bw ws (cnt + 1) := by
  obtain ⟨n1, h2, h3⟩ := id hM
  have e1 : ¬ a < 0 := by omega
  have e2 : ¬ (ws.length : Int) ≤ a := by omega
  have w1 : W .i64 (cnt + 1) = cnt + 1 := W_i64 (by omega)
  have k1 : Aft (fun j => j = bm ∨ j = bw) S.enter (S.enter.wrote bm (.cells 66 [.slice (some ⟨bw, 0, none⟩) ws.length 0, .int .i64 (cnt + 1)]) (.int .i64 (cnt + 1))) := (Aft.refl _ S.enter).wroteOld _ (.inl rfl) (by simp)
  simp (maxDischargeDepth := 30) [q37, h2, e1, e2, w1]
  refine k1.ends (by simp) fun S' k2 k3 k4 => ⟨k2, k3, n1, ?_, ?_⟩
  · rw [k4 _ hM.lt1, m_wrote (by rw [m_enter, h2]; rfl)]
  · rw [k4 _ hM.lt2, m_wrote_ne n1, m_enter, h3]

set_option maxHeartbeats 4000000 in
theorem rThere2 {a : Int} (hM : RMem S bm bw ws cnt) (h0 : 0 ≤ a) (h1 : a + 1 < ws.length) (hl : ws.length ≤ 4096) (hc : 0 ≤ cnt ∧ cnt < 1000000000000000) :
    EndsIn (calls table.find (n + 1) 37 [.pointer (some ⟨bm, 0, none⟩), .int .i64 a, .int .i64 2] S) (.int .i64 0) fun S' => Aft (fun j => j = bm ∨ j = bw) S S' ∧ S'.top = S.top ∧ RMem S' bm bw ws (cnt + 1) := by
  obtain ⟨n1, h2, h3⟩ := id hM
  have e1 : ¬ a < 0 := by omega
  have e2 : ¬ (ws.length : Int) ≤ a := by omega
  have e3 : ¬ (ws.length : Int) ≤ a + 1 := by omega
  have w2 : W .i64 (a + 1) = a + 1 := W_i64 (by omega)
  have w1 : W .i64 (cnt + 1) = cnt + 1 := W_i64 (by omega)
  have k1 : Aft (fun j => j = bm ∨ j = bw) S.enter (S.enter.wrote bm (.cells 66 [.slice (some ⟨bw, 0, none⟩) ws.length 0, .int .i64 (cnt + 1)]) (.int .i64 (cnt + 1))) := (Aft.refl _ S.enter).wroteOld _ (.inl rfl) (by simp)
  simp (maxDischargeDepth := 30) [q37, h2, e1, e2, e3, w1, w2]
  refine k1.ends (by simp) fun S' k2 k3 k4 => ⟨k2, k3, n1, ?_, ?_⟩
  · rw [k4 _ hM.lt1, m_wrote (by rw [m_enter, h2]; rfl)]
  · rw [k4 _ hM.lt2, m_wrote_ne n1, m_enter, h3]

theorem rThereNo {a : Int} (hM : RMem S bm bw ws cnt) (h : a < 0 ∨ (ws.length : Int) ≤ a) :
    calls table.find (n + 1) 37 [.pointer (some ⟨bm, 0, none⟩), .int .i64 a, .int .i64 1] S = some (.int .i64 9, S, true) := by
  obtain ⟨n1, h2, h3⟩ := id hM
  by_cases e1 : a < 0
  · simp (maxDischargeDepth := 30) [q37, h2, e1]
  · have e2 : (ws.length : Int) ≤ a := by omega
    simp (maxDischargeDepth := 30) [q37, h2, e1, e2]

theorem rThere2No {a : Int} (hM : RMem S bm bw ws cnt) (h : a < 0 ∨ (ws.length : Int) ≤ a + 1) (ha : -1 ≤ a ∧ a ≤ 100000) :
    calls table.find (n + 1) 37 [.pointer (some ⟨bm, 0, none⟩), .int .i64 a, .int .i64 2] S = some (.int .i64 9, S, true) := by
  obtain ⟨n1, h2, h3⟩ := id hM
  have w2 : W .i64 (a + 1) = a + 1 := W_i64 (by omega)
  by_cases e1 : a < 0
  · simp (maxDischargeDepth := 30) [q37, h2, e1]
  · by_cases e2 : (ws.length : Int) ≤ a
    · simp (maxDischargeDepth := 30) [q37, h2, e1, e2]
    · have e3 : (ws.length : Int) ≤ a + 1 := by omega
      simp (maxDischargeDepth := 30) [q37, h2, e1, e2, e3, w2]

set_option maxHeartbeats 4000000 in
theorem rLoad {a : Int} (hM : RMem S bm bw ws cnt) (hc : 0 ≤ cnt ∧ cnt < 1000000000000000) :
    ∃ cnt', (cnt ≤ cnt' ∧ cnt' ≤ cnt + 1) ∧ EndsIn (calls table.find (n + 2) 46 [.pointer (some ⟨bm, 0, none⟩), .int .i64 a] S) (.tuple #[.int .u64 (ld ws a), .int .i64 (if inR ws a then 0 else 9)]) fun S' =>
      Aft (fun j => j = bm ∨ j = bw) S S' ∧ S'.top = S.top ∧ RMem S' bm bw ws cnt' := by
  by_cases hin : 0 ≤ a ∧ a < ws.length
  · obtain ⟨i, rfl⟩ : ∃ i : Nat, a = i := ⟨a.toNat, by omega⟩
    have hi : inR ws (i : Int) = true := by unfold inR; simp; omega
    have hld : ld ws (i : Int) = wd ws i := by unfold ld; rw [hi]; rfl
    have hi' : i < ws.length := by omega
    have g0 : ∀ h : i < ws.length, ws[i] = wd ws i := fun h => by simp [wd, h]
    obtain ⟨S1, q1, h1, a1, t1, m1⟩ := rThere (n := n) (S := S.enter) (a := i) hM (by omega) (by omega) hc
    obtain ⟨n1, b1, c1⟩ := id m1
    refine ⟨cnt + 1, by omega, ?_⟩
    rw [hi, hld, if_pos rfl]
    simp (maxDischargeDepth := 30) [q46, h1, b1, c1, hi', g0]
    exact a1.ends (by simp) fun S' k2 k3 k4 => ⟨k2, k3, m1.move (k4 _ hM.lt1) (k4 _ hM.lt2)⟩
  · have hi : inR ws a = false := by unfold inR; simp; omega
    have hld : ld ws a = 0 := by unfold ld; rw [hi]; rfl
    have h1 := fun (m : Nat) => @rThereNo m S.enter bm bw ws cnt a hM (by omega)
    refine ⟨cnt, by omega, ?_⟩
    rw [hi, hld, if_neg (by simp)]
    simp (maxDischargeDepth := 30) [q46, h1]
    exact ⟨Aft.refl _ S, hM⟩

set_option maxHeartbeats 4000000 in
theorem rStore {a v : Int} (hM : RMem S bm bw ws cnt) (hc : 0 ≤ cnt ∧ cnt < 1000000000000000) :
    ∃ cnt', (cnt ≤ cnt' ∧ cnt' ≤ cnt + 1) ∧ EndsIn (calls table.find (n + 2) 16 [.pointer (some ⟨bm, 0, none⟩), .int .i64 a, .int .u64 v] S) (.int .i64 (if inR ws a then 0 else 9)) fun S' =>
      Aft (fun j => j = bm ∨ j = bw) S S' ∧ S'.top = S.top ∧ RMem S' bm bw (if inR ws a then ws.set a.toNat v else ws) cnt' := by
  by_cases hin : 0 ≤ a ∧ a < ws.length
  · obtain ⟨i, rfl⟩ : ∃ i : Nat, a = i := ⟨a.toNat, by omega⟩
    have hi : inR ws (i : Int) = true := by unfold inR; simp; omega
    have hi' : i < ws.length := by omega
    obtain ⟨S1, q1, h1, a1, t1, m1⟩ := rThere (n := n) (S := S.enter) (a := i) hM (by omega) (by omega) hc
    obtain ⟨n1, b1, c1⟩ := id m1
    refine ⟨cnt + 1, by omega, ?_⟩
    rw [hi, if_pos rfl, if_pos rfl, Int.toNat_natCast]
    have k1 := a1.wroteOld (b := bw) (.cells 23 ((ws.map (Value.int .u64)).set i (.int .u64 v))) (v := .int .u64 v) (.inr rfl) (by simp)
    simp (maxDischargeDepth := 30) [q16, h1, b1, c1, hi']
    refine k1.ends (by simp) fun S' k2 k3 k4 => ⟨k2, k3, n1, ?_, ?_⟩
    · rw [k4 _ hM.lt1, m_wrote_ne n1.symm, b1, List.length_set]
    · rw [k4 _ hM.lt2, m_wrote (by rw [c1]; rfl), List.map_set]
  · have hi : inR ws a = false := by unfold inR; simp; omega
    have h1 := fun (m : Nat) => @rThereNo m S.enter bm bw ws cnt a hM (by omega)
    refine ⟨cnt, by omega, ?_⟩
    rw [hi, if_neg (by simp), if_neg (by simp)]
    simp (maxDischargeDepth := 30) [q16, h1]
    exact ⟨Aft.refl _ S, hM⟩

set_option maxHeartbeats 8000000 in
theorem rCas2 {a old second to other : Int} (hM : RMem S bm bw ws cnt) (hl : ws.length ≤ 4096) (hc : 0 ≤ cnt ∧ cnt < 1000000000000000) (ha : -1 ≤ a ∧ a ≤ 100000) :
    ∃ cnt', (cnt ≤ cnt' ∧ cnt' ≤ cnt + 1) ∧ EndsIn (calls table.find (n + 2) 55 [.pointer (some ⟨bm, 0, none⟩), .int .i64 a, .int .u64 old, .int .u64 second, .int .u64 to, .int .u64 other] S) (.tuple #[.bool (inR2 ws a && hit ws a.toNat old second), .int .i64 (if inR2 ws a then 0 else 9)]) fun S' =>
      Aft (fun j => j = bm ∨ j = bw) S S' ∧ S'.top = S.top ∧ RMem S' bm bw (if inR2 ws a then cas2W ws a.toNat old second to other else ws) cnt' := by
  by_cases hin : 0 ≤ a ∧ a + 1 < ws.length
  · obtain ⟨i, rfl⟩ : ∃ i : Nat, a = i := ⟨a.toNat, by omega⟩
    have hi : inR2 ws (i : Int) = true := by unfold inR2; simp; omega
    have hi' : i < ws.length := by omega
    have hi2 : i + 1 < ws.length := by omega
    have g0 : ∀ h : i < ws.length, ws[i] = wd ws i := fun h => by simp [wd, h]
    have g1 : ∀ h : i + 1 < ws.length, ws[i + 1] = wd ws (i + 1) := fun h => by simp [wd, h]
    have w2 : W .i64 ((i : Int) + 1) = (i : Int) + 1 := W_i64 (by omega)
    have w3 : 0 ≤ (i : Int) + 1 := by omega
    have w4 : (i : Int) + 1 < (ws.length : Int) := by omega
    obtain ⟨S1, q1, h1, a1, t1, m1⟩ := rThere2 (n := n) (S := S.enter) (a := i) hM (by omega) (by omega) hl hc
    obtain ⟨n1, b1, c1⟩ := id m1
    refine ⟨cnt + 1, by omega, ?_⟩
    rw [hi, if_pos rfl, if_pos rfl, Int.toNat_natCast, Bool.true_and]
    cases hh : hit ws i old second with
    | false =>
      have hW : cas2W ws i old second to other = ws := by unfold cas2W; rw [hh]; rfl
      rw [hW]
      have key : EndsIn (some (leave S S1 (.tuple #[.bool false, .int .i64 0]))) (.tuple #[.bool false, .int .i64 0]) fun S' => Aft (fun j => j = bm ∨ j = bw) S S' ∧ S'.top = S.top ∧ RMem S' bm bw ws (cnt + 1) :=
        a1.ends (by simp) fun S' k2 k3 k4 => ⟨k2, k3, m1.move (k4 _ hM.lt1) (k4 _ hM.lt2)⟩
      unfold hit at hh
      cases e1 : (wd ws i == old) with
      | false =>
        have e1' : (wd ws i != old) = true := by simp [bne, e1]
        simp (maxDischargeDepth := 30) [q55, h1, b1, c1, hi', hi2, g0, g1, w2, w3, w4, e1']
        exact key
      | true =>
        have e1' : (wd ws i != old) = false := by simp [bne, e1]
        have e2' : (wd ws (i + 1) != second) = true := by rw [e1, Bool.true_and] at hh; simp [bne, hh]
        simp (maxDischargeDepth := 30) [q55, h1, b1, c1, hi', hi2, g0, g1, w2, w3, w4, e1', e2']
        exact key
    | true =>
      have hW : cas2W ws i old second to other = (ws.set i to).set (i + 1) other := by unfold cas2W; rw [hh]; rfl
      rw [hW]
      unfold hit at hh
      rw [Bool.and_eq_true] at hh
      have e1' : (wd ws i != old) = false := by simp [bne, hh.1]
      have e2' : (wd ws (i + 1) != second) = false := by simp [bne, hh.2]
      have k5 := ((a1.wroteOld (b := bw) (.cells 23 ((ws.map (Value.int .u64)).set i (.int .u64 to))) (v := .int .u64 to) (.inr rfl) (by simp)).wroteOld (b := bw) (.cells 23 (((ws.map (Value.int .u64)).set i (.int .u64 to)).set (i + 1) (.int .u64 other))) (v := .int .u64 other) (.inr rfl) (by simp))
      simp (maxDischargeDepth := 30) [q55, h1, b1, c1, hi', hi2, g0, g1, w2, w3, w4, e1', e2', n1, n1.symm]
      refine k5.ends (by simp) fun S' k2 k3 k4 => ⟨k2, k3, n1, ?_, ?_⟩
      · rw [k4 _ hM.lt1, m_wrote_ne n1.symm, m_wrote_ne n1.symm, b1, List.length_set, List.length_set]
      · rw [k4 _ hM.lt2, m_wrote, List.map_set, List.map_set]
        rw [m_wrote (by rw [c1]; rfl)]; rfl
  · have hi : inR2 ws a = false := by unfold inR2; simp; omega
    have h1 := fun (m : Nat) => @rThere2No m S.enter bm bw ws cnt a hM (by omega) ha
    refine ⟨cnt, by omega, ?_⟩
    rw [hi, if_neg (by simp), if_neg (by simp), Bool.false_and]
    simp (maxDischargeDepth := 30) [q55, h1]
    exact ⟨Aft.refl _ S, hM⟩
end

/-! ### places -/
theorem mayR_may {p s o mn cp : Int} (hm : may p s o mn cp = true) : mayR p s o mn cp = true := by
  obtain ⟨h1, h2, h3, h4, h5⟩ := may_iff.1 hm
  unfold mayR within
  rw [W_i64 (n := p - 1) (by omega), W_i64 (n := s - 1) (by omega), W_i64 (n := o - 1) (by omega)]
  simp; omega

section
variable {n : Nat} {S : St} {P N O : Nat} {mn cp k : Int} (hm : may P N O mn cp = true)
include hm

theorem uCheck : calls table.find (n + 2) 45 [chart P N O mn cp k] S = some (.int .i64 0, S, true) := by
  rw [s45, mayR_may hm]; rfl

theorem uHead {cpu : Int} : calls table.find (n + 6) 48 [chart P N O mn cp k, .int .i64 cpu] S = some (.int .i64 (headI P cpu), S, true) := by
  obtain ⟨h1, h2, h3, _⟩ := may_iff.1 hm
  rw [s48, mayR_may hm]
  unfold headI
  by_cases h : 0 ≤ cpu ∧ cpu < P
  · have e1 : within cpu P = true := by simp [within]; omega
    rw [e1, if_pos h, W_i64 (by omega)]; rfl
  · have e1 : within cpu P = false := by simp [within]; omega
    rw [e1, if_neg h]; rfl

theorem uLink {s i : Int} : calls table.find (n + 6) 50 [chart P N O mn cp k, .int .i64 s, .int .i64 i] S = some (.int .i64 (linkI P N O s i), S, true) := by
  obtain ⟨h1, h2, h3, _⟩ := may_iff.1 hm
  rw [s50, mayR_may hm]
  unfold linkI
  by_cases h : (0 ≤ s ∧ s < N) ∧ 0 ≤ i ∧ i < O
  · have h5 := mul_le hm (x := N) (by omega) (by omega)
    have h6 := mul_le hm (x := s) (by omega) (by omega)
    have e1 : within s N = true := by simp [within]; omega
    have e2 : within i O = true := by simp [within]; omega
    rw [e1, e2, if_pos h, W_i64 (n := 4 * (P : Int)) (by omega), W_i64 (n := 4 * (P : Int) + 4) (by omega), W_i64 (n := 4 * (N : Int)) (by omega), W_i64 (n := 4 * (P : Int) + 4 + 4 * N) (by omega), W_i64 (n := s * O) (by omega), W_i64 (n := 4 * (P : Int) + 4 + 4 * N + s * O) (by omega), W_i64 (by omega)]; rfl
  · have e1 : (within s N && within i O) = false := by
      rw [Bool.and_eq_false_iff]
      by_cases g : 0 ≤ s ∧ s < N
      · exact .inr (by simp [within]; omega)
      · exact .inl (by simp [within]; omega)
    rw [e1, if_neg h]; rfl
end

theorem uKey {n : Nat} {S : St} {p s o mn cp k i : Int} : calls table.find (n + 6) 52 [chart p s o mn cp k, .int .i64 i] S = some (.int .u64 (keyI k i), S, true) := s52 n p s o mn cp k i S

theorem uBehind {n : Nat} {S : St} {a : Int} (ha : -1 ≤ a ∧ a ≤ 100000) : calls table.find (n + 1) 47 [.int .i64 a] S = some (.int .i64 (behindI a), S, true) := by
  unfold behindI
  have w : W .i64 (a + 1) = a + 1 := W_i64 (by omega)
  by_cases e : a < 0
  · have : a = -1 := by omega
    subst this
    simp (maxDischargeDepth := 30) [q47]
  · simp (maxDischargeDepth := 30) [q47, e, w]

theorem uHide {n : Nat} {S : St} {next key i : Int} (hk : Word key) : calls table.find (n + 3) 53 [.int .i64 next, .int .u64 key, .int .i64 i] S = some (wordOf (hideP next key i), S, true) := by
  unfold hideP wordOf
  by_cases a1 : next < -1
  · have e : ¬ (next = -1 ∨ isObj next = true) := by unfold isObj; simp; omega
    rw [if_neg (fun h => e h.1)]
    simp (maxDischargeDepth := 30) [q53, a1]
  · by_cases a2 : 16 ≤ next
    · have e : ¬ (next = -1 ∨ isObj next = true) := by unfold isObj; simp; omega
      rw [if_neg (fun h => e h.1)]
      simp (maxDischargeDepth := 30) [q53, a1, a2]
    · by_cases a3 : i < 0
      · have e : ¬ isObj i = true := by unfold isObj; simp; omega
        rw [if_neg (fun h => e h.2)]
        simp (maxDischargeDepth := 30) [q53, a1, a2, a3]
      · by_cases a4 : 16 ≤ i
        · have e : ¬ isObj i = true := by unfold isObj; simp; omega
          rw [if_neg (fun h => e h.2)]
          simp (maxDischargeDepth := 30) [q53, a1, a2, a3, a4]
        · obtain ⟨a, rfl⟩ : ∃ a : Nat, i = a := ⟨i.toNat, by omega⟩
          have e : isObj (a : Int) = true := by unfold isObj; simp; omega
          have e2 : next = -1 ∨ isObj next = true := by unfold isObj; simp; omega
          have w1 : W .i64 (next + 1) = next + 1 := W_i64 (by omega)
          have a3' : ¬ (a : Int) < 0 := by omega
          have a4' : ¬ 16 ≤ a := by omega
          have ht := fun (m : Nat) (S : St) => @rTurned m S key a hk (by omega)
          rw [if_pos ⟨e2, e⟩]
          simp (maxDischargeDepth := 30) [q53, a1, a2, a3', a4, a4', w1, ht]

theorem uHeadSaid {n : Nat} {S : St} {P N O : Nat} {mn cp k w : Int} (hw : Word w) : calls table.find (n + 3) 49 [chart P N O mn cp k, .int .u64 w] S = some (.tuple #[.int .i64 (headS w).1, .int .i64 (headS w).2, .bool (headOk N O w)], S, true) := by
  have h := fun (m : Nat) (S : St) => @rHeadOf m S w hw
  unfold headS headOk chart
  cases e : headOfP w with
  | none =>
    simp (maxDischargeDepth := 30) [q49, h, e, pairOf]
  | some p =>
    obtain ⟨s, i⟩ := p
    by_cases c1 : s < (N : Int)
    · by_cases c2 : i < (O : Int)
      · simp (maxDischargeDepth := 30) [q49, h, e, pairOf, headS, c1, c2]
      · simp (maxDischargeDepth := 30) [q49, h, e, pairOf, headS, c1, c2]
    · simp (maxDischargeDepth := 30) [q49, h, e, pairOf, headS, c1]

end Go.Proofs.YtepddcemoofmlaaGreat.Fast

/- What the reference makes of a task, place by place. -/
namespace Go.Proofs.YtepddcemoofmlaaGreat.Fast
open Go Go.Proofs.YtepddcemoofmlaaGreat.AE
set_option maxRecDepth 10000
set_option linter.unusedSimpArgs false
set_option linter.unusedVariables false

theorem two (S : St) (o1 o2 : AObj) : ∃ X1 X2, S.enter.push o1 = X1 ∧ X1.push o2 = X2 ∧ X1.top = S.top + 1 ∧ X2.top = S.top + 2 ∧ X2.at S.top = some o1 ∧ X2.at (S.top + 1) = some o2 ∧ Kept S X2 ∧ (∀ j, j < S.top → X2.at j = S.at j) ∧ ∀ D, Aft D S.enter X2 := by
  have t1 : (S.enter.push o1).top = S.top + 1 := by rw [top_push, top_enter]
  refine ⟨_, _, rfl, rfl, t1, by rw [top_push, t1], ?_, ?_, ((Kept.enter S).push _).push _, fun j hj => ?_, fun D => ((Aft.refl _ S.enter).push _).push _⟩
  · rw [push_chain (by omega)]; exact m_push_top
  · rw [← t1]; exact m_push_top
  · rw [push_chain (by omega), push_chain (by exact hj)]; rfl

theorem three (S : St) (o1 o2 o3 : AObj) : ∃ X1 X2 X3, S.enter.push o1 = X1 ∧ X1.push o2 = X2 ∧ X2.push o3 = X3 ∧ X1.top = S.top + 1 ∧ X2.top = S.top + 2 ∧ X3.top = S.top + 3 ∧ X3.at S.top = some o1 ∧ X3.at (S.top + 1) = some o2 ∧ X3.at (S.top + 2) = some o3 ∧ Kept S X3 ∧
    (∀ j, j < S.top → X3.at j = S.at j) ∧ ∀ D, Aft D S.enter X3 := by
  obtain ⟨X1, X2, h1, h2, t1, t2, c1, c2, k2, low, a2⟩ := two S o1 o2
  refine ⟨X1, X2, _, h1, h2, rfl, t1, t2, by rw [top_push, t2], ?_, ?_, ?_, k2.push _, fun j hj => ?_, fun D => (a2 D).push _⟩
  · rw [push_chain (by omega)]; exact c1
  · rw [push_chain (by omega)]; exact c2
  · rw [← t2]; exact m_push_top
  · rw [push_chain (by omega)]; exact low j hj

section
variable {n : Nat} {S : St} {x : TaskP}

set_option maxHeartbeats 4000000 in
theorem rTo {pc : Int} : calls table.find (n + 1) 26 [.agg x.cells.toArray, .int .i64 pc] S = some (.agg ({ x with pc := pc } : TaskP).cells.toArray, S, true) := by
  have e3 : S.enter.top = S.top := rfl
  obtain ⟨X1, X2, hX1, hX2, t1, t2, c1, c2, k2, low, aX⟩ := two S (.cells 27 x.cells) (.cells 27 zeroT.cells)
  have hF := leave_quiet ((k2.wrote (b := S.top) (.cells 27 ({ x with pc := pc } : TaskP).cells) (.int .i64 pc) (Nat.le_refl _)).wrote (b := S.top + 1) (.cells 27 ({ x with pc := pc } : TaskP).cells) (.agg ⟨({ x with pc := pc } : TaskP).cells⟩) (by omega)).wr (v := .agg ({ x with pc := pc } : TaskP).cells.toArray) (by simp [TaskP.cells])
  simp only [TaskP.cells, zeroT] at *
  simp (maxDischargeDepth := 30) [q26, hX1, hX2, e3, t1, c1, c2, hF]

set_option maxHeartbeats 4000000 in
theorem rBroken : calls table.find (n + 1) 25 [.agg x.cells.toArray] S = some (.agg (brk x).cells.toArray, S, true) := by
  have e3 : S.enter.top = S.top := rfl
  obtain ⟨X1, X2, hX1, hX2, t1, t2, c1, c2, k2, low, aX⟩ := two S (.cells 27 x.cells) (.cells 27 zeroT.cells)
  have hF := leave_quiet ((k2.wrote (b := S.top) (.cells 27 (brk x).cells) (.int .i64 3) (Nat.le_refl _)).wrote (b := S.top + 1) (.cells 27 (brk x).cells) (.agg ⟨(brk x).cells⟩) (by omega)).wr (v := .agg (brk x).cells.toArray) (by simp [TaskP.cells])
  simp only [TaskP.cells, zeroT, brk] at *
  simp (maxDischargeDepth := 30) [q25, hX1, hX2, e3, t1, c1, c2, hF]

set_option maxHeartbeats 4000000 in
theorem rDone : calls table.find (n + 1) 28 [.agg x.cells.toArray] S = some (.agg ({ x with en := 1 } : TaskP).cells.toArray, S, true) := by
  have e3 : S.enter.top = S.top := rfl
  obtain ⟨X1, X2, hX1, hX2, t1, t2, c1, c2, k2, low, aX⟩ := two S (.cells 27 x.cells) (.cells 27 zeroT.cells)
  have hF := leave_quiet ((k2.wrote (b := S.top) (.cells 27 ({ x with en := 1 } : TaskP).cells) (.int .i64 1) (Nat.le_refl _)).wrote (b := S.top + 1) (.cells 27 ({ x with en := 1 } : TaskP).cells) (.agg ⟨({ x with en := 1 } : TaskP).cells⟩) (by omega)).wr (v := .agg ({ x with en := 1 } : TaskP).cells.toArray) (by simp [TaskP.cells])
  simp only [TaskP.cells, zeroT] at *
  simp (maxDischargeDepth := 30) [q28, hX1, hX2, e3, t1, c1, c2, hF]
end

/-- What a place of the reference comes to. -/
def Comes (d : Nat) (f : FuncId) (S : St) (bm bw P N O : Nat) (mn cp k : Int) (x : TaskP) (cnt : Int) (x' : TaskP) (ws' : List Int) : Prop :=
  ∃ cnt', (cnt ≤ cnt' ∧ cnt' ≤ cnt + 1) ∧ EndsIn (calls table.find d f [.pointer (some ⟨bm, 0, none⟩), chart P N O mn cp k, .agg x.cells.toArray] S) (.agg x'.cells.toArray) fun S' => Aft (fun j => j = bm ∨ j = bw) S S' ∧ S'.top = S.top ∧ RMem S' bm bw ws' cnt'

section
variable {n : Nat} {S : St} {bm bw P N O : Nat} {mn cp k : Int} {x : TaskP} {ws : List Int} {cnt : Int} (hm : may P N O mn cp = true) (hM : RMem S bm bw ws cnt) (hc : 0 ≤ cnt ∧ cnt < 1000000000000000)
include hm hM hc

set_option maxHeartbeats 4000000 in
theorem rTurn (hpc : 0 ≤ x.pc ∧ x.pc ≤ 1000) :
    Comes (n + 7) 21 S bm bw P N O mn cp k x cnt (if inR ws (behindI (headI P x.cpu)) then { x with t := ld ws (behindI (headI P x.cpu)), pc := x.pc + 1 } else brk x) ws := by
  have e3 : S.enter.top = S.top := rfl
  have lt1 := hM.lt1
  have lt2 := hM.lt2
  obtain ⟨X1, X2, X3, hX1, hX2, hX3, t1, t2, t3, c1, c2, c3, k3, low, aX⟩ := three S (.cells 25 [.int .i64 P, .int .i64 N, .int .i64 O, .int .i64 mn, .int .i64 cp, .int .u64 k]) (.cells 27 x.cells) (.cells 27 zeroT.cells)
  have hh := fun (m : Nat) (S : St) => @uHead m S P N O mn cp k hm x.cpu
  have hl := headI_le hm x.cpu
  have hb := fun (m : Nat) (S : St) => @uBehind m S (headI P x.cpu) (by omega)
  have w1 : W .i64 (x.pc + 1) = x.pc + 1 := W_i64 (by omega)
  unfold chart at hh
  obtain ⟨cnt', hcc, Y, yq, hy, ay, ty, my⟩ := rLoad (n := n + 4) (S := X3) (a := behindI (headI P x.cpu)) (hM.move (low _ lt1) (low _ lt2)) hc
  have d1 : Y.at S.top = _ := (ay.at' S.top (by omega) (by omega)).trans c1
  have d2 : Y.at (S.top + 1) = _ := (ay.at' (S.top + 1) (by omega) (by omega)).trans c2
  have d3 : Y.at (S.top + 2) = _ := (ay.at' (S.top + 2) (by omega) (by omega)).trans c3
  have A := (aX (fun j => j = bm ∨ j = bw)).trans ay fun _ _ h => h
  refine ⟨cnt', hcc, ?_⟩
  cases hi : inR ws (behindI (headI P x.cpu)) with
  | true =>
    generalize ld ws (behindI (headI P x.cpu)) = v at *
    have ht := fun (m : Nat) (S : St) => @rTo m S { x with t := v } (x.pc + 1)
    have A2 := (A.wroteNew (b := S.top + 1) (.cells 27 ({ x with t := v } : TaskP).cells) (.int .u64 v) (by show S.top ≤ _; omega)).wroteNew (b := S.top + 2) (.cells 27 ({ x with t := v, pc := x.pc + 1 } : TaskP).cells) (.agg ⟨({ x with t := v, pc := x.pc + 1 } : TaskP).cells⟩) (by show S.top ≤ _; omega)
    rw [hi] at hy
    simp only [TaskP.cells, zeroT, chart, if_true] at *
    simp (maxDischargeDepth := 30) [q21, hX1, hX2, hX3, e3, t1, t2, t3, c1, c2, c3, d1, d2, d3, hh, hb, hy, w1, ht]
    exact A2.ends (by simp) fun S' k2 k3 k4 => ⟨k2, k3, my.move (by rw [k4 _ lt1, m_wrote_ne (by omega), m_wrote_ne (by omega)]) (by rw [k4 _ lt2, m_wrote_ne (by omega), m_wrote_ne (by omega)])⟩
  | false =>
    have ht := fun (m : Nat) (S : St) => @rBroken m S x
    have A2 := A.wroteNew (b := S.top + 2) (.cells 27 (brk x).cells) (.agg ⟨(brk x).cells⟩) (by show S.top ≤ _; omega)
    rw [hi] at hy
    simp only [TaskP.cells, zeroT, chart, brk, Bool.false_eq_true, if_false] at *
    simp (maxDischargeDepth := 30) [q21, hX1, hX2, hX3, e3, t1, t2, t3, c1, c2, c3, d1, d2, d3, hh, hb, hy, w1, ht]
    exact A2.ends (by simp) fun S' k2 k3 k4 => ⟨k2, k3, my.move (by rw [k4 _ lt1, m_wrote_ne (by omega)]) (by rw [k4 _ lt2, m_wrote_ne (by omega)])⟩
end

end Go.Proofs.YtepddcemoofmlaaGreat.Fast

/- What the reference makes of a task at the places 1, 11, 2; keep and swap. -/
namespace Go.Proofs.YtepddcemoofmlaaGreat.Fast
open Go Go.Proofs.YtepddcemoofmlaaGreat.AE
set_option maxRecDepth 10000
set_option linter.unusedSimpArgs false
set_option linter.unusedVariables false

section
variable {n : Nat} {S : St} {bm bw P N O : Nat} {mn cp k : Int} {x : TaskP} {ws : List Int} {cnt : Int} (hm : may P N O mn cp = true) (hM : RMem S bm bw ws cnt) (hw : ∀ x ∈ ws, Word x) (hc : 0 ≤ cnt ∧ cnt < 1000000000000000)
include hm hM hw hc

set_option maxHeartbeats 4000000 in
theorem rLookAt (hpc : x.pc = 1) (w : Int) (e0 : w = ld ws (headI P x.cpu)) :
    Comes (n + 7) 22 S bm bw P N O mn cp k x cnt (if inR ws (headI P x.cpu) && headOk N O w then { x with h := w, slab := (headS w).1, obj := (headS w).2, pc := if (headS w).1 < 0 then 30 else if (headS w).2 < 0 then 20 else 2 } else brk x) ws := by
  have e3 : S.enter.top = S.top := rfl
  have lt1 := hM.lt1
  have lt2 := hM.lt2
  obtain ⟨X1, X2, X3, hX1, hX2, hX3, t1, t2, t3, c1, c2, c3, k3, low, aX⟩ := three S (.cells 25 [.int .i64 P, .int .i64 N, .int .i64 O, .int .i64 mn, .int .i64 cp, .int .u64 k]) (.cells 27 x.cells) (.cells 27 zeroT.cells)
  have hh := fun (m : Nat) (S : St) => @uHead m S P N O mn cp k hm x.cpu
  have hl := headI_le hm x.cpu
  have hwd : Word w := by rw [e0]; exact ld_word hw _
  have hho := fun (m : Nat) (S : St) => @uHeadSaid m S P N O mn cp k w hwd
  unfold chart at hh hho
  obtain ⟨cnt', hcc, Y, yq, hy, ay, ty, my⟩ := rLoad (n := n + 4) (S := X3) (a := headI P x.cpu) (hM.move (low _ lt1) (low _ lt2)) hc
  rw [← e0] at hy
  have d1 : Y.at S.top = _ := (ay.at' S.top (by omega) (by omega)).trans c1
  have d2 : Y.at (S.top + 1) = _ := (ay.at' (S.top + 1) (by omega) (by omega)).trans c2
  have d3 : Y.at (S.top + 2) = _ := (ay.at' (S.top + 2) (by omega) (by omega)).trans c3
  have A := (aX (fun j => j = bm ∨ j = bw)).trans ay fun _ _ h => h
  refine ⟨cnt', hcc, ?_⟩
  generalize hok : headOk N O w = ok at *
  have hbr : ∀ F : St, F = Y → EndsIn (some (leave S (F.wrote (S.top + 2) (.cells 27 (brk x).cells) (.agg ⟨(brk x).cells⟩)) (.agg (brk x).cells.toArray))) (.agg (brk x).cells.toArray) fun S' => Aft (fun j => j = bm ∨ j = bw) S S' ∧ S'.top = S.top ∧ RMem S' bm bw ws cnt' := by
    intro F hF
    rw [hF]
    have A2 := A.wroteNew (b := S.top + 2) (.cells 27 (brk x).cells) (.agg ⟨(brk x).cells⟩) (by show S.top ≤ _; omega)
    exact A2.ends (by simp [TaskP.cells]) fun S' k2 k3 k4 => ⟨k2, k3, my.move (by rw [k4 _ lt1, m_wrote_ne (by omega)]) (by rw [k4 _ lt2, m_wrote_ne (by omega)])⟩
  have hbr := hbr Y rfl
  have hb := fun (m : Nat) (S : St) => @rBroken m S x
  cases hi : inR ws (headI P x.cpu) with
  | false =>
    rw [hi] at hy
    simp only [TaskP.cells, zeroT, chart, brk, Bool.false_eq_true, if_false, Bool.false_and] at *
    simp (maxDischargeDepth := 30) [q22, hX1, hX2, hX3, e3, t1, t2, t3, c1, c2, c3, d1, d2, d3, hh, hho, hy, hb]
    exact hbr
  | true =>
    rw [hi] at hy
    cases ok with
    | false =>
      simp only [TaskP.cells, zeroT, chart, brk, Bool.false_eq_true, if_true, if_false, Bool.and_false] at *
      simp (maxDischargeDepth := 30) [q22, hX1, hX2, hX3, e3, t1, t2, t3, c1, c2, c3, d1, d2, d3, hh, hho, hy, hb]
      exact hbr
    | true =>
      generalize headS w = p at *
      obtain ⟨s, i⟩ := p
      have fin : ∀ pc : Int, EndsIn (some (leave S (((((Y.wrote (S.top + 1) (.cells 27 ({ x with h := w } : TaskP).cells) (.int .u64 w)).wrote (S.top + 1) (.cells 27 ({ x with h := w, slab := s } : TaskP).cells) (.int .i64 s)).wrote (S.top + 1) (.cells 27 ({ x with h := w, slab := s, obj := i } : TaskP).cells) (.int .i64 i)).wrote (S.top + 2) (.cells 27 ({ x with h := w, slab := s, obj := i, pc := pc } : TaskP).cells) (.agg ⟨({ x with h := w, slab := s, obj := i, pc := pc } : TaskP).cells⟩))) (.agg ({ x with h := w, slab := s, obj := i, pc := pc } : TaskP).cells.toArray))) (.agg ({ x with h := w, slab := s, obj := i, pc := pc } : TaskP).cells.toArray) fun S' => Aft (fun j => j = bm ∨ j = bw) S S' ∧ S'.top = S.top ∧ RMem S' bm bw ws cnt' := by
        intro pc
        have A2 := (((A.wroteNew (b := S.top + 1) (.cells 27 ({ x with h := w } : TaskP).cells) (.int .u64 w) (by show S.top ≤ _; omega)).wroteNew (b := S.top + 1) (.cells 27 ({ x with h := w, slab := s } : TaskP).cells) (.int .i64 s) (by show S.top ≤ _; omega)).wroteNew (b := S.top + 1) (.cells 27 ({ x with h := w, slab := s, obj := i } : TaskP).cells) (.int .i64 i) (by show S.top ≤ _; omega)).wroteNew (b := S.top + 2) (.cells 27 ({ x with h := w, slab := s, obj := i, pc := pc } : TaskP).cells) (.agg ⟨({ x with h := w, slab := s, obj := i, pc := pc } : TaskP).cells⟩) (by show S.top ≤ _; omega)
        exact A2.ends (by simp [TaskP.cells]) fun S' k2 k3 k4 => ⟨k2, k3, my.move (by rw [k4 _ lt1, m_wrote_ne (by omega), m_wrote_ne (by omega), m_wrote_ne (by omega), m_wrote_ne (by omega)]) (by rw [k4 _ lt2, m_wrote_ne (by omega), m_wrote_ne (by omega), m_wrote_ne (by omega), m_wrote_ne (by omega)])⟩
      have ht := fun (m : Nat) (S : St) (pc : Int) => @rTo m S { x with h := w, slab := s, obj := i } pc
      have f1 := fin 30
      have f2 := fin 20
      have f3 := fin 2
      clear fin
      simp only [TaskP.cells, zeroT, chart, Bool.true_and, if_true, hpc] at *
      by_cases g1 : s < 0
      · rw [if_pos g1]
        simp (maxDischargeDepth := 30) [q22, hX1, hX2, hX3, e3, t1, t2, t3, c1, c2, c3, d1, d2, d3, hh, hho, hy, ht, g1]
        exact f1
      · rw [if_neg g1]
        by_cases g2 : i < 0
        · rw [if_pos g2]
          simp (maxDischargeDepth := 30) [q22, hX1, hX2, hX3, e3, t1, t2, t3, c1, c2, c3, d1, d2, d3, hh, hho, hy, ht, g1, g2]
          exact f2
        · rw [if_neg g2]
          simp (maxDischargeDepth := 30) [q22, hX1, hX2, hX3, e3, t1, t2, t3, c1, c2, c3, d1, d2, d3, hh, hho, hy, ht, g1, g2]
          exact f3
end

end Go.Proofs.YtepddcemoofmlaaGreat.Fast

/- What the reference makes of a task at the places 11, 2; keep and swap. -/
namespace Go.Proofs.YtepddcemoofmlaaGreat.Fast
open Go Go.Proofs.YtepddcemoofmlaaGreat.AE
set_option maxRecDepth 10000
set_option linter.unusedSimpArgs false
set_option linter.unusedVariables false

section
variable {n : Nat} {S : St} {bm bw P N O : Nat} {mn cp k : Int} {x : TaskP} {ws : List Int} {cnt : Int} (hm : may P N O mn cp = true) (hM : RMem S bm bw ws cnt) (hw : ∀ x ∈ ws, Word x) (hc : 0 ≤ cnt ∧ cnt < 1000000000000000)
include hm hM hw hc

set_option maxHeartbeats 4000000 in
theorem rMineAt (hpc : x.pc = 11) (w : Int) (e0 : w = ld ws (headI P x.cpu)) :
    Comes (n + 7) 22 S bm bw P N O mn cp k x cnt (if inR ws (headI P x.cpu) && headOk N O w then (if (headS w).1 = x.slab then { x with h := w, last := (headS w).2, pc := 12 } else { x with h := w, pc := 50 }) else brk x) ws := by
  have e3 : S.enter.top = S.top := rfl
  have lt1 := hM.lt1
  have lt2 := hM.lt2
  obtain ⟨X1, X2, X3, hX1, hX2, hX3, t1, t2, t3, c1, c2, c3, k3, low, aX⟩ := three S (.cells 25 [.int .i64 P, .int .i64 N, .int .i64 O, .int .i64 mn, .int .i64 cp, .int .u64 k]) (.cells 27 x.cells) (.cells 27 zeroT.cells)
  have hh := fun (m : Nat) (S : St) => @uHead m S P N O mn cp k hm x.cpu
  have hl := headI_le hm x.cpu
  have hwd : Word w := by rw [e0]; exact ld_word hw _
  have hho := fun (m : Nat) (S : St) => @uHeadSaid m S P N O mn cp k w hwd
  unfold chart at hh hho
  obtain ⟨cnt', hcc, Y, yq, hy, ay, ty, my⟩ := rLoad (n := n + 4) (S := X3) (a := headI P x.cpu) (hM.move (low _ lt1) (low _ lt2)) hc
  rw [← e0] at hy
  have d1 : Y.at S.top = _ := (ay.at' S.top (by omega) (by omega)).trans c1
  have d2 : Y.at (S.top + 1) = _ := (ay.at' (S.top + 1) (by omega) (by omega)).trans c2
  have d3 : Y.at (S.top + 2) = _ := (ay.at' (S.top + 2) (by omega) (by omega)).trans c3
  have A := (aX (fun j => j = bm ∨ j = bw)).trans ay fun _ _ h => h
  refine ⟨cnt', hcc, ?_⟩
  generalize hok : headOk N O w = ok at *
  have hbr : EndsIn (some (leave S (Y.wrote (S.top + 2) (.cells 27 (brk x).cells) (.agg ⟨(brk x).cells⟩)) (.agg (brk x).cells.toArray))) (.agg (brk x).cells.toArray) fun S' => Aft (fun j => j = bm ∨ j = bw) S S' ∧ S'.top = S.top ∧ RMem S' bm bw ws cnt' := by
    have A2 := A.wroteNew (b := S.top + 2) (.cells 27 (brk x).cells) (.agg ⟨(brk x).cells⟩) (by show S.top ≤ _; omega)
    exact A2.ends (by simp [TaskP.cells]) fun S' k2 k3 k4 => ⟨k2, k3, my.move (by rw [k4 _ lt1, m_wrote_ne (by omega)]) (by rw [k4 _ lt2, m_wrote_ne (by omega)])⟩
  have hb := fun (m : Nat) (S : St) => @rBroken m S x
  cases hi : inR ws (headI P x.cpu) with
  | false =>
    rw [hi] at hy
    simp only [TaskP.cells, zeroT, chart, brk, Bool.false_eq_true, if_false, Bool.false_and] at *
    simp (maxDischargeDepth := 30) [q22, hX1, hX2, hX3, e3, t1, t2, t3, c1, c2, c3, d1, d2, d3, hh, hho, hy, hb]
    exact hbr
  | true =>
    rw [hi] at hy
    cases ok with
    | false =>
      simp only [TaskP.cells, zeroT, chart, brk, Bool.false_eq_true, if_true, if_false, Bool.and_false] at *
      simp (maxDischargeDepth := 30) [q22, hX1, hX2, hX3, e3, t1, t2, t3, c1, c2, c3, d1, d2, d3, hh, hho, hy, hb]
      exact hbr
    | true =>
      generalize headS w = p at *
      obtain ⟨s, i⟩ := p
      have f1 : EndsIn (some (leave S (((Y.wrote (S.top + 1) (.cells 27 ({ x with h := w } : TaskP).cells) (.int .u64 w)).wrote (S.top + 1) (.cells 27 ({ x with h := w, last := i } : TaskP).cells) (.int .i64 i)).wrote (S.top + 2) (.cells 27 ({ x with h := w, last := i, pc := 12 } : TaskP).cells) (.agg ⟨({ x with h := w, last := i, pc := 12 } : TaskP).cells⟩)) (.agg ({ x with h := w, last := i, pc := 12 } : TaskP).cells.toArray))) (.agg ({ x with h := w, last := i, pc := 12 } : TaskP).cells.toArray) fun S' => Aft (fun j => j = bm ∨ j = bw) S S' ∧ S'.top = S.top ∧ RMem S' bm bw ws cnt' := by
        have A2 := ((A.wroteNew (b := S.top + 1) (.cells 27 ({ x with h := w } : TaskP).cells) (.int .u64 w) (by show S.top ≤ _; omega)).wroteNew (b := S.top + 1) (.cells 27 ({ x with h := w, last := i } : TaskP).cells) (.int .i64 i) (by show S.top ≤ _; omega)).wroteNew (b := S.top + 2) (.cells 27 ({ x with h := w, last := i, pc := 12 } : TaskP).cells) (.agg ⟨({ x with h := w, last := i, pc := 12 } : TaskP).cells⟩) (by show S.top ≤ _; omega)
        exact A2.ends (by simp [TaskP.cells]) fun S' k2 k3 k4 => ⟨k2, k3, my.move (by rw [k4 _ lt1, m_wrote_ne (by omega), m_wrote_ne (by omega), m_wrote_ne (by omega)]) (by rw [k4 _ lt2, m_wrote_ne (by omega), m_wrote_ne (by omega), m_wrote_ne (by omega)])⟩
      have f2 : EndsIn (some (leave S ((Y.wrote (S.top + 1) (.cells 27 ({ x with h := w } : TaskP).cells) (.int .u64 w)).wrote (S.top + 2) (.cells 27 ({ x with h := w, pc := 50 } : TaskP).cells) (.agg ⟨({ x with h := w, pc := 50 } : TaskP).cells⟩)) (.agg ({ x with h := w, pc := 50 } : TaskP).cells.toArray))) (.agg ({ x with h := w, pc := 50 } : TaskP).cells.toArray) fun S' => Aft (fun j => j = bm ∨ j = bw) S S' ∧ S'.top = S.top ∧ RMem S' bm bw ws cnt' := by
        have A2 := (A.wroteNew (b := S.top + 1) (.cells 27 ({ x with h := w } : TaskP).cells) (.int .u64 w) (by show S.top ≤ _; omega)).wroteNew (b := S.top + 2) (.cells 27 ({ x with h := w, pc := 50 } : TaskP).cells) (.agg ⟨({ x with h := w, pc := 50 } : TaskP).cells⟩) (by show S.top ≤ _; omega)
        exact A2.ends (by simp [TaskP.cells]) fun S' k2 k3 k4 => ⟨k2, k3, my.move (by rw [k4 _ lt1, m_wrote_ne (by omega), m_wrote_ne (by omega)]) (by rw [k4 _ lt2, m_wrote_ne (by omega), m_wrote_ne (by omega)])⟩
      have ht1 := fun (m : Nat) (S : St) (pc : Int) => @rTo m S { x with h := w, last := i } pc
      have ht2 := fun (m : Nat) (S : St) (pc : Int) => @rTo m S { x with h := w } pc
      by_cases g1 : s = x.slab
      · have b1 : (s != x.slab) = false := by simp [g1]
        rw [if_pos (by rfl), if_pos g1]
        simp only [TaskP.cells, zeroT, chart, Bool.true_and, if_true, hpc] at *
        simp (maxDischargeDepth := 30) [q22, hX1, hX2, hX3, e3, t1, t2, t3, c1, c2, c3, d1, d2, d3, hh, hho, hy, ht1, b1]
        exact f1
      · have b1 : (s != x.slab) = true := by simp [g1]
        rw [if_pos (by rfl), if_neg g1]
        simp only [TaskP.cells, zeroT, chart, Bool.true_and, if_true, hpc] at *
        simp (maxDischargeDepth := 30) [q22, hX1, hX2, hX3, e3, t1, t2, t3, c1, c2, c3, d1, d2, d3, hh, hho, hy, ht2, b1]
        exact f2

set_option maxHeartbeats 4000000 in
theorem rNextAt (w : Int) (e0 : w = ld ws (linkI P N O x.slab x.obj)) :
    Comes (n + 7) 23 S bm bw P N O mn cp k x cnt (if inR ws (linkI P N O x.slab x.obj) then nextT O x (showP w (keyI k x.slab) x.obj) else brk x) ws := by
  have e3 : S.enter.top = S.top := rfl
  have lt1 := hM.lt1
  have lt2 := hM.lt2
  obtain ⟨X1, X2, X3, hX1, hX2, hX3, t1, t2, t3, c1, c2, c3, k3, low, aX⟩ := three S (.cells 25 [.int .i64 P, .int .i64 N, .int .i64 O, .int .i64 mn, .int .i64 cp, .int .u64 k]) (.cells 27 x.cells) (.cells 27 zeroT.cells)
  have hh := fun (m : Nat) (S : St) => @uLink m S P N O mn cp k hm x.slab x.obj
  have hkk := fun (m : Nat) (S : St) => @uKey m S P N O mn cp k x.slab
  have hwd : Word w := by rw [e0]; exact ld_word hw _
  have hsh := fun (m : Nat) (S : St) => @rShow m S w (keyI k x.slab) x.obj hwd (word_W _)
  unfold chart at hh hkk
  obtain ⟨cnt', hcc, Y, yq, hy, ay, ty, my⟩ := rLoad (n := n + 4) (S := X3) (a := linkI P N O x.slab x.obj) (hM.move (low _ lt1) (low _ lt2)) hc
  rw [← e0] at hy
  have d1 : Y.at S.top = _ := (ay.at' S.top (by omega) (by omega)).trans c1
  have d2 : Y.at (S.top + 1) = _ := (ay.at' (S.top + 1) (by omega) (by omega)).trans c2
  have d3 : Y.at (S.top + 2) = _ := (ay.at' (S.top + 2) (by omega) (by omega)).trans c3
  have A := (aX (fun j => j = bm ∨ j = bw)).trans ay fun _ _ h => h
  refine ⟨cnt', hcc, ?_⟩
  have hend : ∀ x' : TaskP, EndsIn (some (leave S (Y.wrote (S.top + 2) (.cells 27 x'.cells) (.agg ⟨x'.cells⟩)) (.agg x'.cells.toArray))) (.agg x'.cells.toArray) fun S' => Aft (fun j => j = bm ∨ j = bw) S S' ∧ S'.top = S.top ∧ RMem S' bm bw ws cnt' := by
    intro x'
    have A2 := A.wroteNew (b := S.top + 2) (.cells 27 x'.cells) (.agg ⟨x'.cells⟩) (by show S.top ≤ _; omega)
    exact A2.ends (by simp [TaskP.cells]) fun S' k2 k3 k4 => ⟨k2, k3, my.move (by rw [k4 _ lt1, m_wrote_ne (by omega)]) (by rw [k4 _ lt2, m_wrote_ne (by omega)])⟩
  cases hi : inR ws (linkI P N O x.slab x.obj) with
  | false =>
    have hb := fun (m : Nat) (S : St) => @rBroken m S x
    have f1 := hend (brk x)
    clear hend
    rw [hi] at hy
    simp only [TaskP.cells, zeroT, chart, brk, Bool.false_eq_true, if_false] at *
    simp (maxDischargeDepth := 30) [q23, hX1, hX2, hX3, e3, t1, t2, t3, c1, c2, c3, d1, d2, d3, hh, hy, hb]
    exact f1
  | true =>
    rw [hi] at hy
    have ht0 := fun (m : Nat) (S : St) (pc : Int) => @rTo m S x pc
    cases hs : showP w (keyI k x.slab) x.obj with
    | none =>
      have f1 := hend { x with pc := 0 }
      clear hend
      simp only [hs, numOf] at hsh
      simp only [TaskP.cells, zeroT, chart, nextT, if_true] at *
      simp (maxDischargeDepth := 30) [q23, hX1, hX2, hX3, e3, t1, t2, t3, c1, c2, c3, d1, d2, d3, hh, hkk, hsh, hy, ht0]
      exact f1
    | some y =>
      by_cases g1 : y < (O : Int)
      · have hn : nextT O x (some y) = { x with last := y, pc := 3 } := by simp [nextT, g1]
        have g2 : ¬ (O : Int) ≤ y := by omega
        have f1 : EndsIn (some (leave S ((Y.wrote (S.top + 1) (.cells 27 ({ x with last := y } : TaskP).cells) (.int .i64 y)).wrote (S.top + 2) (.cells 27 ({ x with last := y, pc := 3 } : TaskP).cells) (.agg ⟨({ x with last := y, pc := 3 } : TaskP).cells⟩)) (.agg ({ x with last := y, pc := 3 } : TaskP).cells.toArray))) (.agg ({ x with last := y, pc := 3 } : TaskP).cells.toArray) fun S' => Aft (fun j => j = bm ∨ j = bw) S S' ∧ S'.top = S.top ∧ RMem S' bm bw ws cnt' := by
          have A2 := (A.wroteNew (b := S.top + 1) (.cells 27 ({ x with last := y } : TaskP).cells) (.int .i64 y) (by show S.top ≤ _; omega)).wroteNew (b := S.top + 2) (.cells 27 ({ x with last := y, pc := 3 } : TaskP).cells) (.agg ⟨({ x with last := y, pc := 3 } : TaskP).cells⟩) (by show S.top ≤ _; omega)
          exact A2.ends (by simp [TaskP.cells]) fun S' k2 k3 k4 => ⟨k2, k3, my.move (by rw [k4 _ lt1, m_wrote_ne (by omega), m_wrote_ne (by omega)]) (by rw [k4 _ lt2, m_wrote_ne (by omega), m_wrote_ne (by omega)])⟩
        clear hend
        have ht1 := fun (m : Nat) (S : St) (pc : Int) => @rTo m S { x with last := y } pc
        rw [hn]
        simp only [hs, numOf] at hsh
        simp only [TaskP.cells, zeroT, chart, if_true] at *
        simp (maxDischargeDepth := 30) [q23, hX1, hX2, hX3, e3, t1, t2, t3, c1, c2, c3, d1, d2, d3, hh, hkk, hsh, hy, ht1, g2]
        exact f1
      · have hn : nextT O x (some y) = { x with pc := 0 } := by simp [nextT, g1]
        have g2 : (O : Int) ≤ y := by omega
        have f1 := hend { x with pc := 0 }
        clear hend
        rw [hn]
        simp only [hs, numOf] at hsh
        simp only [TaskP.cells, zeroT, chart, if_true] at *
        simp (maxDischargeDepth := 30) [q23, hX1, hX2, hX3, e3, t1, t2, t3, c1, c2, c3, d1, d2, d3, hh, hkk, hsh, hy, ht0, g2]
        exact f1
end

end Go.Proofs.YtepddcemoofmlaaGreat.Fast

/- One step of a task, as the reference does it. -/
namespace Go.Proofs.YtepddcemoofmlaaGreat.Fast
open Go Go.Proofs.YtepddcemoofmlaaGreat.AE
set_option maxRecDepth 10000
set_option linter.unusedSimpArgs false
set_option linter.unusedVariables false

/-- The words behind keep. -/
noncomputable def keepW (P N O : Nat) (k : Int) (ws : List Int) (slab obj next : Int) : List Int := match hideP next (keyI k slab) obj with
  | none => ws
  | some w => if inR ws (linkI P N O slab obj) then ws.set (linkI P N O slab obj).toNat w else ws
noncomputable def keepB (P N O : Nat) (k : Int) (ws : List Int) (slab obj next : Int) : Bool := (hideP next (keyI k slab) obj).isSome && inR ws (linkI P N O slab obj)
noncomputable def swapB1 (P : Nat) (ws : List Int) (x : TaskP) (slab obj : Int) : Bool := (headP slab obj).isSome && (inR2 ws (headI P x.cpu) && hit ws (headI P x.cpu).toNat x.h x.t)
noncomputable def swapB2 (P : Nat) (ws : List Int) (x : TaskP) (slab obj : Int) : Bool := (headP slab obj).isSome && inR2 ws (headI P x.cpu)
noncomputable def swapWs (P : Nat) (ws : List Int) (x : TaskP) (slab obj : Int) : List Int := match headP slab obj with
  | none => ws
  | some w => if inR2 ws (headI P x.cpu) then cas2W ws (headI P x.cpu).toNat x.h x.t w (W .u64 (x.t + 1)) else ws

/-- What May says of a task. -/
def mayE (x : TaskP) : Int := if x.en ≠ 0 ∨ x.want ≠ 0 ∨ x.pc < 0 ∨ 13 < x.pc then 292 else 0

section
variable {n : Nat} {S : St} {bm bw P N O : Nat} {mn cp k : Int} {x : TaskP} {ws : List Int} {cnt : Int} (hm : may P N O mn cp = true) (hM : RMem S bm bw ws cnt)
include hm hM

set_option maxHeartbeats 4000000 in
theorem rMayOf (hl0 : 0 < ws.length) : calls table.find (n + 3) 20 [.pointer (some ⟨bm, 0, none⟩), chart P N O mn cp k, .agg x.cells.toArray, .int .i64 0, .int .i64 13] S = some (.int .i64 (mayE x), S, true) := by
  have e3 : S.enter.top = S.top := rfl
  obtain ⟨X1, X2, hX1, hX2, t1, t2, c1, c2, k2, low, aX⟩ := two S (.cells 25 [.int .i64 P, .int .i64 N, .int .i64 O, .int .i64 mn, .int .i64 cp, .int .u64 k]) (.cells 27 x.cells)
  have hk := fun (m : Nat) (S : St) => @uCheck m S P N O mn cp k hm
  have hM2 := hM.move (low _ hM.lt1) (low _ hM.lt2)
  have hb := hM2.2.1
  have hn0 : ((ws.length : Int) == 0) = false := by rw [beq_eq_false_iff_ne]; omega
  have hF := fun e : Int => leave_quiet k2.wr (v := .int .i64 e) (by simp)
  unfold chart at hk
  unfold mayE
  simp only [TaskP.cells, chart] at *
  by_cases f1 : x.en = 0
  · have b1 : (x.en != 0) = false := by simp [f1]
    by_cases f2 : x.want = 0
    · have b2 : (x.want != 0) = false := by simp [f2]
      by_cases f3 : x.pc < 0
      · rw [if_pos (.inr (.inr (.inl f3)))]
        simp (maxDischargeDepth := 30) [q20, hX1, hX2, e3, t1, t2, c1, c2, hb, hn0, hk, hF, b1, b2, f3]
      · by_cases f4 : 13 < x.pc
        · rw [if_pos (.inr (.inr (.inr f4)))]
          simp (maxDischargeDepth := 30) [q20, hX1, hX2, e3, t1, t2, c1, c2, hb, hn0, hk, hF, b1, b2, f3, f4]
        · rw [if_neg (by omega)]
          simp (maxDischargeDepth := 30) [q20, hX1, hX2, e3, t1, t2, c1, c2, hb, hn0, hk, hF, b1, b2, f3, f4]
    · have b2 : (x.want != 0) = true := by simp [f2]
      rw [if_pos (.inr (.inl f2))]
      simp (maxDischargeDepth := 30) [q20, hX1, hX2, e3, t1, t2, c1, c2, hb, hn0, hk, hF, b1, b2]
  · have b1 : (x.en != 0) = true := by simp [f1]
    rw [if_pos (.inl f1)]
    simp (maxDischargeDepth := 30) [q20, hX1, hX2, e3, t1, t2, c1, c2, hb, hn0, hk, hF, b1]

variable (hc : 0 ≤ cnt ∧ cnt < 1000000000000000)
include hc

set_option maxHeartbeats 4000000 in
theorem rKeep {slab obj next : Int} : ∃ cnt', (cnt ≤ cnt' ∧ cnt' ≤ cnt + 1) ∧ EndsIn (calls table.find (n + 7) 24 [.pointer (some ⟨bm, 0, none⟩), chart P N O mn cp k, .int .i64 slab, .int .i64 obj, .int .i64 next] S) (.bool (keepB P N O k ws slab obj next)) fun S' =>
    Aft (fun j => j = bm ∨ j = bw) S S' ∧ S'.top = S.top ∧ RMem S' bm bw (keepW P N O k ws slab obj next) cnt' := by
  have e3 : S.enter.top = S.top := rfl
  have lt1 := hM.lt1
  have lt2 := hM.lt2
  obtain ⟨X1, hX1⟩ : ∃ X, S.enter.push (.cells 25 [.int .i64 P, .int .i64 N, .int .i64 O, .int .i64 mn, .int .i64 cp, .int .u64 k]) = X := ⟨_, rfl⟩
  have t1 : X1.top = S.top + 1 := by rw [← hX1, top_push, top_enter]
  have c1 : X1.at S.top = some (.cells 25 [.int .i64 P, .int .i64 N, .int .i64 O, .int .i64 mn, .int .i64 cp, .int .u64 k]) := by rw [← hX1]; exact m_push_top
  have low : ∀ j, j < S.top → X1.at j = S.at j := fun j hj => by rw [← hX1, push_chain (by exact hj)]; rfl
  have aX : Aft (fun j => j = bm ∨ j = bw) S.enter X1 := by rw [← hX1]; exact (Aft.refl _ S.enter).push _
  have m1 := hM.move (low _ lt1) (low _ lt2)
  have hh := fun (m : Nat) (S : St) => @uLink m S P N O mn cp k hm slab obj
  have hkk := fun (m : Nat) (S : St) => @uKey m S P N O mn cp k slab
  have hhi := fun (m : Nat) (S : St) => @uHide m S next (keyI k slab) obj (word_W _)
  unfold chart at hh hkk
  unfold keepB keepW chart
  cases e : hideP next (keyI k slab) obj with
  | none =>
    refine ⟨cnt, by omega, ?_⟩
    simp only [e, wordOf] at hhi
    simp (maxDischargeDepth := 30) [q24, hX1, e3, t1, c1, hkk, hhi]
    exact aX.ends (by simp) fun S' k2 k3 k4 => ⟨k2, k3, m1.move (k4 _ lt1) (k4 _ lt2)⟩
  | some w =>
    obtain ⟨cnt', hcc, Y, yq, hy, ay, ty, my⟩ := rStore (n := n + 4) (S := X1) (a := linkI P N O slab obj) (v := w) m1 hc
    have A := aX.trans ay fun _ _ h => h
    refine ⟨cnt', hcc, ?_⟩
    simp only [e, wordOf] at hhi
    cases hi : inR ws (linkI P N O slab obj) with
    | true =>
      rw [hi] at hy my
      simp only [if_true] at hy my
      simp (maxDischargeDepth := 30) [q24, hX1, e3, t1, c1, hkk, hhi, hh, hy]
      exact A.ends (by simp) fun S' k2 k3 k4 => ⟨k2, k3, my.move (k4 _ lt1) (k4 _ lt2)⟩
    | false =>
      rw [hi] at hy my
      simp only [Bool.false_eq_true, if_false] at hy my
      simp (maxDischargeDepth := 30) [q24, hX1, e3, t1, c1, hkk, hhi, hh, hy]
      exact A.ends (by simp) fun S' k2 k3 k4 => ⟨k2, k3, my.move (k4 _ lt1) (k4 _ lt2)⟩

set_option maxHeartbeats 4000000 in
theorem rSwap {slab obj : Int} (hl : ws.length ≤ 4096) : ∃ cnt', (cnt ≤ cnt' ∧ cnt' ≤ cnt + 1) ∧ EndsIn (calls table.find (n + 7) 27 [.pointer (some ⟨bm, 0, none⟩), chart P N O mn cp k, .agg x.cells.toArray, .int .i64 slab, .int .i64 obj] S) (.tuple #[.bool (swapB1 P ws x slab obj), .bool (swapB2 P ws x slab obj)]) fun S' =>
    Aft (fun j => j = bm ∨ j = bw) S S' ∧ S'.top = S.top ∧ RMem S' bm bw (swapWs P ws x slab obj) cnt' := by
  have e3 : S.enter.top = S.top := rfl
  have lt1 := hM.lt1
  have lt2 := hM.lt2
  obtain ⟨X1, X2, hX1, hX2, t1, t2, c1, c2, k2, low, aX⟩ := two S (.cells 25 [.int .i64 P, .int .i64 N, .int .i64 O, .int .i64 mn, .int .i64 cp, .int .u64 k]) (.cells 27 x.cells)
  have aX := aX (fun j => j = bm ∨ j = bw)
  have m1 := hM.move (low _ lt1) (low _ lt2)
  have hh := fun (m : Nat) (S : St) => @uHead m S P N O mn cp k hm x.cpu
  have hl := headI_le hm x.cpu
  have hhd := fun (m : Nat) (S : St) => @rHead m S slab obj
  unfold chart at hh
  unfold swapB1 swapB2 swapWs chart
  cases e : headP slab obj with
  | none =>
    refine ⟨cnt, by omega, ?_⟩
    simp only [e, wordOf] at hhd
    simp only [TaskP.cells] at *
    simp (maxDischargeDepth := 30) [q27, hX1, hX2, e3, t1, t2, c1, c2, hhd]
    exact aX.ends (by simp) fun S' k2 k3 k4 => ⟨k2, k3, m1.move (k4 _ lt1) (k4 _ lt2)⟩
  | some w =>
    obtain ⟨cnt', hcc, Y, yq, hy, ay, ty, my⟩ := rCas2 (n := n + 4) (S := X2) (a := headI P x.cpu) (old := x.h) (second := x.t) (to := w) (other := W .u64 (x.t + 1)) m1 (by assumption) hc (by omega)
    have A := aX.trans ay fun _ _ h => h
    refine ⟨cnt', hcc, ?_⟩
    simp only [e, wordOf] at hhd
    simp only [TaskP.cells] at *
    cases hi : inR2 ws (headI P x.cpu) with
    | true =>
      rw [hi] at hy my
      simp only [if_true, Bool.true_and] at hy my
      simp (maxDischargeDepth := 30) [q27, hX1, hX2, e3, t1, t2, c1, c2, hhd, hh, hy]
      exact A.ends (by simp) fun S' k2 k3 k4 => ⟨k2, k3, my.move (k4 _ lt1) (k4 _ lt2)⟩
    | false =>
      rw [hi] at hy my
      simp only [Bool.false_eq_true, if_false, Bool.false_and] at hy my
      simp (maxDischargeDepth := 30) [q27, hX1, hX2, e3, t1, t2, c1, c2, hhd, hh, hy]
      exact A.ends (by simp) fun S' k2 k3 k4 => ⟨k2, k3, my.move (k4 _ lt1) (k4 _ lt2)⟩
end

end Go.Proofs.YtepddcemoofmlaaGreat.Fast

/- One step of a task, as the reference does it: all places. -/
namespace Go.Proofs.YtepddcemoofmlaaGreat.Fast
open Go Go.Proofs.YtepddcemoofmlaaGreat.AE
set_option maxRecDepth 10000
set_option linter.unusedSimpArgs false
set_option linter.unusedVariables false

/-- What a step of the reference comes to. -/
def Steps (d : Nat) (S : St) (bm bw P N O : Nat) (mn cp k : Int) (x : TaskP) (cnt : Int) (x' : TaskP) (ws' : List Int) : Prop :=
  ∃ cnt', (cnt ≤ cnt' ∧ cnt' ≤ cnt + 1) ∧ EndsIn (calls table.find d 7 [.pointer (some ⟨bm, 0, none⟩), chart P N O mn cp k, .agg x.cells.toArray] S) (.tuple #[.agg x'.cells.toArray, .int .i64 0]) fun S' => Aft (fun j => j = bm ∨ j = bw) S S' ∧ S'.top = S.top ∧ RMem S' bm bw ws' cnt'

section
variable {n : Nat} {S : St} {bm bw P N O : Nat} {mn cp k : Int} {x : TaskP} {ws : List Int} {cnt : Int} (hm : may P N O mn cp = true) (hM : RMem S bm bw ws cnt) (hl0 : 0 < ws.length)
include hm hM hl0

set_option maxHeartbeats 8000000 in
theorem rStepIn {f : FuncId} {x' : TaskP} {ws' : List Int} (he : mayE x = 0) (hf : (f = 21 ∧ (x.pc = 0 ∨ x.pc = 10)) ∨ (f = 22 ∧ (x.pc = 1 ∨ x.pc = 11)) ∨ (f = 23 ∧ x.pc = 2))
    (hdo : ∀ S, RMem S bm bw ws cnt → Comes (n + 8) f S bm bw P N O mn cp k x cnt x' ws') : Steps (n + 9) S bm bw P N O mn cp k x cnt x' ws' := by
  have e3 : S.enter.top = S.top := rfl
  have lt1 := hM.lt1
  have lt2 := hM.lt2
  obtain ⟨X1, X2, X3, hX1, hX2, hX3, t1, t2, t3, c1, c2, c3, k3, low, aX⟩ := three S (.cells 25 [.int .i64 P, .int .i64 N, .int .i64 O, .int .i64 mn, .int .i64 cp, .int .u64 k]) (.cells 27 x.cells) (.cells 27 zeroT.cells)
  have m3 := hM.move (low _ lt1) (low _ lt2)
  have hma := @rMayOf (n + 5) X3 bm bw P N O mn cp k x ws cnt hm m3 hl0
  rw [he] at hma
  obtain ⟨cnt', hcc, Y, yq, hy, ay, ty, my⟩ := hdo X3 m3
  have d1 : Y.at S.top = _ := (ay.at' S.top (by omega) (by omega)).trans c1
  have d2 : Y.at (S.top + 1) = _ := (ay.at' (S.top + 1) (by omega) (by omega)).trans c2
  have d3 : Y.at (S.top + 2) = _ := (ay.at' (S.top + 2) (by omega) (by omega)).trans c3
  have A := (aX (fun j => j = bm ∨ j = bw)).trans ay fun _ _ h => h
  have A2 := A.wroteNew (b := S.top + 2) (.cells 27 x'.cells) (.agg ⟨x'.cells⟩) (by show S.top ≤ _; omega)
  have hend : EndsIn (some (leave S (Y.wrote (S.top + 2) (.cells 27 x'.cells) (.agg ⟨x'.cells⟩)) (.tuple #[.agg x'.cells.toArray, .int .i64 0]))) (.tuple #[.agg x'.cells.toArray, .int .i64 0]) fun S' => Aft (fun j => j = bm ∨ j = bw) S S' ∧ S'.top = S.top ∧ RMem S' bm bw ws' cnt' :=
    A2.ends (by simp [TaskP.cells]) fun S' k2 k3 k4 => ⟨k2, k3, my.move (by rw [k4 _ lt1, m_wrote_ne (by omega)]) (by rw [k4 _ lt2, m_wrote_ne (by omega)])⟩
  refine ⟨cnt', hcc, ?_⟩
  rcases hf with ⟨rfl, h | h⟩ | ⟨rfl, h | h⟩ | ⟨rfl, h⟩ <;>
  · simp only [TaskP.cells, zeroT, chart, h] at *
    simp (maxDischargeDepth := 30) [q7, hX1, hX2, hX3, e3, t1, t2, t3, c1, c2, c3, d1, d2, d3, hma, hy]
    exact hend

variable (hc : 0 ≤ cnt ∧ cnt < 1000000000000000)
include hc

set_option maxHeartbeats 8000000 in
theorem rStepTie (he : mayE x = 0) (hpc : x.pc = 12) :
    Steps (n + 9) S bm bw P N O mn cp k x cnt (if keepB P N O k ws x.slab x.obj x.last then { x with pc := 13 } else brk x) (keepW P N O k ws x.slab x.obj x.last) := by
  have e3 : S.enter.top = S.top := rfl
  have lt1 := hM.lt1
  have lt2 := hM.lt2
  obtain ⟨X1, X2, X3, hX1, hX2, hX3, t1, t2, t3, c1, c2, c3, k3, low, aX⟩ := three S (.cells 25 [.int .i64 P, .int .i64 N, .int .i64 O, .int .i64 mn, .int .i64 cp, .int .u64 k]) (.cells 27 x.cells) (.cells 27 zeroT.cells)
  have m3 := hM.move (low _ lt1) (low _ lt2)
  have hma := @rMayOf (n + 5) X3 bm bw P N O mn cp k x ws cnt hm m3 hl0
  rw [he] at hma
  obtain ⟨cnt', hcc, Y, yq, hy, ay, ty, my⟩ := rKeep (n := n + 1) (slab := x.slab) (obj := x.obj) (next := x.last) hm m3 hc
  have d1 : Y.at S.top = _ := (ay.at' S.top (by omega) (by omega)).trans c1
  have d2 : Y.at (S.top + 1) = _ := (ay.at' (S.top + 1) (by omega) (by omega)).trans c2
  have d3 : Y.at (S.top + 2) = _ := (ay.at' (S.top + 2) (by omega) (by omega)).trans c3
  have A := (aX (fun j => j = bm ∨ j = bw)).trans ay fun _ _ h => h
  have hend : ∀ x' : TaskP, EndsIn (some (leave S (Y.wrote (S.top + 2) (.cells 27 x'.cells) (.agg ⟨x'.cells⟩)) (.tuple #[.agg x'.cells.toArray, .int .i64 0]))) (.tuple #[.agg x'.cells.toArray, .int .i64 0]) fun S' => Aft (fun j => j = bm ∨ j = bw) S S' ∧ S'.top = S.top ∧ RMem S' bm bw (keepW P N O k ws x.slab x.obj x.last) cnt' := fun x' =>
    (A.wroteNew (b := S.top + 2) (.cells 27 x'.cells) (.agg ⟨x'.cells⟩) (by show S.top ≤ _; omega)).ends (by simp [TaskP.cells]) fun S' k2 k3 k4 => ⟨k2, k3, my.move (by rw [k4 _ lt1, m_wrote_ne (by omega)]) (by rw [k4 _ lt2, m_wrote_ne (by omega)])⟩
  refine ⟨cnt', hcc, ?_⟩
  have hb := fun (m : Nat) (S : St) => @rBroken m S x
  have ht := fun (m : Nat) (S : St) (pc : Int) => @rTo m S x pc
  have f1 := hend (brk x)
  have f2 := hend { x with pc := 13 }
  clear hend
  generalize keepB P N O k ws x.slab x.obj x.last = b at *
  cases b with
  | false =>
    simp only [TaskP.cells, zeroT, chart, brk, hpc, Bool.false_eq_true, if_false] at *
    simp (maxDischargeDepth := 30) [q7, hX1, hX2, hX3, e3, t1, t2, t3, c1, c2, c3, d1, d2, d3, hma, hy, hb]
    exact f1
  | true =>
    simp only [TaskP.cells, zeroT, chart, brk, hpc, if_true] at *
    simp (maxDischargeDepth := 30) [q7, hX1, hX2, hX3, e3, t1, t2, t3, c1, c2, c3, d1, d2, d3, hma, hy, ht]
    exact f2

set_option maxHeartbeats 8000000 in
theorem rStepSwap {obj back : Int} (hl : ws.length ≤ 4096) (he : mayE x = 0) (hpc : (x.pc = 3 ∧ obj = x.last ∧ back = 0) ∨ (x.pc = 13 ∧ obj = x.obj ∧ back = 10)) :
    Steps (n + 9) S bm bw P N O mn cp k x cnt (if swapB2 P ws x x.slab obj then (if swapB1 P ws x x.slab obj then { x with en := 1 } else { x with pc := back }) else brk x) (swapWs P ws x x.slab obj) := by
  have e3 : S.enter.top = S.top := rfl
  have lt1 := hM.lt1
  have lt2 := hM.lt2
  obtain ⟨X1, X2, X3, hX1, hX2, hX3, t1, t2, t3, c1, c2, c3, k3, low, aX⟩ := three S (.cells 25 [.int .i64 P, .int .i64 N, .int .i64 O, .int .i64 mn, .int .i64 cp, .int .u64 k]) (.cells 27 x.cells) (.cells 27 zeroT.cells)
  have m3 := hM.move (low _ lt1) (low _ lt2)
  have hma := @rMayOf (n + 5) X3 bm bw P N O mn cp k x ws cnt hm m3 hl0
  rw [he] at hma
  obtain ⟨cnt', hcc, Y, yq, hy, ay, ty, my⟩ := rSwap (n := n + 1) (k := k) (x := x) (slab := x.slab) (obj := obj) hm m3 hc hl
  have d1 : Y.at S.top = _ := (ay.at' S.top (by omega) (by omega)).trans c1
  have d2 : Y.at (S.top + 1) = _ := (ay.at' (S.top + 1) (by omega) (by omega)).trans c2
  have d3 : Y.at (S.top + 2) = _ := (ay.at' (S.top + 2) (by omega) (by omega)).trans c3
  have A := (aX (fun j => j = bm ∨ j = bw)).trans ay fun _ _ h => h
  have hend : ∀ x' : TaskP, EndsIn (some (leave S (Y.wrote (S.top + 2) (.cells 27 x'.cells) (.agg ⟨x'.cells⟩)) (.tuple #[.agg x'.cells.toArray, .int .i64 0]))) (.tuple #[.agg x'.cells.toArray, .int .i64 0]) fun S' => Aft (fun j => j = bm ∨ j = bw) S S' ∧ S'.top = S.top ∧ RMem S' bm bw (swapWs P ws x x.slab obj) cnt' := fun x' =>
    (A.wroteNew (b := S.top + 2) (.cells 27 x'.cells) (.agg ⟨x'.cells⟩) (by show S.top ≤ _; omega)).ends (by simp [TaskP.cells]) fun S' k2 k3 k4 => ⟨k2, k3, my.move (by rw [k4 _ lt1, m_wrote_ne (by omega)]) (by rw [k4 _ lt2, m_wrote_ne (by omega)])⟩
  refine ⟨cnt', hcc, ?_⟩
  have hb := fun (m : Nat) (S : St) => @rBroken m S x
  have hd := fun (m : Nat) (S : St) => @rDone m S x
  have ht := fun (m : Nat) (S : St) (pc : Int) => @rTo m S x pc
  have f1 := hend (brk x)
  have f2 := hend { x with en := 1 }
  have f3 := hend { x with pc := back }
  clear hend
  generalize swapB1 P ws x x.slab obj = b1 at *
  generalize swapB2 P ws x x.slab obj = b2 at *
  generalize swapWs P ws x x.slab obj = ws' at *
  rcases hpc with ⟨h, rfl, rfl⟩ | ⟨h, rfl, rfl⟩
  · cases b2 with
    | false =>
      simp only [TaskP.cells, zeroT, chart, brk, h, Bool.false_eq_true, if_false] at *
      simp (maxDischargeDepth := 30) [q7, hX1, hX2, hX3, e3, t1, t2, t3, c1, c2, c3, d1, d2, d3, hma, hy, hb]
      exact f1
    | true =>
      cases b1 with
      | false =>
        simp only [TaskP.cells, zeroT, chart, brk, h, Bool.false_eq_true, if_true, if_false] at *
        simp (maxDischargeDepth := 30) [q7, hX1, hX2, hX3, e3, t1, t2, t3, c1, c2, c3, d1, d2, d3, hma, hy, ht]
        exact f3
      | true =>
        simp only [TaskP.cells, zeroT, chart, brk, h, if_true] at *
        simp (maxDischargeDepth := 30) [q7, hX1, hX2, hX3, e3, t1, t2, t3, c1, c2, c3, d1, d2, d3, hma, hy, hd]
        exact f2
  · cases b2 with
    | false =>
      simp only [TaskP.cells, zeroT, chart, brk, h, Bool.false_eq_true, if_false] at *
      simp (maxDischargeDepth := 30) [q7, hX1, hX2, hX3, e3, t1, t2, t3, c1, c2, c3, d1, d2, d3, hma, hy, hb]
      exact f1
    | true =>
      cases b1 with
      | false =>
        simp only [TaskP.cells, zeroT, chart, brk, h, Bool.false_eq_true, if_true, if_false] at *
        simp (maxDischargeDepth := 30) [q7, hX1, hX2, hX3, e3, t1, t2, t3, c1, c2, c3, d1, d2, d3, hma, hy, ht]
        exact f3
      | true =>
        simp only [TaskP.cells, zeroT, chart, brk, h, if_true] at *
        simp (maxDischargeDepth := 30) [q7, hX1, hX2, hX3, e3, t1, t2, t3, c1, c2, c3, d1, d2, d3, hma, hy, hd]
        exact f2
end

end Go.Proofs.YtepddcemoofmlaaGreat.Fast

/- One step of a task: the reference comes to the same. -/
namespace Go.Proofs.YtepddcemoofmlaaGreat.Fast
open Go Go.Proofs.YtepddcemoofmlaaGreat.AE
set_option maxRecDepth 10000
set_option linter.unusedSimpArgs false
set_option linter.unusedVariables false

section
variable {n : Nat} {S : St} {bm bw P N O : Nat} {mn cp k : Int} {x : TaskP} {ws : List Int} {cnt : Int} (hm : may P N O mn cp = true) (hM : RMem S bm bw ws cnt) (hl0 : 0 < ws.length)

include hm hM hl0

set_option maxHeartbeats 4000000 in
theorem rStep (hl : ws.length ≤ 4096) (hw : ∀ x ∈ ws, Word x) (hc : 0 ≤ cnt ∧ cnt < 1000000000000000) (hok : fastOk x) : Steps (n + 9) S bm bw P N O mn cp k x cnt (fastT P N O k ws x) (fastW P N O k ws x) := by
  obtain ⟨he, hwa, hpc⟩ := hok
  have hmE : mayE x = 0 := by unfold mayE; rw [if_neg (by omega)]
  have conv : ∀ x' ws', Steps (n + 9) S bm bw P N O mn cp k x cnt x' ws' → fastT P N O k ws x = x' → fastW P N O k ws x = ws' → Steps (n + 9) S bm bw P N O mn cp k x cnt (fastT P N O k ws x) (fastW P N O k ws x) := fun x' ws' h e1 e2 => by rw [e1, e2]; exact h
  rcases hpc with h | h | h | h | h | h | h | h
  · have e : fastR P N O k ws x = ({ x with t := ld ws (behindI (headI P x.cpu)), pc := x.pc + 1 }, !inR ws (behindI (headI P x.cpu)), ws) := by simp [fastR, h]
    refine conv _ _ (rStepIn hm hM hl0 hmE (.inl ⟨rfl, .inl h⟩) fun S h' => rTurn (n := n + 1) hm h' hc (by omega)) ?_ ?_
    · unfold fastT; rw [e]; cases inR ws (behindI (headI P x.cpu)) <;> rfl
    · unfold fastW; rw [e]
  · refine conv _ _ (rStepIn hm hM hl0 hmE (.inr (.inl ⟨rfl, .inl h⟩)) fun S h' => rLookAt (n := n + 1) hm h' hw hc h _ rfl) ?_ ?_
    · unfold fastT; cases e : inR ws (headI P x.cpu) <;> cases e2 : headOk N O (ld ws (headI P x.cpu)) <;> simp [fastR, h, e, e2]
    · unfold fastW; simp [fastR, h]
  · refine conv _ _ (rStepIn hm hM hl0 hmE (.inr (.inr ⟨rfl, h⟩)) fun S h' => rNextAt (n := n + 1) hm h' hw hc _ rfl) ?_ ?_
    · unfold fastT; cases e : inR ws (linkI P N O x.slab x.obj) <;> simp [fastR, h, e]
    · unfold fastW; simp [fastR, h]
  · refine conv _ _ (rStepSwap (back := 0) (obj := x.last) hm hM hl0 hc hl hmE (.inl ⟨h, rfl, rfl⟩)) ?_ ?_
    · unfold fastT swapB1 swapB2; cases e : headP x.slab x.last <;> cases e2 : inR2 ws (headI P x.cpu) <;> simp [fastR, h, swapR, e, e2]
    · unfold fastW swapWs; cases e : headP x.slab x.last <;> cases e2 : inR2 ws (headI P x.cpu) <;> simp [fastR, h, swapR, e, e2]
  · have e : fastR P N O k ws x = ({ x with t := ld ws (behindI (headI P x.cpu)), pc := x.pc + 1 }, !inR ws (behindI (headI P x.cpu)), ws) := by simp [fastR, h]
    refine conv _ _ (rStepIn hm hM hl0 hmE (.inl ⟨rfl, .inr h⟩) fun S h' => rTurn (n := n + 1) hm h' hc (by omega)) ?_ ?_
    · unfold fastT; rw [e]; cases inR ws (behindI (headI P x.cpu)) <;> rfl
    · unfold fastW; rw [e]
  · refine conv _ _ (rStepIn hm hM hl0 hmE (.inr (.inl ⟨rfl, .inr h⟩)) fun S h' => rMineAt (n := n + 1) hm h' hw hc h _ rfl) ?_ ?_
    · unfold fastT; cases e : inR ws (headI P x.cpu) <;> cases e2 : headOk N O (ld ws (headI P x.cpu)) <;> simp [fastR, h, e, e2]
    · unfold fastW; simp [fastR, h]
  · refine conv _ _ (rStepTie hm hM hl0 hc hmE h) ?_ ?_
    · unfold fastT keepB; cases e : hideP x.last (keyI k x.slab) x.obj <;> cases e2 : inR ws (linkI P N O x.slab x.obj) <;> simp [fastR, h, tieR, e, e2]
    · unfold fastW keepW; cases e : hideP x.last (keyI k x.slab) x.obj <;> cases e2 : inR ws (linkI P N O x.slab x.obj) <;> simp [fastR, h, tieR, e, e2]
  · refine conv _ _ (rStepSwap (back := 10) (obj := x.obj) hm hM hl0 hc hl hmE (.inr ⟨h, rfl, rfl⟩)) ?_ ?_
    · unfold fastT swapB1 swapB2; cases e : headP x.slab x.obj <;> cases e2 : inR2 ws (headI P x.cpu) <;> simp [fastR, h, swapR, e, e2]
    · unfold fastW swapWs; cases e : headP x.slab x.obj <;> cases e2 : inR2 ws (headI P x.cpu) <;> simp [fastR, h, swapR, e, e2]

set_option maxHeartbeats 4000000 in
theorem rStepBad (hok : ¬ fastOk x) :
    calls table.find (n + 9) 7 [.pointer (some ⟨bm, 0, none⟩), chart P N O mn cp k, .agg x.cells.toArray] S = some (.tuple #[.agg zeroT.cells.toArray, .int .i64 292], S, true) := by
  have e3 : S.enter.top = S.top := rfl
  have lt1 := hM.lt1
  have lt2 := hM.lt2
  obtain ⟨X1, X2, X3, hX1, hX2, hX3, t1, t2, t3, c1, c2, c3, k3, low, aX⟩ := three S (.cells 25 [.int .i64 P, .int .i64 N, .int .i64 O, .int .i64 mn, .int .i64 cp, .int .u64 k]) (.cells 27 x.cells) (.cells 27 zeroT.cells)
  have m3 := hM.move (low _ lt1) (low _ lt2)
  have hma := @rMayOf (n + 5) X3 bm bw P N O mn cp k x ws cnt hm m3 hl0
  have hF := leave_quiet (k3.wrote (b := S.top + 2) (.cells 27 zeroT.cells) (.agg ⟨zeroT.cells⟩) (by omega)).wr (v := .tuple #[.agg zeroT.cells.toArray, .int .i64 292]) (by simp [TaskP.cells])
  by_cases hE : mayE x = 0
  · have h1 : ¬ (x.en ≠ 0 ∨ x.want ≠ 0 ∨ x.pc < 0 ∨ 13 < x.pc) := fun h => by unfold mayE at hE; rw [if_pos h] at hE; omega
    have h2 : 3 < x.pc ∧ x.pc < 10 := by
      refine Decidable.byContradiction fun h2 => hok ⟨by omega, by omega, by omega⟩
    obtain ⟨g1, g2⟩ := h2
    rw [hE] at hma
    simp only [TaskP.cells, zeroT, chart] at *
    simp (maxDischargeDepth := 30) [q7, hX1, hX2, hX3, e3, t1, t2, t3, c1, c2, c3, hma, g1, g2, hF]
  · have hE : mayE x = 292 := by
      unfold mayE at hE ⊢
      split at hE
      · rw [if_pos (by assumption)]
      · exact absurd rfl hE
    rw [hE] at hma
    simp only [TaskP.cells, zeroT, chart] at *
    simp (maxDischargeDepth := 30) [q7, hX1, hX2, hX3, e3, t1, t2, t3, c1, c2, c3, hma, hF]
end

/-! ### a chart that may not be -/
section
variable {n : Nat} {S : St} {bm bw : Nat} {p s o mn cp k : Int} {x : TaskP} {ws : List Int} {cnt : Int}

set_option maxHeartbeats 4000000 in
theorem rStepNoChart (hm : mayR p s o mn cp = false) (hM : RMem S bm bw ws cnt) (hl0 : 0 < ws.length) :
    calls table.find (n + 9) 7 [.pointer (some ⟨bm, 0, none⟩), chart p s o mn cp k, .agg x.cells.toArray] S = some (.tuple #[.agg zeroT.cells.toArray, .int .i64 2], S, true) := by
  have hck := fun (m : Nat) (S : St) => s45 m p s o mn cp k S
  rw [hm] at hck
  have hmay : ∀ (S : St), RMem S bm bw ws cnt → calls table.find (n + 8) 20 [.pointer (some ⟨bm, 0, none⟩), chart p s o mn cp k, .agg x.cells.toArray, .int .i64 0, .int .i64 13] S = some (.int .i64 2, S, true) := by
    intro S hM
    have e3 : S.enter.top = S.top := rfl
    obtain ⟨X1, X2, hX1, hX2, t1, t2, c1, c2, k2, low, aX⟩ := two S (.cells 25 [.int .i64 p, .int .i64 s, .int .i64 o, .int .i64 mn, .int .i64 cp, .int .u64 k]) (.cells 27 x.cells)
    have hM2 := hM.move (low _ hM.lt1) (low _ hM.lt2)
    have hb := hM2.2.1
    have hn0 : ((ws.length : Int) == 0) = false := by rw [beq_eq_false_iff_ne]; omega
    have hF := leave_quiet k2.wr (v := .int .i64 2) (by simp)
    simp only [TaskP.cells, chart, errno] at *
    simp (maxDischargeDepth := 30) [q20, hX1, hX2, e3, t1, t2, c1, c2, hb, hn0, hck, hF]
  have e3 : S.enter.top = S.top := rfl
  have lt1 := hM.lt1
  have lt2 := hM.lt2
  obtain ⟨X1, X2, X3, hX1, hX2, hX3, t1, t2, t3, c1, c2, c3, k3, low, aX⟩ := three S (.cells 25 [.int .i64 p, .int .i64 s, .int .i64 o, .int .i64 mn, .int .i64 cp, .int .u64 k]) (.cells 27 x.cells) (.cells 27 zeroT.cells)
  have hma := hmay X3 (hM.move (low _ lt1) (low _ lt2))
  have hF := leave_quiet (k3.wrote (b := S.top + 2) (.cells 27 zeroT.cells) (.agg ⟨zeroT.cells⟩) (by omega)).wr (v := .tuple #[.agg zeroT.cells.toArray, .int .i64 2]) (by simp [TaskP.cells])
  clear hmay
  simp only [TaskP.cells, zeroT, chart] at *
  simp (maxDischargeDepth := 30) [q7, hX1, hX2, hX3, e3, t1, t2, t3, c1, c2, c3, hma, hF]

set_option maxHeartbeats 4000000 in
theorem sStepNoChart (hm : may p s o mn cp = false) (hM : Mem S bm bw ws cnt) (hl0 : 0 < ws.length) :
    calls table.find (n + 9) 6 [.pointer (some ⟨bm, 0, none⟩), chart p s o mn cp k, .agg x.cells.toArray] S = some (.tuple #[.agg zeroT.cells.toArray, .int .i64 2], S, true) := by
  have hck := fun (m : Nat) (S : St) => s18 m p s o mn cp k S
  rw [hm] at hck
  have e3 : S.enter.top = S.top := rfl
  have lt1 := hM.lt1
  have lt2 := hM.lt2
  obtain ⟨X1, X2, X3, hX1, hX2, hX3, t1, t2, t3, c1, c2, c3, k3, low, aX⟩ := three S (.cells 25 [.int .i64 p, .int .i64 s, .int .i64 o, .int .i64 mn, .int .i64 cp, .int .u64 k]) (.cells 27 x.cells) (.cells 27 zeroT.cells)
  have m3 := hM.move (low _ lt1) (low _ lt2)
  have hlen := fun (m : Nat) => @sLen m X3 bm bw ws cnt m3
  have hn0 : ((ws.length : Int) == 0) = false := by rw [beq_eq_false_iff_ne]; omega
  have hF := leave_quiet (k3.wrote (b := S.top + 2) (.cells 27 zeroT.cells) (.agg ⟨zeroT.cells⟩) (by omega)).wr (v := .tuple #[.agg zeroT.cells.toArray, .int .i64 2]) (by simp [TaskP.cells])
  simp only [TaskP.cells, zeroT, chart, errno] at *
  simp (maxDischargeDepth := 30) [q6, hX1, hX2, hX3, e3, t1, t2, t3, c1, c2, c3, hlen, hn0, hck, hF]
end

end Go.Proofs.YtepddcemoofmlaaGreat.Fast
