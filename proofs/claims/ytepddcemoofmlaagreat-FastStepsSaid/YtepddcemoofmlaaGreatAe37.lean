/- Bits of words that are whole numbers from 0 to below 2^64. -/
import Derived.Test.YtepddcemoofmlaaGreatAe35
namespace Go.Proofs.YtepddcemoofmlaaGreat.AE
open Go

theorem W_nn (n : Int) : 0 ≤ W .u64 n ∧ W .u64 n < 18446744073709551616 := by rw [W_u64]; omega
theorem W_in {n : Int} (h : 0 ≤ n) (h' : n < 18446744073709551616) : W .u64 n = n := by rw [W_u64]; omega

theorem ofNat_u64 {a : Nat} (ha : a < 18446744073709551616) : (BitVec.ofInt 64 (a : Int)).toNat = a := by
  rw [BitVec.toNat_ofInt]; omega

theorem wrapNat {n : Nat} (h : n < 18446744073709551616) : IntKind.u64.wrap (n : Int) = n := by rw [IntKind.wrap_u64]; omega

theorem B_and_nat {a b : Nat} (ha : a < 18446744073709551616) (hb : b < 18446744073709551616) : B .and .u64 a b = ((a &&& b : Nat) : Int) := by
  rw [(B_all .u64 a b).1]
  have : (BitVec.ofInt IntKind.u64.bits (a : Int) &&& BitVec.ofInt IntKind.u64.bits (b : Int)).toNat = a &&& b := by
    show (BitVec.ofInt 64 (a : Int) &&& BitVec.ofInt 64 (b : Int)).toNat = a &&& b
    rw [BitVec.toNat_and, ofNat_u64 ha, ofNat_u64 hb]
  rw [this]
  exact wrapNat (Nat.lt_of_le_of_lt Nat.and_le_left ha)

theorem B_or_nat {a b : Nat} (ha : a < 18446744073709551616) (hb : b < 18446744073709551616) : B .or .u64 a b = ((a ||| b : Nat) : Int) := by
  rw [(B_all .u64 a b).2.1]
  have : (BitVec.ofInt IntKind.u64.bits (a : Int) ||| BitVec.ofInt IntKind.u64.bits (b : Int)).toNat = a ||| b := by
    show (BitVec.ofInt 64 (a : Int) ||| BitVec.ofInt 64 (b : Int)).toNat = a ||| b
    rw [BitVec.toNat_or, ofNat_u64 ha, ofNat_u64 hb]
  rw [this]
  exact wrapNat (Nat.or_lt_two_pow (n := 64) ha hb)

theorem B_xor_nat {a b : Nat} (ha : a < 18446744073709551616) (hb : b < 18446744073709551616) : B .xor .u64 a b = ((a ^^^ b : Nat) : Int) := by
  rw [(B_all .u64 a b).2.2.1]
  have : (BitVec.ofInt IntKind.u64.bits (a : Int) ^^^ BitVec.ofInt IntKind.u64.bits (b : Int)).toNat = a ^^^ b := by
    show (BitVec.ofInt 64 (a : Int) ^^^ BitVec.ofInt 64 (b : Int)).toNat = a ^^^ b
    rw [BitVec.toNat_xor, ofNat_u64 ha, ofNat_u64 hb]
  rw [this]
  exact wrapNat (Nat.xor_lt_two_pow (n := 64) ha hb)

/-- A word: from 0 to below 2^64. -/
def Word (x : Int) : Prop := 0 ≤ x ∧ x < 18446744073709551616

theorem Word.nat {x : Int} (h : Word x) : ∃ a : Nat, x = a ∧ a < 18446744073709551616 := ⟨x.toNat, by have := h.1; omega, by have := h.2; have := h.1; omega⟩
theorem word_W (n : Int) : Word (W .u64 n) := W_nn n
theorem word_xor {a b : Int} (ha : Word a) (hb : Word b) : Word (B .xor .u64 a b) := by
  obtain ⟨m, rfl, hm⟩ := ha.nat
  obtain ⟨n, rfl, hn⟩ := hb.nat
  rw [B_xor_nat hm hn]
  have := Nat.xor_lt_two_pow (n := 64) hm hn
  exact ⟨by omega, by omega⟩
theorem word_or {a b : Int} (ha : Word a) (hb : Word b) : Word (B .or .u64 a b) := by
  obtain ⟨m, rfl, hm⟩ := ha.nat
  obtain ⟨n, rfl, hn⟩ := hb.nat
  rw [B_or_nat hm hn]
  have := Nat.or_lt_two_pow (n := 64) hm hn
  exact ⟨by omega, by omega⟩

/-- Turned twice, it is as it was. -/
theorem xor_twice {a b : Int} (ha : Word a) (hb : Word b) : B .xor .u64 (B .xor .u64 a b) b = a := by
  obtain ⟨m, rfl, hm⟩ := ha.nat
  obtain ⟨n, rfl, hn⟩ := hb.nat
  rw [B_xor_nat hm hn, B_xor_nat (Nat.xor_lt_two_pow (n := 64) hm hn) hn, Nat.xor_assoc, Nat.xor_self, Nat.xor_zero]

theorem and_mask {x : Int} (hx : Word x) (n : Nat) (hn : 2 ^ n - 1 < 18446744073709551616) : B .and .u64 x ((2 ^ n - 1 : Nat) : Int) = x % (2 ^ n : Nat) := by
  obtain ⟨m, rfl, hm⟩ := hx.nat
  rw [B_and_nat hm hn, Nat.and_two_pow_sub_one_eq_mod]
  exact Int.natCast_emod m (2 ^ n)
theorem and_63 {x : Int} (hx : Word x) : B .and .u64 x 63 = x % 64 := and_mask hx 6 (by decide)
theorem and_255 {x : Int} (hx : Word x) : B .and .u64 x 255 = x % 256 := and_mask hx 8 (by decide)

theorem and_pow (m n : Nat) : m &&& 2 ^ n = m / 2 ^ n % 2 * 2 ^ n := by
  have hb : m.testBit n = decide (m / 2 ^ n % 2 = 1) := Nat.testBit_eq_decide_div_mod_eq
  refine Nat.eq_of_testBit_eq fun j => ?_
  rw [Nat.testBit_and, Nat.testBit_two_pow]
  by_cases h : m / 2 ^ n % 2 = 1
  · rw [h, Nat.one_mul, Nat.testBit_two_pow]
    by_cases e : n = j
    · subst e; simp [hb, h]
    · simp [e]
  · have h0 : m / 2 ^ n % 2 = 0 := by omega
    rw [h0, Nat.zero_mul, Nat.zero_testBit]
    by_cases e : n = j
    · subst e; simp [hb, h0]
    · simp [e]

/-- One bit. -/
theorem and_bit {x : Int} (hx : Word x) (n : Nat) (hn : 2 ^ n < 18446744073709551616) : B .and .u64 x ((2 ^ n : Nat) : Int) = (x / (2 ^ n : Nat) % 2) * (2 ^ n : Nat) := by
  obtain ⟨m, rfl, hm⟩ := hx.nat
  rw [B_and_nat hm hn, and_pow, Int.natCast_mul, Int.natCast_emod, Int.natCast_ediv]
  rfl

theorem shr_div {x : Int} {n : Nat} (hn : n ≤ 64) : B .shr .u64 x n = x / (2 ^ n : Nat) := by
  rw [(B_all .u64 x n).2.2.2.2.2]
  have e : min (n : Int).toNat IntKind.u64.bits = n := by show min n 64 = n; omega
  rw [e, Int.fdiv_eq_ediv_of_nonneg]
  · simp
  · exact Int.pow_nonneg (by decide)

theorem shl_mul {x : Int} {n : Nat} (hn : n ≤ 64) : B .shl .u64 x n = W .u64 (x * (2 ^ n : Nat)) := by
  rw [(B_all .u64 x n).2.2.2.2.1]
  have e : min (n : Int).toNat IntKind.u64.bits = n := by show min n 64 = n; omega
  rw [e, wrap_W]; simp
theorem word_shl {x y : Int} : Word (B .shl .u64 x y) := by
  rw [(B_all .u64 x y).2.2.2.2.1, wrap_W]; exact word_W _
theorem word_and {x y : Int} : Word (B .and .u64 x y) := by
  rw [(B_all .u64 x y).1, wrap_W]; exact word_W _
theorem word_shr {x y : Int} (hx : Word x) : Word (B .shr .u64 x y) := by
  rw [(B_all .u64 x y).2.2.2.2.2, Int.fdiv_eq_ediv_of_nonneg _ (Int.pow_nonneg (by decide))]
  have h2 : (0 : Int) < 2 ^ min y.toNat IntKind.u64.bits := Int.pow_pos (by decide)
  have := hx.1; have := hx.2
  refine ⟨Int.ediv_nonneg hx.1 (by omega), Int.lt_of_le_of_lt (Int.ediv_le_self _ hx.1) hx.2⟩

/-- High and low bits side by side. -/
theorem or_add {a b n : Nat} (hb : b < 2 ^ n) (h : a * 2 ^ n + b < 18446744073709551616) : B .or .u64 ((a * 2 ^ n : Nat) : Int) b = ((a * 2 ^ n + b : Nat) : Int) := by
  have h1 : a * 2 ^ n < 18446744073709551616 := by omega
  have h2 : b < 18446744073709551616 := by omega
  rw [B_or_nat h1 h2]
  congr 1
  have := Nat.shiftLeft_add_eq_or_of_lt hb a
  rw [Nat.shiftLeft_eq] at this
  exact this.symm

end Go.Proofs.YtepddcemoofmlaaGreat.AE
