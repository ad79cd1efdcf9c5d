/- What the functions of count and link answer that reckon with words alone. -/
import Derived.Test.YtepddcemoofmlaaGreatFastNodesA
import Derived.Test.YtepddcemoofmlaaGreatAe37
import Derived.Test.YtepddcemoofmlaaGreatFastNodesB
import Derived.Test.YtepddcemoofmlaaGreatAe38
import Derived.Test.YtepddcemoofmlaaGreatAe39
import Derived.Test.YtepddcemoofmlaaGreatFastValid
set_option linter.unusedSimpArgs false
set_option linter.unusedVariables false
namespace Go.Proofs.YtepddcemoofmlaaGreat.Fast
open Go Go.Proofs.YtepddcemoofmlaaGreat.AE
set_option maxRecDepth 10000
set_option linter.unusedSimpArgs false

theorem shl_6 {x : Int} : B .shl .u64 x 6 = W .u64 (x * 64) := shl_mul (n := 6) (by decide)
theorem shr_6 {x : Int} : B .shr .u64 x 6 = x / 64 := shr_div (n := 6) (by decide)
theorem shr_8 {x : Int} : B .shr .u64 x 8 = x / 256 := shr_div (n := 8) (by decide)
theorem or_64 {a b : Int} (ha : 0 ≤ a) (ha' : a < 1000) (hb : 0 ≤ b) (hb' : b < 64) : B .or .u64 (a * 64) b = a * 64 + b := by
  obtain ⟨m, rfl⟩ : ∃ m : Nat, a = m := ⟨a.toNat, by omega⟩
  obtain ⟨k, rfl⟩ : ∃ k : Nat, b = k := ⟨b.toNat, by omega⟩
  have h := or_add (a := m) (b := k) (n := 6) (by omega) (by omega)
  have e1 : ((m * 2 ^ 6 : Nat) : Int) = (m : Int) * 64 := by simp
  have e2 : ((m * 2 ^ 6 + k : Nat) : Int) = (m : Int) * 64 + k := by simp
  rw [e1, e2] at h
  exact h

/-- A word, by its place. -/
def wd (ws : List Int) (i : Nat) : Int := ws[i]?.getD 0

noncomputable section
variable {n : Nat} {S : St}

def isObj (i : Int) : Bool := decide (0 ≤ i) && decide (i < 16)
theorem sObject {i : Int} : calls table.find (n + 1) 95 [.int .i64 i] S = some (.bool (isObj i), S, true) := by
  unfold isObj
  cases e : decide (0 ≤ i) with
  | true => simp (maxDischargeDepth := 30) [q95, e]
  | false => simp (maxDischargeDepth := 30) [q95, e]

def rotP (k x : Int) : Int := B .or .u64 (B .shl .u64 k (B .and .u64 (W .u64 x) 63)) (B .shr .u64 k (W .u64 (64 - B .and .u64 (W .u64 x) 63)))
def turnedP (k i : Int) : Int := W .u64 (rotP k (W .i64 (5 * i)) + W .u64 (W .u64 i * 2654435769))

theorem sRot {k x : Int} : calls table.find (n + 1) 97 [.int .u64 k, .int .i64 x] S = some (.int .u64 (rotP k x), S, true) := by
  have h1 : ¬ B .and .u64 (W .u64 x) 63 < 0 := by have := (@word_and (W .u64 x) 63).1; omega
  have h2 : ¬ W .u64 (64 - B .and .u64 (W .u64 x) 63) < 0 := by have := (W_nn (64 - B .and .u64 (W .u64 x) 63)).1; omega
  simp (maxDischargeDepth := 30) [q97, h1, h2, rotP]

theorem sTurned {k i : Int} : calls table.find (n + 2) 78 [.int .u64 k, .int .i64 i] S = some (.int .u64 (turnedP k i), S, true) := by
  have h := fun (m : Nat) (S : St) => @sRot m S k (W .i64 (5 * i))
  simp (maxDischargeDepth := 30) [q78, h, turnedP]

theorem word_turned (k i : Int) : Word (turnedP k i) := word_W _

/-- What a link shows. -/
def showP (w k i : Int) : Option Int := if isObj i = true ∧ B .xor .u64 w (turnedP k i) ≤ 16 then some (B .xor .u64 w (turnedP k i) - 1) else none

def numOf (x : Option Int) : Value := .tuple #[.int .i64 (x.getD 0), .bool x.isSome]

theorem show_range {w k i y : Int} (hw : Word w) (h : showP w k i = some y) : -1 ≤ y ∧ y < 16 := by
  unfold showP at h
  split at h
  · rename_i hc
    have := (word_xor hw (word_turned k i)).1
    simp only [Option.some.injEq] at h
    omega
  · cases h

theorem sShow {w k i : Int} (hw : Word w) : calls table.find (n + 3) 69 [.int .u64 w, .int .u64 k, .int .i64 i] S = some (numOf (showP w k i), S, true) := by
  have h1 := fun (m : Nat) (S : St) => @sObject m S i
  have h2 := fun (m : Nat) (S : St) => @sTurned m S k i
  unfold showP numOf
  cases e : isObj i with
  | false => simp (maxDischargeDepth := 30) [q69, h1, e]
  | true =>
    have hx := word_xor hw (word_turned k i)
    obtain ⟨x, hxe⟩ : ∃ x, B .xor .u64 w (turnedP k i) = x := ⟨_, rfl⟩
    rw [hxe] at hx ⊢
    by_cases h : x ≤ 16
    · have h3 : ¬ 16 < x := by omega
      have h4 : W .i64 x = x := W_i64 ⟨by have := hx.1; omega, by omega⟩
      have h5 : W .i64 (x - 1) = x - 1 := W_i64 ⟨by have := hx.1; omega, by omega⟩
      simp (maxDischargeDepth := 30) [q69, h1, h2, e, h, h3, h4, h5, hxe]
    · have h3 : 16 < x := by omega
      simp (maxDischargeDepth := 30) [q69, h1, h2, e, h, h3, hxe]

/-! ### count -/
def isSlab (i : Int) : Bool := decide (0 ≤ i) && decide (i < 32)
theorem sSlabMay {i : Int} : calls table.find (n + 1) 81 [.int .i64 i] S = some (.bool (isSlab i), S, true) := by
  unfold isSlab
  cases e : decide (0 ≤ i) with
  | true => simp (maxDischargeDepth := 30) [q81, e]
  | false => simp (maxDischargeDepth := 30) [q81, e]

/-- The word of a slab and an object. -/
def headP (s i : Int) : Option Int :=
  if s = -1 ∧ i = -1 then some 0 else if (0 ≤ s ∧ s < 32) ∧ -1 ≤ i ∧ i < 16 then some ((s + 1) * 64 + (i + 1)) else none
def wordOf (x : Option Int) : Value := .tuple #[.int .u64 (x.getD 0), .int .i64 (if x.isSome then 0 else 2)]

theorem sHead {s i : Int} : calls table.find (n + 2) 60 [.int .i64 s, .int .i64 i] S = some (wordOf (headP s i), S, true) := by
  have h1 := fun (m : Nat) (S : St) => @sSlabMay m S s
  by_cases e0 : s = -1 ∧ i = -1
  · obtain ⟨rfl, rfl⟩ := e0
    simp (maxDischargeDepth := 30) [q60, headP, wordOf]
  · have b1 : (s == -1 && i == -1) = false := by simpa using e0
    by_cases e1 : 0 ≤ s ∧ s < 32
    · have hs : isSlab s = true := by simp [isSlab, e1]
      by_cases e2 : -1 ≤ i ∧ i < 16
      · have w1 : W .i64 (s + 1) = s + 1 := W_i64 (by omega)
        have w2 : W .i64 (i + 1) = i + 1 := W_i64 (by omega)
        have w3 : W .u64 (s + 1) = s + 1 := W_in (by omega) (by omega)
        have w4 : W .u64 (i + 1) = i + 1 := W_in (by omega) (by omega)
        have w5 : W .u64 ((s + 1) * 64) = (s + 1) * 64 := W_in (by omega) (by omega)
        have w6 := or_64 (a := s + 1) (b := i + 1) (by omega) (by omega) (by omega) (by omega)
        have f1 : ¬ i < -1 := by omega
        have f2 : ¬ 16 ≤ i := by omega
        have hv : headP s i = some ((s + 1) * 64 + (i + 1)) := by unfold headP; rw [if_neg e0, if_pos ⟨e1, e2⟩]
        rw [hv]
        by_cases e3 : s = -1
        · omega
        · have b2 : (s == -1) = false := by simp [e3]
          simp (maxDischargeDepth := 30) [q60, wordOf, h1, hs, e3, b2, f1, f2, shl_6, w1, w2, w3, w4, w5, w6]
      · have hv : headP s i = none := by unfold headP; rw [if_neg e0, if_neg (fun h => e2 h.2)]
        rw [hv]
        have b2 : (s == -1) = false := by simp; omega
        by_cases f1 : i < -1
        · simp (maxDischargeDepth := 30) [q60, wordOf, h1, hs, b2, f1]
        · have f2 : 16 ≤ i := by omega
          simp (maxDischargeDepth := 30) [q60, wordOf, h1, hs, b2, f1, f2]
    · have hs : isSlab s = false := by simp only [isSlab]; rw [Bool.eq_false_iff]; simp; omega
      have hv : headP s i = none := by unfold headP; rw [if_neg e0, if_neg (fun h => e1 h.1)]
      rw [hv]
      by_cases e3 : s = -1
      · have b2 : (s == -1) = true := by simp [e3]
        have b3 : (i == -1) = false := by simp; omega
        simp (maxDischargeDepth := 30) [q60, wordOf, h1, hs, b2, b3]
      · have b2 : (s == -1) = false := by simp [e3]
        simp (maxDischargeDepth := 30) [q60, wordOf, h1, hs, b2]

/-- What a head says. -/
def headOfP (w : Int) : Option (Int × Int) :=
  if w = 0 then some (-1, -1) else if w ≤ 4095 ∧ (1 ≤ w / 64 ∧ w / 64 ≤ 32) ∧ w % 64 ≤ 16 then some (w / 64 - 1, w % 64 - 1) else none
def pairOf (x : Option (Int × Int)) (b : Int) : Value := .tuple #[.int .i64 ((x.map (·.1)).getD (-1)), .int .i64 ((x.map (·.2)).getD b), .bool x.isSome]

theorem head_inv {w : Int} (hw : Word w) (h : w ≤ 4095) : (headP (w / 64 - 1) (w % 64 - 1)).isSome = (headOfP w).isSome := by
  have := hw.1
  unfold headP headOfP
  by_cases h0 : w = 0
  · subst h0; simp
  · rw [if_neg (by omega), if_neg h0]
    by_cases h1 : (1 ≤ w / 64 ∧ w / 64 ≤ 32) ∧ w % 64 ≤ 16
    · rw [if_pos (by omega), if_pos ⟨h, h1⟩]; rfl
    · rw [if_neg (by omega), if_neg (fun k => h1 k.2)]; rfl

theorem sHeadOf {w : Int} (hw : Word w) : calls table.find (n + 5) 94 [.int .u64 w] S = some (pairOf (headOfP w) (-1), S, true) := by
  have w0 := hw.1
  have w9 := hw.2
  by_cases h : w ≤ 4095
  · have h1 : ¬ 4095 < w := by omega
    have hh := fun (m : Nat) (S : St) => @sHead m S (w / 64 - 1) (w % 64 - 1)
    have w1 : W .i64 (w / 64) = w / 64 := W_i64 (by omega)
    have w2 : W .i64 (w / 64 - 1) = w / 64 - 1 := W_i64 (by omega)
    have w3 : W .i64 (w % 64) = w % 64 := W_i64 (by omega)
    have w4 : W .i64 (w % 64 - 1) = w % 64 - 1 := W_i64 (by omega)
    have hi := head_inv hw h
    cases hp : headOfP w with
    | none =>
      rw [hp] at hi
      have hn : headP (w / 64 - 1) (w % 64 - 1) = none := by simpa using hi
      simp (maxDischargeDepth := 30) [q94, q106, q107, hh, hn, wordOf, pairOf, shr_6, and_63 hw, w1, w2, w3, w4, h1]
    | some p =>
      rw [hp] at hi
      obtain ⟨v, hv⟩ : ∃ v, headP (w / 64 - 1) (w % 64 - 1) = some v := Option.isSome_iff_exists.1 hi
      have hpe : p = (w / 64 - 1, w % 64 - 1) := by
        unfold headOfP at hp
        split at hp
        · rename_i h0; subst h0; simpa using hp.symm
        · split at hp
          · simpa using hp.symm
          · cases hp
      subst hpe
      simp (maxDischargeDepth := 30) [q94, q106, q107, hh, hv, wordOf, pairOf, shr_6, and_63 hw, w1, w2, w3, w4, h1]
  · have h1 : 4095 < w := by omega
    have hp : headOfP w = none := by unfold headOfP; rw [if_neg (by omega), if_neg (fun k => h k.1)]
    rw [hp]
    simp (maxDischargeDepth := 30) [q94, q106, pairOf, h1]

/-- The word of a slab, and how many stand in a list from it on. -/
def partP (s m : Int) : Option Int :=
  if s = -1 ∧ m = 0 then some 0 else if (0 ≤ s ∧ s < 32) ∧ 1 ≤ m ∧ m ≤ 63 then some (m * 64 + (s + 1)) else none

theorem sPart {s m : Int} : calls table.find (n + 2) 114 [.int .i64 s, .int .i64 m] S = some (wordOf (partP s m), S, true) := by
  have h1 := fun (k : Nat) (S : St) => @sSlabMay k S s
  by_cases e0 : s = -1 ∧ m = 0
  · obtain ⟨rfl, rfl⟩ := e0
    simp (maxDischargeDepth := 30) [q114, partP, wordOf]
  · by_cases e1 : 0 ≤ s ∧ s < 32
    · have hs : isSlab s = true := by simp [isSlab, e1]
      have b2 : (s == -1) = false := by simp; omega
      by_cases e2 : 1 ≤ m ∧ m ≤ 63
      · have w1 : W .i64 (s + 1) = s + 1 := W_i64 (by omega)
        have w3 : W .u64 (s + 1) = s + 1 := W_in (by omega) (by omega)
        have w4 : W .u64 m = m := W_in (by omega) (by omega)
        have w5 : W .u64 (m * 64) = m * 64 := W_in (by omega) (by omega)
        have w6 := or_64 (a := m) (b := s + 1) (by omega) (by omega) (by omega) (by omega)
        have f1 : ¬ m < 1 := by omega
        have f2 : ¬ 63 < m := by omega
        have hv : partP s m = some (m * 64 + (s + 1)) := by unfold partP; rw [if_neg e0, if_pos ⟨e1, e2⟩]
        rw [hv]
        simp (maxDischargeDepth := 30) [q114, wordOf, h1, hs, b2, f1, f2, shl_6, w1, w3, w4, w5, w6]
      · have hv : partP s m = none := by unfold partP; rw [if_neg e0, if_neg (fun h => e2 h.2)]
        rw [hv]
        by_cases f1 : m < 1
        · simp (maxDischargeDepth := 30) [q114, wordOf, h1, hs, b2, f1]
        · have f2 : 63 < m := by omega
          simp (maxDischargeDepth := 30) [q114, wordOf, h1, hs, b2, f1, f2]
    · have hs : isSlab s = false := by simp only [isSlab]; rw [Bool.eq_false_iff]; simp; omega
      have hv : partP s m = none := by unfold partP; rw [if_neg e0, if_neg (fun h => e1 h.1)]
      rw [hv]
      by_cases e3 : s = -1
      · have b2 : (s == -1) = true := by simp [e3]
        have b3 : (m == 0) = false := by simp; omega
        simp (maxDischargeDepth := 30) [q114, wordOf, h1, hs, b2, b3]
      · have b2 : (s == -1) = false := by simp [e3]
        simp (maxDischargeDepth := 30) [q114, wordOf, h1, hs, b2]

/-- What a part says. -/
def partOfP (w : Int) : Option (Int × Int) :=
  if w = 0 then some (-1, 0) else if w ≤ 4095 ∧ 1 ≤ w / 64 ∧ 1 ≤ w % 64 ∧ w % 64 ≤ 32 then some (w % 64 - 1, w / 64) else none

theorem part_inv {w : Int} (hw : Word w) (h : w ≤ 4095) : (partP (w % 64 - 1) (w / 64)).isSome = (partOfP w).isSome := by
  have := hw.1
  unfold partP partOfP
  by_cases h0 : w = 0
  · subst h0; simp
  · rw [if_neg (by omega), if_neg h0]
    by_cases h1 : 1 ≤ w / 64 ∧ 1 ≤ w % 64 ∧ w % 64 ≤ 32
    · rw [if_pos (by omega), if_pos ⟨h, h1⟩]; rfl
    · rw [if_neg (by omega), if_neg (fun k => h1 k.2)]; rfl

theorem sPartOf {w : Int} (hw : Word w) : calls table.find (n + 5) 110 [.int .u64 w] S = some (pairOf (partOfP w) 0, S, true) := by
  have w0 := hw.1
  have w9 := hw.2
  by_cases h : w ≤ 4095
  · have h1 : ¬ 4095 < w := by omega
    have hh := fun (m : Nat) (S : St) => @sPart m S (w % 64 - 1) (w / 64)
    have w1 : W .i64 (w / 64) = w / 64 := W_i64 (by omega)
    have w3 : W .i64 (w % 64) = w % 64 := W_i64 (by omega)
    have w4 : W .i64 (w % 64 - 1) = w % 64 - 1 := W_i64 (by omega)
    have hi := part_inv hw h
    cases hp : partOfP w with
    | none =>
      rw [hp] at hi
      have hn : partP (w % 64 - 1) (w / 64) = none := by simpa using hi
      simp (maxDischargeDepth := 30) [q110, q106, q113, hh, hn, wordOf, pairOf, shr_6, and_63 hw, w1, w3, w4, h1]
    | some p =>
      rw [hp] at hi
      obtain ⟨v, hv⟩ : ∃ v, partP (w % 64 - 1) (w / 64) = some v := Option.isSome_iff_exists.1 hi
      have hpe : p = (w % 64 - 1, w / 64) := by
        unfold partOfP at hp
        split at hp
        · rename_i h0; subst h0; simpa using hp.symm
        · split at hp
          · simpa using hp.symm
          · cases hp
      subst hpe
      simp (maxDischargeDepth := 30) [q110, q106, q113, hh, hv, wordOf, pairOf, shr_6, and_63 hw, w1, w3, w4, h1]
  · have h1 : 4095 < w := by omega
    have hp : partOfP w = none := by unfold partOfP; rw [if_neg (by omega), if_neg (fun k => h k.1)]
    rw [hp]
    simp (maxDischargeDepth := 30) [q110, q106, pairOf, h1]

/-- May counts be? -/
def cMay (u o : Int) (f l : Bool) : Bool := (l && decide (1 ≤ o) && decide (o ≤ 16) && decide (0 ≤ u) && decide (u ≤ o)) || (u == 0 && (o == 0 && (f == false && l == false)))

theorem sMay {u o : Int} {f l : Bool} : calls table.find (n + 1) 82 [.agg #[.int .i64 u, .int .i64 o, .bool f, .bool l]] S = some (.bool (cMay u o f l), S, true) := by
  unfold cMay
  cases l with
  | false => simp (maxDischargeDepth := 30) [q82]
  | true =>
    cases e1 : decide (1 ≤ o) with
    | false => simp (maxDischargeDepth := 30) [q82, e1]
    | true =>
    cases e2 : decide (o ≤ 16) with
    | false => simp (maxDischargeDepth := 30) [q82, e1, e2]
    | true =>
    cases e3 : decide (0 ≤ u) with
    | false => simp (maxDischargeDepth := 30) [q82, e1, e2, e3]
    | true =>
    cases e4 : decide (u ≤ o) with
    | false => simp (maxDischargeDepth := 30) [q82, e1, e2, e3, e4]
    | true => simp (maxDischargeDepth := 30) [q82, e1, e2, e3, e4]

structure CountsP where
  inuse : Int
  objects : Int
  frozen : Bool
  live : Bool

def CountsP.cells (c : CountsP) : List Value := [.int .i64 c.inuse, .int .i64 c.objects, .bool c.frozen, .bool c.live]
def readC (w : Int) : CountsP := ⟨w % 256, w / 256 % 256, decide (w / 65536 % 2 = 1), decide (w / 131072 % 2 = 1)⟩
/-- What a slab's word says. -/
def countsP (w : Int) : Option CountsP := if w < 262144 ∧ cMay (readC w).inuse (readC w).objects (readC w).frozen (readC w).live = true then some (readC w) else none
def countsOf (x : Option CountsP) : Value := .tuple #[.agg (x.getD ⟨0, 0, false, false⟩).cells.toArray, .bool x.isSome]

theorem bit_16 {w : Int} (hw : Word w) : (B .and .u64 w 65536 != 0) = decide (w / 65536 % 2 = 1) := by
  have h : B .and .u64 w 65536 = w / 65536 % 2 * 65536 := and_bit hw 16 (by decide)
  rw [h, Bool.eq_iff_iff]; simp; omega
theorem bit_17 {w : Int} (hw : Word w) : (B .and .u64 w 131072 != 0) = decide (w / 131072 % 2 = 1) := by
  have h : B .and .u64 w 131072 = w / 131072 % 2 * 131072 := and_bit hw 17 (by decide)
  rw [h, Bool.eq_iff_iff]; simp; omega

theorem sCounts {w : Int} (hw : Word w) : calls table.find (n + 2) 104 [.int .u64 w] S = some (countsOf (countsP w), S, true) := by
  have w0 := hw.1
  have hm := fun (k : Nat) (S : St) => @sMay k S (readC w).inuse (readC w).objects (readC w).frozen (readC w).live
  have w1 : W .i64 (w % 256) = w % 256 := W_i64 (by omega)
  have w2 : W .i64 (w / 256 % 256) = w / 256 % 256 := W_i64 (by omega)
  have hw8 : Word (w / 256) := by have := word_shr (y := 8) hw; rwa [shr_8] at this
  have a1 := and_255 hw8
  have a2 := and_255 hw
  have a3 := bit_16 hw
  have a4 := bit_17 hw
  simp only [readC] at hm
  by_cases h : w < 262144
  · have h1 : ¬ 262144 ≤ w := by omega
    cases e : cMay (w % 256) (w / 256 % 256) (decide (w / 65536 % 2 = 1)) (decide (w / 131072 % 2 = 1)) with
    | false =>
      have hc : countsP w = none := by unfold countsP; rw [if_neg (by simp [readC, e])]
      rw [hc]
      simp (maxDischargeDepth := 30) [q104, countsOf, CountsP.cells, hm, e, h1, shr_8, a1, a2, a3, a4, w1, w2]
    | true =>
      have hc : countsP w = some (readC w) := by unfold countsP; rw [if_pos ⟨h, by simp [readC, e]⟩]
      rw [hc]
      simp (maxDischargeDepth := 30) [q104, countsOf, CountsP.cells, readC, hm, e, h1, shr_8, a1, a2, a3, a4, w1, w2]
  · have h1 : 262144 ≤ w := by omega
    have hc : countsP w = none := by unfold countsP; rw [if_neg (fun k => h k.1)]
    rw [hc]
    simp (maxDischargeDepth := 30) [q104, countsOf, CountsP.cells, h1, shr_8, a1, a2, a3, a4, w1, w2]
end

end Go.Proofs.YtepddcemoofmlaaGreat.Fast

/- What a memory's functions answer, and do. -/
namespace Go.Proofs.YtepddcemoofmlaaGreat.Fast
open Go Go.Proofs.YtepddcemoofmlaaGreat.AE
set_option maxRecDepth 10000
set_option linter.unusedSimpArgs false
set_option linter.unusedVariables false

/-- A memory: its own block, its words' block, its words, how many accesses there were. -/
def Mem (S : St) (bm bw : Nat) (ws : List Int) (cnt : Int) : Prop :=
  bm ≠ bw ∧ S.at bm = some (.cells 48 [.slice (some ⟨bw, 0, none⟩) ws.length 0, .int .i64 cnt]) ∧ S.at bw = some (.cells 23 (ws.map (Value.int .u64)))

theorem Mem.move {S S' : St} {bm bw : Nat} {ws : List Int} {cnt : Int} (h : Mem S bm bw ws cnt) (h1 : S'.at bm = S.at bm) (h2 : S'.at bw = S.at bw) : Mem S' bm bw ws cnt :=
  ⟨h.1, h1.trans h.2.1, h2.trans h.2.2⟩
theorem Mem.push {S : St} {bm bw : Nat} {ws : List Int} {cnt : Int} (h : Mem S bm bw ws cnt) (o : AObj) : Mem (S.push o) bm bw ws cnt :=
  h.move (m_push (by rw [h.2.1]; rfl)) (m_push (by rw [h.2.2]; rfl))
theorem Mem.wrote {S : St} {bm bw b : Nat} {ws : List Int} {cnt : Int} (h : Mem S bm bw ws cnt) (o : AObj) (v : Value) (h1 : b ≠ bm) (h2 : b ≠ bw) : Mem (S.wrote b o v) bm bw ws cnt :=
  h.move (m_wrote_ne h1) (m_wrote_ne h2)
theorem Mem.lt1 {S : St} {bm bw : Nat} {ws : List Int} {cnt : Int} (h : Mem S bm bw ws cnt) : bm < S.top := lt_top h.2.1
theorem Mem.lt2 {S : St} {bm bw : Nat} {ws : List Int} {cnt : Int} (h : Mem S bm bw ws cnt) : bw < S.top := lt_top h.2.2

theorem cut_words {S : St} {bw a many len : Nat} {c : List Value} (hb : S.at bw = some (.cells 23 c)) (hc : c.length = len) (ha : a + many ≤ len) (hm : 0 < many) :
    cutS S.at 23 ⟨bw, 0, none⟩ len (a : Int) ((a : Int) + (many : Int)) = some (.slice (some ⟨bw, a, none⟩) many 0) := by
  have h : AE.rowAt S.at 23 bw = some c := by unfold AE.rowAt; rw [hb]; rfl
  simp only [cutS, h]
  rw [if_pos ⟨by omega, by omega, by omega, by omega, .inr (by omega)⟩]
  simp
  omega

section
variable {n : Nat} {S : St} {bm bw : Nat} {ws : List Int} {cnt : Int}

/-- One access more. -/
def once (S : St) (bm bw len : Nat) (cnt : Int) : St := S.wrote bm (.cells 48 [.slice (some ⟨bw, 0, none⟩) len 0, .int .i64 cnt]) (.int .i64 cnt)

set_option maxHeartbeats 4000000 in
theorem sAccess {a many : Nat} {f : FuncId} {caps : List Value} {D : Nat → Prop} {S2 : St} {q2 : Bool} (hM : Mem S bm bw ws cnt) (ha : a + many ≤ ws.length) (hm : 0 < many) (hl : ws.length ≤ 4096) (hc : W .i64 (cnt + 1) = cnt + 1)
    (hdo : calls table.find n f (.slice (some ⟨bw, a, none⟩) many 0 :: caps) (once S.enter bm bw ws.length (cnt + 1)) = some (.tuple #[], S2, q2)) (hA : Aft D (once S.enter bm bw ws.length (cnt + 1)) S2) :
    EndsIn (calls table.find (n + 1) 35 [.pointer (some ⟨bm, 0, none⟩), .int .i64 a, .int .i64 many, .func (.func f) #[] caps.toArray] S) (.int .i64 0) fun S' =>
      Aft (fun j => j = bm ∨ D j) S S' ∧ S'.top = S.top ∧ ∀ j, j < S.top → S'.at j = S2.at j := by
  refine call_rd (x := fun y => EndsIn y (.int .i64 0) fun S' => Aft (fun j => j = bm ∨ D j) S S' ∧ S'.top = S.top ∧ ∀ j, j < S.top → S'.at j = S2.at j) (args := [.pointer (some ⟨bm, 0, none⟩), .int .i64 a, .int .i64 many, .func (.func f) #[] caps.toArray]) b35 (by simp) fun R hR hargs => ?_
  have r0 : rd R 0 = .pointer (some ⟨bm, 0, none⟩) := hargs 0 (by simp)
  have r1 : rd R 1 = .int .i64 a := hargs 1 (by simp)
  have r2 : rd R 2 = .int .i64 many := hargs 2 (by simp)
  have r3 : rd R 3 = .func (.func f) #[] caps.toArray := hargs 3 (by simp)
  clear hargs
  obtain ⟨h1, h2, h3⟩ := hM
  have w1 : W .i64 ((ws.length : Int) - many) = (ws.length : Int) - many := W_i64 (by omega)
  have w2 : W .i64 ((a : Int) + many) = (a : Int) + many := W_i64 (by omega)
  have e1 : ¬ (a : Int) < 0 := by omega
  have e2 : ¬ (ws.length : Int) - many < a := by omega
  have hcut := cut_words (S := once S.enter bm bw ws.length (cnt + 1)) (bw := bw) (a := a) (many := many) (len := ws.length) (c := ws.map (Value.int .u64)) (by unfold once; rw [m_wrote_ne h1]; exact h3) (by simp) ha hm
  unfold once at hcut hdo hA
  simp (maxDischargeDepth := 30) [hR, r0, r1, r2, r3, h2, w1, w2, e1, e2, hc, hcut, hdo]
  have k1 : Aft (fun j => j = bm ∨ D j) S.enter S2 := Aft.trans (D' := D) ((Aft.refl _ S.enter).wroteOld _ (.inl rfl) (by simp)) hA fun j _ h => .inr h
  exact k1.ends (by simp) fun S' k2 k3 k4 => ⟨k2, k3, k4⟩

set_option maxHeartbeats 4000000 in
theorem sAccessNo {a : Int} {many : Nat} {g : Value} (hM : Mem S bm bw ws cnt) (ha : a < 0 ∨ (ws.length : Int) - many < a) (hm : many ≤ 2) (hl : ws.length ≤ 4096) (ha' : -9223372036854775808 ≤ a ∧ a ≤ 9223372036854775807) :
    calls table.find (n + 1) 35 [.pointer (some ⟨bm, 0, none⟩), .int .i64 a, .int .i64 many, g] S = some (.int .i64 9, S, true) := by
  obtain ⟨h1, h2, h3⟩ := hM
  have w1 : W .i64 ((ws.length : Int) - many) = (ws.length : Int) - many := W_i64 (by omega)
  by_cases e1 : a < 0
  · simp (maxDischargeDepth := 30) [q35, h2, w1, e1]
  · have e2 : (ws.length : Int) - many < a := by omega
    simp (maxDischargeDepth := 30) [q35, h2, w1, e1, e2]

theorem wd_get {a : Nat} (ha : a < ws.length) : (ws.map (Value.int .u64))[a]? = some (.int .u64 (wd ws a)) := by simp [wd, ha]

/-- The little function that reads. -/
theorem sLoad1 {a b : Nat} {x : Value} (hw : S.at bw = some (.cells 23 (ws.map (Value.int .u64)))) (hb : S.at b = some (.cells 23 [x])) (ha : a < ws.length) :
    EndsIn (calls table.find (n + 1) 105 [.slice (some ⟨bw, a, none⟩) 1 0, .pointer (some ⟨b, 0, none⟩)] S) (.tuple #[]) fun S' => Aft (fun j => j = b) S S' ∧ S'.top = S.top ∧ S'.at b = some (.cells 23 [.int .u64 (wd ws a)]) := by
  have hg : ∀ h : a < ws.length, ws[a] = wd ws a := fun h => by simp [wd, h]
  simp (maxDischargeDepth := 30) [q105, hw, hb, ha, hg]
  refine ((Aft.refl (fun j => j = b) S.enter).wroteOld (b := b) (.cells 23 [.int .u64 (wd ws a)]) (v := .int .u64 (wd ws a)) rfl (by simp)).ends (by simp [refsLt, refsLtA, refsLtL]) fun S' k2 k3 k4 => ⟨k2, k3, ?_⟩
  rw [k4 b (lt_top hb), m_wrote (by rw [m_enter, hb]; rfl)]

set_option maxHeartbeats 4000000 in
theorem sLoad {a : Nat} (hM : Mem S bm bw ws cnt) (ha : a < ws.length) (hl : ws.length ≤ 4096) (hc : W .i64 (cnt + 1) = cnt + 1) :
    EndsIn (calls table.find (n + 3) 93 [.pointer (some ⟨bm, 0, none⟩), .int .i64 a] S) (.tuple #[.int .u64 (wd ws a), .int .i64 0]) fun S' => Aft (fun j => j = bm) S S' ∧ S'.top = S.top ∧ Mem S' bm bw ws (cnt + 1) := by
  obtain ⟨U, hU⟩ : ∃ U, S.enter.push (.cells 23 [.int .u64 0]) = U := ⟨_, rfl⟩
  have tU : U.top = S.top + 1 := by rw [← hU, top_push, top_enter]
  have mU : Mem U bm bw ws cnt := by rw [← hU]; exact Mem.push (S := S.enter) hM _
  have bU : U.at S.top = some (.cells 23 [.int .u64 0]) := by rw [← hU]; exact m_push_top
  have lt1 := hM.lt1
  have lt2 := hM.lt2
  have n1 := hM.1
  have hO : ∀ j, j ≠ bm → (once U.enter bm bw ws.length (cnt + 1)).at j = U.at j := fun j hj => by unfold once; rw [m_wrote_ne (fun e => hj e.symm)]; rfl
  obtain ⟨S2, q2, h1, a1, t1, b1⟩ := sLoad1 (n := n) (S := once U.enter bm bw ws.length (cnt + 1)) (bw := bw) (ws := ws) (a := a) (b := S.top) (x := .int .u64 0) (by rw [hO _ (by omega)]; exact mU.2.2) (by rw [hO _ (by omega)]; exact bU) ha
  obtain ⟨S3, q3, h2, a2, t2, b2⟩ := sAccess (n := n + 1) (S := U) (a := a) (many := 1) (f := 105) (caps := [.pointer (some ⟨S.top, 0, none⟩)]) mU (by omega) (by omega) hl hc h1 a1
  have hmm : S2.at bm = some (.cells 48 [.slice (some ⟨bw, 0, none⟩) ws.length 0, .int .i64 (cnt + 1)]) := by
    have ht : bm < (once U.enter bm bw ws.length (cnt + 1)).top := by unfold once; rw [top_wrote, top_enter, tU]; omega
    rw [a1.at' bm ht (by omega)]
    unfold once
    rw [m_wrote (by rw [m_enter, mU.2.1]; rfl)]
  have hww : S2.at bw = some (.cells 23 (ws.map (Value.int .u64))) := by
    have ht : bw < (once U.enter bm bw ws.length (cnt + 1)).top := by unfold once; rw [top_wrote, top_enter, tU]; omega
    rw [a1.at' bw ht (by omega), hO _ (by omega)]; exact mU.2.2
  have c3 : S3.at S.top = some (.cells 23 [.int .u64 (wd ws a)]) := by rw [b2 _ (by omega)]; exact b1
  have k0 : Aft (fun j => j = bm) S.enter S3 := by
    have k : Aft (fun j => j = bm ∨ j = S.top) S.enter U := by rw [← hU]; exact (Aft.refl _ S.enter).push _
    exact (k.trans a2 fun j _ h => h).more fun j hj h => by
      have hj' : j < S.top := hj
      rcases h with h | h
      · exact h
      · omega
  have k1 : Aft (fun j => j = bm) S.enter (S3.wrote S.top (.cells 23 [.int .u64 (wd ws a)]) (.int .u64 (wd ws a))) := k0.wroteNew _ _ (Nat.le_refl _)
  have e3 : S.enter.top = S.top := rfl
  rw [show ((1 : Nat) : Int) = 1 from rfl] at h2
  simp (maxDischargeDepth := 30) [q93, hU, e3, h2, c3]
  refine k1.ends (by simp) fun S' k2 k3 k4 => ⟨k2, k3, n1, ?_, ?_⟩
  · rw [k4 _ lt1, m_wrote_ne (by omega), b2 _ (by omega), hmm]
  · rw [k4 _ lt2, m_wrote_ne (by omega), b2 _ (by omega), hww]

set_option maxHeartbeats 4000000 in
theorem sLoadNo {a : Int} (hM : Mem S bm bw ws cnt) (ha : a < 0 ∨ (ws.length : Int) ≤ a) (hl : ws.length ≤ 4096) (ha' : -9223372036854775808 ≤ a ∧ a ≤ 9223372036854775807) :
    calls table.find (n + 3) 93 [.pointer (some ⟨bm, 0, none⟩), .int .i64 a] S = some (.tuple #[.int .u64 0, .int .i64 9], S, true) := by
  have h := fun (g : Value) => @sAccessNo (n + 1) (S.enter.push (.cells 23 [.int .u64 0])) bm bw ws cnt a 1 g (Mem.push (S := S.enter) hM _) (by omega) (by omega) hl ha'
  rw [show ((1 : Nat) : Int) = 1 from rfl] at h
  simp (maxDischargeDepth := 30) [q93, h]

/-- The little function that writes. -/
theorem sStore1 {a b : Nat} {x : Int} (hw : S.at bw = some (.cells 23 (ws.map (Value.int .u64)))) (hb : S.at b = some (.cells 23 [.int .u64 x])) (hne : b ≠ bw) (ha : a < ws.length) :
    EndsIn (calls table.find (n + 1) 36 [.slice (some ⟨bw, a, none⟩) 1 0, .pointer (some ⟨b, 0, none⟩)] S) (.tuple #[]) fun S' => Aft (fun j => j = bw) S S' ∧ S'.top = S.top ∧ S'.at bw = some (.cells 23 ((ws.set a x).map (Value.int .u64))) := by
  simp (maxDischargeDepth := 30) [q36, hw, hb, ha]
  refine ((Aft.refl (fun j => j = bw) S.enter).wroteOld (b := bw) (.cells 23 ((ws.map (Value.int .u64)).set a (.int .u64 x))) (v := .int .u64 x) rfl (by simp)).ends (by simp [refsLt, refsLtA, refsLtL]) fun S' k2 k3 k4 => ⟨k2, k3, ?_⟩
  rw [k4 bw (lt_top hw), m_wrote (by rw [m_enter, hw]; rfl)]

set_option maxHeartbeats 4000000 in
theorem sStore {a : Nat} {x : Int} (hM : Mem S bm bw ws cnt) (ha : a < ws.length) (hl : ws.length ≤ 4096) (hc : W .i64 (cnt + 1) = cnt + 1) :
    EndsIn (calls table.find (n + 3) 15 [.pointer (some ⟨bm, 0, none⟩), .int .i64 a, .int .u64 x] S) (.int .i64 0) fun S' => Aft (fun j => j = bm ∨ j = bw) S S' ∧ S'.top = S.top ∧ Mem S' bm bw (ws.set a x) (cnt + 1) := by
  obtain ⟨U, hU⟩ : ∃ U, S.enter.push (.cells 23 [.int .u64 x]) = U := ⟨_, rfl⟩
  have tU : U.top = S.top + 1 := by rw [← hU, top_push, top_enter]
  have mU : Mem U bm bw ws cnt := by rw [← hU]; exact Mem.push (S := S.enter) hM _
  have bU : U.at S.top = some (.cells 23 [.int .u64 x]) := by rw [← hU]; exact m_push_top
  have lt1 := hM.lt1
  have lt2 := hM.lt2
  have n1 := hM.1
  have hO : ∀ j, j ≠ bm → (once U.enter bm bw ws.length (cnt + 1)).at j = U.at j := fun j hj => by unfold once; rw [m_wrote_ne (fun e => hj e.symm)]; rfl
  obtain ⟨S2, q2, h1, a1, t1, b1⟩ := sStore1 (n := n) (S := once U.enter bm bw ws.length (cnt + 1)) (bw := bw) (ws := ws) (a := a) (b := S.top) (x := x) (by rw [hO _ (by omega)]; exact mU.2.2) (by rw [hO _ (by omega)]; exact bU) (by omega) ha
  obtain ⟨S3, q3, h2, a2, t2, b2⟩ := sAccess (n := n + 1) (S := U) (a := a) (many := 1) (f := 36) (caps := [.pointer (some ⟨S.top, 0, none⟩)]) mU (by omega) (by omega) hl hc h1 a1
  have hmm : S2.at bm = some (.cells 48 [.slice (some ⟨bw, 0, none⟩) ws.length 0, .int .i64 (cnt + 1)]) := by
    have ht : bm < (once U.enter bm bw ws.length (cnt + 1)).top := by unfold once; rw [top_wrote, top_enter, tU]; omega
    rw [a1.at' bm ht (by omega)]
    unfold once
    rw [m_wrote (by rw [m_enter, mU.2.1]; rfl)]
  have k0 : Aft (fun j => j = bm ∨ j = bw) S.enter S3 := by
    have k : Aft (fun j => j = bm ∨ j = bw) S.enter U := by rw [← hU]; exact (Aft.refl _ S.enter).push _
    exact k.trans a2 fun j _ h => h
  have e3 : S.enter.top = S.top := rfl
  rw [show ((1 : Nat) : Int) = 1 from rfl] at h2
  simp (maxDischargeDepth := 30) [q15, hU, e3, h2]
  refine k0.ends (by simp) fun S' k2 k3 k4 => ⟨k2, k3, n1, ?_, ?_⟩
  · rw [k4 _ lt1, b2 _ (by omega), hmm, List.length_set]
  · rw [k4 _ lt2, b2 _ (by omega), b1]

set_option maxHeartbeats 4000000 in
theorem sStoreNo {a : Int} {x : Int} (hM : Mem S bm bw ws cnt) (ha : a < 0 ∨ (ws.length : Int) ≤ a) (hl : ws.length ≤ 4096) (ha' : -9223372036854775808 ≤ a ∧ a ≤ 9223372036854775807) :
    calls table.find (n + 3) 15 [.pointer (some ⟨bm, 0, none⟩), .int .i64 a, .int .u64 x] S = some (.int .i64 9, S, true) := by
  have h := fun (g : Value) => @sAccessNo (n + 1) (S.enter.push (.cells 23 [.int .u64 x])) bm bw ws cnt a 1 g (Mem.push (S := S.enter) hM _) (by omega) (by omega) hl ha'
  rw [show ((1 : Nat) : Int) = 1 from rfl] at h
  simp (maxDischargeDepth := 30) [q15, h]
/-- Are two words as they are told? -/
def hit (ws : List Int) (a : Nat) (old second : Int) : Bool := wd ws a == old && wd ws (a + 1) == second
/-- The words behind a Cas2. -/
def cas2W (ws : List Int) (a : Nat) (old second to other : Int) : List Int := if hit ws a old second then (ws.set a to).set (a + 1) other else ws

theorem cas2W_len {a : Nat} {old second to other : Int} : (cas2W ws a old second to other).length = ws.length := by
  unfold cas2W; split <;> simp

set_option maxHeartbeats 4000000 in
theorem sCas21 {a b1 b2 b3 b4 b5 : Nat} {old second to other : Int} {x : Value} (hw : S.at bw = some (.cells 23 (ws.map (Value.int .u64)))) (h1 : S.at b1 = some (.cells 23 [.int .u64 old])) (h2 : S.at b2 = some (.cells 23 [.int .u64 second]))
    (h3 : S.at b3 = some (.cells 4 [x])) (h4 : S.at b4 = some (.cells 23 [.int .u64 to])) (h5 : S.at b5 = some (.cells 23 [.int .u64 other])) (n3 : b3 ≠ bw) (n4 : b4 ≠ bw) (n5 : b5 ≠ bw) (m4 : b3 ≠ b4) (m5 : b3 ≠ b5) (ha : a + 1 < ws.length) :
    EndsIn (calls table.find (n + 1) 112 [.slice (some ⟨bw, a, none⟩) 2 0, .pointer (some ⟨b1, 0, none⟩), .pointer (some ⟨b2, 0, none⟩), .pointer (some ⟨b3, 0, none⟩), .pointer (some ⟨b4, 0, none⟩), .pointer (some ⟨b5, 0, none⟩)] S) (.tuple #[]) fun S' =>
      Aft (fun j => j = b3 ∨ j = bw) S S' ∧ S'.top = S.top ∧ S'.at b3 = some (.cells 4 [.bool (hit ws a old second)]) ∧ S'.at bw = some (.cells 23 ((cas2W ws a old second to other).map (Value.int .u64))) := by
  have g0 : ∀ h : a < ws.length, ws[a] = wd ws a := fun h => by simp [wd, h]
  have g1 : ∀ h : a + 1 < ws.length, ws[a + 1] = wd ws (a + 1) := fun h => by simp [wd, h]
  have ha0 : a < ws.length := by omega
  have hT3 : ∀ j, j ≠ b3 → (S.enter.wrote b3 (.cells 4 [.bool (hit ws a old second)]) (.bool (hit ws a old second))).at j = S.at j := fun j hj => by rw [m_wrote_ne (fun e => hj e.symm)]; rfl
  have hk : Aft (fun j => j = b3 ∨ j = bw) S.enter (S.enter.wrote b3 (.cells 4 [.bool (hit ws a old second)]) (.bool (hit ws a old second))) := (Aft.refl _ S.enter).wroteOld _ (.inl rfl) (by simp)
  have hb3 : (S.enter.wrote b3 (.cells 4 [.bool (hit ws a old second)]) (.bool (hit ws a old second))).at b3 = some (.cells 4 [.bool (hit ws a old second)]) := m_wrote (by rw [m_enter, h3]; rfl)
  cases hh : hit ws a old second with
  | false =>
    have hh' : (wd ws a == old && wd ws (a + 1) == second) = false := hh
    rw [hh] at hT3 hk hb3
    have hW : cas2W ws a old second to other = ws := by unfold cas2W; rw [hh]; rfl
    rw [hW]
    simp (maxDischargeDepth := 30) [q112, hw, h1, h2, h3, h4, h5, ha, ha0, g0, g1, hh']
    refine hk.ends (by simp [refsLt, refsLtA, refsLtL]) fun S' k2 k3 k4 => ⟨k2, k3, ?_, ?_⟩
    · rw [k4 _ (lt_top h3), hb3]
    · rw [k4 _ (lt_top hw), hT3 _ n3.symm, hw]
  | true =>
    have hh' : (wd ws a == old && wd ws (a + 1) == second) = true := hh
    rw [hh] at hT3 hk hb3
    have hW : cas2W ws a old second to other = (ws.set a to).set (a + 1) other := by unfold cas2W; rw [hh]; rfl
    rw [hW]
    simp (maxDischargeDepth := 30) [q112, hw, h1, h2, h3, h4, h5, ha, ha0, g0, g1, hh', n3, n4, n5, n3.symm, n4.symm, n5.symm, m4, m5, ops_y, ops_x, ops_post]
    rw [post_load (i := 3) (d := 22) (h := rfl), post_nil]
    simp (maxDischargeDepth := 30) [hw, h3, h5, n3, n5, n3.symm, n5.symm, m5, sameV_int, postK_true]
    have k5 := ((hk.wroteOld (b := bw) (.cells 23 ((ws.map (Value.int .u64)).set a (.int .u64 to))) (v := .int .u64 to) (.inr rfl) (by simp)).wroteOld (b := bw) (.cells 23 (((ws.map (Value.int .u64)).set a (.int .u64 to)).set (a + 1) (.int .u64 other))) (v := .int .u64 other) (.inr rfl) (by simp))
    refine k5.ends (by simp [refsLt, refsLtA, refsLtL]) fun S' k2 k3 k4 => ⟨k2, k3, ?_, ?_⟩
    · rw [k4 _ (lt_top h3), m_wrote_ne n3.symm, m_wrote_ne n3.symm, hb3]
    · rw [k4 _ (lt_top hw), m_wrote]
      rw [m_wrote (by rw [hT3 _ n3.symm, hw]; rfl)]; rfl

theorem push_chain {S0 : St} {o : AObj} {b : Nat} (h : b < S0.top) : (S0.push o).at b = S0.at b := by
  have hb1 : b < S0.blks.length := h
  simp only [St.at, St.push]
  rw [List.getElem?_append_left hb1]

set_option maxHeartbeats 4000000 in
theorem sCas2 {a : Nat} {old second to other : Int} (hM : Mem S bm bw ws cnt) (ha : a + 1 < ws.length) (hl : ws.length ≤ 4096) (hc : W .i64 (cnt + 1) = cnt + 1) :
    EndsIn (calls table.find (n + 3) 108 [.pointer (some ⟨bm, 0, none⟩), .int .i64 a, .int .u64 old, .int .u64 second, .int .u64 to, .int .u64 other] S) (.tuple #[.bool (hit ws a old second), .int .i64 0]) fun S' =>
      Aft (fun j => j = bm ∨ j = bw) S S' ∧ S'.top = S.top ∧ Mem S' bm bw (cas2W ws a old second to other) (cnt + 1) := by
  obtain ⟨U1, hU1⟩ : ∃ U, S.enter.push (.cells 23 [.int .u64 old]) = U := ⟨_, rfl⟩
  obtain ⟨U2, hU2⟩ : ∃ U, U1.push (.cells 23 [.int .u64 second]) = U := ⟨_, rfl⟩
  obtain ⟨U3, hU3⟩ : ∃ U, U2.push (.cells 23 [.int .u64 to]) = U := ⟨_, rfl⟩
  obtain ⟨U4, hU4⟩ : ∃ U, U3.push (.cells 23 [.int .u64 other]) = U := ⟨_, rfl⟩
  obtain ⟨U, hU⟩ : ∃ U, U4.push (.cells 4 [.bool false]) = U := ⟨_, rfl⟩
  have t1 : U1.top = S.top + 1 := by rw [← hU1, top_push, top_enter]
  have t2 : U2.top = S.top + 2 := by rw [← hU2, top_push, t1]
  have t3 : U3.top = S.top + 3 := by rw [← hU3, top_push, t2]
  have t4 : U4.top = S.top + 4 := by rw [← hU4, top_push, t3]
  have tU : U.top = S.top + 5 := by rw [← hU, top_push, t4]
  have mU : Mem U bm bw ws cnt := by rw [← hU, ← hU4, ← hU3, ← hU2, ← hU1]; exact ((((Mem.push (S := S.enter) hM _).push _).push _).push _).push _
  have lt1 := hM.lt1
  have lt2 := hM.lt2
  have n1 := hM.1
  have c1 : U.at S.top = some (.cells 23 [.int .u64 old]) := by rw [← hU, push_chain (by omega), ← hU4, push_chain (by omega), ← hU3, push_chain (by omega), ← hU2, push_chain (by omega), ← hU1]; exact m_push_top
  have c2 : U.at (S.top + 1) = some (.cells 23 [.int .u64 second]) := by rw [← hU, push_chain (by omega), ← hU4, push_chain (by omega), ← hU3, push_chain (by omega), ← hU2, ← t1]; exact m_push_top
  have c3 : U.at (S.top + 2) = some (.cells 23 [.int .u64 to]) := by rw [← hU, push_chain (by omega), ← hU4, push_chain (by omega), ← hU3, ← t2]; exact m_push_top
  have c4 : U.at (S.top + 3) = some (.cells 23 [.int .u64 other]) := by rw [← hU, push_chain (by omega), ← hU4, ← t3]; exact m_push_top
  have c5 : U.at (S.top + 4) = some (.cells 4 [.bool false]) := by rw [← hU, ← t4]; exact m_push_top
  have hO : ∀ j, j ≠ bm → (once U.enter bm bw ws.length (cnt + 1)).at j = U.at j := fun j hj => by unfold once; rw [m_wrote_ne (fun e => hj e.symm)]; rfl
  obtain ⟨S2, q2, h1, a1, tt1, b1, b2⟩ := sCas21 (n := n) (S := once U.enter bm bw ws.length (cnt + 1)) (bw := bw) (ws := ws) (a := a) (b1 := S.top) (b2 := S.top + 1) (b3 := S.top + 4) (b4 := S.top + 2) (b5 := S.top + 3) (by rw [hO _ (by omega)]; exact mU.2.2) (by rw [hO _ (by omega)]; exact c1) (by rw [hO _ (by omega)]; exact c2) (by rw [hO _ (by omega)]; exact c5) (by rw [hO _ (by omega)]; exact c3) (by rw [hO _ (by omega)]; exact c4)
    (by omega) (by omega) (by omega) (by omega) (by omega) ha
  obtain ⟨S3, q3, h2, a2, t2', b3⟩ := sAccess (n := n + 1) (S := U) (a := a) (many := 2) (f := 112) (caps := [.pointer (some ⟨S.top, 0, none⟩), .pointer (some ⟨S.top + 1, 0, none⟩), .pointer (some ⟨S.top + 4, 0, none⟩), .pointer (some ⟨S.top + 2, 0, none⟩), .pointer (some ⟨S.top + 3, 0, none⟩)]) mU (by omega) (by omega) hl hc h1 a1
  have hmm : S2.at bm = some (.cells 48 [.slice (some ⟨bw, 0, none⟩) ws.length 0, .int .i64 (cnt + 1)]) := by
    have ht : bm < (once U.enter bm bw ws.length (cnt + 1)).top := by unfold once; rw [top_wrote, top_enter, tU]; omega
    rw [a1.at' bm ht (by omega)]
    unfold once
    rw [m_wrote (by rw [m_enter, mU.2.1]; rfl)]
  have i3 : S3.at (S.top + 4) = some (.cells 4 [.bool (hit ws a old second)]) := by rw [b3 _ (by omega)]; exact b1
  have k0 : Aft (fun j => j = bm ∨ j = bw) S.enter S3 := by
    have k : Aft (fun j => j = bm ∨ j = bw ∨ j = S.top + 4) S.enter U := by rw [← hU, ← hU4, ← hU3, ← hU2, ← hU1]; exact (((((Aft.refl _ S.enter).push _).push _).push _).push _).push _
    exact (k.trans a2 fun j _ h => by omega).more fun j hj h => by
      have hj' : j < S.top := hj
      omega
  have k1 : Aft (fun j => j = bm ∨ j = bw) S.enter (S3.wrote (S.top + 4) (.cells 4 [.bool (hit ws a old second)]) (.bool (hit ws a old second))) := k0.wroteNew _ _ (by show S.top ≤ _; omega)
  have e3 : S.enter.top = S.top := rfl
  rw [show ((2 : Nat) : Int) = 2 from rfl] at h2
  simp (maxDischargeDepth := 30) [q108, hU1, hU2, hU3, hU4, hU, e3, t1, t2, t3, t4]
  rw [h2]
  simp (maxDischargeDepth := 30) [i3]
  refine k1.ends (by simp) fun S' k2 k3 k4 => ⟨k2, k3, n1, ?_, ?_⟩
  · rw [k4 _ lt1, m_wrote_ne (by omega), b3 _ (by omega), hmm, cas2W_len]
  · rw [k4 _ lt2, m_wrote_ne (by omega), b3 _ (by omega), b2]

set_option maxHeartbeats 4000000 in
theorem sCas2No {a : Int} {old second to other : Int} (hM : Mem S bm bw ws cnt) (ha : a < 0 ∨ (ws.length : Int) ≤ a + 1) (hl : ws.length ≤ 4096) (ha' : -9223372036854775808 ≤ a ∧ a ≤ 9223372036854775807) :
    calls table.find (n + 3) 108 [.pointer (some ⟨bm, 0, none⟩), .int .i64 a, .int .u64 old, .int .u64 second, .int .u64 to, .int .u64 other] S = some (.tuple #[.bool false, .int .i64 9], S, true) := by
  have h := fun (g : Value) => @sAccessNo (n + 1) (((((S.enter.push (.cells 23 [.int .u64 old])).push (.cells 23 [.int .u64 second])).push (.cells 23 [.int .u64 to])).push (.cells 23 [.int .u64 other])).push (.cells 4 [.bool false])) bm bw ws cnt a 2 g (((((Mem.push (S := S.enter) hM _).push _).push _).push _).push _) (by omega) (by omega) hl ha'
  rw [show ((2 : Nat) : Int) = 2 from rfl] at h
  simp (maxDischargeDepth := 30) [q108, h]
end

end Go.Proofs.YtepddcemoofmlaaGreat.Fast

/- A task's step: its record, and what its little methods do. -/
namespace Go.Proofs.YtepddcemoofmlaaGreat.Fast
open Go Go.Proofs.YtepddcemoofmlaaGreat.AE
set_option maxRecDepth 10000
set_option linter.unusedSimpArgs false
set_option linter.unusedVariables false

structure TaskP where
  job : Int
  cpu : Int
  pc : Int
  en : Int
  want : Int
  slab : Int
  obj : Int
  h : Int
  t : Int
  f : Int
  k : Int
  n : Int
  last : Int
  many : Int
  to : Int
  bk : Int
  fo : Int

def TaskP.cells (x : TaskP) : List Value :=
  [.int .i64 x.job, .int .i64 x.cpu, .int .i64 x.pc, .int .i64 x.en, .int .i64 x.want, .int .i64 x.slab, .int .i64 x.obj, .int .u64 x.h, .int .u64 x.t, .int .u64 x.f, .int .u64 x.k, .int .u64 x.n, .int .i64 x.last, .int .i64 x.many, .int .i64 x.to, .int .i64 x.bk, .int .i64 x.fo]

def stepC (bm P N O : Nat) (mn cp k : Int) (x : TaskP) (bad : Bool) : List Value :=
  [.pointer (some ⟨bm, 0, none⟩), .int .i64 P, .int .i64 N, .int .i64 O, .int .i64 mn, .int .i64 cp, .int .u64 k,
    .int .i64 x.job, .int .i64 x.cpu, .int .i64 x.pc, .int .i64 x.en, .int .i64 x.want, .int .i64 x.slab, .int .i64 x.obj, .int .u64 x.h, .int .u64 x.t, .int .u64 x.f, .int .u64 x.k, .int .u64 x.n, .int .i64 x.last, .int .i64 x.many, .int .i64 x.to, .int .i64 x.bk, .int .i64 x.fo, .bool bad]

/-- A step's record in the heap, and its memory. -/
structure Stp (S : St) (bs bm bw P N O : Nat) (mn cp k : Int) (x : TaskP) (bad : Bool) (ws : List Int) (cnt : Int) : Prop where
  here : S.at bs = some (.cells 56 (stepC bm P N O mn cp k x bad))
  mem : Mem S bm bw ws cnt
  n1 : bs ≠ bm
  n2 : bs ≠ bw
  len : ws.length ≤ 4096

/-- What a step may write. -/
def Mine (bs bm bw : Nat) (j : Nat) : Prop := j = bs ∨ j = bm ∨ j = bw

def inR (ws : List Int) (a : Int) : Bool := decide (0 ≤ a) && decide (a < ws.length)
def ld (ws : List Int) (a : Int) : Int := if inR ws a then wd ws a.toNat else 0

section
variable {n : Nat} {S S1 S' : St} {bs bm bw P N O : Nat} {mn cp k : Int} {x x' : TaskP} {bad bad' : Bool} {ws ws' : List Int} {cnt cnt' : Int}

theorem Stp.lt (h : Stp S bs bm bw P N O mn cp k x bad ws cnt) : bs < S.top := lt_top h.here
theorem Stp.move (h : Stp S1 bs bm bw P N O mn cp k x bad ws cnt) (hs : bs < S.top) (h1 : bm < S.top) (h2 : bw < S.top) (e : ∀ j, j < S.top → S'.at j = S1.at j) : Stp S' bs bm bw P N O mn cp k x bad ws cnt :=
  ⟨(e _ hs).trans h.here, h.mem.move (e _ h1) (e _ h2), h.n1, h.n2, h.len⟩
theorem Stp.back (h : Stp S1 bs bm bw P N O mn cp k x bad ws cnt) (h0 : Stp S bs bm bw P N O mn cp k x' bad' ws' cnt') (e : ∀ j, j < S.top → S'.at j = S1.at j) : Stp S' bs bm bw P N O mn cp k x bad ws cnt :=
  h.move h0.lt h0.mem.lt1 h0.mem.lt2 e
theorem Stp.wrote (h : Stp S bs bm bw P N O mn cp k x bad ws cnt) (x' : TaskP) (bad' : Bool) (v : Value) : Stp (S.wrote bs (.cells 56 (stepC bm P N O mn cp k x' bad')) v) bs bm bw P N O mn cp k x' bad' ws cnt :=
  ⟨m_wrote (by rw [h.here]; rfl), h.mem.wrote _ _ h.n1 h.n2, h.n1, h.n2, h.len⟩
theorem Stp.enter (h : Stp S bs bm bw P N O mn cp k x bad ws cnt) : Stp S.enter bs bm bw P N O mn cp k x bad ws cnt := ⟨h.here, h.mem, h.n1, h.n2, h.len⟩

/-- must -/
theorem kMust {b : Bool} (h : Stp S bs bm bw P N O mn cp k x bad ws cnt) :
    EndsIn (calls table.find (n + 1) 72 [.pointer (some ⟨bs, 0, none⟩), .bool b] S) (.tuple #[]) fun S' => Aft (Mine bs bm bw) S S' ∧ S'.top = S.top ∧ Stp S' bs bm bw P N O mn cp k x (bad || !b) ws cnt := by
  have hr := h.here
  unfold stepC at hr
  have e : ∀ c : Bool, EndsIn (some (leave S (S.enter.wrote bs (.cells 56 (stepC bm P N O mn cp k x c)) (.bool c)) (.tuple #[]))) (.tuple #[]) fun S' => Aft (Mine bs bm bw) S S' ∧ S'.top = S.top ∧ Stp S' bs bm bw P N O mn cp k x c ws cnt := fun c =>
    ((Aft.refl (Mine bs bm bw) S.enter).wroteOld (b := bs) _ (.inl rfl) (by simp)).ends (by simp [refsLt, refsLtA, refsLtL]) fun S' k2 k3 k4 => ⟨k2, k3, (h.enter.wrote x c (.bool c)).back h k4⟩
  have e0 := e true
  have e1 := e false
  unfold stepC at e0 e1
  cases bad with
  | true =>
    simp (maxDischargeDepth := 30) [q72, hr]
    exact e0
  | false =>
    cases b with
    | true =>
      simp (maxDischargeDepth := 30) [q72, hr]
      exact e1
    | false =>
      simp (maxDischargeDepth := 30) [q72, hr]
      exact e0

/-- to -/
theorem kTo {pc : Int} (h : Stp S bs bm bw P N O mn cp k x bad ws cnt) :
    EndsIn (calls table.find (n + 1) 67 [.pointer (some ⟨bs, 0, none⟩), .int .i64 pc] S) (.tuple #[]) fun S' => Aft (Mine bs bm bw) S S' ∧ S'.top = S.top ∧ Stp S' bs bm bw P N O mn cp k { x with pc := pc } bad ws cnt := by
  have hr := h.here
  unfold stepC at hr
  have e : EndsIn (some (leave S (S.enter.wrote bs (.cells 56 (stepC bm P N O mn cp k { x with pc := pc } bad)) (.int .i64 pc)) (.tuple #[]))) (.tuple #[]) fun S' => Aft (Mine bs bm bw) S S' ∧ S'.top = S.top ∧ Stp S' bs bm bw P N O mn cp k { x with pc := pc } bad ws cnt :=
    ((Aft.refl (Mine bs bm bw) S.enter).wroteOld (b := bs) _ (.inl rfl) (by simp)).ends (by simp [refsLt, refsLtA, refsLtL]) fun S' k2 k3 k4 => ⟨k2, k3, (h.enter.wrote { x with pc := pc } bad (.int .i64 pc)).back h k4⟩
  unfold stepC at e
  simp (maxDischargeDepth := 30) [q67, hr]
  exact e

/-- load -/
theorem kLoad {a : Int} (h : Stp S bs bm bw P N O mn cp k x bad ws cnt) (hc : 0 ≤ cnt ∧ cnt < 1000000000000000) (ha : -1 ≤ a ∧ a ≤ 100000) :
    ∃ cnt', (cnt ≤ cnt' ∧ cnt' ≤ cnt + 1) ∧ EndsIn (calls table.find (n + 4) 65 [.pointer (some ⟨bs, 0, none⟩), .int .i64 a] S) (.int .u64 (ld ws a)) fun S' => Aft (Mine bs bm bw) S S' ∧ S'.top = S.top ∧ Stp S' bs bm bw P N O mn cp k x (bad || !inR ws a) ws cnt' := by
  have hr := h.here
  unfold stepC at hr
  by_cases hin : 0 ≤ a ∧ a < ws.length
  · obtain ⟨i, rfl⟩ : ∃ i : Nat, a = i := ⟨a.toNat, by omega⟩
    have hi : inR ws (i : Int) = true := by unfold inR; simp; omega
    have hld : ld ws (i : Int) = wd ws i := by unfold ld; rw [hi]; rfl
    obtain ⟨S1, q1, h1, a1, t1, m1⟩ := sLoad (n := n) (S := S.enter) (a := i) h.mem (by omega) h.len (W_i64 (by omega))
    have s1 : Stp S1 bs bm bw P N O mn cp k x bad ws (cnt + 1) := ⟨by rw [a1.at' bs h.lt h.n1]; exact h.here, m1, h.n1, h.n2, h.len⟩
    obtain ⟨S2, q2, h2, a2, t2, s2⟩ := kMust (n := n + 2) (b := true) s1
    rw [Bool.not_true, Bool.or_false] at s2
    refine ⟨cnt + 1, by omega, ?_⟩
    rw [hi, hld]
    have k0 : Aft (Mine bs bm bw) S.enter S2 := (a1.more (D' := Mine bs bm bw) fun j _ h => by unfold Mine; omega).trans a2 fun j _ h => h 
    simp (maxDischargeDepth := 30) [q65, hr, h1, h2]
    exact k0.ends (by simp) fun S' k2 k3 k4 => ⟨k2, k3, s2.back h k4⟩
  · have hi : inR ws a = false := by unfold inR; simp; omega
    have hld : ld ws a = 0 := by unfold ld; rw [hi]; rfl
    have h1 := sLoadNo (n := n) (S := S.enter) (a := a) h.mem (by omega) h.len (by omega)
    obtain ⟨S2, q2, h2, a2, t2, s2⟩ := kMust (n := n + 2) (b := false) h.enter
    rw [Bool.not_false, Bool.or_true] at s2
    refine ⟨cnt, by omega, ?_⟩
    rw [hi, hld]
    simp (maxDischargeDepth := 30) [q65, hr, h1, h2]
    exact a2.ends (by simp) fun S' k2 k3 k4 => ⟨k2, k3, s2.back h k4⟩

/-- store -/
theorem kStore {a v : Int} (h : Stp S bs bm bw P N O mn cp k x bad ws cnt) (hc : 0 ≤ cnt ∧ cnt < 1000000000000000) (ha : -1 ≤ a ∧ a ≤ 100000) :
    ∃ cnt', (cnt ≤ cnt' ∧ cnt' ≤ cnt + 1) ∧ EndsIn (calls table.find (n + 4) 73 [.pointer (some ⟨bs, 0, none⟩), .int .i64 a, .int .u64 v] S) (.tuple #[]) fun S' => Aft (Mine bs bm bw) S S' ∧ S'.top = S.top ∧ Stp S' bs bm bw P N O mn cp k x (bad || !inR ws a) (if inR ws a then ws.set a.toNat v else ws) cnt' := by
  have hr := h.here
  unfold stepC at hr
  by_cases hin : 0 ≤ a ∧ a < ws.length
  · obtain ⟨i, rfl⟩ : ∃ i : Nat, a = i := ⟨a.toNat, by omega⟩
    have hi : inR ws (i : Int) = true := by unfold inR; simp; omega
    obtain ⟨S1, q1, h1, a1, t1, m1⟩ := sStore (n := n) (S := S.enter) (a := i) (x := v) h.mem (by omega) h.len (W_i64 (by omega))
    have s1 : Stp S1 bs bm bw P N O mn cp k x bad (ws.set i v) (cnt + 1) := ⟨by rw [a1.at' bs h.lt (by have := h.n1; have := h.n2; omega)]; exact h.here, m1, h.n1, h.n2, by rw [List.length_set]; exact h.len⟩
    obtain ⟨S2, q2, h2, a2, t2, s2⟩ := kMust (n := n + 2) (b := true) s1
    rw [Bool.not_true, Bool.or_false] at s2
    refine ⟨cnt + 1, by omega, ?_⟩
    rw [hi, if_pos rfl, Int.toNat_natCast]
    have k0 : Aft (Mine bs bm bw) S.enter S2 := (a1.more (D' := Mine bs bm bw) fun j _ h => by unfold Mine; omega).trans a2 fun j _ h => h
    simp (maxDischargeDepth := 30) [q73, hr, h1, h2]
    exact k0.ends (by simp [refsLt, refsLtA, refsLtL]) fun S' k2 k3 k4 => ⟨k2, k3, s2.back h k4⟩
  · have hi : inR ws a = false := by unfold inR; simp; omega
    have h1 := sStoreNo (n := n) (S := S.enter) (a := a) (x := v) h.mem (by omega) h.len (by omega)
    obtain ⟨S2, q2, h2, a2, t2, s2⟩ := kMust (n := n + 2) (b := false) h.enter
    rw [Bool.not_false, Bool.or_true] at s2
    refine ⟨cnt, by omega, ?_⟩
    rw [hi, if_neg (by simp)]
    simp (maxDischargeDepth := 30) [q73, hr, h1, h2]
    exact a2.ends (by simp [refsLt, refsLtA, refsLtL]) fun S' k2 k3 k4 => ⟨k2, k3, s2.back h k4⟩

/-- May two words be looked at? -/
def inR2 (ws : List Int) (a : Int) : Bool := decide (0 ≤ a) && decide (a + 1 < ws.length)

/-- cas2 -/
theorem kCas2 {a old second to other : Int} (h : Stp S bs bm bw P N O mn cp k x bad ws cnt) (hc : 0 ≤ cnt ∧ cnt < 1000000000000000) (ha : -1 ≤ a ∧ a ≤ 100000) :
    ∃ cnt', (cnt ≤ cnt' ∧ cnt' ≤ cnt + 1) ∧ EndsIn (calls table.find (n + 4) 96 [.pointer (some ⟨bs, 0, none⟩), .int .i64 a, .int .u64 old, .int .u64 second, .int .u64 to, .int .u64 other] S) (.bool (inR2 ws a && hit ws a.toNat old second)) fun S' =>
      Aft (Mine bs bm bw) S S' ∧ S'.top = S.top ∧ Stp S' bs bm bw P N O mn cp k x (bad || !inR2 ws a) (if inR2 ws a then cas2W ws a.toNat old second to other else ws) cnt' := by
  have hr := h.here
  unfold stepC at hr
  by_cases hin : 0 ≤ a ∧ a + 1 < ws.length
  · obtain ⟨i, rfl⟩ : ∃ i : Nat, a = i := ⟨a.toNat, by omega⟩
    have hi : inR2 ws (i : Int) = true := by unfold inR2; simp; omega
    obtain ⟨S1, q1, h1, a1, t1, m1⟩ := sCas2 (n := n) (S := S.enter) (a := i) (old := old) (second := second) (to := to) (other := other) h.mem (by omega) h.len (W_i64 (by omega))
    have s1 : Stp S1 bs bm bw P N O mn cp k x bad (cas2W ws i old second to other) (cnt + 1) := ⟨by rw [a1.at' bs h.lt (by have := h.n1; have := h.n2; omega)]; exact h.here, m1, h.n1, h.n2, by rw [cas2W_len]; exact h.len⟩
    obtain ⟨S2, q2, h2, a2, t2, s2⟩ := kMust (n := n + 2) (b := true) s1
    rw [Bool.not_true, Bool.or_false] at s2
    refine ⟨cnt + 1, by omega, ?_⟩
    rw [hi, if_pos rfl, Int.toNat_natCast, Bool.true_and]
    have k0 : Aft (Mine bs bm bw) S.enter S2 := (a1.more (D' := Mine bs bm bw) fun j _ h => by unfold Mine; omega).trans a2 fun j _ h => h
    simp (maxDischargeDepth := 30) [q96, hr, h1, h2]
    exact k0.ends (by simp) fun S' k2 k3 k4 => ⟨k2, k3, s2.back h k4⟩
  · have hi : inR2 ws a = false := by unfold inR2; simp; omega
    have h1 := sCas2No (n := n) (S := S.enter) (a := a) (old := old) (second := second) (to := to) (other := other) h.mem (by omega) h.len (by omega)
    obtain ⟨S2, q2, h2, a2, t2, s2⟩ := kMust (n := n + 2) (b := false) h.enter
    rw [Bool.not_false, Bool.or_true] at s2
    refine ⟨cnt, by omega, ?_⟩
    rw [hi, if_neg (by simp), Bool.false_and]
    simp (maxDischargeDepth := 30) [q96, hr, h1, h2]
    exact a2.ends (by simp) fun S' k2 k3 k4 => ⟨k2, k3, s2.back h k4⟩

/-- behind -/
def behindI (a : Int) : Int := if a < 0 then a else a + 1
theorem kBehind {a : Int} (ha : -1 ≤ a ∧ a ≤ 100000) : calls table.find (n + 1) 66 [.int .i64 a] S = some (.int .i64 (behindI a), S, true) := by
  unfold behindI
  have w : W .i64 (a + 1) = a + 1 := W_i64 (by omega)
  by_cases e : a < 0
  · simp (maxDischargeDepth := 30) [q66, e]
  · simp (maxDischargeDepth := 30) [q66, e, w]
end

end Go.Proofs.YtepddcemoofmlaaGreat.Fast

/- What each place of the short ways does. -/
namespace Go.Proofs.YtepddcemoofmlaaGreat.Fast
open Go Go.Proofs.YtepddcemoofmlaaGreat.AE
set_option maxRecDepth 10000
set_option linter.unusedSimpArgs false
set_option linter.unusedVariables false

/-! ### Places, for all numbers -/
def headI (P : Nat) (cpu : Int) : Int := if 0 ≤ cpu ∧ cpu < P then 4 * cpu else -1
def linkI (P N O : Nat) (s i : Int) : Int := if (0 ≤ s ∧ s < N) ∧ 0 ≤ i ∧ i < O then 4 * P + 4 + 4 * N + s * O + i else -1
noncomputable def keyI (k s : Int) : Int := W .u64 (k + W .u64 (W .u64 s * 11400714819323198485))

section
variable {n : Nat} {S : St} {P N O : Nat} {mn cp k : Int} (hm : may P N O mn cp = true)
include hm

theorem gHead {cpu : Int} : calls table.find (n + 6) 62 [chart P N O mn cp k, .int .i64 cpu] S = some (.int .i64 (headI P cpu), S, true) := by
  unfold headI
  by_cases h : 0 ≤ cpu ∧ cpu < P
  · rw [if_pos h]; exact vHead hm h.1 h.2
  · rw [if_neg h, s62]
    by_cases h0 : cpu < 0
    · simp [h0]
    · have h1 : (P : Int) ≤ cpu := by omega
      simp [h1]

theorem gLink {s i : Int} : calls table.find (n + 6) 59 [chart P N O mn cp k, .int .i64 s, .int .i64 i] S = some (.int .i64 (linkI P N O s i), S, true) := by
  unfold linkI
  by_cases h : (0 ≤ s ∧ s < N) ∧ 0 ≤ i ∧ i < O
  · rw [if_pos h]; exact vLink hm h.1.1 h.1.2 h.2.1 h.2.2
  · rw [if_neg h, s59]
    by_cases h0 : s < 0
    · simp [h0]
    · by_cases h1 : (N : Int) ≤ s
      · simp [h1]
      · by_cases h2 : i < 0
        · simp [h2]
        · have h3 : (O : Int) ≤ i := by omega
          simp [h3]

theorem headI_le (cpu : Int) : -1 ≤ headI P cpu ∧ headI P cpu ≤ 100 := by
  obtain ⟨h1, h2, h3, _⟩ := may_iff.1 hm
  unfold headI; split <;> omega

theorem linkI_le (s i : Int) : -1 ≤ linkI P N O s i ∧ linkI P N O s i ≤ 1000 := by
  obtain ⟨h1, h2, h3, _⟩ := may_iff.1 hm
  unfold linkI
  split
  · rename_i h
    have h5 := mul_le hm (x := s) (by omega) (by omega)
    have h6 : s * O ≤ 512 := h5.2
    omega
  · omega
end

theorem gKey {n : Nat} {S : St} {p s o mn cp k i : Int} : calls table.find (n + 6) 58 [chart p s o mn cp k, .int .i64 i] S = some (.int .u64 (keyI k i), S, true) := s58 n p s o mn cp k i S

/-- A link at an object to the next one. -/
noncomputable def hideP (next key i : Int) : Option Int := if (next = -1 ∨ isObj next = true) ∧ isObj i = true then some (B .xor .u64 (W .u64 (next + 1)) (turnedP key i)) else none

theorem sHide {n : Nat} {S : St} {next key i : Int} : calls table.find (n + 3) 71 [.int .i64 next, .int .u64 key, .int .i64 i] S = some (wordOf (hideP next key i), S, true) := by
  have h1 := fun (m : Nat) (S : St) => @sObject m S i
  have h2 := fun (m : Nat) (S : St) => @sObject m S next
  have h3 := fun (m : Nat) (S : St) => @sTurned m S key i
  unfold hideP wordOf
  by_cases e0 : next = -1
  · subst e0
    have w0 : W .i64 (0 : Int) = 0 := W_i64 (by omega)
    cases e1 : isObj i with
    | false => simp (maxDischargeDepth := 30) [q71, h1, e1]
    | true => simp (maxDischargeDepth := 30) [q71, h1, h3, e1, w0]
  · have b0 : (next != -1) = true := by simp [e0]
    cases e2 : isObj next with
    | false => simp (maxDischargeDepth := 30) [q71, h2, e0, b0, e2]
    | true =>
      have hn : 0 ≤ next ∧ next < 16 := by unfold isObj at e2; simpa using e2
      have w0 : W .i64 (next + 1) = next + 1 := W_i64 (by omega)
      cases e1 : isObj i with
      | false => simp (maxDischargeDepth := 30) [q71, h1, h2, e0, b0, e1, e2]
      | true => simp (maxDischargeDepth := 30) [q71, h1, h2, h3, e0, b0, e1, e2, w0]

theorem ld_word {ws : List Int} (hw : ∀ x ∈ ws, Word x) (a : Int) : Word (ld ws a) := by
  unfold ld wd
  split
  · cases h : ws[a.toNat]? with
    | none => exact ⟨by simp, by simp⟩
    | some x => exact hw x (List.mem_of_getElem? h)
  · exact ⟨by omega, by omega⟩

/-- What a head's word says; may it be so? -/
def headS (w : Int) : Int × Int := (headOfP w).getD (-1, -1)
def headOk (N O : Nat) (w : Int) : Bool := (headOfP w).isSome && (decide ((headS w).1 < N) && decide ((headS w).2 < O))

section
variable {n : Nat} {S : St} {bs bm bw P N O : Nat} {mn cp k : Int} {x : TaskP} {bad : Bool} {ws : List Int} {cnt : Int} (hm : may P N O mn cp = true) (hw : ∀ x ∈ ws, Word x) (hc : 0 ≤ cnt ∧ cnt < 1000000000000000)

/-- A method is done: what it comes to. -/
def Does (f : FuncId) (d : Nat) (S : St) (bs bm bw P N O : Nat) (mn cp k : Int) (cnt : Int) (x' : TaskP) (bad' : Bool) (ws' : List Int) : Prop :=
  ∃ cnt', (cnt ≤ cnt' ∧ cnt' ≤ cnt + 1) ∧ EndsIn (calls table.find d f [.pointer (some ⟨bs, 0, none⟩)] S) (.tuple #[]) fun S' => Aft (Mine bs bm bw) S S' ∧ S'.top = S.top ∧ Stp S' bs bm bw P N O mn cp k x' bad' ws' cnt'

include hm hc

set_option maxHeartbeats 4000000 in
theorem kTurn (h : Stp S bs bm bw P N O mn cp k x bad ws cnt) (hpc : 0 ≤ x.pc ∧ x.pc ≤ 1000) :
    Does 38 (n + 7) S bs bm bw P N O mn cp k cnt { x with t := ld ws (behindI (headI P x.cpu)), pc := x.pc + 1 } (bad || !inR ws (behindI (headI P x.cpu))) ws := by
  have hr := h.here
  have hh := fun (m : Nat) (S : St) => @gHead m S P N O mn cp k hm x.cpu
  have hl := headI_le hm x.cpu
  have hb := fun (m : Nat) (S : St) => @kBehind m S (headI P x.cpu) (by omega)
  have hbl : -1 ≤ behindI (headI P x.cpu) ∧ behindI (headI P x.cpu) ≤ 100000 := by unfold behindI; split <;> omega
  unfold chart at hh
  obtain ⟨cnt', hcc, S1, q1, h1, a1, t1, s1⟩ := kLoad (n := n + 2) (a := behindI (headI P x.cpu)) h.enter hc hbl
  have hr1 := s1.here
  have s2 := s1.wrote { x with t := ld ws (behindI (headI P x.cpu)) } (bad || !inR ws (behindI (headI P x.cpu))) (.int .u64 (ld ws (behindI (headI P x.cpu))))
  have hr2 := s2.here
  obtain ⟨S3, q3, h3, a3, t3, s3⟩ := kTo (n := n + 5) (pc := x.pc + 1) s2
  have w1 : W .i64 (x.pc + 1) = x.pc + 1 := W_i64 (by omega)
  have a2 : Aft (Mine bs bm bw) S.enter _ := a1.wroteOld (b := bs) (.cells 56 (stepC bm P N O mn cp k { x with t := ld ws (behindI (headI P x.cpu)) } (bad || !inR ws (behindI (headI P x.cpu))))) (v := .int .u64 (ld ws (behindI (headI P x.cpu)))) (.inl rfl) (by simp)
  have a4 := a2.trans a3 fun j _ h => h
  refine ⟨cnt', hcc, ?_⟩
  simp only [stepC] at hr hr1 hr2 h3
  simp (maxDischargeDepth := 30) [q38, hr, hh, hb, h1, hr1, hr2, w1, h3]
  exact a4.ends (by simp [refsLt, refsLtA, refsLtL]) fun S' k2 k3 k4 => ⟨k2, k3, s3.back h k4⟩

include hw

set_option maxHeartbeats 4000000 in
theorem kHead (h : Stp S bs bm bw P N O mn cp k x bad ws cnt) :
    ∃ cnt', (cnt ≤ cnt' ∧ cnt' ≤ cnt + 1) ∧ EndsIn (calls table.find (n + 7) 68 [.pointer (some ⟨bs, 0, none⟩)] S) (.tuple #[.int .i64 (headS (ld ws (headI P x.cpu))).1, .int .i64 (headS (ld ws (headI P x.cpu))).2]) fun S' =>
      Aft (Mine bs bm bw) S S' ∧ S'.top = S.top ∧ Stp S' bs bm bw P N O mn cp k { x with h := ld ws (headI P x.cpu) } (bad || !inR ws (headI P x.cpu) || !headOk N O (ld ws (headI P x.cpu))) ws cnt' := by
  have hr := h.here
  have hh := fun (m : Nat) (S : St) => @gHead m S P N O mn cp k hm x.cpu
  have hl := headI_le hm x.cpu
  unfold chart at hh
  obtain ⟨cnt', hcc, S1, q1, h1, a1, t1, s1⟩ := kLoad (n := n + 2) (a := headI P x.cpu) h.enter hc (by omega)
  have hr1 := s1.here
  have hwd := ld_word hw (headI P x.cpu)
  generalize ld ws (headI P x.cpu) = w at *
  have hho := fun (m : Nat) (S : St) => @sHeadOf m S w hwd
  have s2 := s1.wrote { x with h := w } (bad || !inR ws (headI P x.cpu)) (.int .u64 w)
  have hr2 := s2.here
  have a2 : Aft (Mine bs bm bw) S.enter _ := a1.wroteOld (b := bs) (.cells 56 (stepC bm P N O mn cp k { x with h := w } (bad || !inR ws (headI P x.cpu)))) (v := .int .u64 w) (.inl rfl) (by simp)
  obtain ⟨S3, q3, h3, a3, t3, s3⟩ := kMust (n := n + 5) (b := headOk N O w) s2
  have a4 := a2.trans a3 fun j _ h => h
  refine ⟨cnt', hcc, ?_⟩
  simp only [stepC] at hr hr1 hr2 h3
  cases hp : headOfP w with
  | none =>
    have hok : headOk N O w = false := by unfold headOk; rw [hp]; rfl
    have hs : headS w = (-1, -1) := by unfold headS; rw [hp]; rfl
    rw [hok] at h3 s3 ⊢
    rw [hs]
    simp (maxDischargeDepth := 30) [q68, hr, hh, h1, hr1, hr2, hho, hp, pairOf, h3]
    exact a4.ends (by simp) fun S' k2 k3 k4 => ⟨k2, k3, by simpa using s3.back h k4⟩
  | some si =>
    obtain ⟨s, i⟩ := si
    have hs : headS w = (s, i) := by unfold headS; rw [hp]; rfl
    rw [hs]
    by_cases e1 : s < N
    · by_cases e2 : i < O
      · have hok : headOk N O w = true := by unfold headOk; rw [hp, hs]; simp [e1, e2]
        rw [hok] at h3 s3 ⊢
        simp (maxDischargeDepth := 30) [q68, hr, hh, h1, hr1, hr2, hho, hp, pairOf, e1, e2, h3]
        exact a4.ends (by simp) fun S' k2 k3 k4 => ⟨k2, k3, by simpa using s3.back h k4⟩
      · have hok : headOk N O w = false := by unfold headOk; rw [hp, hs]; simp [e2]
        rw [hok] at h3 s3 ⊢
        simp (maxDischargeDepth := 30) [q68, hr, hh, h1, hr1, hr2, hho, hp, pairOf, e1, e2, h3]
        exact a4.ends (by simp) fun S' k2 k3 k4 => ⟨k2, k3, by simpa using s3.back h k4⟩
    · have hok : headOk N O w = false := by unfold headOk; rw [hp, hs]; simp [e1]
      rw [hok] at h3 s3 ⊢
      simp (maxDischargeDepth := 30) [q68, hr, hh, h1, hr1, hr2, hho, hp, pairOf, e1, h3]
      exact a4.ends (by simp) fun S' k2 k3 k4 => ⟨k2, k3, by simpa using s3.back h k4⟩
set_option maxHeartbeats 4000000 in
theorem kLook (h : Stp S bs bm bw P N O mn cp k x bad ws cnt) (w : Int) (e0 : w = ld ws (headI P x.cpu)) :
    Does 39 (n + 8) S bs bm bw P N O mn cp k cnt { x with h := w, slab := (headS w).1, obj := (headS w).2, pc := if (headS w).1 < 0 then 30 else if (headS w).2 < 0 then 20 else 2 } (bad || !inR ws (headI P x.cpu) || !headOk N O w) ws := by
  obtain ⟨cnt', hcc, S1, q1, h1, a1, t1, s1⟩ := kHead (n := n) hm hw hc h.enter
  rw [← e0] at h1 s1
  generalize headS w = si at *
  generalize (bad || !inR ws (headI P x.cpu) || !headOk N O w) = bad1 at *
  obtain ⟨s, i⟩ := si
  have hr1 := s1.here
  have s2 := (s1.wrote { x with h := w, slab := s } bad1 (.int .i64 s)).wrote { x with h := w, slab := s, obj := i } bad1 (.int .i64 i)
  have hr2 := s2.here
  have a2 : Aft (Mine bs bm bw) S.enter _ := (a1.wroteOld (b := bs) (.cells 56 (stepC bm P N O mn cp k { x with h := w, slab := s } bad1)) (v := .int .i64 s) (.inl rfl) (by simp)).wroteOld (b := bs) (.cells 56 (stepC bm P N O mn cp k { x with h := w, slab := s, obj := i } bad1)) (v := .int .i64 i) (.inl rfl) (by simp)
  obtain ⟨S3, q3, h3, a3, t3, s3⟩ := kTo (n := n + 6) (pc := if s < 0 then 30 else if i < 0 then 20 else 2) s2
  have a4 := a2.trans a3 fun j _ h => h
  refine ⟨cnt', hcc, ?_⟩
  simp only [stepC] at hr1 hr2 h3
  by_cases c1 : s < 0
  · rw [if_pos c1] at h3 s3
    simp (maxDischargeDepth := 30) [q39, h1, hr1, hr2, c1, h3]
    exact a4.ends (by simp [refsLt, refsLtA, refsLtL]) fun S' k2 k3 k4 => ⟨k2, k3, s3.back h k4⟩
  · rw [if_neg c1] at h3 s3
    by_cases c2 : i < 0
    · rw [if_pos c2] at h3 s3
      simp (maxDischargeDepth := 30) [q39, h1, hr1, hr2, c1, c2, h3]
      exact a4.ends (by simp [refsLt, refsLtA, refsLtL]) fun S' k2 k3 k4 => ⟨k2, k3, s3.back h k4⟩
    · rw [if_neg c2] at h3 s3
      simp (maxDischargeDepth := 30) [q39, h1, hr1, hr2, c1, c2, h3]
      exact a4.ends (by simp [refsLt, refsLtA, refsLtL]) fun S' k2 k3 k4 => ⟨k2, k3, s3.back h k4⟩

set_option maxHeartbeats 4000000 in
theorem kMine (h : Stp S bs bm bw P N O mn cp k x bad ws cnt) (w : Int) (e0 : w = ld ws (headI P x.cpu)) :
    Does 42 (n + 8) S bs bm bw P N O mn cp k cnt (if (headS w).1 = x.slab then { x with h := w, last := (headS w).2, pc := 12 } else { x with h := w, pc := 50 }) (bad || !inR ws (headI P x.cpu) || !headOk N O w) ws := by
  obtain ⟨cnt', hcc, S1, q1, h1, a1, t1, s1⟩ := kHead (n := n) hm hw hc h.enter
  rw [← e0] at h1 s1
  generalize headS w = si at *
  generalize (bad || !inR ws (headI P x.cpu) || !headOk N O w) = bad1 at *
  obtain ⟨s, i⟩ := si
  have hr1 := s1.here
  refine ⟨cnt', hcc, ?_⟩
  by_cases c1 : s = x.slab
  · have b1 : (s != x.slab) = false := by simp [c1]
    have s2 := s1.wrote { x with h := w, last := i } bad1 (.int .i64 i)
    have hr2 := s2.here
    have a2 : Aft (Mine bs bm bw) S.enter _ := a1.wroteOld (b := bs) (.cells 56 (stepC bm P N O mn cp k { x with h := w, last := i } bad1)) (v := .int .i64 i) (.inl rfl) (by simp)
    obtain ⟨S3, q3, h3, a3, t3, s3⟩ := kTo (n := n + 6) (pc := 12) s2
    have a4 := a2.trans a3 fun j _ h => h
    rw [if_pos c1]
    simp only [stepC] at hr1 hr2 h3
    simp (maxDischargeDepth := 30) [q42, h1, hr1, hr2, b1, h3]
    exact a4.ends (by simp [refsLt, refsLtA, refsLtL]) fun S' k2 k3 k4 => ⟨k2, k3, s3.back h k4⟩
  · have b1 : (s != x.slab) = true := by simp [c1]
    obtain ⟨S3, q3, h3, a3, t3, s3⟩ := kTo (n := n + 6) (pc := 50) s1
    have a4 := a1.trans a3 fun j _ h => h
    rw [if_neg c1]
    simp only [stepC] at hr1 h3
    simp (maxDischargeDepth := 30) [q42, h1, hr1, b1, h3]
    exact a4.ends (by simp [refsLt, refsLtA, refsLtL]) fun S' k2 k3 k4 => ⟨k2, k3, s3.back h k4⟩

/-- Where a link leads, in a task. -/
def nextT (O : Nat) (x : TaskP) (y : Option Int) : TaskP := match y with
  | some y => if y < O then { x with last := y, pc := 3 } else { x with pc := 0 }
  | none => { x with pc := 0 }

set_option maxHeartbeats 4000000 in
theorem kNext (h : Stp S bs bm bw P N O mn cp k x bad ws cnt) :
    Does 40 (n + 8) S bs bm bw P N O mn cp k cnt (nextT O x (showP (ld ws (linkI P N O x.slab x.obj)) (keyI k x.slab) x.obj)) (bad || !inR ws (linkI P N O x.slab x.obj)) ws := by
  have hr := h.here
  have hh := fun (m : Nat) (S : St) => @gLink m S P N O mn cp k hm x.slab x.obj
  have hl := linkI_le hm x.slab x.obj
  have hk := fun (m : Nat) (S : St) => @gKey m S P N O mn cp k x.slab
  have hwd := ld_word hw (linkI P N O x.slab x.obj)
  have hsh := fun (m : Nat) (S : St) => @sShow m S (ld ws (linkI P N O x.slab x.obj)) (keyI k x.slab) x.obj hwd
  unfold chart at hh hk
  obtain ⟨cnt', hcc, S1, q1, h1, a1, t1, s1⟩ := kLoad (n := n + 3) (a := linkI P N O x.slab x.obj) h.enter hc (by omega)
  have hr1 := s1.here
  refine ⟨cnt', hcc, ?_⟩
  generalize (bad || !inR ws (linkI P N O x.slab x.obj)) = bad1 at *
  cases hy : showP (ld ws (linkI P N O x.slab x.obj)) (keyI k x.slab) x.obj with
  | none =>
    obtain ⟨S3, q3, h3, a3, t3, s3⟩ := kTo (n := n + 6) (pc := 0) s1
    have a4 := a1.trans a3 fun j _ h => h
    simp only [stepC] at hr hr1 h3
    simp (maxDischargeDepth := 30) [q40, hr, hh, hk, h1, hr1, hsh, hy, numOf, h3]
    exact a4.ends (by simp [refsLt, refsLtA, refsLtL]) fun S' k2 k3 k4 => ⟨k2, k3, s3.back h k4⟩
  | some y =>
    by_cases c1 : y < O
    · have c2 : ¬ (O : Int) ≤ y := by omega
      have s2 := s1.wrote { x with last := y } bad1 (.int .i64 y)
      have hr2 := s2.here
      have a2 : Aft (Mine bs bm bw) S.enter _ := a1.wroteOld (b := bs) (.cells 56 (stepC bm P N O mn cp k { x with last := y } bad1)) (v := .int .i64 y) (.inl rfl) (by simp)
      obtain ⟨S3, q3, h3, a3, t3, s3⟩ := kTo (n := n + 6) (pc := 3) s2
      have a4 := a2.trans a3 fun j _ h => h
      have hn : nextT O x (some y) = { x with last := y, pc := 3 } := by simp [nextT, c1]
      rw [hn]
      simp only [stepC] at hr hr1 hr2 h3
      simp (maxDischargeDepth := 30) [q40, hr, hh, hk, h1, hr1, hr2, hsh, hy, numOf, c2, h3]
      exact a4.ends (by simp [refsLt, refsLtA, refsLtL]) fun S' k2 k3 k4 => ⟨k2, k3, s3.back h k4⟩
    · have c2 : (O : Int) ≤ y := by omega
      obtain ⟨S3, q3, h3, a3, t3, s3⟩ := kTo (n := n + 6) (pc := 0) s1
      have a4 := a1.trans a3 fun j _ h => h
      have hn : nextT O x (some y) = { x with pc := 0 } := by simp [nextT, c1]
      rw [hn]
      simp only [stepC] at hr hr1 h3
      simp (maxDischargeDepth := 30) [q40, hr, hh, hk, h1, hr1, hsh, hy, numOf, c2, h3]
      exact a4.ends (by simp [refsLt, refsLtA, refsLtL]) fun S' k2 k3 k4 => ⟨k2, k3, s3.back h k4⟩
end

section
variable {n : Nat} {S : St} {bs bm bw P N O : Nat} {mn cp k : Int} {x : TaskP} {ws : List Int} {cnt : Int} (hm : may P N O mn cp = true) (hc : 0 ≤ cnt ∧ cnt < 1000000000000000)

/-- What swap makes of a task and of words. -/
noncomputable def swapR (P : Nat) (ws : List Int) (x : TaskP) (obj again : Int) : TaskP × Bool × List Int := match headP x.slab obj with
  | none => (x, true, ws)
  | some w => if inR2 ws (headI P x.cpu) then (if hit ws (headI P x.cpu).toNat x.h x.t then { x with en := 1 } else { x with pc := again }, false, cas2W ws (headI P x.cpu).toNat x.h x.t w (W .u64 (x.t + 1))) else ({ x with pc := again }, true, ws)

include hm hc

set_option maxHeartbeats 4000000 in
theorem kSwap {obj again : Int} (h : Stp S bs bm bw P N O mn cp k x false ws cnt) :
    ∃ cnt', (cnt ≤ cnt' ∧ cnt' ≤ cnt + 1) ∧ EndsIn (calls table.find (n + 7) 70 [.pointer (some ⟨bs, 0, none⟩), .int .i64 obj, .int .i64 again] S) (.tuple #[]) fun S' =>
      Aft (Mine bs bm bw) S S' ∧ S'.top = S.top ∧ Stp S' bs bm bw P N O mn cp k (swapR P ws x obj again).1 (swapR P ws x obj again).2.1 (swapR P ws x obj again).2.2 cnt' := by
  have hr := h.here
  have hh := fun (m : Nat) (S : St) => @gHead m S P N O mn cp k hm x.cpu
  have hl := headI_le hm x.cpu
  have hd := fun (m : Nat) (S : St) => @sHead m S x.slab obj
  unfold chart at hh
  unfold swapR
  cases hp : headP x.slab obj with
  | none =>
    obtain ⟨S1, q1, h1, a1, t1, s1⟩ := kMust (n := n + 5) (b := false) h.enter
    have hr1 := s1.here
    refine ⟨cnt, by omega, ?_⟩
    simp only [stepC] at hr hr1
    simp (maxDischargeDepth := 30) [q70, hr, hd, hp, wordOf, h1, hr1]
    exact a1.ends (by simp [refsLt, refsLtA, refsLtL]) fun S' k2 k3 k4 => ⟨k2, k3, by simpa using s1.back h k4⟩
  | some w =>
    obtain ⟨S1, q1, h1, a1, t1, s1⟩ := kMust (n := n + 5) (b := true) h.enter
    have s1 : Stp S1 bs bm bw P N O mn cp k x false ws cnt := by simpa using s1
    have hr1 := s1.here
    obtain ⟨cnt', hcc, S2, q2, h2, a2, t2, s2⟩ := kCas2 (n := n + 2) (a := headI P x.cpu) (old := x.h) (second := x.t) (to := w) (other := W .u64 (x.t + 1)) s1 hc (by omega)
    have hr2 := s2.here
    have a12 := a1.trans a2 fun j _ h => h
    refine ⟨cnt', hcc, ?_⟩
    cases hi : inR2 ws (headI P x.cpu) with
    | false =>
      rw [hi] at h2 s2 hr2
      have s2 : Stp S2 bs bm bw P N O mn cp k x true ws cnt' := by simpa using s2
      obtain ⟨S3, q3, h3, a3, t3, s3⟩ := kTo (n := n + 5) (pc := again) s2
      have a4 := a12.trans a3 fun j _ h => h
      simp only [stepC] at hr hr1 hr2 h3
      simp (maxDischargeDepth := 30) [q70, hr, hh, hd, hp, wordOf, h1, hr1, h2, h3]
      exact a4.ends (by simp [refsLt, refsLtA, refsLtL]) fun S' k2 k3 k4 => ⟨k2, k3, s3.back h k4⟩
    | true =>
      rw [hi] at h2 s2 hr2
      cases hx : hit ws (headI P x.cpu).toNat x.h x.t with
      | false =>
        rw [hx] at h2
        have s2 : Stp S2 bs bm bw P N O mn cp k x false (cas2W ws (headI P x.cpu).toNat x.h x.t w (W .u64 (x.t + 1))) cnt' := by simpa using s2
        obtain ⟨S3, q3, h3, a3, t3, s3⟩ := kTo (n := n + 5) (pc := again) s2
        have a4 := a12.trans a3 fun j _ h => h
        simp only [stepC] at hr hr1 hr2 h3
        simp (maxDischargeDepth := 30) [q70, hr, hh, hd, hp, wordOf, h1, hr1, h2, h3]
        exact a4.ends (by simp [refsLt, refsLtA, refsLtL]) fun S' k2 k3 k4 => ⟨k2, k3, s3.back h k4⟩
      | true =>
        rw [hx] at h2
        have s2 : Stp S2 bs bm bw P N O mn cp k x false (cas2W ws (headI P x.cpu).toNat x.h x.t w (W .u64 (x.t + 1))) cnt' := by simpa using s2
        have hr2 := s2.here
        have s3 := s2.wrote { x with en := 1 } false (.int .i64 1)
        have a4 : Aft (Mine bs bm bw) S.enter _ := a12.wroteOld (b := bs) (.cells 56 (stepC bm P N O mn cp k { x with en := 1 } false)) (v := .int .i64 1) (.inl rfl) (by simp)
        simp only [stepC] at hr hr1 hr2 a4
        simp (maxDischargeDepth := 30) [q70, hr, hh, hd, hp, wordOf, h1, hr1, h2, hr2]
        exact a4.ends (by simp [refsLt, refsLtA, refsLtL]) fun S' k2 k3 k4 => ⟨k2, k3, s3.back h (by simpa only [stepC] using k4)⟩

theorem kTake (h : Stp S bs bm bw P N O mn cp k x false ws cnt) :
    Does 41 (n + 8) S bs bm bw P N O mn cp k cnt (swapR P ws x x.last 0).1 (swapR P ws x x.last 0).2.1 (swapR P ws x x.last 0).2.2 := by
  have hr := h.here
  obtain ⟨cnt', hcc, S1, q1, h1, a1, t1, s1⟩ := kSwap (n := n) hm hc (obj := x.last) (again := 0) h.enter
  refine ⟨cnt', hcc, ?_⟩
  simp only [stepC] at hr
  simp (maxDischargeDepth := 30) [q41, hr, h1]
  exact a1.ends (by simp [refsLt, refsLtA, refsLtL]) fun S' k2 k3 k4 => ⟨k2, k3, s1.back h k4⟩

theorem kGive (h : Stp S bs bm bw P N O mn cp k x false ws cnt) :
    Does 44 (n + 8) S bs bm bw P N O mn cp k cnt (swapR P ws x x.obj 10).1 (swapR P ws x x.obj 10).2.1 (swapR P ws x x.obj 10).2.2 := by
  have hr := h.here
  obtain ⟨cnt', hcc, S1, q1, h1, a1, t1, s1⟩ := kSwap (n := n) hm hc (obj := x.obj) (again := 10) h.enter
  refine ⟨cnt', hcc, ?_⟩
  simp only [stepC] at hr
  simp (maxDischargeDepth := 30) [q44, hr, h1]
  exact a1.ends (by simp [refsLt, refsLtA, refsLtL]) fun S' k2 k3 k4 => ⟨k2, k3, s1.back h k4⟩

/-- What tie makes of a task and of words. -/
noncomputable def tieR (P N O : Nat) (k : Int) (ws : List Int) (x : TaskP) : TaskP × Bool × List Int := match hideP x.last (keyI k x.slab) x.obj with
  | none => ({ x with pc := 13 }, true, ws)
  | some w => ({ x with pc := 13 }, !inR ws (linkI P N O x.slab x.obj), if inR ws (linkI P N O x.slab x.obj) then ws.set (linkI P N O x.slab x.obj).toNat w else ws)

set_option maxHeartbeats 4000000 in
theorem kTie (h : Stp S bs bm bw P N O mn cp k x false ws cnt) :
    Does 43 (n + 8) S bs bm bw P N O mn cp k cnt (tieR P N O k ws x).1 (tieR P N O k ws x).2.1 (tieR P N O k ws x).2.2 := by
  have hr := h.here
  have hh := fun (m : Nat) (S : St) => @gLink m S P N O mn cp k hm x.slab x.obj
  have hl := linkI_le hm x.slab x.obj
  have hk := fun (m : Nat) (S : St) => @gKey m S P N O mn cp k x.slab
  have hd := fun (m : Nat) (S : St) => @sHide m S x.last (keyI k x.slab) x.obj
  unfold chart at hh hk
  unfold tieR
  cases hp : hideP x.last (keyI k x.slab) x.obj with
  | none =>
    obtain ⟨S1, q1, h1, a1, t1, s1⟩ := kMust (n := n + 6) (b := false) h.enter
    have s1 : Stp S1 bs bm bw P N O mn cp k x true ws cnt := by simpa using s1
    have hr1 := s1.here
    obtain ⟨S3, q3, h3, a3, t3, s3⟩ := kTo (n := n + 6) (pc := 13) s1
    have a4 := a1.trans a3 fun j _ h => h
    refine ⟨cnt, by omega, ?_⟩
    simp only [stepC] at hr hr1 h3
    simp (maxDischargeDepth := 30) [q43, hr, hh, hk, hd, hp, wordOf, h1, hr1, h3]
    exact a4.ends (by simp [refsLt, refsLtA, refsLtL]) fun S' k2 k3 k4 => ⟨k2, k3, s3.back h k4⟩
  | some w =>
    obtain ⟨S1, q1, h1, a1, t1, s1⟩ := kMust (n := n + 6) (b := true) h.enter
    have s1 : Stp S1 bs bm bw P N O mn cp k x false ws cnt := by simpa using s1
    have hr1 := s1.here
    obtain ⟨cnt', hcc, S2, q2, h2, a2, t2, s2⟩ := kStore (n := n + 3) (a := linkI P N O x.slab x.obj) (v := w) s1 hc (by omega)
    have s2 : Stp S2 bs bm bw P N O mn cp k x (!inR ws (linkI P N O x.slab x.obj)) (if inR ws (linkI P N O x.slab x.obj) then ws.set (linkI P N O x.slab x.obj).toNat w else ws) cnt' := by simpa using s2
    have hr2 := s2.here
    obtain ⟨S3, q3, h3, a3, t3, s3⟩ := kTo (n := n + 6) (pc := 13) s2
    have a4 := (a1.trans a2 fun j _ h => h).trans a3 fun j _ h => h
    refine ⟨cnt', hcc, ?_⟩
    simp only [stepC] at hr hr1 hr2 h3
    simp (maxDischargeDepth := 30) [q43, hr, hh, hk, hd, hp, wordOf, h1, hr1, h2, h3]
    exact a4.ends (by simp [refsLt, refsLtA, refsLtL]) fun S' k2 k3 k4 => ⟨k2, k3, s3.back h k4⟩
end

end Go.Proofs.YtepddcemoofmlaaGreat.Fast

/- One step of a task on the short ways. -/
namespace Go.Proofs.YtepddcemoofmlaaGreat.Fast
open Go Go.Proofs.YtepddcemoofmlaaGreat.AE
set_option maxRecDepth 10000
set_option linter.unusedSimpArgs false
set_option linter.unusedVariables false

def fnV (f : FuncId) : Value := .func (.func f) #[] #[]
def doTable : List (Int × Value) := [(0, fnV 38), (1, fnV 39), (2, fnV 40), (3, fnV 41), (10, fnV 38), (11, fnV 42), (12, fnV 43), (13, fnV 44)]

def zeroT : TaskP := ⟨0, 0, 0, 0, 0, 0, 0, 0, 0, 0, 0, 0, 0, 0, 0, 0, 0⟩
def brk (x : TaskP) : TaskP := { x with en := 3 }

section
variable {n : Nat} {S : St} {bm bw P N O : Nat} {mn cp k : Int} {x : TaskP} {ws : List Int} {cnt : Int}

set_option maxHeartbeats 4000000 in
theorem sProgram : ∃ S', calls table.find (n + 1) 19 [] S = some (.map (some S.top), S', true) ∧ Grown S S' ∧ S'.at S.top = some (.amap doTable) := by
  have e3 : S.enter.top = S.top := rfl
  simp (maxDischargeDepth := 30) [q19, setM]
  generalize hF : St.wrote _ _ _ _ = F
  have kF : Kept S F := by
    rw [← hF]
    exact (((((((((Kept.enter S).push _).wrote _ _ (Nat.le_refl _)).wrote _ _ (Nat.le_refl _)).wrote _ _ (Nat.le_refl _)).wrote _ _ (Nat.le_refl _)).wrote _ _ (Nat.le_refl _)).wrote _ _ (Nat.le_refl _)).wrote _ _ (Nat.le_refl _)).wrote _ _ (Nat.le_refl _)
  have aF : F.at S.top = some (.amap doTable) := by
    have z : ∀ (T : St) (es : List (Int × Value)) (v : Value), (T.at S.top).isSome = true → (T.wrote S.top (.amap es) v).at S.top = some (.amap es) := fun T es v h => m_wrote h
    have z2 : ∀ (T : St) (es : List (Int × Value)) (v : Value), (T.at S.top).isSome = true → ((T.wrote S.top (.amap es) v).at S.top).isSome = true := fun T es v h => by rw [z T es v h]; rfl
    rw [← hF]
    exact z _ _ _ (z2 _ _ _ (z2 _ _ _ (z2 _ _ _ (z2 _ _ _ (z2 _ _ _ (z2 _ _ _ (z2 _ _ _ (by rw [← e3, m_push_top]; rfl))))))))
  have hl := leave_new kF (v := .map (some S.top)) (by simp [refsLt])
  exact ⟨S.left F, hl, Grown.left kF, by rw [at_left]; exact aF⟩

theorem sLen (hM : Mem S bm bw ws cnt) : calls table.find (n + 1) 17 [.pointer (some ⟨bm, 0, none⟩)] S = some (.int .i64 ws.length, S, true) := by
  have h := hM.2.1
  simp (maxDischargeDepth := 30) [q17, h]

set_option maxHeartbeats 8000000 in
theorem sStepOf {f : FuncId} {x' : TaskP} {bad' : Bool} {ws' : List Int} (hm : may P N O mn cp = true) (hM : Mem S bm bw ws cnt) (hl0 : 0 < ws.length) (hl : ws.length ≤ 4096) (hf : findM x.pc doTable = some (fnV f)) (he : x.en = 0) (hwa : x.want = 0)
    (hdo : ∀ (S : St) (bs : Nat), Stp S bs bm bw P N O mn cp k x false ws cnt → Does f (n + 8) S bs bm bw P N O mn cp k cnt x' bad' ws') :
    ∃ cnt', (cnt ≤ cnt' ∧ cnt' ≤ cnt + 1) ∧ EndsIn (calls table.find (n + 9) 6 [.pointer (some ⟨bm, 0, none⟩), chart P N O mn cp k, .agg x.cells.toArray] S) (.tuple #[.agg (if bad' then brk x else x').cells.toArray, .int .i64 0]) fun S' =>
      Aft (fun j => j = bm ∨ j = bw) S S' ∧ S'.top = S.top ∧ Mem S' bm bw ws' cnt' := by
  have e3 : S.enter.top = S.top := rfl
  have lt1 := hM.lt1
  have lt2 := hM.lt2
  have n1 := hM.1
  obtain ⟨X1, hX1⟩ : ∃ X, S.enter.push (.cells 25 [.int .i64 P, .int .i64 N, .int .i64 O, .int .i64 mn, .int .i64 cp, .int .u64 k]) = X := ⟨_, rfl⟩
  obtain ⟨X2, hX2⟩ : ∃ X, X1.push (.cells 27 x.cells) = X := ⟨_, rfl⟩
  obtain ⟨X3, hX3⟩ : ∃ X, X2.push (.cells 27 zeroT.cells) = X := ⟨_, rfl⟩
  have t1 : X1.top = S.top + 1 := by rw [← hX1, top_push, top_enter]
  have t2 : X2.top = S.top + 2 := by rw [← hX2, top_push, t1]
  have t3 : X3.top = S.top + 3 := by rw [← hX3, top_push, t2]
  have m3 : Mem X3 bm bw ws cnt := by rw [← hX3, ← hX2, ← hX1]; exact ((Mem.push (S := S.enter) hM _).push _).push _
  have c1 : X3.at S.top = some (.cells 25 [.int .i64 P, .int .i64 N, .int .i64 O, .int .i64 mn, .int .i64 cp, .int .u64 k]) := by rw [← hX3, push_chain (by omega), ← hX2, push_chain (by omega), ← hX1]; exact m_push_top
  have c2 : X3.at (S.top + 1) = some (.cells 27 x.cells) := by rw [← hX3, push_chain (by omega), ← hX2, ← t1]; exact m_push_top
  have c3 : X3.at (S.top + 2) = some (.cells 27 zeroT.cells) := by rw [← hX3, ← t2]; exact m_push_top
  have hlen := fun (m : Nat) => @sLen m X3 bm bw ws cnt m3
  have hck := fun (m : Nat) (S : St) => @vCheck m P N O mn cp k S hm
  unfold chart at hck
  obtain ⟨X4, hp, g4, p4⟩ := sProgram (n := n + 7) (S := X3)
  rw [t3] at hp p4
  have c1' := g4.same c1
  have c2' := g4.same c2
  have c3' := g4.same c3
  have lt4 : S.top + 3 < X4.top := lt_top p4
  have m4 : Mem X4 bm bw ws cnt := m3.move (Grown.at' g4 _ (by omega)) (Grown.at' g4 _ (by omega))
  obtain ⟨X5, hX5⟩ : ∃ X, X4.push (.cells 56 (stepC bm P N O mn cp k x false)) = X := ⟨_, rfl⟩
  have t5 : X5.top = X4.top + 1 := by rw [← hX5, top_push]
  have m5 : Mem X5 bm bw ws cnt := by rw [← hX5]; exact m4.push _
  have s5 : Stp X5 X4.top bm bw P N O mn cp k x false ws cnt := ⟨by rw [← hX5]; exact m_push_top, m5, by omega, by omega, hl⟩
  obtain ⟨cnt', hcc, X6, qq6, h6, a6, t6, s6⟩ := hdo X5 X4.top s5
  have at5 : ∀ j, j < X4.top → X5.at j = X4.at j := fun j hj => by rw [← hX5, push_chain hj]
  have c2'' : X6.at (S.top + 1) = some (.cells 27 x.cells) := by rw [a6.at' _ (by omega) (by unfold Mine; omega), at5 _ (by omega)]; exact c2'
  have c3'' : X6.at (S.top + 2) = some (.cells 27 zeroT.cells) := by rw [a6.at' _ (by omega) (by unfold Mine; omega), at5 _ (by omega)]; exact c3'
  have hr6 := s6.here
  have A0 : Aft (fun j => j = bm ∨ j = bw ∨ j = X4.top) S.enter X5 := by
    have k3 : Aft (fun j => j = bm ∨ j = bw ∨ j = X4.top) S.enter X3 := by rw [← hX3, ← hX2, ← hX1]; exact (((Aft.refl _ S.enter).push _).push _).push _
    have k4 : Aft (fun j => j = bm ∨ j = bw ∨ j = X4.top) S.enter X4 := k3.trans g4 fun _ _ h => h.elim
    rw [← hX5]; exact k4.push _
  have A6 : Aft (fun j => j = bm ∨ j = bw) S.enter X6 := (A0.trans a6 fun j _ h => by
    have h : j = X4.top ∨ j = bm ∨ j = bw := h
    show j = bm ∨ j = bw ∨ j = X4.top
    omega).more fun j hj h => by
    have hj' : j < S.top := hj
    have h : j = bm ∨ j = bw ∨ j = X4.top := h
    show j = bm ∨ j = bw
    omega
  refine ⟨cnt', hcc, ?_⟩
  have hz : zeroT.cells = [.int .i64 0, .int .i64 0, .int .i64 0, .int .i64 0, .int .i64 0, .int .i64 0, .int .i64 0, .int .u64 0, .int .u64 0, .int .u64 0, .int .u64 0, .int .u64 0, .int .i64 0, .int .i64 0, .int .i64 0, .int .i64 0, .int .i64 0] := rfl
  rw [hz] at hX3 c3 c3' c3''
  have hen : (x.en != 0) = false := by simp [he]
  have hwn : (x.want != 0) = false := by simp [hwa]
  have hn0 : ((ws.length : Int) == 0) = false := by rw [beq_eq_false_iff_ne]; omega
  have mm : ∀ F S' : St, (∀ j, j < S.top → F.at j = X6.at j) → (∀ j, j < S.top → S'.at j = F.at j) → Mem S' bm bw ws' cnt' := fun F S' h1 h2 => s6.mem.move ((h2 _ lt1).trans (h1 _ lt1)) ((h2 _ lt2).trans (h1 _ lt2))
  cases bad' with
  | true =>
    have A7 := (A6.wroteNew (b := S.top + 1) (.cells 27 (brk x).cells) (.int .i64 3) (by show S.top ≤ _; omega)).wroteNew (b := S.top + 2) (.cells 27 (brk x).cells) (.agg ⟨(brk x).cells⟩) (by show S.top ≤ _; omega)
    simp only [TaskP.cells, stepC, brk, fnV, chart, if_true] at *
    simp (maxDischargeDepth := 30) [q6, hX1, hX2, hX3, hX5, e3, t1, t2, hlen, hn0, hck, c1, c2, c3, hp, p4, hf, hen, hwn, c1', c2', c3', h6, hr6, c2'', c3'']
    exact A7.ends (by simp) fun S' k2 k3 k4 => ⟨k2, k3, mm _ _ (fun j hj => by rw [m_wrote_ne (by omega), m_wrote_ne (by omega)]) k4⟩
  | false =>
    have A7 := A6.wroteNew (b := S.top + 2) (.cells 27 x'.cells) (.agg ⟨x'.cells⟩) (by show S.top ≤ _; omega)
    simp only [TaskP.cells, stepC, fnV, chart, Bool.false_eq_true, if_false] at *
    simp (maxDischargeDepth := 30) [q6, hX1, hX2, hX3, hX5, e3, t1, t2, hlen, hn0, hck, c1, c2, c3, hp, p4, hf, hen, hwn, c1', c2', c3', h6, hr6, c2'', c3'']
    exact A7.ends (by simp) fun S' k2 k3 k4 => ⟨k2, k3, mm _ _ (fun j hj => by rw [m_wrote_ne (by omega)]) k4⟩

set_option maxHeartbeats 8000000 in
theorem sStepNo (hm : may P N O mn cp = true) (hM : Mem S bm bw ws cnt) (hl0 : 0 < ws.length) (hno : findM x.pc doTable = none ∨ x.en ≠ 0 ∨ x.want ≠ 0) :
    calls table.find (n + 9) 6 [.pointer (some ⟨bm, 0, none⟩), chart P N O mn cp k, .agg x.cells.toArray] S = some (.tuple #[.agg zeroT.cells.toArray, .int .i64 292], S, true) := by
  have e3 : S.enter.top = S.top := rfl
  obtain ⟨X1, hX1⟩ : ∃ X, S.enter.push (.cells 25 [.int .i64 P, .int .i64 N, .int .i64 O, .int .i64 mn, .int .i64 cp, .int .u64 k]) = X := ⟨_, rfl⟩
  obtain ⟨X2, hX2⟩ : ∃ X, X1.push (.cells 27 x.cells) = X := ⟨_, rfl⟩
  obtain ⟨X3, hX3⟩ : ∃ X, X2.push (.cells 27 zeroT.cells) = X := ⟨_, rfl⟩
  have t1 : X1.top = S.top + 1 := by rw [← hX1, top_push, top_enter]
  have t2 : X2.top = S.top + 2 := by rw [← hX2, top_push, t1]
  have t3 : X3.top = S.top + 3 := by rw [← hX3, top_push, t2]
  have m3 : Mem X3 bm bw ws cnt := by rw [← hX3, ← hX2, ← hX1]; exact ((Mem.push (S := S.enter) hM _).push _).push _
  have c1 : X3.at S.top = some (.cells 25 [.int .i64 P, .int .i64 N, .int .i64 O, .int .i64 mn, .int .i64 cp, .int .u64 k]) := by rw [← hX3, push_chain (by omega), ← hX2, push_chain (by omega), ← hX1]; exact m_push_top
  have c2 : X3.at (S.top + 1) = some (.cells 27 x.cells) := by rw [← hX3, push_chain (by omega), ← hX2, ← t1]; exact m_push_top
  have c3 : X3.at (S.top + 2) = some (.cells 27 zeroT.cells) := by rw [← hX3, ← t2]; exact m_push_top
  have hlen := fun (m : Nat) => @sLen m X3 bm bw ws cnt m3
  have hck := fun (m : Nat) (S : St) => @vCheck m P N O mn cp k S hm
  unfold chart at hck
  obtain ⟨X4, hp, g4, p4⟩ := sProgram (n := n + 7) (S := X3)
  rw [t3] at hp p4
  have c2' := g4.same c2
  have c3' := g4.same c3
  have k4 : Kept S X4 := Grown.kept g4 S (by rw [← hX3, ← hX2, ← hX1]; exact (((Kept.enter S).push _).push _).push _)
  have hz : zeroT.cells = [.int .i64 0, .int .i64 0, .int .i64 0, .int .i64 0, .int .i64 0, .int .i64 0, .int .i64 0, .int .u64 0, .int .u64 0, .int .u64 0, .int .u64 0, .int .u64 0, .int .i64 0, .int .i64 0, .int .i64 0, .int .i64 0, .int .i64 0] := rfl
  rw [hz] at hX3 c3 c3'
  have hn0 : ((ws.length : Int) == 0) = false := by rw [beq_eq_false_iff_ne]; omega
  have hF := leave_quiet (k4.wrote (b := S.top + 2) (.cells 27 zeroT.cells) (.agg ⟨zeroT.cells⟩) (by omega)).wr (v := .tuple #[.agg zeroT.cells.toArray, .int .i64 292]) (by simp [hz])
  rw [hz] at hF
  cases hf : findM x.pc doTable with
  | none =>
    simp only [TaskP.cells, chart] at *
    rw [hz]
    simp (maxDischargeDepth := 30) [q6, hX1, hX2, hX3, e3, t1, t2, hlen, hn0, hck, c1, c2, c3, hp, p4, hf, c2', c3', hF]
  | some v =>
    have hno : x.en ≠ 0 ∨ x.want ≠ 0 := by
      rcases hno with h | h
      · rw [h] at hf; cases hf
      · exact h
    by_cases he : x.en = 0
    · have hen : (x.en != 0) = false := by simp [he]
      have hwn : (x.want != 0) = true := by
        rcases hno with h | h
        · exact absurd he h
        · simp [h]
      simp only [TaskP.cells, chart] at *
      rw [hz]
      simp (maxDischargeDepth := 30) [q6, hX1, hX2, hX3, e3, t1, t2, hlen, hn0, hck, c1, c2, c3, hp, p4, hf, hen, hwn, c2', c3', hF]
    · have hen : (x.en != 0) = true := by simp [he]
      simp only [TaskP.cells, chart] at *
      rw [hz]
      simp (maxDischargeDepth := 30) [q6, hX1, hX2, hX3, e3, t1, t2, hlen, hn0, hck, c1, c2, c3, hp, p4, hf, hen, c2', c3', hF]
end

/-! ### what a step makes of a task and of words -/
noncomputable def fastR (P N O : Nat) (k : Int) (ws : List Int) (x : TaskP) : TaskP × Bool × List Int :=
  if x.pc = 0 ∨ x.pc = 10 then ({ x with t := ld ws (behindI (headI P x.cpu)), pc := x.pc + 1 }, !inR ws (behindI (headI P x.cpu)), ws)
  else if x.pc = 1 then ({ x with h := ld ws (headI P x.cpu), slab := (headS (ld ws (headI P x.cpu))).1, obj := (headS (ld ws (headI P x.cpu))).2, pc := if (headS (ld ws (headI P x.cpu))).1 < 0 then 30 else if (headS (ld ws (headI P x.cpu))).2 < 0 then 20 else 2 },
    !inR ws (headI P x.cpu) || !headOk N O (ld ws (headI P x.cpu)), ws)
  else if x.pc = 2 then (nextT O x (showP (ld ws (linkI P N O x.slab x.obj)) (keyI k x.slab) x.obj), !inR ws (linkI P N O x.slab x.obj), ws)
  else if x.pc = 3 then swapR P ws x x.last 0
  else if x.pc = 11 then (if (headS (ld ws (headI P x.cpu))).1 = x.slab then { x with h := ld ws (headI P x.cpu), last := (headS (ld ws (headI P x.cpu))).2, pc := 12 } else { x with h := ld ws (headI P x.cpu), pc := 50 },
    !inR ws (headI P x.cpu) || !headOk N O (ld ws (headI P x.cpu)), ws)
  else if x.pc = 12 then tieR P N O k ws x
  else swapR P ws x x.obj 10

noncomputable def fastT (P N O : Nat) (k : Int) (ws : List Int) (x : TaskP) : TaskP := if (fastR P N O k ws x).2.1 then brk x else (fastR P N O k ws x).1
noncomputable def fastW (P N O : Nat) (k : Int) (ws : List Int) (x : TaskP) : List Int := (fastR P N O k ws x).2.2

/-- May a step be done? -/
def fastOk (x : TaskP) : Prop := x.en = 0 ∧ x.want = 0 ∧ (x.pc = 0 ∨ x.pc = 1 ∨ x.pc = 2 ∨ x.pc = 3 ∨ x.pc = 10 ∨ x.pc = 11 ∨ x.pc = 12 ∨ x.pc = 13)

section
variable {n : Nat} {S : St} {bm bw P N O : Nat} {mn cp k : Int} {x : TaskP} {ws : List Int} {cnt : Int}

theorem sStep (hm : may P N O mn cp = true) (hM : Mem S bm bw ws cnt) (hl0 : 0 < ws.length) (hl : ws.length ≤ 4096) (hw : ∀ x ∈ ws, Word x) (hc : 0 ≤ cnt ∧ cnt < 1000000000000000) (hok : fastOk x) :
    ∃ cnt', (cnt ≤ cnt' ∧ cnt' ≤ cnt + 1) ∧ EndsIn (calls table.find (n + 9) 6 [.pointer (some ⟨bm, 0, none⟩), chart P N O mn cp k, .agg x.cells.toArray] S) (.tuple #[.agg (fastT P N O k ws x).cells.toArray, .int .i64 0]) fun S' =>
      Aft (fun j => j = bm ∨ j = bw) S S' ∧ S'.top = S.top ∧ Mem S' bm bw (fastW P N O k ws x) cnt' := by
  obtain ⟨he, hwa, hpc⟩ := hok
  have key : ∀ f, findM x.pc doTable = some (fnV f) → (∀ (S : St) (bs : Nat), Stp S bs bm bw P N O mn cp k x false ws cnt → Does f (n + 8) S bs bm bw P N O mn cp k cnt (fastR P N O k ws x).1 (fastR P N O k ws x).2.1 (fastR P N O k ws x).2.2) →
      ∃ cnt', (cnt ≤ cnt' ∧ cnt' ≤ cnt + 1) ∧ EndsIn (calls table.find (n + 9) 6 [.pointer (some ⟨bm, 0, none⟩), chart P N O mn cp k, .agg x.cells.toArray] S) (.tuple #[.agg (fastT P N O k ws x).cells.toArray, .int .i64 0]) fun S' =>
      Aft (fun j => j = bm ∨ j = bw) S S' ∧ S'.top = S.top ∧ Mem S' bm bw (fastW P N O k ws x) cnt' := fun f hf hdo => sStepOf hm hM hl0 hl hf he hwa hdo
  rcases hpc with h | h | h | h | h | h | h | h
  · have e : fastR P N O k ws x = ({ x with t := ld ws (behindI (headI P x.cpu)), pc := x.pc + 1 }, !inR ws (behindI (headI P x.cpu)), ws) := by simp [fastR, h]
    refine key 38 (by rw [h]; rfl) fun S bs hs => ?_
    rw [e]
    have := kTurn (n := n + 1) hm hc hs (by omega)
    simpa using this
  · refine key 39 (by rw [h]; rfl) fun S bs hs => ?_
    have := kLook (n := n) hm hw hc hs _ rfl
    simpa [fastR, h] using this
  · refine key 40 (by rw [h]; rfl) fun S bs hs => ?_
    have := kNext (n := n) hm hw hc hs
    simpa [fastR, h] using this
  · refine key 41 (by rw [h]; rfl) fun S bs hs => ?_
    have := kTake (n := n) hm hc hs
    simpa [fastR, h] using this
  · have e : fastR P N O k ws x = ({ x with t := ld ws (behindI (headI P x.cpu)), pc := x.pc + 1 }, !inR ws (behindI (headI P x.cpu)), ws) := by simp [fastR, h]
    refine key 38 (by rw [h]; rfl) fun S bs hs => ?_
    rw [e]
    have := kTurn (n := n + 1) hm hc hs (by omega)
    simpa using this
  · refine key 42 (by rw [h]; rfl) fun S bs hs => ?_
    have := kMine (n := n) hm hw hc hs _ rfl
    simpa [fastR, h] using this
  · refine key 43 (by rw [h]; rfl) fun S bs hs => ?_
    have := kTie (n := n) hm hc hs
    simpa [fastR, h] using this
  · refine key 44 (by rw [h]; rfl) fun S bs hs => ?_
    have := kGive (n := n) hm hc hs
    simpa [fastR, h] using this

theorem sStepBad (hm : may P N O mn cp = true) (hM : Mem S bm bw ws cnt) (hl0 : 0 < ws.length) (hok : ¬ fastOk x) :
    calls table.find (n + 9) 6 [.pointer (some ⟨bm, 0, none⟩), chart P N O mn cp k, .agg x.cells.toArray] S = some (.tuple #[.agg zeroT.cells.toArray, .int .i64 292], S, true) := by
  refine sStepNo hm hM hl0 ?_
  by_cases he : x.en = 0
  · by_cases hwa : x.want = 0
    · refine .inl ?_
      have hpc : ¬ (x.pc = 0 ∨ x.pc = 1 ∨ x.pc = 2 ∨ x.pc = 3 ∨ x.pc = 10 ∨ x.pc = 11 ∨ x.pc = 12 ∨ x.pc = 13) := fun h => hok ⟨he, hwa, h⟩
      simp only [not_or] at hpc
      obtain ⟨p0, p1, p2, p3, p4, p5, p6, p7⟩ := hpc
      simp [doTable, findM, p0, p1, p2, p3, p4, p5, p6, p7]
    · exact .inr (.inr hwa)
  · exact .inr (.inl he)
end

end Go.Proofs.YtepddcemoofmlaaGreat.Fast
