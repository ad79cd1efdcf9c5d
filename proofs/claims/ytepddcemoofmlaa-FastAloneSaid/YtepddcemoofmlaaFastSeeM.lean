/- What the functions of count and link answer that reckon with words alone. -/
import Derived.Test.YtepddcemoofmlaaFastNodesA
import Derived.Test.YtepddcemoofmlaaAe37
import Derived.Test.YtepddcemoofmlaaAe38
import Derived.Test.YtepddcemoofmlaaFastValid
import Derived.Test.YtepddcemoofmlaaFastLists
import Derived.Test.YtepddcemoofmlaaFastNodesB
set_option linter.unusedSimpArgs false
set_option linter.unusedVariables false
namespace Go.Proofs.Ytepddcemoofmlaa.Fast
open Go Go.Proofs.Ytepddcemoofmlaa.AE
set_option maxRecDepth 10000
set_option linter.unusedSimpArgs false
set_option linter.unusedVariables false

theorem shl_6 {x : Int} : B .shl .u64 x 6 = W .u64 (x * 64) := shl_mul (n := 6) (by decide)
theorem shr_6 {x : Int} : B .shr .u64 x 6 = x / 64 := shr_div (n := 6) (by decide)
theorem shr_8 {x : Int} : B .shr .u64 x 8 = x / 256 := shr_div (n := 8) (by decide)
theorem or_64 {a b : Int} (ha : 0 ≤ a) (ha' : a < 1000) (hb : 0 ≤ b) (hb' : b < 64) : B .or .u64 (a * 64) b = a * 64 + b := by
  obtain ⟨m, rfl⟩ : ∃ m : Nat, a = m := ⟨a.toNat, by omega⟩
  obtain ⟨k, rfl⟩ : ∃ k : Nat, b = k := ⟨b.toNat, by omega⟩
  have h := or_add (a := m) (b := k) (n := 6) (by omega) (by omega)
  have e1 : ((m * 2 ^ 6 : Nat) : Int) = (m : Int) * 64 := by simp
  have e2 : ((m * 2 ^ 6 + k : Nat) : Int) = (m : Int) * 64 + k := by simp
  rw [e1, e2] at h
  exact h

/-- A word, by its place. -/
def wd (ws : List Int) (i : Nat) : Int := ws[i]?.getD 0

noncomputable section
variable {n : Nat} {S : St}

def isObj (i : Int) : Bool := decide (0 ≤ i) && decide (i < 16)
theorem sObject {i : Int} : calls table.find (n + 1) 78 [.int .i64 i] S = some (.bool (isObj i), S, true) := by
  unfold isObj
  cases e : decide (0 ≤ i) with
  | true => simp (maxDischargeDepth := 30) [q78, e]
  | false => simp (maxDischargeDepth := 30) [q78, e]

def rotP (k x : Int) : Int := B .or .u64 (B .shl .u64 k (B .and .u64 (W .u64 x) 63)) (B .shr .u64 k (W .u64 (64 - B .and .u64 (W .u64 x) 63)))
def turnedP (k i : Int) : Int := W .u64 (rotP k (W .i64 (5 * i)) + W .u64 (W .u64 i * 2654435769))

theorem sRot {k x : Int} : calls table.find (n + 1) 54 [.int .u64 k, .int .i64 x] S = some (.int .u64 (rotP k x), S, true) := by
  have h1 : ¬ B .and .u64 (W .u64 x) 63 < 0 := by have := (@word_and (W .u64 x) 63).1; omega
  have h2 : ¬ W .u64 (64 - B .and .u64 (W .u64 x) 63) < 0 := by have := (W_nn (64 - B .and .u64 (W .u64 x) 63)).1; omega
  simp (maxDischargeDepth := 30) [q54, h1, h2, rotP]

theorem sTurned {k i : Int} : calls table.find (n + 2) 33 [.int .u64 k, .int .i64 i] S = some (.int .u64 (turnedP k i), S, true) := by
  have h := fun (m : Nat) (S : St) => @sRot m S k (W .i64 (5 * i))
  simp (maxDischargeDepth := 30) [q33, h, turnedP]

theorem word_turned (k i : Int) : Word (turnedP k i) := word_W _

/-- What a link shows. -/
def showP (w k i : Int) : Option Int := if isObj i = true ∧ B .xor .u64 w (turnedP k i) ≤ 16 then some (B .xor .u64 w (turnedP k i) - 1) else none

def numOf (x : Option Int) : Value := .tuple #[.int .i64 (x.getD 0), .bool x.isSome]

theorem show_range {w k i y : Int} (hw : Word w) (h : showP w k i = some y) : -1 ≤ y ∧ y < 16 := by
  unfold showP at h
  split at h
  · rename_i hc
    have := (word_xor hw (word_turned k i)).1
    simp only [Option.some.injEq] at h
    omega
  · cases h

theorem sShow {w k i : Int} (hw : Word w) : calls table.find (n + 3) 67 [.int .u64 w, .int .u64 k, .int .i64 i] S = some (numOf (showP w k i), S, true) := by
  have h1 := fun (m : Nat) (S : St) => @sObject m S i
  have h2 := fun (m : Nat) (S : St) => @sTurned m S k i
  unfold showP numOf
  cases e : isObj i with
  | false => simp (maxDischargeDepth := 30) [q67, h1, e]
  | true =>
    have hx := word_xor hw (word_turned k i)
    obtain ⟨x, hxe⟩ : ∃ x, B .xor .u64 w (turnedP k i) = x := ⟨_, rfl⟩
    rw [hxe] at hx ⊢
    by_cases h : x ≤ 16
    · have h3 : ¬ 16 < x := by omega
      have h4 : W .i64 x = x := W_i64 ⟨by have := hx.1; omega, by omega⟩
      have h5 : W .i64 (x - 1) = x - 1 := W_i64 ⟨by have := hx.1; omega, by omega⟩
      simp (maxDischargeDepth := 30) [q67, h1, h2, e, h, h3, h4, h5, hxe]
    · have h3 : 16 < x := by omega
      simp (maxDischargeDepth := 30) [q67, h1, h2, e, h, h3, hxe]

/-! ### count -/
def isSlab (i : Int) : Bool := decide (0 ≤ i) && decide (i < 32)
theorem sSlabMay {i : Int} : calls table.find (n + 1) 35 [.int .i64 i] S = some (.bool (isSlab i), S, true) := by
  unfold isSlab
  cases e : decide (0 ≤ i) with
  | true => simp (maxDischargeDepth := 30) [q35, e]
  | false => simp (maxDischargeDepth := 30) [q35, e]

/-- The word of a slab and an object. -/
def headP (s i : Int) : Option Int :=
  if s = -1 ∧ i = -1 then some 0 else if (0 ≤ s ∧ s < 32) ∧ -1 ≤ i ∧ i < 16 then some ((s + 1) * 64 + (i + 1)) else none
def wordOf (x : Option Int) : Value := .tuple #[.int .u64 (x.getD 0), .int .i64 (if x.isSome then 0 else 2)]

theorem sHead {s i : Int} : calls table.find (n + 2) 19 [.int .i64 s, .int .i64 i] S = some (wordOf (headP s i), S, true) := by
  have h1 := fun (m : Nat) (S : St) => @sSlabMay m S s
  by_cases e0 : s = -1 ∧ i = -1
  · obtain ⟨rfl, rfl⟩ := e0
    simp (maxDischargeDepth := 30) [q19, headP, wordOf]
  · have b1 : (s == -1 && i == -1) = false := by simpa using e0
    by_cases e1 : 0 ≤ s ∧ s < 32
    · have hs : isSlab s = true := by simp [isSlab, e1]
      by_cases e2 : -1 ≤ i ∧ i < 16
      · have w1 : W .i64 (s + 1) = s + 1 := W_i64 (by omega)
        have w2 : W .i64 (i + 1) = i + 1 := W_i64 (by omega)
        have w3 : W .u64 (s + 1) = s + 1 := W_in (by omega) (by omega)
        have w4 : W .u64 (i + 1) = i + 1 := W_in (by omega) (by omega)
        have w5 : W .u64 ((s + 1) * 64) = (s + 1) * 64 := W_in (by omega) (by omega)
        have w6 := or_64 (a := s + 1) (b := i + 1) (by omega) (by omega) (by omega) (by omega)
        have f1 : ¬ i < -1 := by omega
        have f2 : ¬ 16 ≤ i := by omega
        have hv : headP s i = some ((s + 1) * 64 + (i + 1)) := by unfold headP; rw [if_neg e0, if_pos ⟨e1, e2⟩]
        rw [hv]
        by_cases e3 : s = -1
        · omega
        · have b2 : (s == -1) = false := by simp [e3]
          simp (maxDischargeDepth := 30) [q19, wordOf, h1, hs, e3, b2, f1, f2, shl_6, w1, w2, w3, w4, w5, w6]
      · have hv : headP s i = none := by unfold headP; rw [if_neg e0, if_neg (fun h => e2 h.2)]
        rw [hv]
        have b2 : (s == -1) = false := by simp; omega
        by_cases f1 : i < -1
        · simp (maxDischargeDepth := 30) [q19, wordOf, h1, hs, b2, f1]
        · have f2 : 16 ≤ i := by omega
          simp (maxDischargeDepth := 30) [q19, wordOf, h1, hs, b2, f1, f2]
    · have hs : isSlab s = false := by simp only [isSlab]; rw [Bool.eq_false_iff]; simp; omega
      have hv : headP s i = none := by unfold headP; rw [if_neg e0, if_neg (fun h => e1 h.1)]
      rw [hv]
      by_cases e3 : s = -1
      · have b2 : (s == -1) = true := by simp [e3]
        have b3 : (i == -1) = false := by simp; omega
        simp (maxDischargeDepth := 30) [q19, wordOf, h1, hs, b2, b3]
      · have b2 : (s == -1) = false := by simp [e3]
        simp (maxDischargeDepth := 30) [q19, wordOf, h1, hs, b2]

/-- What a head says. -/
def headOfP (w : Int) : Option (Int × Int) :=
  if w = 0 then some (-1, -1) else if w ≤ 4095 ∧ (1 ≤ w / 64 ∧ w / 64 ≤ 32) ∧ w % 64 ≤ 16 then some (w / 64 - 1, w % 64 - 1) else none
def pairOf (x : Option (Int × Int)) (b : Int) : Value := .tuple #[.int .i64 ((x.map (·.1)).getD (-1)), .int .i64 ((x.map (·.2)).getD b), .bool x.isSome]

theorem head_inv {w : Int} (hw : Word w) (h : w ≤ 4095) : (headP (w / 64 - 1) (w % 64 - 1)).isSome = (headOfP w).isSome := by
  have := hw.1
  unfold headP headOfP
  by_cases h0 : w = 0
  · subst h0; simp
  · rw [if_neg (by omega), if_neg h0]
    by_cases h1 : (1 ≤ w / 64 ∧ w / 64 ≤ 32) ∧ w % 64 ≤ 16
    · rw [if_pos (by omega), if_pos ⟨h, h1⟩]; rfl
    · rw [if_neg (by omega), if_neg (fun k => h1 k.2)]; rfl

theorem sHeadOf {w : Int} (hw : Word w) : calls table.find (n + 5) 57 [.int .u64 w] S = some (pairOf (headOfP w) (-1), S, true) := by
  have w0 := hw.1
  have w9 := hw.2
  by_cases h : w ≤ 4095
  · have h1 : ¬ 4095 < w := by omega
    have hh := fun (m : Nat) (S : St) => @sHead m S (w / 64 - 1) (w % 64 - 1)
    have w1 : W .i64 (w / 64) = w / 64 := W_i64 (by omega)
    have w2 : W .i64 (w / 64 - 1) = w / 64 - 1 := W_i64 (by omega)
    have w3 : W .i64 (w % 64) = w % 64 := W_i64 (by omega)
    have w4 : W .i64 (w % 64 - 1) = w % 64 - 1 := W_i64 (by omega)
    have hi := head_inv hw h
    cases hp : headOfP w with
    | none =>
      rw [hp] at hi
      have hn : headP (w / 64 - 1) (w % 64 - 1) = none := by simpa using hi
      simp (maxDischargeDepth := 30) [q57, q72, q73, hh, hn, wordOf, pairOf, shr_6, and_63 hw, w1, w2, w3, w4, h1]
    | some p =>
      rw [hp] at hi
      obtain ⟨v, hv⟩ : ∃ v, headP (w / 64 - 1) (w % 64 - 1) = some v := Option.isSome_iff_exists.1 hi
      have hpe : p = (w / 64 - 1, w % 64 - 1) := by
        unfold headOfP at hp
        split at hp
        · rename_i h0; subst h0; simpa using hp.symm
        · split at hp
          · simpa using hp.symm
          · cases hp
      subst hpe
      simp (maxDischargeDepth := 30) [q57, q72, q73, hh, hv, wordOf, pairOf, shr_6, and_63 hw, w1, w2, w3, w4, h1]
  · have h1 : 4095 < w := by omega
    have hp : headOfP w = none := by unfold headOfP; rw [if_neg (by omega), if_neg (fun k => h k.1)]
    rw [hp]
    simp (maxDischargeDepth := 30) [q57, q72, pairOf, h1]

/-- The word of a slab, and how many stand in a list from it on. -/
def partP (s m : Int) : Option Int :=
  if s = -1 ∧ m = 0 then some 0 else if (0 ≤ s ∧ s < 32) ∧ 1 ≤ m ∧ m ≤ 63 then some (m * 64 + (s + 1)) else none

theorem sPart {s m : Int} : calls table.find (n + 2) 81 [.int .i64 s, .int .i64 m] S = some (wordOf (partP s m), S, true) := by
  have h1 := fun (k : Nat) (S : St) => @sSlabMay k S s
  by_cases e0 : s = -1 ∧ m = 0
  · obtain ⟨rfl, rfl⟩ := e0
    simp (maxDischargeDepth := 30) [q81, partP, wordOf]
  · by_cases e1 : 0 ≤ s ∧ s < 32
    · have hs : isSlab s = true := by simp [isSlab, e1]
      have b2 : (s == -1) = false := by simp; omega
      by_cases e2 : 1 ≤ m ∧ m ≤ 63
      · have w1 : W .i64 (s + 1) = s + 1 := W_i64 (by omega)
        have w3 : W .u64 (s + 1) = s + 1 := W_in (by omega) (by omega)
        have w4 : W .u64 m = m := W_in (by omega) (by omega)
        have w5 : W .u64 (m * 64) = m * 64 := W_in (by omega) (by omega)
        have w6 := or_64 (a := m) (b := s + 1) (by omega) (by omega) (by omega) (by omega)
        have f1 : ¬ m < 1 := by omega
        have f2 : ¬ 63 < m := by omega
        have hv : partP s m = some (m * 64 + (s + 1)) := by unfold partP; rw [if_neg e0, if_pos ⟨e1, e2⟩]
        rw [hv]
        simp (maxDischargeDepth := 30) [q81, wordOf, h1, hs, b2, f1, f2, shl_6, w1, w3, w4, w5, w6]
      · have hv : partP s m = none := by unfold partP; rw [if_neg e0, if_neg (fun h => e2 h.2)]
        rw [hv]
        by_cases f1 : m < 1
        · simp (maxDischargeDepth := 30) [q81, wordOf, h1, hs, b2, f1]
        · have f2 : 63 < m := by omega
          simp (maxDischargeDepth := 30) [q81, wordOf, h1, hs, b2, f1, f2]
    · have hs : isSlab s = false := by simp only [isSlab]; rw [Bool.eq_false_iff]; simp; omega
      have hv : partP s m = none := by unfold partP; rw [if_neg e0, if_neg (fun h => e1 h.1)]
      rw [hv]
      by_cases e3 : s = -1
      · have b2 : (s == -1) = true := by simp [e3]
        have b3 : (m == 0) = false := by simp; omega
        simp (maxDischargeDepth := 30) [q81, wordOf, h1, hs, b2, b3]
      · have b2 : (s == -1) = false := by simp [e3]
        simp (maxDischargeDepth := 30) [q81, wordOf, h1, hs, b2]

/-- What a part says. -/
def partOfP (w : Int) : Option (Int × Int) :=
  if w = 0 then some (-1, 0) else if w ≤ 4095 ∧ 1 ≤ w / 64 ∧ 1 ≤ w % 64 ∧ w % 64 ≤ 32 then some (w % 64 - 1, w / 64) else none

theorem part_inv {w : Int} (hw : Word w) (h : w ≤ 4095) : (partP (w % 64 - 1) (w / 64)).isSome = (partOfP w).isSome := by
  have := hw.1
  unfold partP partOfP
  by_cases h0 : w = 0
  · subst h0; simp
  · rw [if_neg (by omega), if_neg h0]
    by_cases h1 : 1 ≤ w / 64 ∧ 1 ≤ w % 64 ∧ w % 64 ≤ 32
    · rw [if_pos (by omega), if_pos ⟨h, h1⟩]; rfl
    · rw [if_neg (by omega), if_neg (fun k => h1 k.2)]; rfl

theorem sPartOf {w : Int} (hw : Word w) : calls table.find (n + 5) 75 [.int .u64 w] S = some (pairOf (partOfP w) 0, S, true) := by
  have w0 := hw.1
  have w9 := hw.2
  by_cases h : w ≤ 4095
  · have h1 : ¬ 4095 < w := by omega
    have hh := fun (m : Nat) (S : St) => @sPart m S (w % 64 - 1) (w / 64)
    have w1 : W .i64 (w / 64) = w / 64 := W_i64 (by omega)
    have w3 : W .i64 (w % 64) = w % 64 := W_i64 (by omega)
    have w4 : W .i64 (w % 64 - 1) = w % 64 - 1 := W_i64 (by omega)
    have hi := part_inv hw h
    cases hp : partOfP w with
    | none =>
      rw [hp] at hi
      have hn : partP (w % 64 - 1) (w / 64) = none := by simpa using hi
      simp (maxDischargeDepth := 30) [q75, q72, q80, hh, hn, wordOf, pairOf, shr_6, and_63 hw, w1, w3, w4, h1]
    | some p =>
      rw [hp] at hi
      obtain ⟨v, hv⟩ : ∃ v, partP (w % 64 - 1) (w / 64) = some v := Option.isSome_iff_exists.1 hi
      have hpe : p = (w % 64 - 1, w / 64) := by
        unfold partOfP at hp
        split at hp
        · rename_i h0; subst h0; simpa using hp.symm
        · split at hp
          · simpa using hp.symm
          · cases hp
      subst hpe
      simp (maxDischargeDepth := 30) [q75, q72, q80, hh, hv, wordOf, pairOf, shr_6, and_63 hw, w1, w3, w4, h1]
  · have h1 : 4095 < w := by omega
    have hp : partOfP w = none := by unfold partOfP; rw [if_neg (by omega), if_neg (fun k => h k.1)]
    rw [hp]
    simp (maxDischargeDepth := 30) [q75, q72, pairOf, h1]

/-- May counts be? -/
def cMay (u o : Int) (f l : Bool) : Bool := (l && decide (1 ≤ o) && decide (o ≤ 16) && decide (0 ≤ u) && decide (u ≤ o)) || (u == 0 && (o == 0 && (f == false && l == false)))

theorem sMay {u o : Int} {f l : Bool} : calls table.find (n + 1) 36 [.agg #[.int .i64 u, .int .i64 o, .bool f, .bool l]] S = some (.bool (cMay u o f l), S, true) := by
  unfold cMay
  cases l with
  | false => simp (maxDischargeDepth := 30) [q36]
  | true =>
    cases e1 : decide (1 ≤ o) with
    | false => simp (maxDischargeDepth := 30) [q36, e1]
    | true =>
    cases e2 : decide (o ≤ 16) with
    | false => simp (maxDischargeDepth := 30) [q36, e1, e2]
    | true =>
    cases e3 : decide (0 ≤ u) with
    | false => simp (maxDischargeDepth := 30) [q36, e1, e2, e3]
    | true =>
    cases e4 : decide (u ≤ o) with
    | false => simp (maxDischargeDepth := 30) [q36, e1, e2, e3, e4]
    | true => simp (maxDischargeDepth := 30) [q36, e1, e2, e3, e4]

structure CountsP where
  inuse : Int
  objects : Int
  frozen : Bool
  live : Bool

def CountsP.cells (c : CountsP) : List Value := [.int .i64 c.inuse, .int .i64 c.objects, .bool c.frozen, .bool c.live]
def readC (w : Int) : CountsP := ⟨w % 256, w / 256 % 256, decide (w / 65536 % 2 = 1), decide (w / 131072 % 2 = 1)⟩
/-- What a slab's word says. -/
def countsP (w : Int) : Option CountsP := if w < 262144 ∧ cMay (readC w).inuse (readC w).objects (readC w).frozen (readC w).live = true then some (readC w) else none
def countsOf (x : Option CountsP) : Value := .tuple #[.agg (x.getD ⟨0, 0, false, false⟩).cells.toArray, .bool x.isSome]

theorem bit_16 {w : Int} (hw : Word w) : (B .and .u64 w 65536 != 0) = decide (w / 65536 % 2 = 1) := by
  have h : B .and .u64 w 65536 = w / 65536 % 2 * 65536 := and_bit hw 16 (by decide)
  rw [h, Bool.eq_iff_iff]; simp; omega
theorem bit_17 {w : Int} (hw : Word w) : (B .and .u64 w 131072 != 0) = decide (w / 131072 % 2 = 1) := by
  have h : B .and .u64 w 131072 = w / 131072 % 2 * 131072 := and_bit hw 17 (by decide)
  rw [h, Bool.eq_iff_iff]; simp; omega

theorem sCounts {w : Int} (hw : Word w) : calls table.find (n + 2) 62 [.int .u64 w] S = some (countsOf (countsP w), S, true) := by
  have w0 := hw.1
  have hm := fun (k : Nat) (S : St) => @sMay k S (readC w).inuse (readC w).objects (readC w).frozen (readC w).live
  have w1 : W .i64 (w % 256) = w % 256 := W_i64 (by omega)
  have w2 : W .i64 (w / 256 % 256) = w / 256 % 256 := W_i64 (by omega)
  have hw8 : Word (w / 256) := by have := word_shr (y := 8) hw; rwa [shr_8] at this
  have a1 := and_255 hw8
  have a2 := and_255 hw
  have a3 := bit_16 hw
  have a4 := bit_17 hw
  simp only [readC] at hm
  by_cases h : w < 262144
  · have h1 : ¬ 262144 ≤ w := by omega
    cases e : cMay (w % 256) (w / 256 % 256) (decide (w / 65536 % 2 = 1)) (decide (w / 131072 % 2 = 1)) with
    | false =>
      have hc : countsP w = none := by unfold countsP; rw [if_neg (by simp [readC, e])]
      rw [hc]
      simp (maxDischargeDepth := 30) [q62, countsOf, CountsP.cells, hm, e, h1, shr_8, a1, a2, a3, a4, w1, w2]
    | true =>
      have hc : countsP w = some (readC w) := by unfold countsP; rw [if_pos ⟨h, by simp [readC, e]⟩]
      rw [hc]
      simp (maxDischargeDepth := 30) [q62, countsOf, CountsP.cells, readC, hm, e, h1, shr_8, a1, a2, a3, a4, w1, w2]
  · have h1 : 262144 ≤ w := by omega
    have hc : countsP w = none := by unfold countsP; rw [if_neg (fun k => h k.1)]
    rw [hc]
    simp (maxDischargeDepth := 30) [q62, countsOf, CountsP.cells, h1, shr_8, a1, a2, a3, a4, w1, w2]
end

end Go.Proofs.Ytepddcemoofmlaa.Fast

/- link.List: the objects from one on, as the links lead. -/
namespace Go.Proofs.Ytepddcemoofmlaa.Fast
open Go Go.Proofs.Ytepddcemoofmlaa.AE
set_option maxRecDepth 10000
set_option linter.unusedSimpArgs false

/-- Words in the heap, as a slice tells them. -/
def WRow (S : St) (v : Value) (ws : List Int) : Prop :=
  ∃ b off c, v = .slice (some ⟨b, off, none⟩) ws.length 0 ∧ AE.rowAt S.at 22 b = some c ∧ off + ws.length ≤ c.length ∧ ∀ (i : Nat) x, ws[i]? = some x → c[off + i]? = some (.int .u64 x)

theorem rowAt_cells {m : Nat → Option AObj} {e : TypeId} {b : Nat} {c : List Value} (h : AE.rowAt m e b = some c) : cellsOf (m b) = some c := by
  unfold AE.rowAt at h
  split at h
  · rename_i e' c' hb
    split at h
    · rw [hb]; exact h
    · cases h
  · rename_i c' hb; rw [hb]; exact h
  · cases h

theorem WRow.grown {S S' : St} {v : Value} {ws : List Int} (h : WRow S v ws) (k : ∀ j, j < S.top → S'.at j = S.at j) : WRow S' v ws := by
  obtain ⟨b, off, c, h1, h2, h3⟩ := h
  have : b < S.top := by
    refine isSome_lt ?_
    cases hb : S.at b with
    | none => have := rowAt_cells h2; rw [hb] at this; cases this
    | some o => rfl
  exact ⟨b, off, c, h1, by unfold AE.rowAt at h2 ⊢; rw [k b this]; exact h2, h3⟩

/-- Where a link leads. -/
noncomputable def nextP (ws : List Int) (k x : Int) : Option Int := match ws[x.toNat]? with
  | some w => match showP w k x with
    | some y => if y < ws.length then some y else none
    | none => none
  | none => none

section
variable {n : Nat} {S : St} {v : Value} {ws : List Int} {key first : Int}

set_option maxHeartbeats 4000000 in
theorem listLoop {R : List Value} {S' : St} (hrow : WRow S v ws) (hw : ∀ x ∈ ws, Word x) (hl : ws.length ≤ 16) (h1 : -1 ≤ first) (h2 : first < ws.length)
    (hR : R.length = 58) (r0 : rd R 0 = v) (r1 : rd R 1 = .int .u64 key) (r2 : rd R 2 = .int .i64 first) (r8 : rd R 8 = .pointer (some ⟨S.top, 0, none⟩)) (r9 : rd R 9 = .slice none 0 0)
    (hk : Kept S S') (ht : S.top < S'.top) (hm : S'.at S.top = some (.cells 125 (metC 16 []))) :
    Leads (evCode (calls table.find (n + 4)) loop74_0 R S') fun o R' S' => R'.length = 58 ∧ Kept S S' ∧ ∃ r, Walks (nextP ws key) [] first r ∧
      ((o = .exit 0 ∧ ∃ l vo, r = some l ∧ rd R' 9 = vo ∧ one vo = true ∧ OutRow S' (S.top + 1) 3 1 vo (l.map (Value.int .i64)) l.length) ∨ (o = .ret ∧ r = none ∧ rd R' 6 = .slice none 0 0 ∧ rd R' 7 = .int .i64 150)) := by
  rw [eloop74_0]
  refine loop_goes (fun q R S' => ∃ (seen : List Int) (cur : Int) (vo : Value), unmet 16 seen = q ∧ (∀ x ∈ seen, 0 ≤ x ∧ x < 16) ∧ -1 ≤ cur ∧ cur < ws.length ∧ (∀ r, Walks (nextP ws key) seen cur r → Walks (nextP ws key) [] first r) ∧
    R.length = 58 ∧ rd R 0 = v ∧ rd R 1 = .int .u64 key ∧ rd R 2 = .int .i64 cur ∧ rd R 8 = .pointer (some ⟨S.top, 0, none⟩) ∧ rd R 9 = vo ∧ Kept S S' ∧ S.top < S'.top ∧ S'.at S.top = some (.cells 125 (metC 16 seen)) ∧
    one vo = true ∧ seen.length ≤ 17 - q ∧ OutRow S' (S.top + 1) 3 1 vo (seen.map (Value.int .i64)) seen.length) _ (unmet 16 []) (by have := unmet_le 16 []; omega)
    ⟨[], first, _, rfl, by simp, h1, h2, fun r h => h, hR, r0, r1, r2, r8, r9, hk, ht, hm, rfl, by simp, .nil⟩ ?_
  clear hR r0 r1 r2 r8 r9 hk ht hm
  rintro q R S' ⟨seen, cur, vo, hq, hseen, c1, c2, hwalk, hR, r0, r1, r2, r8, r9, hk, ht, hm, ho, hle, hout⟩
  by_cases e0 : cur = -1
  · subst e0
    simp (maxDischargeDepth := 30) [hR, r2]
    exact ⟨hk, some seen, hwalk _ (.stop seen), seen, rfl, by rw [r9]; exact ho, by rw [r9]; exact hout⟩
  · have b0 : (cur == -1) = false := by simp [e0]
    obtain ⟨x, rfl⟩ : ∃ x : Nat, cur = x := ⟨cur.toNat, by omega⟩
    have hx : x < ws.length := by omega
    have hx16 : x < 16 := by omega
    have hx16' : (x : Int) < 16 := by omega
    have gm : ∀ h : x < (metC 16 seen).length, (metC 16 seen)[x] = .bool (decide ((x : Int) ∈ seen)) := fun h => (List.getElem?_eq_some_iff.1 (metC_get hx16)).2
    by_cases e1 : (x : Int) ∈ seen
    · simp (maxDischargeDepth := 30) [hR, r2, r8, hm, b0, hx16, hx16', metC_len, gm, e1]
      exact ⟨hk, hwalk _ (.again e0 e1)⟩
    · simp (maxDischargeDepth := 30) [hR, r2, r8, r9, hm, b0, hx16, hx16', metC_len, gm, e1]
      generalize hT : S'.wrote S.top (AObj.cells 125 ((metC 16 seen).set x (Value.bool true))) (Value.bool true) = T
      have hTk : Kept S T := by rw [← hT]; exact hk.wrote _ _ (Nat.le_refl _)
      have hTm : T.at S.top = some (.cells 125 (metC 16 (seen ++ [(x : Int)]))) := by rw [← hT, m_wrote (by rw [hm]; rfl), metC_set]
      have hTt : S.top < T.top := by rw [← hT, top_wrote]; exact ht
      have hTo : OutRow T (S.top + 1) 3 1 vo (seen.map (Value.int .i64)) seen.length := hout.same fun b o hb hbo => by rw [← hT, m_wrote_ne (by omega)]; exact hbo
      have hq1 : unmet 16 (seen ++ [(x : Int)]) < q := by rw [← hq]; exact unmet_lt (by omega) (by omega) e1
      obtain ⟨v', S2, he, hout2, hone, hkept, hold, htop⟩ := out_app (xs := [.int .i64 x]) (bytes := 8) (cp := 0) hTo rfl (by omega) rfl (by omega) (by omega) hTt
      rw [he]
      have hk2 : Kept S S2 := hkept S hTk (by omega)
      have hm2 : S2.at S.top = some (.cells 125 (metC 16 (seen ++ [(x : Int)]))) := by rw [hold S.top (by omega) hTt]; exact hTm
      obtain ⟨bw, off, c, hv, hc0, hcl, hel⟩ := hrow.grown hk2.at'
      have hc := rowAt_cells hc0
      obtain ⟨w, hwx⟩ : ∃ w, ws[x]? = some w := ⟨_, List.getElem?_eq_getElem hx⟩
      have hcw := hel x w hwx
      have hcw2 : ∀ h : off + x < c.length, c[off + x] = .int .u64 w := fun h => (List.getElem?_eq_some_iff.1 hcw).2
      have hlt : off + x < c.length := by omega
      have hword : Word w := hw w (List.mem_of_getElem? hwx)
      have hshow := fun (m : Nat) (S : St) => @sShow m S w key x hword
      subst hv
      cases hsp : showP w key x with
      | none =>
        simp (maxDischargeDepth := 30) [hR, r0, r1, r2, r8, r9, hx, hc, hlt, hcw2, hshow, hsp, numOf]
        refine ⟨hk2, hwalk _ (.lost e0 e1 ?_)⟩
        simp [nextP, hwx, hsp]
      | some y =>
        have hy := show_range hword hsp
        by_cases hyl : y < ws.length
        · have hyl' : ¬ (ws.length : Int) ≤ y := by omega
          simp (maxDischargeDepth := 30) [hR, r0, r1, r2, r8, r9, hx, hc, hlt, hcw2, hshow, hsp, numOf, hyl']
          have hu := unmet_le 16 seen
          refine ⟨_, hq1, seen ++ [(x : Int)], rfl, ?_, y, by omega, hyl, fun r h => hwalk r (.on e0 e1 (by simp [nextP, hwx, hsp, hyl]) h), rfl, hk2, by omega, hm2, hone, ?_, by simpa using hout2⟩
          · intro z hz
            rcases List.mem_append.1 hz with hz | hz
            · exact hseen z hz
            · simp only [List.mem_singleton] at hz; omega
          · rw [List.length_append]; simp; omega
        · have hyl' : (ws.length : Int) ≤ y := by omega
          simp (maxDischargeDepth := 30) [hR, r0, r1, r2, r8, r9, hx, hc, hlt, hcw2, hshow, hsp, numOf, hyl']
          refine ⟨hk2, hwalk _ (.lost e0 e1 ?_)⟩
          simp [nextP, hwx, hsp, hyl]

/-- What a row call hands back: the numbers, or nothing. -/
def RowOut (S S' : St) (v' : Value) : Option (List Int) → Prop
  | some l => OutRow S' S.top 3 1 v' (l.map (Value.int .i64)) l.length
  | none => v' = .slice none 0 0

set_option maxHeartbeats 4000000 in
theorem sList (hrow : WRow S v ws) (hw : ∀ x ∈ ws, Word x) (hl : ws.length ≤ 16) (h1 : -1 ≤ first) (h2 : first < ws.length) :
    ∃ r v' S', Walks (nextP ws key) [] first r ∧ calls table.find (n + 5) 74 [v, .int .u64 key, .int .i64 first] S = some (.tuple #[v', .int .i64 (if r.isSome = true then 0 else 150)], S', true) ∧
      Grown S S' ∧ one v' = true ∧ RowOut S S' v' r := by
  refine call_rd (x := fun y => ∃ r v' S', Walks (nextP ws key) [] first r ∧ y = some (.tuple #[v', .int .i64 (if r.isSome = true then 0 else 150)], S', true) ∧ Grown S S' ∧ one v' = true ∧ RowOut S S' v' r) b74 (by simp) fun R hR hargs => ?_
  have r0 : rd R 0 = v := hargs 0 (by simp)
  have r1 : rd R 1 = .int .u64 key := hargs 1 (by simp)
  have r2 : rd R 2 = .int .i64 first := hargs 2 (by simp)
  clear hargs
  obtain ⟨bw, off, c, hv, hc, hcl, hel⟩ := id hrow
  have f1 : ¬ 16 < ws.length := by omega
  have f2 : ¬ first < -1 := by omega
  have f3 : ¬ (ws.length : Int) ≤ first := by omega
  have f4 : ¬ (16 : Int) < ws.length := by omega
  rw [hv] at r0
  simp (maxDischargeDepth := 30) [hR, r0, r1, r2, f1, f2, f3, f4]
  generalize hR2 : wr (wr _ _ _) 9 _ = R2
  generalize hS2 : St.push S.enter _ = S2
  obtain ⟨o, R3, S3, he, hR3, hk, r, hwalk, hr⟩ := listLoop (n := n) (R := R2) (S' := S2) (key := key) hrow hw hl h1 h2 (by simp [← hR2, hR]) (by rw [hv]; simp [← hR2, r0]) (by simp [← hR2, r1]) (by simp [← hR2, r2]) (by simp [← hR2, hR]; rfl) (by simp [← hR2, hR])
    (by rw [← hS2]; exact (Kept.enter S).push _) (by rw [← hS2, top_push, top_enter]; omega) (by rw [← hS2]; exact m_push_top)
  rw [he]
  rcases hr with ⟨rfl, l, vo, rfl, r9, ho, hout⟩ | ⟨rfl, rfl, r6, r7⟩
  · simp (maxDischargeDepth := 30) [hR3, r9]
    rcases hout with ⟨hn0, _, hvo⟩ | ⟨hn0, hcl0, b, hvo, hlo, hb⟩
    · obtain rfl : l = [] := List.length_eq_zero_iff.1 hn0
      subst hvo
      exact ⟨some [], hwalk, _, S, by rw [leave_quiet hk.quiet rfl]; rfl, Grown.refl S, rfl, .nil⟩
    · subst hvo
      refine ⟨some l, hwalk, _, S.left S3, by rw [leave_new hk (by simp; omega)]; rfl, Grown.left hk, rfl, ?_⟩
      exact .inr ⟨hn0, hcl0, b, rfl, by omega, by rw [at_left]; exact hb⟩
  · simp (maxDischargeDepth := 30) [hR3, r6, r7, hk.quiet]
    exact ⟨none, hwalk, _, S, ⟨⟨rfl, rfl⟩, rfl⟩, Grown.refl S, rfl, rfl⟩
end

end Go.Proofs.Ytepddcemoofmlaa.Fast

/- The reader's lists and chains. -/
namespace Go.Proofs.Ytepddcemoofmlaa.Fast
open Go Go.Proofs.Ytepddcemoofmlaa.AE
set_option maxRecDepth 10000
set_option linter.unusedSimpArgs false

theorem Grown.trans' {S S1 S2 : St} (h : Grown S S1) (k : Grown S1 S2) : Grown S S2 := Aft.trans h k fun _ _ x => x

/-- The links of one slab. -/
def linkWords (ws : List Int) (P N O t : Nat) : List Int := (ws.drop (4 * P + 4 + 4 * N + t * O)).take O

noncomputable def keyP (k : Int) (t : Nat) : Int := W .u64 (k + W .u64 (W .u64 t * 11400714819323198485))

/-- The free objects of a slab, from one on. -/
def LWalk (ws : List Int) (P N O : Nat) (k : Int) (t : Nat) (obj : Int) (r : Option (List Int)) : Prop :=
  if obj < O then Walks (nextP (linkWords ws P N O t) (keyP k t)) [] obj r else r = none

/-- A reader: words and a chart. -/
def reader (v : Value) (P N O : Nat) (mn cp k : Int) : Value := .agg #[v, .int .i64 P, .int .i64 N, .int .i64 O, .int .i64 mn, .int .i64 cp, .int .u64 k]

def nWords (P N O : Nat) : Nat := 4 * P + 4 + 4 * N + N * O

theorem cut_row {m : Nat → Option AObj} {e : TypeId} {b off len : Nat} {c : List Value} {l h : Nat} (hc : AE.rowAt m e b = some c) (h1 : off + len ≤ c.length) (h2 : l < h) (h3 : h ≤ len) :
    cutS m e ⟨b, off, none⟩ len (l : Int) (h : Int) = some (.slice (some ⟨b, off + l, none⟩) (h - l) 0) := by
  simp only [cutS, hc]
  rw [if_pos ⟨h1, by omega, by omega, by omega, .inr (by omega)⟩]
  simp

theorem rowAt_same {S S' : St} {e : TypeId} {b : Nat} {c : List Value} (k : ∀ j, j < S.top → S'.at j = S.at j) (h : AE.rowAt S.at e b = some c) : AE.rowAt S'.at e b = some c := by
  have : b < S.top := by
    refine isSome_lt ?_
    cases hb : S.at b with
    | none => have := rowAt_cells h; rw [hb] at this; cases this
    | some o => rfl
  unfold AE.rowAt at h ⊢
  rw [k b this]
  exact h

theorem WRow.sub {S : St} {b off A O : Nat} {c : List Value} {ws' : List Int} (h1 : AE.rowAt S.at 22 b = some c) (h2 : off + ws'.length ≤ c.length) (h3 : ∀ (i : Nat) x, ws'[i]? = some x → c[off + i]? = some (.int .u64 x)) (h4 : A + O ≤ ws'.length) :
    WRow S (.slice (some ⟨b, off + A, none⟩) O 0) ((ws'.drop A).take O) := by
  have hl : ((ws'.drop A).take O).length = O := by simp; omega
  refine ⟨b, off + A, c, by rw [hl], h1, by rw [hl]; omega, fun i x hi => ?_⟩
  have hi' : i < O := by
    have := (List.getElem?_eq_some_iff.1 hi).1
    omega
  rw [List.getElem?_take_of_lt hi', List.getElem?_drop] at hi
  have := h3 _ _ hi
  rwa [← Nat.add_assoc] at this

/-- A call that hands back a row, and whether there is one. -/
theorem row_leave {S T S' : St} {v' : Value} {r : Option (List Int)} (hk : Kept S S') (hT : S.top ≤ T.top) (hout : RowOut T S' v' r) (b : Bool) :
    ∃ S2, leave S S' (.tuple #[v', .bool b]) = (.tuple #[v', .bool b], S2, true) ∧ Grown S S2 ∧ RowOut S S2 v' r := by
  have hq : v' = .slice none 0 0 → leave S S' (.tuple #[v', .bool b]) = (.tuple #[v', .bool b], S, true) := fun e => by
    subst e; exact leave_quiet hk.quiet rfl
  cases r with
  | none => exact ⟨S, hq hout, Grown.refl S, hout⟩
  | some l =>
    rcases hout with ⟨h1, h2, h3⟩ | ⟨h1, h2, x, h3, h4, h5⟩
    · exact ⟨S, hq h3, Grown.refl S, .inl ⟨h1, h2, h3⟩⟩
    · subst h3
      exact ⟨S.left S', leave_new hk (by simp; omega), Grown.left hk, .inr ⟨h1, h2, x, rfl, by omega, by rw [at_left]; exact h5⟩⟩

section
variable {n : Nat} {P N O : Nat} {mn cp k : Int} {S : St} {v : Value} {ws : List Int} (hm : may P N O mn cp = true)
include hm

set_option maxHeartbeats 4000000 in
theorem sRList {t : Nat} {obj : Int} (hrow : WRow S v ws) (hw : ∀ x ∈ ws, Word x) (hn : ws.length = nWords P N O) (ht : t < N) (ho : -1 ≤ obj) :
    ∃ r v' S', LWalk ws P N O k t obj r ∧ calls table.find (n + 7) 58 [reader v P N O mn cp k, .int .i64 t, .int .i64 obj] S = some (.tuple #[v', .bool r.isSome], S', true) ∧ Grown S S' ∧ one v' = true ∧ RowOut S S' v' r := by
  obtain ⟨m1, m2, m3, _⟩ := may_iff.1 hm
  have hl := fun (m : Nat) (S : St) => @vLink m P N O mn cp k t 0 S hm (by omega) (by omega) (by omega) (by omega)
  have hkey := fun (m : Nat) (S : St) => s17 m P N O mn cp k t S
  unfold chart at hl hkey
  obtain ⟨bw, off, c, hv, hc, hcl, hel⟩ := id hrow
  obtain ⟨A, hA⟩ : ∃ A : Nat, A = 4 * P + 4 + 4 * N + t * O := ⟨_, rfl⟩
  have hAi : 4 * (P : Int) + 4 + 4 * N + (t : Int) * O + 0 = (A : Int) := by rw [hA]; simp
  have hAO : A + O ≤ ws.length := by
    rw [hn, hA, nWords]
    have : t * O + O ≤ N * O := by rw [← Nat.succ_mul]; exact Nat.mul_le_mul_right O ht
    omega
  have hNO := mul_le hm (x := N) (by omega) (by omega)
  have hws : ws.length ≤ 1000 := by
    rw [hn, nWords]
    have : ((N * O : Nat) : Int) ≤ 512 := by simpa using hNO.2
    omega
  have w1 : W .i64 ((A : Int) + O) = (A : Int) + O := W_i64 (by omega)
  rw [hAi] at hl
  refine call_rd (x := fun y => ∃ r v' S', LWalk ws P N O k t obj r ∧ y = some (.tuple #[v', .bool r.isSome], S', true) ∧ Grown S S' ∧ one v' = true ∧ RowOut S S' v' r) b58 (by simp) fun R hR hargs => ?_
  have r0 : rd R 0 = reader v P N O mn cp k := hargs 0 (by simp)
  have r1 : rd R 1 = .int .i64 t := hargs 1 (by simp)
  have r2 : rd R 2 = .int .i64 obj := hargs 2 (by simp)
  clear hargs
  unfold reader at r0
  subst hv
  by_cases e0 : obj < O
  · have f0 : ¬ (O : Int) ≤ obj := by omega
    obtain ⟨T, hT⟩ : ∃ T, S.enter.push (AObj.cells 91 [Value.slice (some ⟨bw, off, none⟩) ws.length 0, Value.int IntKind.i64 (P : Int), Value.int IntKind.i64 (N : Int), Value.int IntKind.i64 (O : Int), Value.int IntKind.i64 mn, Value.int IntKind.i64 cp, Value.int IntKind.u64 k]) = T := ⟨_, rfl⟩
    have hTk : Kept S T := by rw [← hT]; exact (Kept.enter S).push _
    have hTm : T.at S.top = some (AObj.cells 91 [Value.slice (some ⟨bw, off, none⟩) ws.length 0, Value.int IntKind.i64 (P : Int), Value.int IntKind.i64 (N : Int), Value.int IntKind.i64 (O : Int), Value.int IntKind.i64 mn, Value.int IntKind.i64 cp, Value.int IntKind.u64 k]) := by rw [← hT]; exact m_push_top
    have hc' := rowAt_same hTk.at' hc
    have hcut : cutS T.at 22 ⟨bw, off, none⟩ ws.length (A : Int) ((A : Int) + O) = some (.slice (some ⟨bw, off + A, none⟩) O 0) := by
      have := cut_row (l := A) (h := A + O) hc' hcl (by omega) hAO
      rw [Int.natCast_add, Nat.add_sub_cancel_left] at this
      exact this
    have hsub := WRow.sub (A := A) (O := O) hc' hcl hel hAO
    obtain ⟨r, v', S', hwalk, hcall, hgr, hone, hout⟩ := sList (n := n + 1) (key := keyP k t) (first := obj) hsub (fun x hx => hw x (List.mem_of_mem_drop (List.mem_of_mem_take hx))) (by simp; omega) ho (by simp; omega)
    have e3 : S.enter.top = S.top := rfl
    simp (maxDischargeDepth := 30) [hR, r0, r1, r2, f0, hl, hT, e3, hTm, w1, hcut, hkey]
    rw [keyP, show n + 1 + 5 = n + 6 from rfl] at hcall
    rw [hcall]
    have hlw : LWalk ws P N O k t obj r := by
      unfold LWalk linkWords
      rw [if_pos e0, ← hA]
      exact hwalk
    have hk2 := hgr.kept S hTk
    obtain ⟨S2, hle, hg2, hr2⟩ := row_leave hk2 hTk.top hout r.isSome
    refine ⟨r, hlw, v', S2, ?_, hg2, hone, hr2⟩
    rw [← hle]
    cases r with
    | none => simp (maxDischargeDepth := 30) [hR]
    | some l => simp (maxDischargeDepth := 30) [hR]
  · have f0 : (O : Int) ≤ obj := by omega
    simp (maxDischargeDepth := 30) [hR, r0, r1, r2, f0]
    exact ⟨none, by unfold LWalk; rw [if_neg e0], _, S, ⟨⟨rfl, rfl⟩, rfl⟩, Grown.refl S, rfl, rfl⟩
end

end Go.Proofs.Ytepddcemoofmlaa.Fast

/- The reader's chains. -/
namespace Go.Proofs.Ytepddcemoofmlaa.Fast
open Go Go.Proofs.Ytepddcemoofmlaa.AE
set_option maxRecDepth 10000
set_option linter.unusedSimpArgs false

/-- What a word says of a slab: of a part, of the shelf. -/
def ofPart (w : Int) : Option Int := (partOfP w).map (·.1)
def ofShelf (w : Int) : Option Int := if w ≤ 32 then some (w - 1) else none

/-- A function that tells of a word which slab it names: f answers as g says. -/
structure Tells (f : FuncId) (g : Int → Option Int) : Prop where
  run : ∀ (m : Nat) (S : St) (w : Int), Word w → ∃ s, (∀ x, g w = some x → s = x) ∧ calls table.find (m + 6) f [.int .u64 w] S = some (.tuple #[.int .i64 s, .bool (g w).isSome], S, true)
  low : ∀ w s, Word w → g w = some s → -1 ≤ s

theorem tellsPart : Tells 59 ofPart := by
  refine ⟨fun m S w hw => ?_, fun w s hw h => ?_⟩
  · have h := fun (k : Nat) (S : St) => @sPartOf k S w hw
    refine ⟨((partOfP w).map (·.1)).getD (-1), fun x hx => by unfold ofPart at hx; rw [hx]; rfl, ?_⟩
    have e : (ofPart w).isSome = (partOfP w).isSome := by unfold ofPart; cases partOfP w <;> rfl
    rw [e]
    simp (maxDischargeDepth := 30) [q59, h, pairOf]
  · unfold ofPart partOfP at h
    have := hw.1
    split at h
    · simp at h; omega
    · split at h
      · simp at h; omega
      · simp at h

theorem tellsShelf : Tells 44 ofShelf := by
  refine ⟨fun m S w hw => ?_, fun w s hw h => ?_⟩
  · refine ⟨W .i64 (W .i64 w - 1), fun x hx => ?_, ?_⟩
    · unfold ofShelf at hx
      have := hw.1
      split at hx
      · simp only [Option.some.injEq] at hx
        rw [W_i64 (n := w) (by omega), W_i64 (by omega)]; exact hx
      · cases hx
    · have e : (ofShelf w).isSome = decide (w ≤ 32) := by unfold ofShelf; by_cases h : w ≤ 32 <;> simp [h]
      rw [e]
      simp (maxDischargeDepth := 30) [q44]
  · unfold ofShelf at h
    have := hw.1
    split at h
    · simp at h; omega
    · cases h

/-- The slab that a word leads to, if there is that. -/
def startP (g : Int → Option Int) (N : Nat) (w : Int) : Option Int := match g w with
  | some s => if s < N then some s else none
  | none => none
def nextAt (P t : Nat) : Nat := 4 * P + 4 + 4 * t + 2
def nextC (g : Int → Option Int) (ws : List Int) (P N : Nat) (s : Int) : Option Int := match ws[nextAt P s.toNat]? with
  | some w => startP g N w
  | none => none
/-- From a word on: the slabs that are met. -/
def CWalk (g : Int → Option Int) (ws : List Int) (P N : Nat) (seen : List Int) (w : Int) (r : Option (List Int)) : Prop := match startP g N w with
  | some s => Walks (nextC g ws P N) seen s r
  | none => r = none

def mapC (seen : List Int) : List (Int × Value) := seen.map fun s => (s, .int .i64 1)
theorem findM_mapC {seen : List Int} {s : Int} : findM s (mapC seen) = if s ∈ seen then some (.int .i64 1) else none := by
  induction seen with
  | nil => rfl
  | cons a l ih =>
    simp only [mapC, List.map_cons, findM, List.mem_cons]
    by_cases h : s = a
    · simp [h]
    · have : (s == a) = false := by simp [h]
      simp only [this, h, false_or]
      exact ih
theorem setM_mapC {seen : List Int} {s : Int} (h : s ∉ seen) : setM s (.int .i64 1) (mapC seen) = mapC (seen ++ [s]) := by
  induction seen with
  | nil => rfl
  | cons a l ih =>
    simp only [List.mem_cons, not_or] at h
    have : (s == a) = false := by simp [h.1]
    simp only [mapC, List.map_cons, setM, this, List.cons_append]
    have := ih h.2
    simp only [mapC] at this
    simp [this]

section
variable {n : Nat} {P N O : Nat} {mn cp k : Int} {S : St} {v : Value} {ws : List Int} {f : FuncId} {g : Int → Option Int} (hm : may P N O mn cp = true)
include hm

set_option maxHeartbeats 4000000 in
theorem chainLoop {R : List Value} {S' : St} {w0 : Int} (hf : Tells f g) (hrow : WRow S v ws) (hw : ∀ x ∈ ws, Word x) (hn : ws.length = nWords P N O) (hw0 : Word w0)
    (hR : R.length = 48) (r1 : rd R 1 = .int .u64 w0) (r2 : rd R 2 = .func (.func f) #[] #[]) (r3 : rd R 3 = .pointer (some ⟨S.top, 0, none⟩)) (r6 : rd R 6 = .slice none 0 0) (r8 : rd R 8 = .map (some (S.top + 1)))
    (hk : Kept S S') (ht : S.top + 1 < S'.top) (hr : S'.at S.top = some (.cells 91 [v, .int .i64 P, .int .i64 N, .int .i64 O, .int .i64 mn, .int .i64 cp, .int .u64 k])) (hmp : S'.at (S.top + 1) = some (.amap (mapC []))) :
    Leads (evCode (calls table.find (n + 6)) loop42_0 R S') fun o R' S' => R'.length = 48 ∧ Kept S S' ∧ o = .ret ∧ ∃ r vo, CWalk g ws P N [] w0 r ∧ rd R' 6 = vo ∧ one vo = true ∧ rd R' 7 = .bool r.isSome ∧
      (match r with | some l => OutRow S' (S.top + 2) 3 1 vo (l.map (Value.int .i64)) l.length | none => vo = .slice none 0 0) := by
  obtain ⟨m1, m2, m3, _⟩ := may_iff.1 hm
  rw [eloop42_0]
  refine loop_goes (fun q R S' => ∃ (seen : List Int) (w : Int) (vo : Value), unmet 32 seen = q ∧ seen.length ≤ 33 - q ∧ Word w ∧ (∀ x ∈ seen, 0 ≤ x ∧ x < N) ∧ (∀ r, CWalk g ws P N seen w r → CWalk g ws P N [] w0 r) ∧
    R.length = 48 ∧ rd R 1 = .int .u64 w ∧ rd R 2 = .func (.func f) #[] #[] ∧ rd R 3 = .pointer (some ⟨S.top, 0, none⟩) ∧ rd R 6 = vo ∧ rd R 8 = .map (some (S.top + 1)) ∧ one vo = true ∧
    Kept S S' ∧ S.top + 1 < S'.top ∧ S'.at S.top = some (.cells 91 [v, .int .i64 P, .int .i64 N, .int .i64 O, .int .i64 mn, .int .i64 cp, .int .u64 k]) ∧ S'.at (S.top + 1) = some (.amap (mapC seen)) ∧
    OutRow S' (S.top + 2) 3 1 vo (seen.map (Value.int .i64)) seen.length) _ (unmet 32 []) (by have := unmet_le 32 []; omega)
    ⟨[], w0, _, rfl, by have := unmet_le 32 []; simp, hw0, by simp, fun r h => h, hR, r1, r2, r3, r6, r8, rfl, hk, ht, hr, hmp, .nil⟩ ?_
  clear hR r1 r2 r3 r6 r8 hk ht hr hmp
  rintro q R S' ⟨seen, w, vo, hq, hle, hww, hseen, hwalk, hR, r1, r2, r3, r6, r8, hone, hk, ht, hr, hmp, hout⟩
  obtain ⟨s, hs, hcall⟩ := hf.run n S' w hww
  cases hg : g w with
  | none =>
    rw [hg] at hcall
    simp (maxDischargeDepth := 30) [hR, r1, r2, hcall]
    exact ⟨hk, none, hwalk none (by unfold CWalk startP; rw [hg]), rfl, trivial⟩
  | some x =>
    obtain rfl := hs x hg
    rw [hg] at hcall
    have hlow := hf.low w s hww hg
    by_cases e0 : s < N
    · have f0 : ¬ (N : Int) ≤ s := by omega
      by_cases e1 : s ∈ seen
      · have hf1 : findM s (mapC seen) = some (.int .i64 1) := by rw [findM_mapC, if_pos e1]
        simp (maxDischargeDepth := 30) [hR, r1, r2, r3, r8, hcall, hr, f0, hmp, hf1]
        have hs0 := hseen s e1
        exact ⟨hk, none, hwalk none (by unfold CWalk startP; rw [hg]; simp only [e0, if_true]; exact .again (by omega) e1), rfl, trivial⟩
      · have hf1 : findM s (mapC seen) = none := by rw [findM_mapC, if_neg e1]
        by_cases e2 : s = -1
        · subst e2
          simp (maxDischargeDepth := 30) [hR, r1, r2, r3, r6, r8, hcall, hr, f0, hmp, hf1]
          exact ⟨hk, some seen, hwalk _ (by unfold CWalk startP; rw [hg]; simp only [e0, if_true]; exact .stop seen), hone, rfl, hout⟩
        · have b2 : (s == -1) = false := by simp [e2]
          simp (maxDischargeDepth := 30) [hR, r1, r2, r3, r6, r8, hcall, hr, f0, hmp, hf1, b2]
          generalize hT : S'.wrote (S.top + 1) (AObj.amap (setM s (Value.int IntKind.i64 1) (mapC seen))) (Value.int IntKind.i64 1) = T
          have hTk : Kept S T := by rw [← hT]; exact hk.wrote _ _ (by omega)
          have hTm : T.at (S.top + 1) = some (.amap (mapC (seen ++ [s]))) := by rw [← hT, m_wrote (by rw [hmp]; rfl), setM_mapC e1]
          have hTr : T.at S.top = some (.cells 91 [v, .int .i64 P, .int .i64 N, .int .i64 O, .int .i64 mn, .int .i64 cp, .int .u64 k]) := by rw [← hT, m_wrote_ne (by omega)]; exact hr
          have hTt : S.top + 1 < T.top := by rw [← hT, top_wrote]; exact ht
          have hTo : OutRow T (S.top + 2) 3 1 vo (seen.map (Value.int .i64)) seen.length := hout.same fun b o hb hbo => by rw [← hT, m_wrote_ne (by omega)]; exact hbo
          have hq1 : unmet 32 (seen ++ [s]) < q := by rw [← hq]; exact unmet_lt (by omega) (by omega) e1
          obtain ⟨v', S2, he, hout2, hone2, hkept, hold, htop⟩ := out_app (xs := [.int .i64 s]) (bytes := 8) (cp := 0) hTo rfl (by omega) rfl (by omega) (by omega) hTt
          rw [he]
          have hk2 : Kept S S2 := hkept S hTk (by omega)
          have hm2 : S2.at (S.top + 1) = some (.amap (mapC (seen ++ [s]))) := by rw [hold _ (by omega) hTt]; exact hTm
          have hr2 : S2.at S.top = some (.cells 91 [v, .int .i64 P, .int .i64 N, .int .i64 O, .int .i64 mn, .int .i64 cp, .int .u64 k]) := by rw [hold _ (by omega) (by omega)]; exact hTr
          obtain ⟨t, rfl⟩ : ∃ t : Nat, s = t := ⟨s.toNat, by omega⟩
          have htN : t < N := by omega
          have hnx := fun (m : Nat) (S : St) => @vNext m P N O mn cp k t S hm (by omega) (by omega)
          have hnat : 4 * (P : Int) + 4 + 4 * (t : Int) + 2 = ((nextAt P t : Nat) : Int) := by simp [nextAt]
          rw [hnat] at hnx
          unfold chart at hnx
          have hlt : nextAt P t < ws.length := by
            rw [hn, nextAt, nWords]
            have : 0 ≤ N * O := Nat.zero_le _
            omega
          obtain ⟨bw, off, c, hv, hc0, hcl, hel⟩ := hrow.grown hk2.at'
          have hc := rowAt_cells hc0
          obtain ⟨w', hwx⟩ : ∃ w', ws[nextAt P t]? = some w' := ⟨_, List.getElem?_eq_getElem hlt⟩
          have hcw := hel _ w' hwx
          have hcw2 : ∀ h : off + nextAt P t < c.length, c[off + nextAt P t] = .int .u64 w' := fun h => (List.getElem?_eq_some_iff.1 hcw).2
          have hlt2 : off + nextAt P t < c.length := by omega
          have hword : Word w' := hw w' (List.mem_of_getElem? hwx)
          subst hv
          simp (maxDischargeDepth := 30) [hR, r1, r2, r3, r6, r8, hr2, hnx, hlt, hc, hlt2, hcw2]
          have hu := unmet_le 32 seen
          refine ⟨_, hq1, seen ++ [(t : Int)], rfl, by rw [List.length_append]; simp; omega, w', hword, ?_, fun r h => hwalk r ?_, rfl, hone2, hk2, by omega, hm2, by simpa using hout2⟩
          · intro z hz
            rcases List.mem_append.1 hz with hz | hz
            · exact hseen z hz
            · simp only [List.mem_singleton] at hz; omega
          · unfold CWalk at h ⊢
            unfold startP
            rw [hg]
            simp only [e0, if_true]
            cases hst : startP g N w' with
            | none =>
              rw [hst] at h
              subst h
              exact .lost (by omega) e1 (by simp [nextC, hwx, hst])
            | some y =>
              rw [hst] at h
              exact .on (by omega) e1 (by simp [nextC, hwx, hst]) h
    · have f0 : (N : Int) ≤ s := by omega
      simp (maxDischargeDepth := 30) [hR, r1, r2, r3, hcall, hr, f0]
      exact ⟨hk, none, hwalk none (by unfold CWalk startP; rw [hg]; simp only [e0, if_false]), rfl, trivial⟩

set_option maxHeartbeats 4000000 in
theorem sChain {w : Int} (hf : Tells f g) (hrow : WRow S v ws) (hw : ∀ x ∈ ws, Word x) (hn : ws.length = nWords P N O) (hww : Word w) :
    ∃ r v' S', CWalk g ws P N [] w r ∧ calls table.find (n + 7) 42 [reader v P N O mn cp k, .int .u64 w, .func (.func f) #[] #[]] S = some (.tuple #[v', .bool r.isSome], S', true) ∧ Grown S S' ∧ one v' = true ∧ RowOut S S' v' r := by
  refine call_rd (x := fun y => ∃ r v' S', CWalk g ws P N [] w r ∧ y = some (.tuple #[v', .bool r.isSome], S', true) ∧ Grown S S' ∧ one v' = true ∧ RowOut S S' v' r) b42 (by simp) fun R hR hargs => ?_
  have r0 : rd R 0 = reader v P N O mn cp k := hargs 0 (by simp)
  have r1 : rd R 1 = .int .u64 w := hargs 1 (by simp)
  have r2 : rd R 2 = .func (.func f) #[] #[] := hargs 2 (by simp)
  clear hargs
  obtain ⟨bw, off, c, hv, _⟩ := id hrow
  have hone : one v = true := by rw [hv]; rfl
  unfold reader at r0
  simp (maxDischargeDepth := 30) [hR, r0, r1, r2, hone]
  generalize hR2 : wr (wr _ 11 _) 8 _ = R2
  generalize hS2 : St.push (St.push S.enter _) _ = S2
  have hmp2 : S2.at (S.top + 1) = some (.amap (mapC [])) := by
    rw [← hS2]
    have e : S.top + 1 = (S.enter.push (.cells 91 [v, .int .i64 P, .int .i64 N, .int .i64 O, .int .i64 mn, .int .i64 cp, .int .u64 k])).top := by rw [top_push, top_enter]
    rw [e, m_push_top]
    rfl
  obtain ⟨o, R3, S3, he, hR3, hk, rfl, r, vo, hwalk, r6, ho, r7, hout⟩ := chainLoop hm (n := n) (R := R2) (S' := S2) hf hrow hw hn hww (by simp [← hR2, hR]) (by simp [← hR2, r1]) (by simp [← hR2, r2]) (by simp [← hR2, hR]; rfl) (by simp [← hR2, hR])
    (by simp [← hR2, hR]; rw [top_push, top_enter]) (by rw [← hS2]; exact ((Kept.enter S).push _).push _) (by rw [← hS2, top_push, top_push, top_enter]; omega)
    (by rw [← hS2]; have e : S.top = S.enter.top := rfl; rw [e, m_push (by simp), m_push_top]) hmp2
  rw [he]
  simp (maxDischargeDepth := 30) [hR3, r6, r7]
  have hro : RowOut S S3 vo r := by
    cases r with
    | none => exact hout
    | some l => exact hout.low (by omega)
  obtain ⟨S2, hle, hg2, hr2⟩ := row_leave hk (Nat.le_refl _) hro r.isSome
  exact ⟨r, hwalk, vo, S2, hle, hg2, ho, hr2⟩
end

end Go.Proofs.Ytepddcemoofmlaa.Fast

/- The reader's slots and slabs. -/
namespace Go.Proofs.Ytepddcemoofmlaa.Fast
open Go Go.Proofs.Ytepddcemoofmlaa.AE
set_option maxRecDepth 10000
set_option linter.unusedSimpArgs false

structure SlotP where
  slab : Int
  list : List Int
  turn : Int
  parts : List Int

/-- A processor's slot, as the words say. -/
def SlotR (ws : List Int) (P N O : Nat) (k : Int) (cpu : Nat) (r : Option SlotP) : Prop := match headOfP (wd ws (4 * cpu)) with
  | none => r = none
  | some (s, obj) => if s < N then ∃ rl, (if s = -1 then rl = some [] else LWalk ws P N O k s.toNat obj rl) ∧ (match rl with
      | none => r = none
      | some l => ∃ rp, CWalk ofPart ws P N [] (wd ws (4 * cpu + 2)) rp ∧ (match rp with
        | none => r = none
        | some ps => r = some ⟨s, l, wd ws (4 * cpu + 1), ps⟩))
    else r = none

def Ints (S' : St) (lo : Nat) (v : Value) (l : List Int) : Prop := one v = true ∧ OutRow S' lo 3 1 v (l.map (Value.int .i64)) l.length

def SlotOut (S' : St) (lo : Nat) (cs : List Value) : Option SlotP → Prop
  | some x => ∃ vl vp, cs = [.int .i64 x.slab, vl, .int .u64 x.turn, vp] ∧ Ints S' lo vl x.list ∧ Ints S' lo vp x.parts
  | none => cs = [.int .i64 0, .slice none 0 0, .int .u64 0, .slice none 0 0]

theorem Ints.nil {S' : St} {lo : Nat} : Ints S' lo (.slice none 0 0) [] := ⟨rfl, .nil⟩
theorem Ints.refs {S' : St} {lo n : Nat} {v : Value} {l : List Int} (h : Ints S' lo v l) (hn : n ≤ lo) (hr : refsLt n v = true) : v = .slice none 0 0 ∧ l = [] := by
  rcases h.2 with ⟨h1, _, h3⟩ | ⟨_, _, b, h3, h4, _⟩
  · exact ⟨h3, List.length_eq_zero_iff.1 h1⟩
  · subst h3; simp at hr; omega
theorem Ints.grown {S' S2 : St} {lo : Nat} {v : Value} {l : List Int} (h : Ints S' lo v l) (k : ∀ b o, lo ≤ b → S'.at b = some o → S2.at b = some o) : Ints S2 lo v l := ⟨h.1, h.2.same k⟩
theorem Ints.low {S' : St} {lo lo' : Nat} {v : Value} {l : List Int} (h : Ints S' lo v l) (k : lo' ≤ lo) : Ints S' lo' v l := ⟨h.1, h.2.low k⟩

/-- What a call leaves, whatever it hands back. -/
theorem leave_any {S S1 : St} (hk : Kept S S1) (v : Value) : ∃ S2, leave S S1 v = (v, S2, true) ∧ Grown S S2 ∧ ((refsLt S.top v = true ∧ S2 = S) ∨ (refsLt S.top v = false ∧ S2 = S.left S1)) := by
  cases h : refsLt S.top v with
  | true => exact ⟨S, leave_quiet hk.quiet h, Grown.refl S, .inl ⟨rfl, rfl⟩⟩
  | false => exact ⟨S.left S1, leave_new hk h, Grown.left hk, .inr ⟨rfl, rfl⟩⟩

section
variable {n : Nat} {P N O : Nat} {mn cp k : Int} {S : St} {v : Value} {ws : List Int} (hm : may P N O mn cp = true)
include hm

set_option maxHeartbeats 8000000 in
theorem slotTail {A A2 : Nat} {R : List Value} {Sk : St} {s turn : Int} {vl : Value} {l : List Int} (hrow : WRow S v ws) (hw : ∀ x ∈ ws, Word x) (hn : ws.length = nWords P N O) (hA2 : A2 = A + 2) (hlen : A + 2 < ws.length)
    (hk : Kept S Sk) (ht : S.top + 1 < Sk.top) (hrd : Sk.at S.top = some (.cells 91 [v, .int .i64 P, .int .i64 N, .int .i64 O, .int .i64 mn, .int .i64 cp, .int .u64 k]))
    (hsl : Sk.at (S.top + 1) = some (.cells 71 [.int .i64 s, vl, .int .u64 turn, .slice none 0 0])) (hvl : Ints Sk (S.top + 2) vl l)
    (hR : R.length = 71) (r2 : rd R 2 = .pointer (some ⟨S.top, 0, none⟩)) (r4 : rd R 4 = .pointer (some ⟨S.top + 1, 0, none⟩)) (r6 : rd R 6 = .int .i64 A) :
    ∃ rp cs S', CWalk ofPart ws P N [] (wd ws A2) rp ∧ endK S [.cell 4 true 4, .tmp 5] (evCode (calls table.find (n + 7)) n41_30 R Sk) = some (.tuple #[.agg cs.toArray, .bool rp.isSome], S', true) ∧ Grown S S' ∧
      SlotOut S' S.top cs (rp.map fun ps => ⟨s, l, turn, ps⟩) := by
  obtain ⟨m1, m2, m3, _⟩ := may_iff.1 hm
  have hNO := mul_le hm (x := N) (by omega) (by omega)
  have hws : ws.length ≤ 1000 := by
    rw [hn, nWords]
    have : ((N * O : Nat) : Int) ≤ 512 := by simpa using hNO.2
    omega
  obtain ⟨bw, off, c, hv, hc0, hcl, hel⟩ := hrow.grown hk.at'
  have hc := rowAt_cells hc0
  have lA2 : A2 < ws.length := by omega
  have kA2 : off + A2 < c.length := by omega
  have w2 : W .i64 ((A : Int) + 2) = (A2 : Int) := by rw [W_i64 (by omega)]; omega
  have gA2 : ws[A2]? = some (wd ws A2) := by simp [wd, lA2]
  have gA : ∀ h : off + A2 < c.length, c[off + A2] = .int .u64 (wd ws A2) := fun h => (List.getElem?_eq_some_iff.1 (hel _ _ gA2)).2
  have wA2 : Word (wd ws A2) := hw _ (List.mem_of_getElem? gA2)
  obtain ⟨rp, v', S2, hwalk, hcall, hgr, hone, hout⟩ := sChain hm (n := n) (f := 59) (g := ofPart) (S := Sk) (v := v) (ws := ws) (cp := cp) (k := k) tellsPart (hrow.grown hk.at') hw hn wA2
  unfold reader at hcall
  have hk2 := hgr.kept S hk
  have hsl2 := hgr.same hsl
  have ht2 := Nat.lt_of_lt_of_le ht hgr.top
  subst hv
  have hone1 : one vl = true := hvl.1
  refine ⟨rp, ?_⟩
  cases rp with
  | none =>
    simp only [RowOut] at hout
    subst hout
    refine ⟨[.int .i64 0, .slice none 0 0, .int .u64 0, .slice none 0 0], S, hwalk, ?_, Grown.refl S, rfl⟩
    simp (maxDischargeDepth := 30) [hR, r2, r4, r6, hrd, hc, lA2, kA2, gA, w2, hcall, hsl2, hone1]
    exact leave_quiet ((hk2.wrote _ _ (by omega)).wrote _ _ (by omega)).wr rfl
  | some ps =>
    simp only [RowOut] at hout
    simp (maxDischargeDepth := 30) [hR, r2, r4, r6, hrd, hc, lA2, kA2, gA, w2, hcall, hsl2, hone1, hone]
    have hF := (hk2.wrote (b := S.top + 1) (.cells 71 [.int .i64 s, vl, .int .u64 turn, v']) v' (by omega)).wrote (b := S.top + 1) (.cells 71 [.int .i64 s, vl, .int .u64 turn, v']) (.agg ⟨[.int .i64 s, vl, .int .u64 turn, v']⟩) (by omega)
    refine ⟨hwalk, ?_⟩
    generalize hFe : St.wrote (St.wrote _ _ _ _) _ _ _ = F at hF ⊢
    have i1 : Ints F (S.top + 2) vl l := hvl.grown fun b o hb hbo => by rw [← hFe, m_wrote_ne (by omega), m_wrote_ne (by omega)]; exact hgr.same hbo
    have i2 : Ints F Sk.top v' ps := Ints.grown ⟨hone, hout⟩ fun b o hb hbo => by rw [← hFe, m_wrote_ne (by omega), m_wrote_ne (by omega)]; exact hbo
    obtain ⟨S3, hle, hg3, hcase⟩ := leave_any hF (.tuple #[.agg #[.int .i64 s, vl, .int .u64 turn, v'], .bool true])
    refine ⟨[.int .i64 s, vl, .int .u64 turn, v'], S3, hle, hg3, vl, v', rfl, ?_⟩
    rcases hcase with ⟨hr, rfl⟩ | ⟨_, rfl⟩
    · simp at hr
      obtain ⟨rfl, rfl⟩ := i1.refs (by omega) hr.1
      obtain ⟨rfl, rfl⟩ := i2.refs (by omega) hr.2
      exact ⟨.nil, .nil⟩
    · exact ⟨(i1.grown fun b o _ h => by rw [at_left]; exact h).low (by omega), (i2.grown fun b o _ h => by rw [at_left]; exact h).low (by omega)⟩

set_option maxHeartbeats 8000000 in
theorem sSlot {cpu : Nat} (hrow : WRow S v ws) (hw : ∀ x ∈ ws, Word x) (hn : ws.length = nWords P N O) (hcpu : cpu < P) :
    ∃ r cs S', SlotR ws P N O k cpu r ∧ calls table.find (n + 8) 41 [reader v P N O mn cp k, .int .i64 cpu] S = some (.tuple #[.agg cs.toArray, .bool r.isSome], S', true) ∧ Grown S S' ∧ SlotOut S' S.top cs r := by
  obtain ⟨m1, m2, m3, _⟩ := may_iff.1 hm
  refine call_rd (x := fun y => ∃ r cs S', SlotR ws P N O k cpu r ∧ y = some (.tuple #[.agg cs.toArray, .bool r.isSome], S', true) ∧ Grown S S' ∧ SlotOut S' S.top cs r) (args := [reader v P N O mn cp k, .int .i64 cpu]) b41 (by simp) fun R hR hargs => ?_
  have r0 : rd R 0 = reader v P N O mn cp k := hargs 0 (by simp)
  have r1 : rd R 1 = .int .i64 cpu := hargs 1 (by simp)
  clear hargs
  unfold reader at r0
  obtain ⟨bw, off, c, hv, hc0, hcl, hel⟩ := id hrow
  have hbw : bw < S.top := by
    refine isSome_lt ?_
    cases hb : S.at bw with
    | none => have := rowAt_cells hc0; rw [hb] at this; cases this
    | some o => rfl
  have hc := rowAt_cells hc0
  obtain ⟨A, hA⟩ : ∃ A : Nat, A = 4 * cpu := ⟨_, rfl⟩
  obtain ⟨A1, hA1⟩ : ∃ A1 : Nat, A1 = A + 1 := ⟨_, rfl⟩
  obtain ⟨A2, hA2⟩ : ∃ A2 : Nat, A2 = A + 2 := ⟨_, rfl⟩
  have hlen : A + 2 < ws.length := by rw [hn, nWords]; omega
  have hh := fun (m : Nat) (S : St) => @vHead m P N O mn cp k cpu S hm (by omega) (by omega)
  rw [show 4 * (cpu : Int) = (A : Int) by omega] at hh
  unfold chart at hh
  have w1 : W .i64 ((A : Int) + 1) = (A1 : Int) := by rw [W_i64 (by omega)]; omega
  have w2 : W .i64 ((A : Int) + 2) = (A2 : Int) := by rw [W_i64 (by omega)]; omega
  have g : ∀ i, i < ws.length → ws[i]? = some (wd ws i) ∧ ∀ h : off + i < c.length, c[off + i] = .int .u64 (wd ws i) := by
    intro i hi
    have e : ws[i]? = some (wd ws i) := by simp [wd, hi]
    exact ⟨e, fun h => (List.getElem?_eq_some_iff.1 (hel i _ e)).2⟩
  have gA := (g A (by omega)).2
  have gA1 := (g A1 (by omega)).2
  have gA2 := (g A2 (by omega)).2
  have lA : A < ws.length := by omega
  have lA1 : A1 < ws.length := by omega
  have lA2 : A2 < ws.length := by omega
  have kA : off + A < c.length := by omega
  have kA1 : off + A1 < c.length := by omega
  have kA2 : off + A2 < c.length := by omega
  have wA : Word (wd ws A) := hw _ (List.mem_of_getElem? (g A lA).1)
  have wA2 : Word (wd ws A2) := hw _ (List.mem_of_getElem? (g A2 lA2).1)
  have hho := fun (m : Nat) (S : St) => @sHeadOf m S (wd ws A) wA
  have hbwS : (S.at bw).isSome = true := by
    cases hb : S.at bw with
    | none => rw [hb] at hc; cases hc
    | some o => rfl
  subst hv
  have hR0 : SlotR ws P N O k cpu = fun r => SlotR ws P N O k cpu r := rfl
  unfold SlotR
  rw [← hA, ← hA1, ← hA2]
  cases hho2 : headOfP (wd ws A) with
  | none =>
    refine ⟨none, [.int .i64 0, .slice none 0 0, .int .u64 0, .slice none 0 0], S, rfl, ?_, Grown.refl S, rfl⟩
    simp (maxDischargeDepth := 30) [hR, r0, r1, hh, hc, lA, kA, gA, hho, hho2, pairOf, hbwS]
  | some so =>
    obtain ⟨s, obj⟩ := so
    have hsr : -1 ≤ s ∧ -1 ≤ obj := by
      have := wA.1
      unfold headOfP at hho2
      split at hho2
      · simp at hho2; omega
      · split at hho2
        · simp at hho2; omega
        · cases hho2
    by_cases e0 : s < N
    · have f0 : ¬ (N : Int) ≤ s := by omega
      by_cases e1 : s = -1
      · have b1 : (s != -1) = false := by simp [e1]
        simp (maxDischargeDepth := 30) [hR, r0, r1, hh, hc, lA, kA, gA, lA1, kA1, gA1, lA2, kA2, gA2, -en41_30, hho, hho2, pairOf, hbwS, f0, b1, w1, w2]
        generalize hT : St.wrote _ _ _ _ = T
        have hTk : Kept S T := by rw [← hT]; exact (((Kept.enter S).push _).push _).wrote _ _ (by rw [top_push, top_enter]; omega)
        have hTr : T.at S.top = some (.cells 91 [Value.slice (some ⟨bw, off, none⟩) ws.length 0, Value.int IntKind.i64 (P : Int), Value.int IntKind.i64 (N : Int), Value.int IntKind.i64 (O : Int), Value.int IntKind.i64 mn, Value.int IntKind.i64 cp, Value.int IntKind.u64 k]) := by
          have e : S.top = S.enter.top := rfl
          rw [← hT, m_wrote_ne (by rw [top_push, top_enter]; omega), e, m_push (by simp), m_push_top]
        have hTt : S.top + 1 < T.top := by rw [← hT, top_wrote, top_push, top_push, top_enter]; omega
        have hTs : T.at (S.top + 1) = some (.cells 71 [.int .i64 s, .slice none 0 0, .int .u64 (wd ws A1), .slice none 0 0]) := by
          have e : S.top + 1 = (S.enter.push (.cells 91 [Value.slice (some ⟨bw, off, none⟩) ws.length 0, Value.int IntKind.i64 (P : Int), Value.int IntKind.i64 (N : Int), Value.int IntKind.i64 (O : Int), Value.int IntKind.i64 mn, Value.int IntKind.i64 cp, Value.int IntKind.u64 k])).top := by rw [top_push, top_enter]
          rw [← hT, e, m_wrote (by simp)]
        generalize hR2 : wr _ 43 _ = R2
        obtain ⟨rp, cs, S3, hwalk, hend, hg3, hso⟩ := slotTail hm (n := n) (R := R2) (Sk := T) (A := A) (A2 := A2) (l := []) hrow hw hn hA2 hlen hTk hTt hTr hTs .nil (by simp [← hR2, hR]) (by simp [← hR2, hR]; rfl) (by simp [← hR2, hR]; rw [top_push, top_enter]) (by simp [← hR2, hR])
        refine ⟨rp.map fun ps => ⟨s, [], wd ws A1, ps⟩, ?_, cs, S3, by rw [hend]; cases rp <;> rfl, hg3, hso⟩
        rw [if_pos e0]
        refine ⟨some [], by rw [if_pos e1], rp, hwalk, ?_⟩
        cases rp <;> rfl
      · have b1 : (s != -1) = true := by simp [e1]
        simp (maxDischargeDepth := 30) [hR, r0, r1, hh, hc, lA, kA, gA, lA1, kA1, gA1, lA2, kA2, gA2, -en41_30, hho, hho2, pairOf, hbwS, f0, b1, w1, w2]
        generalize hT : St.wrote _ _ _ _ = T
        have hTk : Kept S T := by rw [← hT]; exact (((Kept.enter S).push _).push _).wrote _ _ (by rw [top_push, top_enter]; omega)
        have hTr : T.at S.top = some (.cells 91 [Value.slice (some ⟨bw, off, none⟩) ws.length 0, Value.int IntKind.i64 (P : Int), Value.int IntKind.i64 (N : Int), Value.int IntKind.i64 (O : Int), Value.int IntKind.i64 mn, Value.int IntKind.i64 cp, Value.int IntKind.u64 k]) := by
          have e : S.top = S.enter.top := rfl
          rw [← hT, m_wrote_ne (by rw [top_push, top_enter]; omega), e, m_push (by simp), m_push_top]
        have hTt : S.top + 1 < T.top := by rw [← hT, top_wrote, top_push, top_push, top_enter]; omega
        have hTs : T.at (S.top + 1) = some (.cells 71 [.int .i64 s, .slice none 0 0, .int .u64 (wd ws A1), .slice none 0 0]) := by
          have e : S.top + 1 = (S.enter.push (.cells 91 [Value.slice (some ⟨bw, off, none⟩) ws.length 0, Value.int IntKind.i64 (P : Int), Value.int IntKind.i64 (N : Int), Value.int IntKind.i64 (O : Int), Value.int IntKind.i64 mn, Value.int IntKind.i64 cp, Value.int IntKind.u64 k])).top := by rw [top_push, top_enter]
          rw [← hT, e, m_wrote (by simp)]
        obtain ⟨t, rfl⟩ : ∃ t : Nat, s = t := ⟨s.toNat, by omega⟩
        obtain ⟨rl, vl, S2, hlw, hcall, hgr, hone, hout⟩ := sRList hm (n := n) (S := T) (v := .slice (some ⟨bw, off, none⟩) ws.length 0) (t := t) (obj := obj) (cp := cp) (k := k) (hrow.grown hTk.at') hw hn (by omega) hsr.2
        unfold reader at hcall
        rw [hcall]
        have hk2 := hgr.kept S hTk
        have hs2 := hgr.same hTs
        have e4 : (S.enter.push (AObj.cells 91 [Value.slice (some ⟨bw, off, none⟩) ws.length 0, Value.int IntKind.i64 (P : Int), Value.int IntKind.i64 (N : Int), Value.int IntKind.i64 (O : Int), Value.int IntKind.i64 mn, Value.int IntKind.i64 cp, Value.int IntKind.u64 k])).top = S.top + 1 := by rw [top_push, top_enter]
        rw [e4]
        cases rl with
        | none =>
          simp only [RowOut] at hout
          subst hout
          refine ⟨none, ?_, [.int .i64 0, .slice none 0 0, .int .u64 0, .slice none 0 0], S, ?_, Grown.refl S, rfl⟩
          · rw [if_pos e0]
            exact ⟨none, by rw [if_neg e1]; exact hlw, rfl⟩
          · simp (maxDischargeDepth := 30) [hR, hs2]
            exact leave_quiet ((hk2.wrote _ _ (by omega)).wrote _ _ (by omega)).wr rfl
        | some l =>
          simp (maxDischargeDepth := 30) [hR, hs2, hone, -en41_30]
          generalize hT3 : St.wrote S2 _ _ _ = T3
          have hT3k : Kept S T3 := by rw [← hT3]; exact hk2.wrote _ _ (by omega)
          have hT3r := hgr.same hTr
          rw [← m_wrote_ne (b := S.top + 1) (o := (.cells 71 [.int .i64 (t : Int), vl, .int .u64 (wd ws A1), .slice none 0 0])) (v := vl) (by omega), hT3] at hT3r
          have hT3s : T3.at (S.top + 1) = some (.cells 71 [.int .i64 (t : Int), vl, .int .u64 (wd ws A1), .slice none 0 0]) := by rw [← hT3, m_wrote (by rw [hs2]; rfl)]
          have hT3t : S.top + 1 < T3.top := by rw [← hT3, top_wrote]; exact Nat.lt_of_lt_of_le hTt hgr.top
          have hT3i : Ints T3 (S.top + 2) vl l := (Ints.grown (S' := S2) (lo := T.top) ⟨hone, hout⟩ fun b o hb hbo => by rw [← hT3, m_wrote_ne (by omega)]; exact hbo).low (by omega)
          generalize hR2 : wr _ 53 _ = R2
          obtain ⟨rp, cs, S3, hwalk, hend, hg3, hso⟩ := slotTail hm (n := n) (R := R2) (Sk := T3) (A := A) (A2 := A2) (l := l) hrow hw hn hA2 hlen hT3k hT3t hT3r hT3s hT3i (by simp [← hR2, hR]) (by simp [← hR2, hR]; rfl) (by simp [← hR2, hR]) (by simp [← hR2, hR])
          refine ⟨rp.map fun ps => ⟨t, l, wd ws A1, ps⟩, ?_, cs, S3, by rw [hend]; cases rp <;> rfl, hg3, hso⟩
          rw [if_pos (by omega : t < N)]
          refine ⟨some l, hlw, rp, hwalk, ?_⟩
          cases rp <;> rfl
    · have f0 : (N : Int) ≤ s := by omega
      refine ⟨none, [.int .i64 0, .slice none 0 0, .int .u64 0, .slice none 0 0], S, by simp [e0], ?_, Grown.refl S, rfl⟩
      simp (maxDischargeDepth := 30) [hR, r0, r1, hh, hc, lA, kA, gA, hho, hho2, pairOf, hbwS, f0]
end

end Go.Proofs.Ytepddcemoofmlaa.Fast

/- The reader's slabs. -/
namespace Go.Proofs.Ytepddcemoofmlaa.Fast
open Go Go.Proofs.Ytepddcemoofmlaa.AE
set_option maxRecDepth 10000
set_option linter.unusedSimpArgs false

structure SlabP where
  counts : CountsP
  first : List Int

/-- A slab, as the words say. -/
def SlabR (ws : List Int) (P N O : Nat) (k : Int) (t : Nat) (r : Option SlabP) : Prop := match countsP (wd ws (4 * P + 4 + 4 * t + 1)) with
  | none => r = none
  | some c => if wd ws (4 * P + 4 + 4 * t) ≤ O then ∃ rl, LWalk ws P N O k t (wd ws (4 * P + 4 + 4 * t) - 1) rl ∧ r = rl.map fun l => ⟨c, l⟩ else r = none

def SlabOut (S' : St) (lo : Nat) (cs : List Value) : Option SlabP → Prop
  | some x => ∃ vl, cs = [.int .i64 x.counts.inuse, .int .i64 x.counts.objects, .bool x.counts.frozen, .bool x.counts.live, vl] ∧ Ints S' lo vl x.first
  | none => cs = [.int .i64 0, .int .i64 0, .bool false, .bool false, .slice none 0 0]

section
variable {n : Nat} {P N O : Nat} {mn cp k : Int} {S : St} {v : Value} {ws : List Int} (hm : may P N O mn cp = true)
include hm

set_option maxHeartbeats 8000000 in
theorem sSlab {t : Nat} (hrow : WRow S v ws) (hw : ∀ x ∈ ws, Word x) (hn : ws.length = nWords P N O) (ht : t < N) :
    ∃ r cs S', SlabR ws P N O k t r ∧ calls table.find (n + 8) 45 [reader v P N O mn cp k, .int .i64 t] S = some (.tuple #[.agg cs.toArray, .bool r.isSome], S', true) ∧ Grown S S' ∧ SlabOut S' S.top cs r := by
  obtain ⟨m1, m2, m3, _⟩ := may_iff.1 hm
  refine call_rd (x := fun y => ∃ r cs S', SlabR ws P N O k t r ∧ y = some (.tuple #[.agg cs.toArray, .bool r.isSome], S', true) ∧ Grown S S' ∧ SlabOut S' S.top cs r) (args := [reader v P N O mn cp k, .int .i64 t]) b45 (by simp) fun R hR hargs => ?_
  have r0 : rd R 0 = reader v P N O mn cp k := hargs 0 (by simp)
  have r1 : rd R 1 = .int .i64 t := hargs 1 (by simp)
  clear hargs
  unfold reader at r0
  obtain ⟨bw, off, c, hv, hc0, hcl, hel⟩ := id hrow
  have hc := rowAt_cells hc0
  have hbwS : (S.at bw).isSome = true := by
    cases hb : S.at bw with
    | none => rw [hb] at hc; cases hc
    | some o => rfl
  have hNO := mul_le hm (x := N) (by omega) (by omega)
  have hws : ws.length ≤ 1000 := by
    rw [hn, nWords]
    have : ((N * O : Nat) : Int) ≤ 512 := by simpa using hNO.2
    omega
  obtain ⟨A, hA⟩ : ∃ A : Nat, A = 4 * P + 4 + 4 * t := ⟨_, rfl⟩
  obtain ⟨A1, hA1⟩ : ∃ A1 : Nat, A1 = A + 1 := ⟨_, rfl⟩
  have hlen : A + 1 < ws.length := by rw [hn, nWords]; have : 0 ≤ N * O := Nat.zero_le _; omega
  have hh := fun (m : Nat) (S : St) => @vFirst m P N O mn cp k t S hm (by omega) (by omega)
  rw [show 4 * (P : Int) + 4 + 4 * (t : Int) = (A : Int) by omega] at hh
  unfold chart at hh
  have w1 : W .i64 ((A : Int) + 1) = (A1 : Int) := by rw [W_i64 (by omega)]; omega
  have g : ∀ i, i < ws.length → ws[i]? = some (wd ws i) ∧ ∀ h : off + i < c.length, c[off + i] = .int .u64 (wd ws i) := by
    intro i hi
    have e : ws[i]? = some (wd ws i) := by simp [wd, hi]
    exact ⟨e, fun h => (List.getElem?_eq_some_iff.1 (hel i _ e)).2⟩
  have gA := (g A (by omega)).2
  have gA1 := (g A1 (by omega)).2
  have lA : A < ws.length := by omega
  have lA1 : A1 < ws.length := by omega
  have kA : off + A < c.length := by omega
  have kA1 : off + A1 < c.length := by omega
  have wA : Word (wd ws A) := hw _ (List.mem_of_getElem? (g A lA).1)
  have wA1 : Word (wd ws A1) := hw _ (List.mem_of_getElem? (g A1 lA1).1)
  have hco := fun (m : Nat) (S : St) => @sCounts m S (wd ws A1) wA1
  have w2 : W .u64 (O : Int) = O := W_in (by omega) (by omega)
  subst hv
  unfold SlabR
  rw [← hA, ← hA1]
  cases hct : countsP (wd ws A1) with
  | none =>
    refine ⟨none, [.int .i64 0, .int .i64 0, .bool false, .bool false, .slice none 0 0], S, rfl, ?_, Grown.refl S, rfl⟩
    simp (maxDischargeDepth := 30) [hR, r0, r1, hh, hc, lA, kA, gA, lA1, kA1, gA1, w1, hco, hct, countsOf, CountsP.cells, hbwS]
  | some ct =>
    by_cases e0 : wd ws A ≤ O
    · have f0 : ¬ (O : Int) < wd ws A := by omega
      have a0 := wA.1
      have w3 : W .i64 (wd ws A) = wd ws A := W_i64 (by omega)
      have w4 : W .i64 (wd ws A - 1) = wd ws A - 1 := W_i64 (by omega)
      simp (maxDischargeDepth := 30) [hR, r0, r1, hh, hc, lA, kA, gA, lA1, kA1, gA1, w1, hco, hct, countsOf, CountsP.cells, hbwS, w2, f0, w3, w4]
      generalize hT : St.wrote _ _ _ _ = T
      have hTk : Kept S T := by rw [← hT]; exact (((Kept.enter S).push _).push _).wrote _ _ (by rw [top_push, top_enter]; omega)
      have hTs : T.at (S.top + 1) = some (.cells 98 [.int .i64 ct.inuse, .int .i64 ct.objects, .bool ct.frozen, .bool ct.live, .slice none 0 0]) := by
        have e : S.top + 1 = (S.enter.push (.cells 91 [Value.slice (some ⟨bw, off, none⟩) ws.length 0, Value.int IntKind.i64 (P : Int), Value.int IntKind.i64 (N : Int), Value.int IntKind.i64 (O : Int), Value.int IntKind.i64 mn, Value.int IntKind.i64 cp, Value.int IntKind.u64 k])).top := by rw [top_push, top_enter]
        rw [← hT, e, m_wrote (by simp)]
      have hTt : S.top + 1 < T.top := by rw [← hT, top_wrote, top_push, top_push, top_enter]; omega
      obtain ⟨rl, vl, S2, hlw, hcall, hgr, hone, hout⟩ := sRList hm (n := n) (S := T) (v := .slice (some ⟨bw, off, none⟩) ws.length 0) (t := t) (obj := wd ws A - 1) (cp := cp) (k := k) (hrow.grown hTk.at') hw hn (by omega) (by omega)
      unfold reader at hcall
      rw [hcall]
      have hk2 := hgr.kept S hTk
      have hs2 := hgr.same hTs
      have e4 : (S.enter.push (AObj.cells 91 [Value.slice (some ⟨bw, off, none⟩) ws.length 0, Value.int IntKind.i64 (P : Int), Value.int IntKind.i64 (N : Int), Value.int IntKind.i64 (O : Int), Value.int IntKind.i64 mn, Value.int IntKind.i64 cp, Value.int IntKind.u64 k])).top = S.top + 1 := by rw [top_push, top_enter]
      rw [e4]
      refine ⟨rl.map fun l => ⟨ct, l⟩, ?_⟩
      rw [if_pos e0]
      cases rl with
      | none =>
        simp only [RowOut] at hout
        subst hout
        refine ⟨⟨none, hlw, rfl⟩, [.int .i64 0, .int .i64 0, .bool false, .bool false, .slice none 0 0], S, ?_, Grown.refl S, rfl⟩
        simp (maxDischargeDepth := 30) [hR, hs2]
        exact leave_quiet ((hk2.wrote _ _ (by omega)).wrote _ _ (by omega)).wr rfl
      | some l =>
        refine ⟨⟨some l, hlw, rfl⟩, ?_⟩
        simp (maxDischargeDepth := 30) [hR, hs2, hone]
        have hF := (hk2.wrote (b := S.top + 1) (.cells 98 [.int .i64 ct.inuse, .int .i64 ct.objects, .bool ct.frozen, .bool ct.live, vl]) vl (by omega)).wrote (b := S.top + 1) (.cells 98 [.int .i64 ct.inuse, .int .i64 ct.objects, .bool ct.frozen, .bool ct.live, vl]) (.agg ⟨[.int .i64 ct.inuse, .int .i64 ct.objects, .bool ct.frozen, .bool ct.live, vl]⟩) (by omega)
        generalize hFe : St.wrote (St.wrote _ _ _ _) _ _ _ = F at hF ⊢
        have i1 : Ints F T.top vl l := Ints.grown ⟨hone, hout⟩ fun b o hb hbo => by rw [← hFe, m_wrote_ne (by omega), m_wrote_ne (by omega)]; exact hbo
        obtain ⟨S3, hle, hg3, hcase⟩ := leave_any hF (.tuple #[.agg #[.int .i64 ct.inuse, .int .i64 ct.objects, .bool ct.frozen, .bool ct.live, vl], .bool true])
        refine ⟨[.int .i64 ct.inuse, .int .i64 ct.objects, .bool ct.frozen, .bool ct.live, vl], S3, hle, hg3, vl, rfl, ?_⟩
        rcases hcase with ⟨hr, rfl⟩ | ⟨_, rfl⟩
        · simp at hr
          obtain ⟨rfl, rfl⟩ := i1.refs (by omega) hr
          exact .nil
        · exact (i1.grown fun b o _ h => by rw [at_left]; exact h).low (by omega)
    · have f0 : (O : Int) < wd ws A := by omega
      refine ⟨none, [.int .i64 0, .int .i64 0, .bool false, .bool false, .slice none 0 0], S, by simp [e0], ?_, Grown.refl S, rfl⟩
      simp (maxDischargeDepth := 30) [hR, r0, r1, hh, hc, lA, kA, gA, lA1, kA1, gA1, w1, hco, hct, countsOf, CountsP.cells, hbwS, w2, f0]
end

end Go.Proofs.Ytepddcemoofmlaa.Fast

/- chart.See: the slots of all processors. -/
namespace Go.Proofs.Ytepddcemoofmlaa.Fast
open Go Go.Proofs.Ytepddcemoofmlaa.AE
set_option maxRecDepth 10000
set_option linter.unusedSimpArgs false

/-- A row of numbers whose block is not that of ob. -/
def Deep (S : St) (lo : Nat) (ob v : Value) (l : List Int) : Prop := Ints S lo v l ∧ ∀ a n c, v = .slice (some a) n c → Avoids ob a.block

theorem Deep.move {S S' : St} {lo : Nat} {ob ob' v : Value} {l : List Int} (h : Deep S lo ob v l) (k : ∀ b o, lo ≤ b → Avoids ob b → S.at b = some o → S'.at b = some o) (k' : ∀ b o, lo ≤ b → Avoids ob b → S.at b = some o → Avoids ob' b) : Deep S' lo ob' v l := by
  obtain ⟨⟨h1, h2⟩, h3⟩ := h
  rcases h2 with h2 | ⟨a1, a2, b, rfl, a4, a5⟩
  · exact ⟨⟨h1, .inl h2⟩, fun a n c e => by rw [h2.2.2] at e; cases e⟩
  · refine ⟨⟨h1, .inr ⟨a1, a2, b, rfl, a4, k b _ a4 (h3 _ _ _ rfl) a5⟩⟩, fun a n c e => ?_⟩
    simp only [Value.slice.injEq, Option.some.injEq] at e
    rw [← e.1]
    exact k' b _ a4 (h3 _ _ _ rfl) a5

theorem OutRow.avoids {S : St} {lo : Nat} {e : TypeId} {sz : Nat} {v : Value} {c : List Value} {n b : Nat} (h : OutRow S lo e sz v c n) (hb : b < lo ∨ S.top ≤ b) : Avoids v b := by
  rcases h with ⟨_, _, rfl⟩ | ⟨_, _, b0, rfl, h4, h5⟩
  · exact avoids_nil
  · have := lt_top h5
    refine avoids_iff.2 ?_
    show b0 ≠ b
    omega

theorem Deep.fresh {S2 : St} {lo lo2 : Nat} {ob v : Value} {l : List Int} (h : Ints S2 lo2 v l) (hl : lo ≤ lo2) (k : ∀ b, lo2 ≤ b → Avoids ob b) : Deep S2 lo ob v l := by
  refine ⟨h.low hl, fun a n c e => ?_⟩
  rcases h.2 with h2 | ⟨_, _, b, h3, h4, _⟩
  · rw [h2.2.2] at e; cases e
  · rw [h3] at e
    simp only [Value.slice.injEq, Option.some.injEq] at e
    rw [← e.1]; exact k b h4

def AllIs {α : Type} (p : List Value → α → Prop) : List (List Value) → List α → Prop
  | [], [] => True
  | c :: l, x :: m => p c x ∧ AllIs p l m
  | _, _ => False

theorem AllIs.snoc {α : Type} {p : List Value → α → Prop} : ∀ {l : List (List Value)} {m : List α} {c : List Value} {x : α}, AllIs p l m → p c x → AllIs p (l ++ [c]) (m ++ [x])
  | [], [], _, _, _, h => ⟨h, trivial⟩
  | _ :: _, _ :: _, _, _, h, k => ⟨h.1, AllIs.snoc h.2 k⟩
  | [], _ :: _, _, _, h, _ => h.elim
  | _ :: _, [], _, _, h, _ => h.elim
theorem AllIs.imp {α : Type} {p q : List Value → α → Prop} (k : ∀ c x, p c x → q c x) : ∀ {l : List (List Value)} {m : List α}, AllIs p l m → AllIs q l m
  | [], [], _ => trivial
  | _ :: _, _ :: _, h => ⟨k _ _ h.1, AllIs.imp k h.2⟩
  | [], _ :: _, h => h.elim
  | _ :: _, [], h => h.elim

def SlotIs (S : St) (lo : Nat) (ob : Value) (cs : List Value) (x : SlotP) : Prop := ∃ vl vp, cs = [.int .i64 x.slab, vl, .int .u64 x.turn, vp] ∧ Deep S lo ob vl x.list ∧ Deep S lo ob vp x.parts

/-- The slots so far. -/
def SlotsOut (S : St) (lo : Nat) (v : Value) (xs : List SlotP) : Prop := one v = true ∧ ∃ css, AllIs (SlotIs S lo v) css xs ∧ OutRow S lo 71 4 v css.flatten xs.length

section
variable {n : Nat} {P N O : Nat} {mn cp k : Int} {S : St} {v : Value} {ws : List Int} (hm : may P N O mn cp = true)
include hm

/-- What stands while See runs. -/
structure SeeSt (S : St) (v : Value) (P N O : Nat) (mn cp k : Int) (lk : Bool) (R : List Value) (S' : St) (vs vh vt : Value) : Prop where
  len : R.length = 95
  r0 : rd R 0 = v
  r3 : rd R 3 = .pointer (some ⟨S.top, 0, none⟩)
  r4 : rd R 4 = .pointer (some ⟨S.top + 1, 0, none⟩)
  r6 : rd R 6 = .pointer (some ⟨S.top + 2, 0, none⟩)
  r7 : rd R 7 = .pointer (some ⟨S.top + 3, 0, none⟩)
  kept : Kept S S'
  top : S.top + 3 < S'.top
  chart : S'.at S.top = some (.cells 26 [.int .i64 P, .int .i64 N, .int .i64 O, .int .i64 mn, .int .i64 cp, .int .u64 k])
  res : S'.at (S.top + 1) = some (.cells 66 [.slice none 0 0, .slice none 0 0, .bool false, .slice none 0 0])
  rdr : S'.at (S.top + 2) = some (.cells 91 [v, .int .i64 P, .int .i64 N, .int .i64 O, .int .i64 mn, .int .i64 cp, .int .u64 k])
  core : S'.at (S.top + 3) = some (.cells 66 [vs, vh, .bool lk, vt])

set_option maxHeartbeats 8000000 in
theorem slotsLoop {R : List Value} {S' : St} {lk : Bool} (hrow : WRow S v ws) (hw : ∀ x ∈ ws, Word x) (hn : ws.length = nWords P N O)
    (h0 : SeeSt S v P N O mn cp k lk R S' (.slice none 0 0) (.slice none 0 0) (.slice none 0 0)) (r38 : rd R 38 = .int .i64 P) (r39 : rd R 39 = .int .i64 0) :
    Leads (evCode (calls table.find (n + 8)) loop22_0 R S') fun o R' S' =>
      (o = .exit 0 ∧ ∃ xs vs, xs.length = P ∧ (∀ i, i < P → SlotR ws P N O k i xs[i]?) ∧ SeeSt S v P N O mn cp k lk R' S' vs (.slice none 0 0) (.slice none 0 0) ∧ SlotsOut S' (S.top + 4) vs xs) ∨
      (o = .ret ∧ (∃ i, i < P ∧ SlotR ws P N O k i none) ∧ R'.length = 95 ∧ Kept S S' ∧ rd R' 4 = .pointer (some ⟨S.top + 1, 0, none⟩) ∧ rd R' 5 = .int .i64 150 ∧
        S'.at (S.top + 1) = some (.cells 66 [.slice none 0 0, .slice none 0 0, .bool false, .slice none 0 0])) := by
  obtain ⟨m1, m2, m3, _⟩ := may_iff.1 hm
  rw [eloop22_0]
  refine loop_goes (fun q R S' => ∃ (i : Nat) (xs : List SlotP) (vs : Value), i + q = P ∧ xs.length = i ∧ (∀ j, j < i → SlotR ws P N O k j xs[j]?) ∧ rd R 38 = .int .i64 P ∧ rd R 39 = .int .i64 i ∧
    SeeSt S v P N O mn cp k lk R S' vs (.slice none 0 0) (.slice none 0 0) ∧ SlotsOut S' (S.top + 4) vs xs) _ P (by omega)
    ⟨0, [], _, by omega, rfl, fun j hj => absurd hj (Nat.not_lt_zero j), r38, r39, h0, rfl, [], trivial, .nil⟩ ?_
  clear h0 r38 r39
  rintro q R S' ⟨i, xs, vs, hq, hxs, hsl, r38, r39, ⟨hR, r0, r3, r4, r6, r7, hk, ht, hch, hre, hrd, hco⟩, hone, css, hcss, hout⟩
  obtain ⟨bw, off, c, hv, _⟩ := id hrow
  have honev : one v = true := by rw [hv]; rfl
  cases q with
  | zero =>
    have e1 : ¬ i < P := by omega
    obtain rfl : i = P := by omega
    simp (maxDischargeDepth := 30) [hR, r38, r39, e1]
    refine ⟨xs, hxs, hsl, vs, ⟨by simp [hR], by simp [r0], by simp [r3], by simp [r4], by simp [r6], by simp [r7], hk, ht, hch, hre, hrd, hco⟩, hone, css, hcss, by rw [hxs]; rw [hxs] at hout; exact hout⟩
  | succ q =>
    have e1 : i < P := by omega
    obtain ⟨r, cs, S2, hsr, hcall, hgr, hso⟩ := sSlot hm (n := n) (S := S') (v := v) (cpu := i) (cp := cp) (k := k) (hrow.grown hk.at') hw hn e1
    unfold reader at hcall
    have w1 : W .i64 ((i : Int) + 1) = (i : Int) + 1 := W_i64 (by omega)
    have hk2 := hgr.kept S hk
    have hre2 := hgr.same hre
    have hco2 := hgr.same hco
    have ht2 := Nat.lt_of_lt_of_le ht hgr.top
    cases r with
    | none =>
      simp only [SlotOut] at hso
      subst hso
      simp (maxDischargeDepth := 30) [hR, r3, r4, r6, r7, r38, r39, e1, hrd, hcall, hre2, hco2]
      exact ⟨⟨i, e1, hsr⟩, ((hk2.push _).wrote _ _ (by have := hgr.top; have := hk.top; omega)).wrote _ _ (by omega)⟩
    | some x =>
      obtain ⟨vl, vp, rfl, il, ip⟩ := hso
      have ol : one vl = true := il.1
      have op : one vp = true := ip.1
      simp (maxDischargeDepth := 30) [hR, r3, r4, r6, r7, r38, r39, e1, hrd, hcall, hre2, hco2, ol, op, hone]
      generalize hT : St.wrote (St.push S2 _) _ _ _ = T
      have hge : S.top + 3 < S2.top := ht2
      have hTk : Kept S T := by rw [← hT]; exact (hk2.push _).wrote _ _ (by omega)
      have hT2 : ∀ b o, S2.at b = some o → T.at b = some o := fun b o hb => by
        have := lt_top hb
        rw [← hT, m_wrote_ne (by omega), m_push (by rw [hb]; rfl)]; exact hb
      have hTt : S2.top < T.top := by rw [← hT, top_wrote, top_push]; omega
      have hTo : OutRow T (S.top + 4) 71 4 vs css.flatten xs.length := OutRow.same hout fun b o _ h => hT2 _ _ (hgr.same h)
      have hcs : AllIs (SlotIs T (S.top + 4) vs) css xs := hcss.imp fun c x ⟨vl, vp, h1, h2, h3⟩ =>
        ⟨vl, vp, h1, h2.move (fun b o _ _ h => hT2 _ _ (hgr.same h)) (fun _ _ _ h _ => h), h3.move (fun b o _ _ h => hT2 _ _ (hgr.same h)) (fun _ _ _ h _ => h)⟩
      have hfr : ∀ {u : Value} {l : List Int}, Ints S2 S'.top u l → Deep T (S.top + 4) vs u l := fun hu => Deep.fresh (hu.grown fun b o _ h => hT2 _ _ h) (by omega) fun b hb => OutRow.avoids hout (.inr hb)
      obtain ⟨v', T2, he, hout2, hone2, hkept2, hold2, htop2, hnew2⟩ := out_app2 (xs := [.int .i64 x.slab, vl, .int .u64 x.turn, vp]) (bytes := 64) (cp := 0) hTo rfl (by omega) (by simp [ol, op]) (by omega) (by omega) (by omega)
      rw [he]
      have keep : ∀ b o, Avoids vs b → T.at b = some o → T2.at b = some o := fun b o ha hb => by rw [hold2 b (lt_top hb) ha]; exact hb
      have low : ∀ b, b < S.top + 4 → Avoids vs b := fun b hb => OutRow.avoids hout (.inl hb)
      have hco3 := keep _ _ (low (S.top + 3) (by omega)) (hT2 _ _ hco2)
      simp (maxDischargeDepth := 30) [hR, r7, r38, r39, hco3, hone2, w1]
      have hav : ∀ b o, T.at b = some o → Avoids v' b := fun b o hb => hnew2 b (lt_top hb)
      refine ⟨q, by omega, i + 1, by omega, xs ++ [x], by simp [hxs], fun j hj => ?_, by simp, v', ?_, ?_⟩
      · by_cases hji : j < i
        · rw [List.getElem?_append_left (by omega)]; exact hsl j hji
        · obtain rfl : j = i := by omega
          have e5 : (xs ++ [x])[j]? = some x := by simp [hxs]
          rw [e5]; exact hsr
      · have hF : ∀ b o, b ≠ S.top + 3 → T2.at b = some o → (T2.wrote (S.top + 3) (AObj.cells 66 [v', Value.slice none 0 0, Value.bool lk, Value.slice none 0 0]) v').at b = some o := fun b o hb h => by rw [m_wrote_ne (by omega)]; exact h
        refine ⟨by simp [hR], by simp [r0], by simp [r3], by simp [r4], by simp [r6], by simp [r7], (hkept2 S hTk (by omega)).wrote _ _ (by omega), by rw [top_wrote]; omega,
          hF _ _ (by omega) (keep _ _ (low _ (by omega)) (hT2 _ _ (hgr.same hch))), hF _ _ (by omega) (keep _ _ (low _ (by omega)) (hT2 _ _ hre2)), hF _ _ (by omega) (keep _ _ (low _ (by omega)) (hT2 _ _ (hgr.same hrd))), by rw [m_wrote (by rw [hco3]; rfl)]⟩
      · have hF : ∀ b o, S.top + 4 ≤ b → T2.at b = some o → (T2.wrote (S.top + 3) (AObj.cells 66 [v', Value.slice none 0 0, Value.bool lk, Value.slice none 0 0]) v').at b = some o := fun b o hb h => by rw [m_wrote_ne (by omega)]; exact h
        have mv : ∀ {u : Value} {l : List Int}, Deep T (S.top + 4) vs u l → Deep (T2.wrote (S.top + 3) (AObj.cells 66 [v', Value.slice none 0 0, Value.bool lk, Value.slice none 0 0]) v') (S.top + 4) v' u l :=
          fun hu => hu.move (fun b o hb ha h => hF _ _ hb (keep _ _ ha h)) (fun b o _ _ h => hav b o h)
        refine ⟨hone2, css ++ [[.int .i64 x.slab, vl, .int .u64 x.turn, vp]], (hcs.imp fun c x ⟨vl, vp, h1, h2, h3⟩ => ⟨vl, vp, h1, mv h2, mv h3⟩).snoc ⟨vl, vp, rfl, mv (hfr il), mv (hfr ip)⟩, ?_⟩
        have := hout2.same (fun b o hb h => hF b o hb h)
        simpa using this
end

end Go.Proofs.Ytepddcemoofmlaa.Fast

/- chart.See: all slabs. -/
namespace Go.Proofs.Ytepddcemoofmlaa.Fast
open Go Go.Proofs.Ytepddcemoofmlaa.AE
set_option maxRecDepth 10000
set_option linter.unusedSimpArgs false

def SlabIs (S : St) (lo : Nat) (ob : Value) (cs : List Value) (x : SlabP) : Prop := ∃ vl, cs = [.int .i64 x.counts.inuse, .int .i64 x.counts.objects, .bool x.counts.frozen, .bool x.counts.live, vl] ∧ Deep S lo ob vl x.first

/-- The slabs so far. -/
def SlabsOut (S : St) (lo : Nat) (v : Value) (xs : List SlabP) : Prop := one v = true ∧ ∃ css, AllIs (SlabIs S lo v) css xs ∧ OutRow S lo 98 5 v css.flatten xs.length

section
variable {n : Nat} {P N O : Nat} {mn cp k : Int} {S : St} {v : Value} {ws : List Int} (hm : may P N O mn cp = true)
include hm

set_option maxHeartbeats 8000000 in
theorem slabsLoop {R : List Value} {S0 : St} {lk : Bool} {vs vh : Value} (hrow : WRow S v ws) (hw : ∀ x ∈ ws, Word x) (hn : ws.length = nWords P N O) (ovs : one vs = true) (ovh : one vh = true)
    (h0 : SeeSt S v P N O mn cp k lk R S0 vs vh (.slice none 0 0)) (r74 : rd R 74 = .int .i64 N) (r75 : rd R 75 = .int .i64 0) :
    Leads (evCode (calls table.find (n + 8)) loop22_1 R S0) fun o R' S' =>
      (o = .exit 2 ∧ ∃ xs vt, xs.length = N ∧ (∀ i, i < N → SlabR ws P N O k i xs[i]?) ∧ SeeSt S v P N O mn cp k lk R' S' vs vh vt ∧ SlabsOut S' S0.top vt xs ∧ ∀ b o, S.top + 4 ≤ b → S0.at b = some o → S'.at b = some o) ∨
      (o = .ret ∧ (∃ i, i < N ∧ SlabR ws P N O k i none) ∧ R'.length = 95 ∧ Kept S S' ∧ rd R' 4 = .pointer (some ⟨S.top + 1, 0, none⟩) ∧ rd R' 5 = .int .i64 150 ∧
        S'.at (S.top + 1) = some (.cells 66 [.slice none 0 0, .slice none 0 0, .bool false, .slice none 0 0])) := by
  obtain ⟨m1, m2, m3, _⟩ := may_iff.1 hm
  rw [eloop22_1]
  refine loop_goes (fun q R S' => ∃ (i : Nat) (xs : List SlabP) (vt : Value), i + q = N ∧ xs.length = i ∧ (∀ j, j < i → SlabR ws P N O k j xs[j]?) ∧ rd R 74 = .int .i64 N ∧ rd R 75 = .int .i64 i ∧ S0.top ≤ S'.top ∧
    SeeSt S v P N O mn cp k lk R S' vs vh vt ∧ SlabsOut S' S0.top vt xs ∧ ∀ b o, S.top + 4 ≤ b → S0.at b = some o → S'.at b = some o) _ N (by omega)
    ⟨0, [], _, by omega, rfl, fun j hj => absurd hj (Nat.not_lt_zero j), r74, r75, Nat.le_refl _, h0, ⟨rfl, [], trivial, .nil⟩, fun _ _ _ h => h⟩ ?_
  have ht0 := h0.top
  clear h0 r74 r75
  rintro q R S' ⟨i, xs, vt, hq, hxs, hsl, r74, r75, ht1, ⟨hR, r0, r3, r4, r6, r7, hk, ht, hch, hre, hrd, hco⟩, ⟨hone, css, hcss, hout⟩, hkeep⟩
  obtain ⟨bw, off, c, hv, _⟩ := id hrow
  have honev : one v = true := by rw [hv]; rfl
  cases q with
  | zero =>
    have e1 : ¬ i < N := by omega
    obtain rfl : i = N := by omega
    simp (maxDischargeDepth := 30) [hR, r74, r75, e1]
    refine ⟨xs, hxs, hsl, vt, ⟨by simp [hR], by simp [r0], by simp [r3], by simp [r4], by simp [r6], by simp [r7], hk, ht, hch, hre, hrd, hco⟩, ⟨hone, css, hcss, by rw [hxs]; rw [hxs] at hout; exact hout⟩, hkeep⟩
  | succ q =>
    have e1 : i < N := by omega
    obtain ⟨r, cs, S2, hsr, hcall, hgr, hso⟩ := sSlab hm (n := n) (S := S') (v := v) (t := i) (cp := cp) (k := k) (hrow.grown hk.at') hw hn e1
    unfold reader at hcall
    have w1 : W .i64 ((i : Int) + 1) = (i : Int) + 1 := W_i64 (by omega)
    have hk2 := hgr.kept S hk
    have hre2 := hgr.same hre
    have hco2 := hgr.same hco
    have ht2 := Nat.lt_of_lt_of_le ht hgr.top
    cases r with
    | none =>
      simp only [SlabOut] at hso
      subst hso
      simp (maxDischargeDepth := 30) [hR, r3, r4, r6, r7, r74, r75, e1, hrd, hcall, hre2, hco2]
      exact ⟨⟨i, e1, hsr⟩, ((hk2.push _).wrote _ _ (by have := hgr.top; have := hk.top; omega)).wrote _ _ (by omega)⟩
    | some x =>
      obtain ⟨vl, rfl, il⟩ := hso
      have ol : one vl = true := il.1
      simp (maxDischargeDepth := 30) [hR, r3, r4, r6, r7, r74, r75, e1, hrd, hcall, hre2, hco2, ol, hone, ovs, ovh]
      generalize hT : St.wrote (St.push S2 _) _ _ _ = T
      have hge : S.top + 3 < S2.top := ht2
      have hTk : Kept S T := by rw [← hT]; exact (hk2.push _).wrote _ _ (by omega)
      have hT2 : ∀ b o, S2.at b = some o → T.at b = some o := fun b o hb => by
        have := lt_top hb
        rw [← hT, m_wrote_ne (by omega), m_push (by rw [hb]; rfl)]; exact hb
      have hTt : S2.top < T.top := by rw [← hT, top_wrote, top_push]; omega
      have hT0 : S0.top ≤ T.top := by have := hgr.top; omega
      have hTo : OutRow T S0.top 98 5 vt css.flatten xs.length := OutRow.same hout fun b o _ h => hT2 _ _ (hgr.same h)
      have hcs : AllIs (SlabIs T S0.top vt) css xs := hcss.imp fun c x ⟨vl, h1, h2⟩ => ⟨vl, h1, h2.move (fun b o _ _ h => hT2 _ _ (hgr.same h)) (fun _ _ _ h _ => h)⟩
      have hfr : ∀ {u : Value} {l : List Int}, Ints S2 S'.top u l → Deep T S0.top vt u l := fun hu => Deep.fresh (hu.grown fun b o _ h => hT2 _ _ h) (by omega) fun b hb => OutRow.avoids hout (.inr hb)
      obtain ⟨v', T2, he, hout2, hone2, hkept2, hold2, htop2, hnew2⟩ := out_app2 (xs := [.int .i64 x.counts.inuse, .int .i64 x.counts.objects, .bool x.counts.frozen, .bool x.counts.live, vl]) (bytes := 48) (cp := 0) hTo rfl (by omega) (by simp [ol]) (by omega) (by omega) hT0
      rw [he]
      have keep : ∀ b o, Avoids vt b → T.at b = some o → T2.at b = some o := fun b o ha hb => by rw [hold2 b (lt_top hb) ha]; exact hb
      have low : ∀ b, b < S0.top → Avoids vt b := fun b hb => OutRow.avoids hout (.inl hb)
      have hco3 := keep _ _ (low (S.top + 3) (by omega)) (hT2 _ _ hco2)
      simp (maxDischargeDepth := 30) [hR, r7, r74, r75, hco3, hone2, w1]
      have hav : ∀ b o, T.at b = some o → Avoids v' b := fun b o hb => hnew2 b (lt_top hb)
      have hF : ∀ b o, b ≠ S.top + 3 → T2.at b = some o → (T2.wrote (S.top + 3) (AObj.cells 66 [vs, vh, Value.bool lk, v']) v').at b = some o := fun b o hb h => by rw [m_wrote_ne (by omega)]; exact h
      refine ⟨q, by omega, i + 1, by omega, xs ++ [x], by simp [hxs], fun j hj => ?_, by simp, by rw [top_wrote]; omega, v', ?_, ?_, fun b o hb h => ?_⟩
      · by_cases hji : j < i
        · rw [List.getElem?_append_left (by omega)]; exact hsl j hji
        · obtain rfl : j = i := by omega
          have e5 : (xs ++ [x])[j]? = some x := by simp [hxs]
          rw [e5]; exact hsr
      · refine ⟨by simp [hR], by simp [r0], by simp [r3], by simp [r4], by simp [r6], by simp [r7], (hkept2 S hTk (by omega)).wrote _ _ (by omega), by rw [top_wrote]; omega,
          hF _ _ (by omega) (keep _ _ (low _ (by omega)) (hT2 _ _ (hgr.same hch))), hF _ _ (by omega) (keep _ _ (low _ (by omega)) (hT2 _ _ hre2)), hF _ _ (by omega) (keep _ _ (low _ (by omega)) (hT2 _ _ (hgr.same hrd))), by rw [m_wrote (by rw [hco3]; rfl)]⟩
      · have mv : ∀ {u : Value} {l : List Int}, Deep T S0.top vt u l → Deep (T2.wrote (S.top + 3) (AObj.cells 66 [vs, vh, Value.bool lk, v']) v') S0.top v' u l :=
          fun hu => hu.move (fun b o hb ha h => hF _ _ (by omega) (keep _ _ ha h)) (fun b o _ _ h => hav b o h)
        refine ⟨hone2, css ++ [[.int .i64 x.counts.inuse, .int .i64 x.counts.objects, .bool x.counts.frozen, .bool x.counts.live, vl]], (hcs.imp fun c x ⟨vl, h1, h2⟩ => ⟨vl, h1, mv h2⟩).snoc ⟨vl, rfl, mv (hfr il)⟩, ?_⟩
        have := hout2.same (fun b o hb h => hF b o (by omega) h)
        simpa using this
      · have hb0 := lt_top h
        exact hF b o (by omega) (keep b o (low b hb0) (hT2 _ _ (hgr.same (hkeep b o hb h))))
end

end Go.Proofs.Ytepddcemoofmlaa.Fast

/- chart.See: what words say. -/
namespace Go.Proofs.Ytepddcemoofmlaa.Fast
open Go Go.Proofs.Ytepddcemoofmlaa.AE
set_option maxRecDepth 10000
set_option linter.unusedSimpArgs false

structure CoreP where
  slots : List SlotP
  shelf : List Int
  locked : Bool
  slabs : List SlabP

/-- A core, as the words say. -/
def SeeR (ws : List Int) (P N O : Nat) (k : Int) (r : Option CoreP) : Prop :=
  (∃ x, r = some x ∧ x.slots.length = P ∧ (∀ i, i < P → SlotR ws P N O k i x.slots[i]?) ∧ CWalk ofShelf ws P N [] (wd ws (4 * P + 1)) (some x.shelf) ∧ x.locked = (wd ws (4 * P) != 0) ∧ x.slabs.length = N ∧ ∀ t, t < N → SlabR ws P N O k t x.slabs[t]?) ∨
  (r = none ∧ ((∃ i, i < P ∧ SlotR ws P N O k i none) ∨ CWalk ofShelf ws P N [] (wd ws (4 * P + 1)) none ∨ ∃ t, t < N ∧ SlabR ws P N O k t none))

/-- A core in the heap. -/
def CoreOut (S' : St) (lo : Nat) (cs : List Value) : Option CoreP → Prop
  | some x => ∃ vs vh vt, cs = [vs, vh, .bool x.locked, vt] ∧ SlotsOut S' lo vs x.slots ∧ Ints S' lo vh x.shelf ∧ SlabsOut S' lo vt x.slabs
  | none => cs = [.slice none 0 0, .slice none 0 0, .bool false, .slice none 0 0]

theorem Deep.low {S : St} {lo lo' : Nat} {ob v : Value} {l : List Int} (h : Deep S lo ob v l) (k : lo' ≤ lo) : Deep S lo' ob v l := ⟨h.1.low k, h.2⟩
theorem SlotsOut.move {S S' : St} {lo : Nat} {v : Value} {xs : List SlotP} (h : SlotsOut S lo v xs) (k : ∀ b o, lo ≤ b → S.at b = some o → S'.at b = some o) : SlotsOut S' lo v xs := by
  obtain ⟨h1, css, h2, h3⟩ := h
  exact ⟨h1, css, h2.imp fun c x ⟨vl, vp, e, d1, d2⟩ => ⟨vl, vp, e, d1.move (fun b o hb _ h => k b o hb h) (fun _ _ _ h _ => h), d2.move (fun b o hb _ h => k b o hb h) (fun _ _ _ h _ => h)⟩, OutRow.same h3 k⟩
theorem SlotsOut.low {S : St} {lo lo' : Nat} {v : Value} {xs : List SlotP} (h : SlotsOut S lo v xs) (k : lo' ≤ lo) : SlotsOut S lo' v xs := by
  obtain ⟨h1, css, h2, h3⟩ := h
  exact ⟨h1, css, h2.imp fun c x ⟨vl, vp, e, d1, d2⟩ => ⟨vl, vp, e, d1.low k, d2.low k⟩, OutRow.low h3 k⟩
theorem SlabsOut.move {S S' : St} {lo : Nat} {v : Value} {xs : List SlabP} (h : SlabsOut S lo v xs) (k : ∀ b o, lo ≤ b → S.at b = some o → S'.at b = some o) : SlabsOut S' lo v xs := by
  obtain ⟨h1, css, h2, h3⟩ := h
  exact ⟨h1, css, h2.imp fun c x ⟨vl, e, d1⟩ => ⟨vl, e, d1.move (fun b o hb _ h => k b o hb h) (fun _ _ _ h _ => h)⟩, OutRow.same h3 k⟩
theorem SlabsOut.low {S : St} {lo lo' : Nat} {v : Value} {xs : List SlabP} (h : SlabsOut S lo v xs) (k : lo' ≤ lo) : SlabsOut S lo' v xs := by
  obtain ⟨h1, css, h2, h3⟩ := h
  exact ⟨h1, css, h2.imp fun c x ⟨vl, e, d1⟩ => ⟨vl, e, d1.low k⟩, OutRow.low h3 k⟩

section
variable {n : Nat} {P N O : Nat} {mn cp k : Int} {S : St} {v : Value} {ws : List Int} (hm : may P N O mn cp = true)
include hm

set_option maxHeartbeats 8000000 in
theorem sSee (hrow : WRow S v ws) (hw : ∀ x ∈ ws, Word x) (hn : ws.length = nWords P N O) :
    ∃ r cs S', SeeR ws P N O k r ∧ calls table.find (n + 9) 22 [v, chart P N O mn cp k] S = some (.tuple #[.agg cs.toArray, .int .i64 (if r.isSome = true then 0 else 150)], S', true) ∧ Grown S S' ∧ CoreOut S' S.top cs r := by
  obtain ⟨m1, m2, m3, _⟩ := may_iff.1 hm
  refine call_rd (x := fun y => ∃ r cs S', SeeR ws P N O k r ∧ y = some (.tuple #[.agg cs.toArray, .int .i64 (if r.isSome = true then 0 else 150)], S', true) ∧ Grown S S' ∧ CoreOut S' S.top cs r) (args := [v, chart P N O mn cp k]) b22 (by simp) fun R hR hargs => ?_
  have r0 : rd R 0 = v := hargs 0 (by simp)
  have r1 : rd R 1 = chart P N O mn cp k := hargs 1 (by simp)
  clear hargs
  have hNO := mul_le hm (x := N) (by omega) (by omega)
  have hws : ws.length ≤ 1000 := by
    rw [hn, nWords]
    have : ((N * O : Nat) : Int) ≤ 512 := by simpa using hNO.2
    omega
  have hck := fun (m : Nat) (S : St) => @vCheck m P N O mn cp k S hm
  have hwo := fun (m : Nat) (S : St) => @vWords m P N O mn cp k S hm
  have hlo := fun (m : Nat) (S : St) => @vLock m P N O mn cp k S hm
  have hsh := fun (m : Nat) (S : St) => @vShelf m P N O mn cp k S hm
  have hwn : 4 * (P : Int) + 4 + 4 * N + (N : Int) * O = (ws.length : Int) := by rw [hn, nWords]; simp
  rw [hwn] at hwo
  obtain ⟨A, hA⟩ : ∃ A : Nat, A = 4 * P := ⟨_, rfl⟩
  obtain ⟨A1, hA1⟩ : ∃ A1 : Nat, A1 = 4 * P + 1 := ⟨_, rfl⟩
  rw [show 4 * (P : Int) = (A : Int) by omega] at hlo
  rw [show 4 * (P : Int) + 1 = (A1 : Int) by omega] at hsh
  unfold chart at hck hwo hlo hsh r1
  obtain ⟨bw, off, c, hv, hc0, hcl, hel⟩ := id hrow
  have hc := rowAt_cells hc0
  have hbwS : (S.at bw).isSome = true := by
    cases hb : S.at bw with
    | none => rw [hb] at hc; cases hc
    | some o => rfl
  have lA : A < ws.length := by rw [hn, nWords]; omega
  have lA1 : A1 < ws.length := by rw [hn, nWords]; omega
  have g : ∀ i, i < ws.length → ws[i]? = some (wd ws i) ∧ ∀ h : off + i < c.length, c[off + i] = .int .u64 (wd ws i) := by
    intro i hi
    have e : ws[i]? = some (wd ws i) := by simp [wd, hi]
    exact ⟨e, fun h => (List.getElem?_eq_some_iff.1 (hel i _ e)).2⟩
  have gA := (g A lA).2
  have kA : off + A < c.length := by omega
  have wA1 : Word (wd ws A1) := hw _ (List.mem_of_getElem? (g A1 lA1).1)
  subst hv
  have b0 : ((ws.length : Int) != ws.length) = false := by simp
  simp (maxDischargeDepth := 30) [hR, r0, r1, hck, hwo, hlo, hc, hbwS, lA, kA, gA, b0]
  generalize hU1 : St.push S.enter _ = U1
  generalize hU2 : St.push U1 _ = U2
  generalize hU3 : St.push U2 _ = U3
  generalize hU4 : St.wrote U3 _ _ _ = U4
  generalize hU5 : St.push U4 _ = U5
  generalize hT : St.wrote U5 _ _ _ = T
  have t1 : U1.top = S.top + 1 := by rw [← hU1, top_push, top_enter]
  have t2 : U2.top = S.top + 2 := by rw [← hU2, top_push, t1]
  have t3 : U3.top = S.top + 3 := by rw [← hU3, top_push, t2]
  have t4 : U4.top = S.top + 3 := by rw [← hU4, top_wrote, t3]
  have t5 : U5.top = S.top + 4 := by rw [← hU5, top_push, t4]
  have tT : T.top = S.top + 4 := by rw [← hT, top_wrote, t5]
  have a1 : U1.at S.top = some (.cells 26 [.int .i64 P, .int .i64 N, .int .i64 O, .int .i64 mn, .int .i64 cp, .int .u64 k]) := by rw [← hU1]; exact m_push_top
  have a2 : U2.at S.top = some (.cells 26 [.int .i64 P, .int .i64 N, .int .i64 O, .int .i64 mn, .int .i64 cp, .int .u64 k]) := by rw [← hU2, m_push (by rw [a1]; rfl)]; exact a1
  have b2 : U2.at (S.top + 1) = some (.cells 66 [.slice none 0 0, .slice none 0 0, .bool false, .slice none 0 0]) := by rw [← hU2, ← t1]; exact m_push_top
  have a3 := a2
  rw [← m_push (o := _) (by rw [a2]; rfl), hU3] at a3
  have b3 := b2
  rw [← m_push (o := _) (by rw [b2]; rfl), hU3] at b3
  have c3 : (U3.at (S.top + 2)).isSome = true := by rw [← hU3, ← t2, m_push_top]; rfl
  have a4 : U4.at S.top = some (.cells 26 [.int .i64 P, .int .i64 N, .int .i64 O, .int .i64 mn, .int .i64 cp, .int .u64 k]) := by rw [← hU4, m_wrote_ne (by rw [t2]; omega)]; exact a3
  have b4 : U4.at (S.top + 1) = some (.cells 66 [.slice none 0 0, .slice none 0 0, .bool false, .slice none 0 0]) := by rw [← hU4, m_wrote_ne (by rw [t2]; omega)]; exact b3
  have c4 : U4.at (S.top + 2) = some (.cells 91 [.slice (some ⟨bw, off, none⟩) ws.length 0, .int .i64 P, .int .i64 N, .int .i64 O, .int .i64 mn, .int .i64 cp, .int .u64 k]) := by rw [← hU4, ← t2, m_wrote (by rw [t2]; exact c3)]
  have step5 : ∀ b o, U4.at b = some o → b ≠ U4.top → T.at b = some o := fun b o h hb => by rw [← hT, m_wrote_ne (by omega), ← hU5, m_push (by rw [h]; rfl)]; exact h
  have dT : T.at (S.top + 3) = some (.cells 66 [.slice none 0 0, .slice none 0 0, .bool (wd ws A != 0), .slice none 0 0]) := by rw [← hT, ← t4, m_wrote (by rw [← hU5, m_push_top]; rfl)]
  have kT : Kept S T := by
    rw [← hT, ← hU5, ← hU4, ← hU3, ← hU2, ← hU1]
    refine ((((((Kept.enter S).push _).push _).push _).wrote _ _ ?_).push _).wrote _ _ ?_
    · rw [hU1, hU2, t2]; omega
    · rw [hU1, hU2, hU3, hU4, t4]; omega
  generalize hR2 : wr (wr _ 38 _) 39 _ = R2
  have hst : SeeSt S (.slice (some ⟨bw, off, none⟩) ws.length 0) P N O mn cp k (wd ws A != 0) R2 T (.slice none 0 0) (.slice none 0 0) (.slice none 0 0) :=
    ⟨by simp [← hR2, hR], by simp [← hR2, r0], by simp [← hR2, hR]; rfl, by simp [← hR2, hR, t1], by simp [← hR2, hR, t2], by simp [← hR2, hR, t4], kT, by omega,
      step5 _ _ a4 (by omega), step5 _ _ b4 (by omega), step5 _ _ c4 (by omega), dT⟩
  obtain ⟨o, R3, S3, he, hr⟩ := slotsLoop hm (n := n) hrow hw hn hst (by simp [← hR2, hR]) (by simp [← hR2, hR])
  rw [he]
  rcases hr with ⟨rfl, xs, vs, hxs, hsl, ⟨g0, g1, g3, g4, g6, g7, gk, gt, gch, gre, grd, gco⟩, gout⟩ | ⟨rfl, hno, hR3, hk3, r34, r35, hat⟩
  · obtain ⟨rh, vh, S4, hch, hcall, hgr, hone, hout⟩ := sChain hm (n := n + 1) (f := 44) (g := ofShelf) (S := S3) (v := .slice (some ⟨bw, off, none⟩) ws.length 0) (ws := ws) (cp := cp) (k := k) tellsShelf (hrow.grown gk.at') hw hn wA1
    rw [show n + 1 + 7 = n + 8 from rfl] at hcall
    unfold reader at hcall
    obtain ⟨bw', off', c', hv', hc', hcl', hel'⟩ := hrow.grown gk.at'
    have hc3 := rowAt_cells (rowAt_same gk.at' hc0)
    have kA1 : off + A1 < c.length := by omega
    have gA1 := (g A1 lA1).2
    have gk4 := hgr.kept S gk
    have gre4 := hgr.same gre
    have gco4 := hgr.same gco
    have gt4 := Nat.lt_of_lt_of_le gt hgr.top
    have ovs : one vs = true := gout.1
    cases rh with
    | none =>
      simp only [RowOut] at hout
      subst hout
      refine ⟨none, .inr ⟨rfl, .inr (.inl (by rw [← hA1]; exact hch))⟩, [.slice none 0 0, .slice none 0 0, .bool false, .slice none 0 0], S, ?_, Grown.refl S, rfl⟩
      simp (maxDischargeDepth := 30) [g0, g1, g3, g4, g6, g7, gch, grd, hsh, hc3, lA1, kA1, gA1, hcall, gre4]
      exact leave_quiet (gk4.wrote _ _ (by omega)).wr rfl
    | some sh =>
      simp only [RowOut] at hout
      simp (maxDischargeDepth := 30) [g0, g1, g3, g4, g6, g7, gch, grd, hsh, hc3, lA1, kA1, gA1, hcall, gre4, gco4, hone, hgr.same gch]
      generalize hS5 : St.wrote S4 _ _ _ = S5
      generalize hR5 : wr (wr _ 74 _) 75 _ = R5
      have keep5 : ∀ b o, b ≠ S.top + 3 → S4.at b = some o → S5.at b = some o := fun b o hb h => by rw [← hS5, m_wrote_ne (by omega)]; exact h
      have hst5 : SeeSt S (.slice (some ⟨bw, off, none⟩) ws.length 0) P N O mn cp k (wd ws A != 0) R5 S5 vs vh (.slice none 0 0) :=
        ⟨by simp [← hR5, g0], by simp [← hR5, g1], by simp [← hR5, g3], by simp [← hR5, g4], by simp [← hR5, g6], by simp [← hR5, g7], by rw [← hS5]; exact gk4.wrote _ _ (by omega), by rw [← hS5, top_wrote]; exact gt4,
          keep5 _ _ (by omega) (hgr.same gch), keep5 _ _ (by omega) gre4, keep5 _ _ (by omega) (hgr.same grd), by rw [← hS5, m_wrote (by rw [gco4]; rfl)]⟩
      obtain ⟨o, R6, S6, he6, hr6⟩ := slabsLoop hm (n := n) hrow hw hn ovs hone hst5 (by simp [← hR5, g0]) (by simp [← hR5, g0])
      rw [he6]
      rcases hr6 with ⟨rfl, ys, vt, hys, hsb, ⟨q0, q1, q3, q4, q6, q7, qk, qt, qch, qre, qrd, qco⟩, qout, qkeep⟩ | ⟨rfl, hno, hR6, hk6, r64, r65, hat⟩
      · have ovt : one vt = true := qout.1
        have kp : ∀ b o, S.top + 4 ≤ b → S3.at b = some o → S6.at b = some o := fun b o hb h => qkeep b o hb (keep5 b o (by omega) (hgr.same h))
        have i1 : SlotsOut S6 (S.top + 4) vs xs := gout.move kp
        have i2 : Ints S6 (S.top + 4) vh sh := (Ints.grown (S' := S4) (lo := S3.top) ⟨hone, hout⟩ fun b o hb h => qkeep b o (by omega) (keep5 b o (by omega) h)).low (by omega)
        have i3 : SlabsOut S6 (S.top + 4) vt ys := qout.low (by rw [← hS5, top_wrote]; omega)
        simp (maxDischargeDepth := 30) [q0, q1, q3, q4, q6, q7, qco, qre, ovs, hone, ovt]
        have hF := qk.wrote (b := S.top + 1) (.cells 66 [vs, vh, .bool (wd ws A != 0), vt]) (.agg ⟨[vs, vh, .bool (wd ws A != 0), vt]⟩) (by omega)
        generalize hFe : St.wrote S6 _ _ _ = F at hF ⊢
        have kF : ∀ b o, S.top + 4 ≤ b → S6.at b = some o → F.at b = some o := fun b o hb h => by rw [← hFe, m_wrote_ne (by omega)]; exact h
        obtain ⟨S7, hle, hg7, hcase⟩ := leave_any hF (.tuple #[.agg #[vs, vh, .bool (wd ws A != 0), vt], .int .i64 0])
        refine ⟨some ⟨xs, sh, wd ws A != 0, ys⟩, .inl ⟨_, rfl, hxs, hsl, by rw [← hA1]; exact hch, by rw [hA], hys, hsb⟩, [vs, vh, .bool (wd ws A != 0), vt], S7, hle, hg7, vs, vh, vt, rfl, ?_⟩
        rcases hcase with ⟨hr, rfl⟩ | ⟨_, rfl⟩
        · exfalso
          simp at hr
          obtain ⟨_, css, _, hrow2⟩ := gout
          rcases hrow2 with ⟨h1, _, _⟩ | ⟨_, _, b, h3, h4, _⟩
          · omega
          · rw [h3] at hr; simp at hr; omega
        · have k7 : ∀ b o, S.top + 4 ≤ b → S6.at b = some o → (S.left F).at b = some o := fun b o hb h => by rw [at_left]; exact kF b o hb h
          exact ⟨(i1.move k7).low (by omega), (i2.grown k7).low (by omega), (i3.move k7).low (by omega)⟩
      · refine ⟨none, .inr ⟨rfl, .inr (.inr hno)⟩, [.slice none 0 0, .slice none 0 0, .bool false, .slice none 0 0], S, ?_, Grown.refl S, rfl⟩
        simp (maxDischargeDepth := 30) [hR6, r64, r65, hat]
        exact leave_quiet hk6.wr rfl
  · refine ⟨none, .inr ⟨rfl, .inl hno⟩, [.slice none 0 0, .slice none 0 0, .bool false, .slice none 0 0], S, ?_, Grown.refl S, rfl⟩
    simp (maxDischargeDepth := 30) [hR3, r34, r35, hat]
    exact leave_quiet hk3.wr rfl
end

end Go.Proofs.Ytepddcemoofmlaa.Fast

/- What words say is one thing, and hangs on the words that are named alone. -/
namespace Go.Proofs.Ytepddcemoofmlaa.Fast
open Go Go.Proofs.Ytepddcemoofmlaa.AE
set_option linter.unusedSimpArgs false

theorem LWalk.unique {ws : List Int} {P N O t : Nat} {k obj : Int} {r r' : Option (List Int)} (h : LWalk ws P N O k t obj r) (h' : LWalk ws P N O k t obj r') : r = r' := by
  unfold LWalk at h h'
  split at h
  · rw [if_pos (by assumption)] at h'; exact h.unique h'
  · rw [if_neg (by assumption)] at h'; rw [h, h']

theorem CWalk.unique {g : Int → Option Int} {ws : List Int} {P N : Nat} {seen : List Int} {w : Int} {r r' : Option (List Int)} (h : CWalk g ws P N seen w r) (h' : CWalk g ws P N seen w r') : r = r' := by
  unfold CWalk at h h'
  cases e : startP g N w with
  | none => rw [e] at h h'; rw [h, h']
  | some s => rw [e] at h h'; exact h.unique h'

theorem SlotR.unique {ws : List Int} {P N O cpu : Nat} {k : Int} {r r' : Option SlotP} (h : SlotR ws P N O k cpu r) (h' : SlotR ws P N O k cpu r') : r = r' := by
  unfold SlotR at h h'
  cases e : headOfP (wd ws (4 * cpu)) with
  | none => rw [e] at h h'; rw [h, h']
  | some so =>
    obtain ⟨s, obj⟩ := so
    rw [e] at h h'
    simp only at h h'
    by_cases e0 : s < N
    · rw [if_pos e0] at h h'
      obtain ⟨rl, h1, h2⟩ := h
      obtain ⟨rl', h1', h2'⟩ := h'
      have el : rl = rl' := by
        by_cases e1 : s = -1
        · rw [if_pos e1] at h1 h1'; rw [h1, h1']
        · rw [if_neg e1] at h1 h1'; exact h1.unique h1'
      subst el
      cases rl with
      | none => simp only at h2 h2'; rw [h2, h2']
      | some l =>
        obtain ⟨rp, h3, h4⟩ := h2
        obtain ⟨rp', h3', h4'⟩ := h2'
        obtain rfl := h3.unique h3'
        cases rp with
        | none => simp only at h4 h4'; rw [h4, h4']
        | some ps => simp only at h4 h4'; rw [h4, h4']
    · rw [if_neg e0] at h h'; rw [h, h']

theorem SlabR.unique {ws : List Int} {P N O t : Nat} {k : Int} {r r' : Option SlabP} (h : SlabR ws P N O k t r) (h' : SlabR ws P N O k t r') : r = r' := by
  unfold SlabR at h h'
  cases e : countsP (wd ws (4 * P + 4 + 4 * t + 1)) with
  | none => rw [e] at h h'; rw [h, h']
  | some c =>
    rw [e] at h h'
    simp only at h h'
    by_cases e0 : wd ws (4 * P + 4 + 4 * t) ≤ O
    · rw [if_pos e0] at h h'
      obtain ⟨rl, h1, h2⟩ := h
      obtain ⟨rl', h1', h2'⟩ := h'
      obtain rfl := h1.unique h1'
      rw [h2, h2']
    · rw [if_neg e0] at h h'; rw [h, h']

theorem SeeR.unique {ws : List Int} {P N O : Nat} {k : Int} {r r' : Option CoreP} (h : SeeR ws P N O k r) (h' : SeeR ws P N O k r') : r = r' := by
  have bad : ∀ {x : CoreP}, x.slots.length = P → (∀ i, i < P → SlotR ws P N O k i x.slots[i]?) → CWalk ofShelf ws P N [] (wd ws (4 * P + 1)) (some x.shelf) → x.slabs.length = N → (∀ t, t < N → SlabR ws P N O k t x.slabs[t]?) →
      ((∃ i, i < P ∧ SlotR ws P N O k i none) ∨ CWalk ofShelf ws P N [] (wd ws (4 * P + 1)) none ∨ ∃ t, t < N ∧ SlabR ws P N O k t none) → False := by
    intro x h1 h2 h3 h4 h5 h6
    rcases h6 with ⟨i, hi, h⟩ | h | ⟨t, ht, h⟩
    · have := (h2 i hi).unique h
      rw [List.getElem?_eq_getElem (by omega)] at this; cases this
    · have := h3.unique h; cases this
    · have := (h5 t ht).unique h
      rw [List.getElem?_eq_getElem (by omega)] at this; cases this
  rcases h with ⟨x, rfl, a1, a2, a3, a4, a5, a6⟩ | ⟨rfl, hb⟩ <;> rcases h' with ⟨y, rfl, b1, b2, b3, b4, b5, b6⟩ | ⟨rfl, hb'⟩
  · have e1 : x.slots = y.slots := by
      refine List.ext_getElem? fun i => ?_
      by_cases hi : i < P
      · exact (a2 i hi).unique (b2 i hi)
      · rw [List.getElem?_eq_none (by omega), List.getElem?_eq_none (by omega)]
    have e2 : x.slabs = y.slabs := by
      refine List.ext_getElem? fun i => ?_
      by_cases hi : i < N
      · exact (a6 i hi).unique (b6 i hi)
      · rw [List.getElem?_eq_none (by omega), List.getElem?_eq_none (by omega)]
    have e3 := Option.some.inj (a3.unique b3)
    cases x; cases y
    simp_all
  · exact (bad a1 a2 a3 a5 a6 hb').elim
  · exact (bad b1 b2 b3 b5 b6 hb).elim
  · rfl


/-! ### Named words -/
/-- Is a place named? -/
def Named (P N O i : Nat) : Prop := i < 4 * P + 3 ∨ (∃ t, t < N ∧ (i = 4 * P + 4 + 4 * t ∨ i = 4 * P + 4 + 4 * t + 1 ∨ i = 4 * P + 4 + 4 * t + 2)) ∨ (4 * P + 4 + 4 * N ≤ i ∧ i < 4 * P + 4 + 4 * N + N * O)

theorem Walks.congr {nx nx' : Int → Option Int} {N : Nat} (he : ∀ s, s < (N : Int) → nx s = nx' s) (ho : ∀ s y, nx s = some y → y < N) {seen : List Int} {x : Int} {r : Option (List Int)} (h : Walks nx seen x r) : x < N → Walks nx' seen x r := by
  induction h with
  | stop seen => exact fun _ => .stop seen
  | again h1 h2 => exact fun _ => .again h1 h2
  | lost h1 h2 h3 => exact fun hx => .lost h1 h2 (by rw [← he _ hx]; exact h3)
  | on h1 h2 h3 _ ih => exact fun hx => .on h1 h2 (by rw [← he _ hx]; exact h3) (ih (ho _ _ h3))

theorem startP_lt {N : Nat} {g : Int → Option Int} {w y : Int} (h : startP g N w = some y) : y < N := by
  unfold startP at h
  split at h
  · split at h
    · simp only [Option.some.injEq] at h; omega
    · cases h
  · cases h

section
variable {ws ws' : List Int} {P N O : Nat} {k : Int} (hN : 0 < N) (hag : ∀ i, Named P N O i → ws[i]? = ws'[i]?)
include hag

theorem wd_same {i : Nat} (h : Named P N O i) : wd ws i = wd ws' i := by unfold wd; rw [hag i h]

theorem linkWords_same {t : Nat} (ht : t < N) : linkWords ws P N O t = linkWords ws' P N O t := by
  unfold linkWords
  refine List.ext_getElem? fun j => ?_
  by_cases hj : j < O
  · rw [List.getElem?_take_of_lt hj, List.getElem?_take_of_lt hj, List.getElem?_drop, List.getElem?_drop]
    refine hag _ (.inr (.inr ?_))
    have : t * O + O ≤ N * O := by rw [← Nat.succ_mul]; exact Nat.mul_le_mul_right O ht
    omega
  · rw [List.getElem?_eq_none (by rw [List.length_take]; omega), List.getElem?_eq_none (by rw [List.length_take]; omega)]

theorem LWalk.same {t : Nat} (ht : t < N) {obj : Int} {r : Option (List Int)} (h : LWalk ws P N O k t obj r) : LWalk ws' P N O k t obj r := by
  unfold LWalk at h ⊢
  rwa [← linkWords_same hag ht]

include hN in
theorem CWalk.same {g : Int → Option Int} {seen : List Int} {w : Int} {r : Option (List Int)} (h : CWalk g ws P N seen w r) : CWalk g ws' P N seen w r := by
  unfold CWalk at h ⊢
  cases e : startP g N w with
  | none => rw [e] at h; exact h
  | some s =>
    rw [e] at h
    refine Walks.congr (N := N) (fun x hx => ?_) (fun x y hy => ?_) h (startP_lt e)
    · unfold nextC
      rw [hag (nextAt P x.toNat) (.inr (.inl ⟨x.toNat, by omega, .inr (.inr rfl)⟩))]
    · unfold nextC at hy
      split at hy
      · exact startP_lt hy
      · cases hy

include hN in
theorem SlotR.same {cpu : Nat} (hc : cpu < P) {r : Option SlotP} (h : SlotR ws P N O k cpu r) : SlotR ws' P N O k cpu r := by
  unfold SlotR at h ⊢
  rw [← wd_same hag (i := 4 * cpu) (.inl (by omega)), ← wd_same hag (i := 4 * cpu + 1) (.inl (by omega)), ← wd_same hag (i := 4 * cpu + 2) (.inl (by omega))]
  cases e : headOfP (wd ws (4 * cpu)) with
  | none => rw [e] at h; exact h
  | some so =>
    obtain ⟨s, obj⟩ := so
    rw [e] at h
    simp only at h ⊢
    by_cases e0 : s < N
    · rw [if_pos e0] at h ⊢
      obtain ⟨rl, h1, h2⟩ := h
      refine ⟨rl, ?_, ?_⟩
      · by_cases e1 : s = -1
        · rw [if_pos e1] at h1 ⊢; exact h1
        · rw [if_neg e1] at h1 ⊢; exact h1.same hag (by omega)
      · cases rl with
        | none => exact h2
        | some l =>
          obtain ⟨rp, h3, h4⟩ := h2
          exact ⟨rp, h3.same hN hag, h4⟩
    · rw [if_neg e0] at h ⊢; exact h

theorem SlabR.same {t : Nat} (ht : t < N) {r : Option SlabP} (h : SlabR ws P N O k t r) : SlabR ws' P N O k t r := by
  unfold SlabR at h ⊢
  rw [← wd_same hag (i := 4 * P + 4 + 4 * t + 1) (.inr (.inl ⟨t, ht, .inr (.inl rfl)⟩)), ← wd_same hag (i := 4 * P + 4 + 4 * t) (.inr (.inl ⟨t, ht, .inl rfl⟩))]
  cases e : countsP (wd ws (4 * P + 4 + 4 * t + 1)) with
  | none => rw [e] at h; exact h
  | some c =>
    rw [e] at h
    simp only at h ⊢
    by_cases e0 : wd ws (4 * P + 4 + 4 * t) ≤ O
    · rw [if_pos e0] at h ⊢
      obtain ⟨rl, h1, h2⟩ := h
      exact ⟨rl, h1.same hag ht, h2⟩
    · rw [if_neg e0] at h ⊢; exact h

include hN in
/-- What is seen hangs on named words alone. -/
theorem SeeR.same {r : Option CoreP} (h : SeeR ws P N O k r) : SeeR ws' P N O k r := by
  unfold SeeR at h ⊢
  rw [← wd_same hag (i := 4 * P) (.inl (by omega)), ← wd_same hag (i := 4 * P + 1) (.inl (by omega))]
  rcases h with ⟨x, h1, h2, h3, h4, h5, h6, h7⟩ | ⟨h1, h2⟩
  · exact .inl ⟨x, h1, h2, fun i hi => (h3 i hi).same hN hag hi, h4.same hN hag, h5, h6, fun t ht => (h7 t ht).same hag ht⟩
  · refine .inr ⟨h1, ?_⟩
    rcases h2 with ⟨i, hi, h⟩ | h | ⟨t, ht, h⟩
    · exact .inl ⟨i, hi, h.same hN hag hi⟩
    · exact .inr (.inl (h.same hN hag))
    · exact .inr (.inr ⟨t, ht, h.same hag ht⟩)
end

end Go.Proofs.Ytepddcemoofmlaa.Fast

/- Two cores in the heap that are one: Same says so. -/
namespace Go.Proofs.Ytepddcemoofmlaa.Fast
open Go Go.Proofs.Ytepddcemoofmlaa.AE
set_option maxRecDepth 10000
set_option linter.unusedSimpArgs false

theorem Walks.len {nx : Int → Option Int} {N : Nat} (ho : ∀ s y, nx s = some y → -1 ≤ y ∧ y < N) {seen : List Int} {x : Int} {r : Option (List Int)} (h : Walks nx seen x r) : -1 ≤ x ∧ x < N → ∀ l, r = some l → l.length ≤ seen.length + unmet N seen := by
  induction h with
  | stop seen => intro _ l e; obtain rfl := Option.some.inj e; omega
  | again _ _ => intro _ l e; cases e
  | lost _ _ _ => intro _ l e; cases e
  | on h1 h2 h3 _ ih =>
    intro hx l e
    have := ih (ho _ _ h3) l e
    have h4 := unmet_lt (N := N) (by omega) hx.2 h2
    rw [List.length_append] at this
    simp at this
    omega

theorem Ints.isInts {S : St} {lo : Nat} {v : Value} {l : List Int} (h : Ints S lo v l) : IsInts S.at .i64 v l := by
  rcases h.2 with ⟨h1, _, rfl⟩ | ⟨_, _, b, rfl, _, h5⟩
  · obtain rfl := List.length_eq_zero_iff.1 h1
    exact ⟨none, 0, rfl, fun i x hx => by simp at hx⟩
  · exact isInts_map (by rw [h5]; rfl) rfl

theorem flat_get {α : Type} {sz : Nat} : ∀ {css : List (List α)} {i : Nat} {c : List α}, (∀ c ∈ css, c.length = sz) → css[i]? = some c → (css.flatten.drop (i * sz)).take sz = c
  | [], i, c, _, h => by simp at h
  | d :: l, 0, c, hl, h => by
    simp only [List.getElem?_cons_zero, Option.some.injEq] at h
    subst h
    have := hl d (List.mem_cons_self ..)
    simp [← this]
  | d :: l, i + 1, c, hl, h => by
    have h1 := hl d (List.mem_cons_self ..)
    have h2 := flat_get (sz := sz) (fun c hc => hl c (List.mem_cons_of_mem _ hc)) (by simpa using h : l[i]? = some c)
    rw [List.flatten_cons, Nat.succ_mul, Nat.add_comm, ← List.drop_drop, ← h1, List.drop_left, h1]
    exact h2

theorem AllIs.get {α : Type} {p : List Value → α → Prop} : ∀ {l : List (List Value)} {m : List α} {i : Nat} {x : α}, AllIs p l m → m[i]? = some x → ∃ c, l[i]? = some c ∧ p c x
  | [], [], i, x, _, h => by simp at h
  | c :: l, y :: m, 0, x, h, k => by
    simp only [List.getElem?_cons_zero, Option.some.injEq] at k
    subst k
    exact ⟨c, rfl, h.1⟩
  | c :: l, y :: m, i + 1, x, h, k => by
    obtain ⟨d, h1, h2⟩ := AllIs.get h.2 (by simpa using k : m[i]? = some x)
    exact ⟨d, by simpa using h1, h2⟩
  | [], _ :: _, _, _, h, _ => h.elim
  | _ :: _, [], _, _, h, _ => h.elim
theorem AllIs.mem {α : Type} {p : List Value → α → Prop} {q : List Value → Prop} (k : ∀ c x, p c x → q c) : ∀ {l : List (List Value)} {m : List α}, AllIs p l m → ∀ c ∈ l, q c
  | [], [], _, c, h => by simp at h
  | d :: l, y :: m, h, c, hc => by
    rcases List.mem_cons.1 hc with rfl | hc
    · exact k _ _ h.1
    · exact AllIs.mem k h.2 c hc
  | [], _ :: _, h, _, _ => h.elim
  | _ :: _, [], h, _, _ => h.elim

/-- A slot, as it is read out of its row. -/
theorem SlotsOut.get {S : St} {lo : Nat} {v : Value} {xs : List SlotP} (h : SlotsOut S lo v xs) {i : Nat} {x : SlotP} (hi : xs[i]? = some x) :
    ∃ b c vl vp, v = .slice (some ⟨b, 0, none⟩) xs.length 0 ∧ S.at b = some (.cells 71 c) ∧ (c.drop (i * 4)).take 4 = [.int .i64 x.slab, vl, .int .u64 x.turn, vp] ∧ Ints S lo vl x.list ∧ Ints S lo vp x.parts := by
  obtain ⟨_, css, h2, h3⟩ := h
  have hlt : i < xs.length := (List.getElem?_eq_some_iff.1 hi).1
  obtain ⟨cs, g1, vl, vp, g2, g3, g4⟩ := h2.get hi
  have h4 : ∀ c ∈ css, c.length = 4 := h2.mem fun c x ⟨vl, vp, e, _, _⟩ => by rw [e]; rfl
  rcases h3 with ⟨k1, _, _⟩ | ⟨_, _, b, k3, _, k5⟩
  · omega
  · exact ⟨b, _, vl, vp, k3, k5, by rw [flat_get h4 g1, g2], g3.1, g4.1⟩

theorem SlabsOut.get {S : St} {lo : Nat} {v : Value} {xs : List SlabP} (h : SlabsOut S lo v xs) {i : Nat} {x : SlabP} (hi : xs[i]? = some x) :
    ∃ b c vl, v = .slice (some ⟨b, 0, none⟩) xs.length 0 ∧ S.at b = some (.cells 98 c) ∧ (c.drop (i * 5)).take 5 = [.int .i64 x.counts.inuse, .int .i64 x.counts.objects, .bool x.counts.frozen, .bool x.counts.live, vl] ∧ Ints S lo vl x.first := by
  obtain ⟨_, css, h2, h3⟩ := h
  have hlt : i < xs.length := (List.getElem?_eq_some_iff.1 hi).1
  obtain ⟨cs, g1, vl, g2, g3⟩ := h2.get hi
  have h4 : ∀ c ∈ css, c.length = 5 := h2.mem fun c x ⟨vl, e, _⟩ => by rw [e]; rfl
  rcases h3 with ⟨k1, _, _⟩ | ⟨_, _, b, k3, _, k5⟩
  · omega
  · exact ⟨b, _, vl, k3, k5, by rw [flat_get h4 g1, g2], g3.1⟩

end Go.Proofs.Ytepddcemoofmlaa.Fast
