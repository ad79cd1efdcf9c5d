/- All places that a chart names, as the law lists them. -/
import Derived.Test.YtpecefjgadecfaaChartValid
import Derived.Test.YtpecefjgadecfaaAe35
namespace Go.Proofs.Ytpecefjgadecfaa.Chart
open Go Go.Proofs.Ytpecefjgadecfaa.AE
set_option maxRecDepth 10000
set_option linter.unusedSimpArgs false

theorem tmod_fix {i m : Int} (hm : 0 < m) : (if i.tmod m < 0 then i.tmod m + m else i.tmod m) = i % m := by
  rw [Int.tmod_eq_emod]
  have h1 := Int.emod_nonneg i (by omega : m ≠ 0)
  have h2 := Int.emod_lt_of_pos i hm
  have h3 : ((m.natAbs : Nat) : Int) = m := by omega
  split <;> split <;> omega

theorem tmod_range {i m : Int} (hm : 0 < m) : -m < i.tmod m ∧ i.tmod m < m := by
  rw [Int.tmod_eq_emod]
  have h1 := Int.emod_nonneg i (by omega : m ≠ 0)
  have h2 := Int.emod_lt_of_pos i hm
  have h3 : ((m.natAbs : Nat) : Int) = m := by omega
  by_cases h : i % m = 0
  · have : m ∣ i := Int.dvd_of_emod_eq_zero h
    simp (maxDischargeDepth := 30) [this]; omega
  · split <;> omega

set_option maxHeartbeats 1000000 in
theorem sBring {n : Nat} {S : St} {i m : Int} (hm : 0 < m) (hm' : m < 1000000000) : calls table.find (n + 1) 61 [.int .i64 i, .int .i64 m] S = some (.int .i64 (i % m), S, true) := by
  have h0 : ¬ m = 0 := by omega
  have h1 := tmod_range (i := i) hm
  rw [← tmod_fix hm]
  by_cases h : i.tmod m < 0
  · have e : W .i64 (i.tmod m + m) = i.tmod m + m := W_i64 (by omega)
    simp (maxDischargeDepth := 30) [q61, h0, h, e]
  · simp (maxDischargeDepth := 30) [q61, h0, h]

set_option maxHeartbeats 2000000 in
theorem sMade {n : Nat} {S : St} {p s o mn cp k : Int} : calls table.find (n + 2) 37 [chart p s o mn cp k] S = some (chart (1 + p % 8) (1 + s % 32) (1 + o % 16) (mn % 33) (cp % 33) k, S, true) := by
  have hb := fun (S : St) (i m : Int) => @sBring n S i m
  have e1 : W .i64 (1 + p % 8) = 1 + p % 8 := W_i64 (by omega)
  have e2 : W .i64 (1 + s % 32) = 1 + s % 32 := W_i64 (by omega)
  have e3 : W .i64 (1 + o % 16) = 1 + o % 16 := W_i64 (by omega)
  unfold chart
  simp (maxDischargeDepth := 30) [q37, hb, e1, e2, e3]

/-! ### places -/
def headsL (n : Nat) : List Int := (List.range n).flatMap fun (i : Nat) => [4 * (i : Int), 4 * (i : Int) + 1, 4 * (i : Int) + 2, 4 * (i : Int) + 2 + 1]
def linksL (M : Int) (O t n : Nat) : List Int := (List.range n).map fun (i : Nat) => M + (t : Int) * O + (i : Int)
def slabL (P t : Nat) : List Int := [4 * (P : Int) + 4 + 4 * t, 4 * (P : Int) + 4 + 4 * t + 1, 4 * (P : Int) + 4 + 4 * t + 2]
def slabsL (P N O n : Nat) : List Int := (List.range n).flatMap fun (t : Nat) => slabL P t ++ linksL (4 * (P : Int) + 4 + 4 * N) O t O
def frontL (P : Nat) : List Int := [4 * (P : Int), 4 * (P : Int) + 1, 4 * (P : Int) + 2]
def placesL (P N O : Nat) : List Int := frontL P ++ headsL P ++ slabsL P N O N

theorem headsL_succ (n : Nat) : headsL (n + 1) = headsL n ++ [4 * (n : Int), 4 * (n : Int) + 1, 4 * (n : Int) + 2, 4 * (n : Int) + 2 + 1] := by
  simp (maxDischargeDepth := 30) [headsL, List.range_succ]
theorem linksL_succ (M : Int) (O t n : Nat) : linksL M O t (n + 1) = linksL M O t n ++ [M + (t : Int) * O + (n : Int)] := by
  simp (maxDischargeDepth := 30) [linksL, List.range_succ]
theorem slabsL_succ (P N O n : Nat) : slabsL P N O (n + 1) = slabsL P N O n ++ (slabL P n ++ linksL (4 * (P : Int) + 4 + 4 * N) O n O) := by
  simp (maxDischargeDepth := 30) [slabsL, List.range_succ]
theorem headsL_len (n : Nat) : (headsL n).length = 4 * n := by
  induction n with
  | zero => rfl
  | succ n ih => rw [headsL_succ, List.length_append, ih]; simp; omega
theorem linksL_len (M : Int) (O t n : Nat) : (linksL M O t n).length = n := by simp (maxDischargeDepth := 30) [linksL]
theorem slabsL_len (P N O n : Nat) : (slabsL P N O n).length = n * (3 + O) := by
  induction n with
  | zero => simp (maxDischargeDepth := 30) [slabsL]
  | succ n ih => rw [slabsL_succ, List.length_append, List.length_append, ih, linksL_len]; simp (maxDischargeDepth := 30) [slabL, Nat.succ_mul]

def ccells (P N O : Nat) (mn cp k : Int) : List Value := [.int .i64 P, .int .i64 N, .int .i64 O, .int .i64 mn, .int .i64 cp, .int .u64 k]

/-- The list that is built, and the chart's block. -/
structure Built (S : St) (cc : List Value) (R : List Value) (S' : St) (L : List Int) : Prop where
  len : R.length = 70
  r1 : rd R 1 = .pointer (some ⟨S.top, 0, none⟩)
  kept : Kept S S'
  chart : S'.at S.top = some (.cells 24 cc)
  row : ∃ b, rd R 3 = .slice (some ⟨b, 0, none⟩) L.length 0 ∧ S'.at b = some (.cells 3 (L.map (Value.int .i64))) ∧ S.top < b

section
variable {n : Nat} {P N O : Nat} {mn cp k : Int} {S : St} (hm : may P N O mn cp = true)
include hm

set_option maxHeartbeats 2000000 in
theorem plHeads {R : List Value} {S' : St} (hI : Built S (ccells P N O mn cp k) R S' (frontL P)) (h4 : rd R 4 = .int .i64 0) :
    Leads (evCode (calls table.find (n + 6)) loop38_0 R S') fun o R' S' => o = .exit 0 ∧ Built S (ccells P N O mn cp k) R' S' (frontL P ++ headsL P) := by
  obtain ⟨m1, m2, m3, _⟩ := may_iff.1 hm
  rw [eloop38_0]
  refine loop_goes (fun q R S' => ∃ i : Nat, i + q = P ∧ rd R 4 = .int .i64 i ∧ Built S (ccells P N O mn cp k) R S' (frontL P ++ headsL i)) _ P (by omega) ⟨0, by omega, h4, by simpa [headsL] using hI⟩ ?_
  rintro q R S' ⟨i, hk, h4, hR, h1, hkept, hch, b, h3, hrow, hb⟩
  have hlen : (frontL P ++ headsL i).length ≤ 100 := by rw [List.length_append, headsL_len]; simp (maxDischargeDepth := 30) [frontL]; omega
  cases q with
  | zero =>
    have e1 : ¬ i < P := by omega
    obtain rfl : i = P := by omega
    simp (maxDischargeDepth := 30) [hR, h1, h4, hch, e1, ccells]
    exact ⟨by simp (maxDischargeDepth := 30) [hR], by simp (maxDischargeDepth := 30) [h1], hkept, hch, b, by simp (maxDischargeDepth := 30) [h3], hrow, hb⟩
  | succ q =>
    have e1 : i < P := by omega
    have hh := fun (m : Nat) (S : St) => @vHead m P N O mn cp k i S hm (by omega) (by omega)
    have hp := fun (m : Nat) (S : St) => @vPart m P N O mn cp k i S hm (by omega) (by omega)
    unfold chart at hh hp
    have w1 : W .i64 (4 * (i : Int) + 1) = 4 * (i : Int) + 1 := W_i64 (by omega)
    have w2 : W .i64 (4 * (i : Int) + 2 + 1) = 4 * (i : Int) + 2 + 1 := W_i64 (by omega)
    have w3 : W .i64 ((i : Int) + 1) = ((i + 1 : Nat) : Int) := by rw [W_i64 (by omega)]; rfl
    have hbS : b < S'.top := lt_top hrow
    generalize hL : frontL P ++ headsL i = L at *
    simp (maxDischargeDepth := 30) [hR, h1, h3, h4, hch, e1, hh, hp, ccells]
    rw [w1, w2, app_row (sz := 1) (bytes := 8) hrow (by simp) rfl (by omega) (by omega) (by simp) (by omega) (by omega)]
    simp (maxDischargeDepth := 30) [hR, h1, h3, h4, hch, w3]
    refine ⟨q, by omega, i + 1, by omega, by simp, ?_⟩
    have e2 : frontL P ++ headsL (i + 1) = L ++ [4 * (i : Int), 4 * (i : Int) + 1, 4 * (i : Int) + 2, 4 * (i : Int) + 2 + 1] := by rw [headsL_succ, ← List.append_assoc, hL]
    rw [e2]
    have hbS : b < S'.top := lt_top hrow
    refine ⟨by simp [hR], by simp [hR, h1], (hkept.push _).app _ (by omega), ?_,
      (S'.push (.cells 3 [.int .i64 (4 * (i : Int)), .int .i64 (4 * (i : Int) + 1), .int .i64 (4 * (i : Int) + 2), .int .i64 (4 * (i : Int) + 2 + 1)])).top, by simp [hR], by simp, by rw [top_push]; have := hkept.top; omega⟩
    have hne : b ≠ S.top := by omega
    simp (maxDischargeDepth := 30) [hch, hne, ccells]

/-- The links of one slab. -/
theorem plLinks {R : List Value} {S' : St} {L : List Int} {t : Nat} (ht : t < N) (hI : Built S (ccells P N O mn cp k) R S' L) (hL : L.length ≤ 1000) (h5 : rd R 5 = .int .i64 t) (h6 : rd R 6 = .int .i64 0) :
    Leads (evCode (calls table.find (n + 6)) loop38_2 R S') fun o R' S' => o = .exit 4 ∧ rd R' 5 = .int .i64 t ∧ Built S (ccells P N O mn cp k) R' S' (L ++ linksL (4 * (P : Int) + 4 + 4 * N) O t O) := by
  obtain ⟨m1, m2, m3, _⟩ := may_iff.1 hm
  rw [eloop38_2]
  refine loop_goes (fun q R S' => ∃ i : Nat, i + q = O ∧ rd R 6 = .int .i64 i ∧ rd R 5 = .int .i64 t ∧ Built S (ccells P N O mn cp k) R S' (L ++ linksL (4 * (P : Int) + 4 + 4 * N) O t i)) _ O (by omega) ⟨0, by omega, h6, h5, by simpa [linksL] using hI⟩ ?_
  clear h5 h6 hI
  rintro q R S' ⟨i, hk, h6, h5, hR, h1, hkept, hch, b, h3, hrow, hb⟩
  have hlen : (L ++ linksL (4 * (P : Int) + 4 + 4 * N) O t i).length ≤ 1020 := by rw [List.length_append, linksL_len]; omega
  cases q with
  | zero =>
    have e1 : ¬ i < O := by omega
    obtain rfl : i = O := by omega
    simp (maxDischargeDepth := 30) [hR, h1, h6, hch, e1, ccells]
    exact ⟨by simp [h5], by simp [hR], by simp [h1], hkept, hch, b, by simp [h3], hrow, hb⟩
  | succ q =>
    have e1 : i < O := by omega
    have hh := fun (m : Nat) (S : St) => @vLink m P N O mn cp k t i S hm (by omega) (by omega) (by omega) (by omega)
    unfold chart at hh
    have w3 : W .i64 ((i : Int) + 1) = ((i + 1 : Nat) : Int) := by rw [W_i64 (by omega)]; rfl
    generalize hL : L ++ linksL (4 * (P : Int) + 4 + 4 * N) O t i = L2 at *
    simp (maxDischargeDepth := 30) [hR, h1, h3, h5, h6, hch, e1, hh, ccells]
    rw [app_row (sz := 1) (bytes := 8) hrow (by simp) rfl (by omega) (by omega) (by simp) (by omega) (by omega)]
    simp (maxDischargeDepth := 30) [hR, h1, h3, h5, h6, hch, w3]
    refine ⟨q, by omega, i + 1, by omega, by simp, ?_⟩
    have e2 : L ++ linksL (4 * (P : Int) + 4 + 4 * N) O t (i + 1) = L2 ++ [4 * (P : Int) + 4 + 4 * N + (t : Int) * O + (i : Int)] := by rw [linksL_succ, ← List.append_assoc, hL]
    rw [e2]
    have hbS : b < S'.top := lt_top hrow
    refine ⟨by simp [hR], by simp [hR, h1], (hkept.push _).app _ (by omega), ?_,
      (S'.push (.cells 3 [.int .i64 (4 * (P : Int) + 4 + 4 * N + (t : Int) * O + (i : Int))])).top, by simp [hR], by simp, by rw [top_push]; have := hkept.top; omega⟩
    have hne : b ≠ S.top := by omega
    simp (maxDischargeDepth := 30) [hch, hne, ccells]

set_option maxHeartbeats 2000000 in
theorem plSlabs {R : List Value} {S' : St} {L : List Int} (hI : Built S (ccells P N O mn cp k) R S' L) (hL : L.length ≤ 100) (h5 : rd R 5 = .int .i64 0) :
    Leads (evCode (calls table.find (n + 6)) loop38_1 R S') fun o R' S' => o = .exit 2 ∧ Built S (ccells P N O mn cp k) R' S' (L ++ slabsL P N O N) := by
  obtain ⟨m1, m2, m3, _⟩ := may_iff.1 hm
  rw [eloop38_1]
  refine loop_goes (fun q R S' => ∃ i : Nat, i + q = N ∧ rd R 5 = .int .i64 i ∧ Built S (ccells P N O mn cp k) R S' (L ++ slabsL P N O i)) _ N (by omega) ⟨0, by omega, h5, by simpa [slabsL] using hI⟩ ?_
  clear h5 hI
  rintro q R S' ⟨i, hk, h5, hR, h1, hkept, hch, b, h3, hrow, hb⟩
  have hlen : (L ++ slabsL P N O i).length ≤ 900 := by
    rw [List.length_append, slabsL_len]
    have : i * (3 + O) ≤ 32 * 19 := Nat.mul_le_mul (by omega) (by omega)
    omega
  cases q with
  | zero =>
    have e1 : ¬ i < N := by omega
    obtain rfl : i = N := by omega
    simp (maxDischargeDepth := 30) [hR, h1, h5, hch, e1, ccells]
    exact ⟨by simp [hR], by simp [h1], hkept, hch, b, by simp [h3], hrow, hb⟩
  | succ q =>
    have e1 : i < N := by omega
    have hf := fun (m : Nat) (S : St) => @vFirst m P N O mn cp k i S hm (by omega) (by omega)
    have hn := fun (m : Nat) (S : St) => @vNext m P N O mn cp k i S hm (by omega) (by omega)
    unfold chart at hf hn
    have w1 : W .i64 (4 * (P : Int) + 4 + 4 * (i : Int) + 1) = 4 * (P : Int) + 4 + 4 * (i : Int) + 1 := W_i64 (by omega)
    have w3 : W .i64 ((i : Int) + 1) = ((i + 1 : Nat) : Int) := by rw [W_i64 (by omega)]; rfl
    have e3 : L ++ slabsL P N O (i + 1) = L ++ slabsL P N O i ++ slabL P i ++ linksL (4 * (P : Int) + 4 + 4 * N) O i O := by rw [slabsL_succ]; simp only [List.append_assoc]
    generalize hL2 : L ++ slabsL P N O i = L2 at *
    simp (maxDischargeDepth := 30) [hR, h1, h3, h5, hch, e1, hf, hn, ccells]
    rw [w1, app_row (sz := 1) (bytes := 8) hrow (by simp) rfl (by omega) (by omega) (by simp) (by omega) (by omega)]
    simp (maxDischargeDepth := 30) [hR, h1, h3, h5, hch]
    have hbS : b < S'.top := lt_top hrow
    have hne : b ≠ S.top := by omega
    have hI2 : ∀ R2 : List Value, R2.length = 70 → rd R2 1 = .pointer (some ⟨S.top, 0, none⟩) → rd R2 3 = .slice (some ⟨(S'.push (.cells 3 [.int .i64 (4 * (P : Int) + 4 + 4 * (i : Int)), .int .i64 (4 * (P : Int) + 4 + 4 * (i : Int) + 1), .int .i64 (4 * (P : Int) + 4 + 4 * (i : Int) + 2)])).top, 0, none⟩) (L2.length + 3) 0 →
        Built S (ccells P N O mn cp k) R2 ((S'.push (.cells 3 [.int .i64 (4 * (P : Int) + 4 + 4 * (i : Int)), .int .i64 (4 * (P : Int) + 4 + 4 * (i : Int) + 1), .int .i64 (4 * (P : Int) + 4 + 4 * (i : Int) + 2)])).app b
          (.cells 3 (L2.map (Value.int .i64) ++ [.int .i64 (4 * (P : Int) + 4 + 4 * (i : Int)), .int .i64 (4 * (P : Int) + 4 + 4 * (i : Int) + 1), .int .i64 (4 * (P : Int) + 4 + 4 * (i : Int) + 2)]))) (L2 ++ slabL P i) := by
      intro R2 g0 g1 g3
      have e4 : L2.length + 3 = (L2 ++ slabL P i).length := by simp [slabL]
      rw [e4] at g3
      refine ⟨g0, g1, (hkept.push _).app _ (by omega), ?_, _, g3, by simp [slabL], by rw [top_push]; have := hkept.top; omega⟩
      simp (maxDischargeDepth := 30) [hch, hne, ccells]
    generalize hR2 : wr (wr _ 3 _) 6 _ = R2
    obtain ⟨o, R3, S3, he, rfl, g5, hR3, g1, gk, gc, b3, g3, grow, gb⟩ := plLinks hm (n := n) e1 (hI2 R2 (by simp [← hR2, hR]) (by simp [← hR2, h1]) (by simp [← hR2, hR])) (by simp [slabL]; omega) (by simp [← hR2, h5]) (by simp [← hR2, hR])
    rw [he]
    simp (maxDischargeDepth := 30) [hR3, g1, g5, gc, w3]
    refine ⟨q, by omega, i + 1, by omega, by simp, ?_⟩
    rw [e3]
    exact ⟨by simp [hR3], by simp [g1], gk, gc, b3, by simp [g3], grow, gb⟩

set_option maxHeartbeats 2000000 in
/-- places: a new row of all of them; what was there stands. -/
theorem sPlaces : ∃ S1 b, calls table.find (n + 7) 38 [chart P N O mn cp k] S = some (.slice (some ⟨b, 0, none⟩) (placesL P N O).length 0, S.left S1, true) ∧ Kept S S1 ∧ S1.at b = some (.cells 3 ((placesL P N O).map (Value.int .i64))) ∧ S.top ≤ b := by
  obtain ⟨m1, m2, m3, _⟩ := may_iff.1 hm
  refine call_rd (x := fun y => ∃ S1 b, y = some (.slice (some ⟨b, 0, none⟩) (placesL P N O).length 0, S.left S1, true) ∧ Kept S S1 ∧ S1.at b = some (.cells 3 ((placesL P N O).map (Value.int .i64))) ∧ S.top ≤ b) b38 (by simp) fun R hR hargs => ?_
  have h0 : rd R 0 = chart P N O mn cp k := hargs 0 (by simp)
  clear hargs
  have hl := fun (m : Nat) (S : St) => @vLock m P N O mn cp k S hm
  have hs := fun (m : Nat) (S : St) => @vShelf m P N O mn cp k S hm
  have hh := fun (m : Nat) (S : St) => @vHeld m P N O mn cp k S hm
  unfold chart at hl hs hh h0
  simp (maxDischargeDepth := 30) [hR, h0, hl, hs, hh]
  generalize hR2 : wr (wr _ 3 _) 4 _ = R2
  have hB : Built S (ccells P N O mn cp k) R2 ((S.enter.push (.cells 24 (ccells P N O mn cp k))).push (.cells 3 [.int .i64 (4 * (P : Int)), .int .i64 (4 * (P : Int) + 1), .int .i64 (4 * (P : Int) + 2)])) (frontL P) := by
    refine ⟨by simp [← hR2, hR], by simp [← hR2, hR]; rfl, ((Kept.enter S).push _).push _, ?_, (S.enter.push (.cells 24 (ccells P N O mn cp k))).top, by simp [← hR2, hR, frontL, ccells], by simp [frontL], by rw [top_push, top_enter]; omega⟩
    have e : S.top = S.enter.top := rfl
    rw [e, m_push (by simp), m_push_top]
  obtain ⟨o, R3, S3, he, rfl, hB3⟩ := plHeads hm (n := n) hB (by simp [← hR2, hR])
  unfold ccells at he
  rw [he]
  have hr3 := hB3.len
  simp (maxDischargeDepth := 30) [hr3]
  generalize hR4 : wr _ 5 _ = R4
  obtain ⟨b3, g3, grow, gb⟩ := hB3.row
  have hB4 : Built S (ccells P N O mn cp k) R4 S3 (frontL P ++ headsL P) := ⟨by simp [← hR4, hr3], by simp [← hR4, hB3.r1], hB3.kept, hB3.chart, b3, by simp [← hR4, g3], grow, gb⟩
  obtain ⟨o, R5, S5, he, rfl, hB5⟩ := plSlabs hm (n := n) hB4 (by rw [List.length_append, headsL_len]; simp [frontL]; omega) (by simp [← hR4, hr3])
  rw [he]
  have hr5 := hB5.len
  obtain ⟨b5, k3, krow, kb⟩ := hB5.row
  simp (maxDischargeDepth := 30) [hr5, k3]
  rw [leave_new hB5.kept (refs_new (by omega))]
  exact ⟨S5, b5, by simp [placesL], hB5.kept, krow, by omega⟩
end

end Go.Proofs.Ytpecefjgadecfaa.Chart
