/- ChartApart's own text: what it comes to. -/
import Derived.Test.YtpecefjgadecfaaChartPure
import Derived.Test.YtpecefjgadecfaaChartWorks
namespace Go.Proofs.Ytpecefjgadecfaa.Chart
open Go Go.Proofs.Ytpecefjgadecfaa.AE
set_option maxRecDepth 10000
set_option linter.unusedSimpArgs false

/-- Which places were met among the first i. -/
def hadOf (L : List Int) (i n : Nat) : List Value := (List.range n).map fun (x : Nat) => .bool (decide ((x : Int) ∈ L.take i))

theorem hadOf_get {L : List Int} {i n x : Nat} (hx : x < n) : (hadOf L i n)[x]? = some (.bool (decide ((x : Int) ∈ L.take i))) := by
  simp (maxDischargeDepth := 30) [hadOf, hx]

theorem hadOf_set {L : List Int} {i n x : Nat} (hL : L[i]? = some (x : Int)) : (hadOf L i n).set x (.bool true) = hadOf L (i + 1) n := by
  refine List.ext_getElem? fun j => ?_
  have ht : L.take (i + 1) = L.take i ++ [(x : Int)] := by
    rw [List.take_add_one, hL]; rfl
  by_cases hj : j < n
  · by_cases he : x = j
    · subst he
      rw [List.getElem?_set_self (by simpa [hadOf] using hj), hadOf_get hj, ht]
      simp
    · rw [List.getElem?_set_ne he, hadOf_get hj, hadOf_get hj, ht]
      have : ¬ ((j : Int) = x) := by omega
      simp (maxDischargeDepth := 30) [this]
  · rw [List.getElem?_eq_none (by simp (maxDischargeDepth := 30) [hadOf]; omega), List.getElem?_eq_none (by simp (maxDischargeDepth := 30) [hadOf]; omega)]

theorem not_before {L : List Int} (hn : L.Nodup) {i : Nat} {x : Int} (hx : L[i]? = some x) : x ∉ L.take i := by
  intro hm
  obtain ⟨j, hj, e⟩ := List.getElem_of_mem hm
  obtain ⟨hi, ei⟩ := List.getElem?_eq_some_iff.1 hx
  have hj' : j < i := by
    have := hj
    rw [List.length_take] at this
    omega
  rw [List.getElem_take] at e
  exact absurd (e.trans ei.symm) ((List.pairwise_iff_getElem.1 hn) j i (by omega) hi hj')

theorem hadOf_zero {L : List Int} {n : Nat} : hadOf L 0 n = List.replicate n (.bool false) := by
  refine List.ext_getElem? fun j => ?_
  by_cases hj : j < n
  · rw [hadOf_get hj]; simp (maxDischargeDepth := 30) [hj]
  · rw [List.getElem?_eq_none (by simp (maxDischargeDepth := 30) [hadOf]; omega), List.getElem?_eq_none (by simp; omega)]

set_option maxHeartbeats 2000000 in
theorem apLoop {C : CallS} {R : List Value} {S : St} {L : List Int} {n h b : Nat} (hR : R.length = 61) (h3 : rd R 3 = .int .i64 n) (h4 : rd R 4 = .slice (some ⟨h, 0, none⟩) n 0) (h5 : rd R 5 = .slice (some ⟨b, 0, none⟩) L.length 0)
    (h6 : rd R 6 = .int .i64 0) (hh : S.at h = some (.cells 4 (hadOf L 0 n))) (hb : S.at b = some (.cells 3 (L.map (Value.int .i64)))) (hne : h ≠ b) (hnd : L.Nodup) (hin : ∀ x ∈ L, 0 ≤ x ∧ x < n) (hL : L.length < 1000000) :
    Leads (evCode C loop5_0 R S) fun o R' S' => o = .exit 0 ∧ R'.length = 61 := by
  rw [eloop5_0]
  refine loop_goes (fun k R S => R.length = 61 ∧ rd R 3 = .int .i64 n ∧ rd R 4 = .slice (some ⟨h, 0, none⟩) n 0 ∧ rd R 5 = .slice (some ⟨b, 0, none⟩) L.length 0 ∧
    ∃ i : Nat, i + k = L.length ∧ rd R 6 = .int .i64 i ∧ S.at h = some (.cells 4 (hadOf L i n)) ∧ S.at b = some (.cells 3 (L.map (Value.int .i64)))) _ L.length (by omega) ⟨hR, h3, h4, h5, 0, by omega, h6, hh, hb⟩ ?_
  clear hR h3 h4 h5 h6 hh hb
  rintro k R S ⟨hR, h3, h4, h5, i, hk, h6, hh, hb⟩
  cases k with
  | zero =>
    have e1 : ¬ i < L.length := by omega
    simp (maxDischargeDepth := 30) [hR, h5, h6, e1]
  | succ k =>
    have e1 : i < L.length := by omega
    have g1 : L[i]? = some L[i] := List.getElem?_eq_getElem e1
    obtain ⟨x0, x1⟩ := hin L[i] (List.getElem_mem e1)
    obtain ⟨x, hx⟩ : ∃ x : Nat, L[i] = (x : Int) := ⟨L[i].toNat, by omega⟩
    rw [hx] at g1 x0 x1
    have xn : x < n := by omega
    have nb := not_before hnd g1
    have gh := hadOf_get (L := L) (i := i) xn
    have w1 : W .i64 ((i : Int) + 1) = ((i + 1 : Nat) : Int) := by rw [W_i64 (by omega)]; rfl
    have hl : (hadOf L i n).length = n := by simp (maxDischargeDepth := 30) [hadOf]
    have gh2 : ∀ h : x < (hadOf L i n).length, (hadOf L i n)[x] = .bool false := fun h => by
      have := (List.getElem?_eq_some_iff.1 gh).2
      rw [this]; simp [nb]
    have x2 : ¬ (x : Int) < 0 := by omega
    have x3 : ¬ n ≤ x := by omega
    simp (maxDischargeDepth := 30) [hR, h3, h4, h5, h6, hh, hb, e1, hx, xn, gh2, w1, hl, x2, x3, hne]
    exact ⟨k, by omega, i + 1, by omega, by simp, hadOf_set g1⟩

theorem made_may (p s o mn cp : Int) : may (1 + p % 8) (1 + s % 32) (1 + o % 16) (mn % 33) (cp % 33) = true := may_iff.2 (by omega)

set_option maxHeartbeats 4000000 in
theorem ranApart {p s o mn cp k : Int} : evFun table.find known 5 [chart p s o mn cp k] ⟨[], 0, 0⟩ = some (.bool true, ⟨[], 0, 0⟩, true) := by
  have hm := made_may p s o mn cp
  obtain ⟨P, hP⟩ : ∃ P : Nat, 1 + p % 8 = (P : Int) := ⟨(1 + p % 8).toNat, by omega⟩
  obtain ⟨N, hN⟩ : ∃ N : Nat, 1 + s % 32 = (N : Int) := ⟨(1 + s % 32).toNat, by omega⟩
  obtain ⟨O, hO⟩ : ∃ O : Nat, 1 + o % 16 = (O : Int) := ⟨(1 + o % 16).toNat, by omega⟩
  have hmade := fun (S : St) => @sMade 62 S p s o mn cp k
  rw [hP, hN, hO] at hm hmade
  generalize hmn : mn % 33 = mn' at *
  generalize hcp : cp % 33 = cp' at *
  obtain ⟨m1, m2, m3, m4, m5⟩ := may_iff.1 hm
  have hw := fun (S : St) => @vWords 58 P N O mn' cp' k S hm
  have hc := fun (S : St) => @vCheck 63 P N O mn' cp' k S hm
  have hpl := fun (S : St) => @sPlaces 57 P N O mn' cp' k S hm
  have hno : 0 ≤ (N : Int) * O ∧ (N : Int) * O ≤ 512 := mul_le hm (by omega) (by omega)
  have hwn : 4 * (P : Int) + 4 + 4 * N + (N : Int) * O = ((4 * P + 4 + 4 * N + N * O : Nat) : Int) := by simp
  have hn : 4 * P + 4 + 4 * N + N * O ≤ 4096 := by omega
  rw [hwn] at hw
  generalize hnn : 4 * P + 4 + 4 * N + N * O = n at *
  have hlen : (placesL P N O).length < 1000000 := by
    rw [placesL, List.length_append, List.length_append, headsL_len, slabsL_len]
    have : N * (3 + O) ≤ 32 * 19 := Nat.mul_le_mul (by omega) (by omega)
    simp [frontL]; omega
  unfold chart at hmade hw hc hpl ⊢
  rw [law_step b5]
  have e1 : ¬ (n : Int) < 1 := by omega
  have e2 : ¬ 4096 < (n : Int) := by omega
  have e3 : (n : Int) ≤ 1000000000000000 := by omega
  have e4 : (n : Int) ≤ 281474976710656 := by omega
  simp (maxDischargeDepth := 30) [-Array.all_toList, -Array.all_eq_true, -List.all_eq_true, known_cons, hmade, hw, hc, e1, e2, e3, e4]
  generalize hT : St.push _ (AObj.cells 4 (List.replicate n (Value.bool false))) = T
  obtain ⟨S1, b, he, hk, hb, hle⟩ := hpl T
  have hTh : T.at 1 = some (.cells 4 (hadOf (placesL P N O) 0 n)) := by rw [← hT, hadOf_zero]; rfl
  have hTt : T.top = 2 := by rw [← hT]; rfl
  rw [he]
  simp (maxDischargeDepth := 30) [-Array.all_toList, -Array.all_eq_true, -List.all_eq_true]
  generalize hR2 : wr (wr _ 5 _) 6 _ = R2
  have hloop := apLoop (C := known) (R := R2) (S := T.left S1) (L := placesL P N O) (n := n) (h := 1) (b := b) (by simp [← hR2]) (by simp [← hR2]) (by simp [← hR2]; rfl) (by simp [← hR2]) (by simp [← hR2])
    (by rw [at_left]; exact hk.same hTh) (by rw [at_left]; exact hb) (by omega) (places_nodup P N O) (fun x hx => by have := places_in hx; omega) hlen
  obtain ⟨o, R3, S3, he3, rfl, hR3⟩ := hloop
  rw [he3]
  simp (maxDischargeDepth := 30) [known_works, hR3]
  exact leave_quiet (Nat.zero_le _) rfl

end Go.Proofs.Ytpecefjgadecfaa.Chart
