/- What functions over rows of numbers answer. -/
import Derived.Test.YtepddcemoofmlaaFastNodesA
set_option linter.unusedSimpArgs false
set_option linter.unusedVariables false
namespace Go.Proofs.Ytepddcemoofmlaa.Fast
open Go Go.Proofs.Ytepddcemoofmlaa.AE
set_option maxRecDepth 10000
set_option linter.unusedSimpArgs false

theorem eq_of_firsts {xs ys : List Int} (h : xs.length = ys.length) (k : ∀ j, j < xs.length → xs[j]? = ys[j]?) : xs = ys := by
  refine List.ext_getElem? fun j => ?_
  by_cases hj : j < xs.length
  · exact k j hj
  · rw [List.getElem?_eq_none (by omega), List.getElem?_eq_none (by omega)]

set_option maxHeartbeats 1000000 in
theorem eqInts (n : Nat) {S : St} {v u : Value} {xs ys : List Int} (hv : IsInts S.at .i64 v xs) (hu : IsInts S.at .i64 u ys) (hl : xs.length < 1000000000) :
    calls table.find (n + 1) 24 [v, u] S = some (.bool (decide (xs = ys)), S, true) := by
  refine call_rd (x := fun y => y = _) b24 (by simp) fun R hR hargs => ?_
  have h0 : rd R 0 = v := hargs 0 (by simp)
  have h1 : rd R 1 = u := hargs 1 (by simp)
  clear hargs
  obtain ⟨p, cp, rfl, hx⟩ := hv
  obtain ⟨p', cp', rfl, hy⟩ := hu
  by_cases hne : xs.length = ys.length
  · have e : ((xs.length : Int) != ys.length) = false := by simp; omega
    have hloop : ∀ R : List Value, R.length = 26 → rd R 0 = .slice p xs.length cp → rd R 1 = .slice p' ys.length cp' → rd R 5 = .int .i64 0 →
        Leads (evCode (calls table.find n) loop24_0 R S.enter) fun o R' S' => S' = S.enter ∧ R'.length = 26 ∧
          ((o = .exit 0 ∧ xs = ys) ∨ (o = .ret ∧ rd R' 4 = .bool false ∧ xs ≠ ys)) := by
      intro R hR h0 h1 h5
      rw [eloop24_0]
      refine loop_goes (fun k R S' => S' = S.enter ∧ R.length = 26 ∧ rd R 0 = .slice p xs.length cp ∧ rd R 1 = .slice p' ys.length cp' ∧
          ∃ i : Nat, rd R 5 = .int .i64 i ∧ i + k = xs.length ∧ ∀ j, j < i → xs[j]? = ys[j]?) _ xs.length (by omega)
        ⟨rfl, hR, h0, h1, 0, h5, by omega, fun j hj => absurd hj (Nat.not_lt_zero j)⟩ ?_
      rintro k R S' ⟨rfl, hR, h0, h1, i, h5, hk, hj⟩
      cases k with
      | zero =>
        have e1 : ¬ i < xs.length := by omega
        simp (maxDischargeDepth := 30) [hR, h0, h1, h5, e1]
        exact eq_of_firsts hne fun j hj' => hj j (by omega)
      | succ k =>
        have e1 : i < xs.length := by omega
        have e1' : i < ys.length := by omega
        have g1 : xs[i]? = some xs[i] := List.getElem?_eq_getElem e1
        have g2 : ys[i]? = some ys[i] := List.getElem?_eq_getElem e1'
        obtain ⟨b, off, c, rfl, hc, hcx⟩ := hx i _ g1
        obtain ⟨b', off', c', rfl, hc', hcy⟩ := hy i _ g2
        have e4 : W .i64 ((i : Int) + 1) = ((i + 1 : Nat) : Int) := by rw [W_i64 (by omega)]; rfl
        by_cases hxy : xs[i] = ys[i]
        · simp (maxDischargeDepth := 30) [hR, h0, h1, h5, e1, e1', hc, hc', hcx, hcy, hxy, e4]
          refine ⟨k, by omega, i + 1, by simp, by omega, fun j hj' => ?_⟩
          by_cases hji : j < i
          · exact hj j hji
          · obtain rfl : j = i := by omega
            rw [g1, g2, hxy]
        · have e5 : (xs[i] != ys[i]) = true := by simp (maxDischargeDepth := 30) [hxy]
          simp (maxDischargeDepth := 30) [hR, h0, h1, h5, e1, e1', hc, hc', hcx, hcy, e5]
          intro e; subst e; exact hxy rfl
    simp (maxDischargeDepth := 30) [hR, h0, h1, e]
    generalize hR2 : wr (wr _ _ _) _ _ = R2
    obtain ⟨o, R', S', he, rfl, hl', hq⟩ := hloop R2 (by simp (maxDischargeDepth := 30) [← hR2, hR]) (by simp (maxDischargeDepth := 30) [← hR2, h0]) (by simp (maxDischargeDepth := 30) [← hR2, h1]) (by simp (maxDischargeDepth := 30) [← hR2, hR])
    rw [he]
    rcases hq with ⟨rfl, hq⟩ | ⟨rfl, h4, hq⟩
    · simp (maxDischargeDepth := 30) [hl', hq]
    · simp (maxDischargeDepth := 30) [hl', hq, h4]
  · have hd : xs ≠ ys := fun e => hne (by rw [e])
    have e : ((xs.length : Int) != ys.length) = true := by simp; omega
    simp (maxDischargeDepth := 30) [hR, h0, h1, e, hd]

end Go.Proofs.Ytepddcemoofmlaa.Fast
