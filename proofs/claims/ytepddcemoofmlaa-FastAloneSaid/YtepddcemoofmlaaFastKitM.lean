/- Bring: a number, brought to be from 0 to below another one. -/
import Derived.Test.YtepddcemoofmlaaFastNodesB
import Derived.Test.YtepddcemoofmlaaAe35
import Derived.Test.YtepddcemoofmlaaFastMemM
import Derived.Test.YtepddcemoofmlaaFastSeeM
set_option linter.unusedSimpArgs false
set_option linter.unusedVariables false
namespace Go.Proofs.Ytepddcemoofmlaa.Fast
open Go Go.Proofs.Ytepddcemoofmlaa.AE
set_option maxRecDepth 10000
set_option linter.unusedSimpArgs false

theorem tmod_fix {i m : Int} (hm : 0 < m) : (if i.tmod m < 0 then i.tmod m + m else i.tmod m) = i % m := by
  rw [Int.tmod_eq_emod]
  have h1 := Int.emod_nonneg i (by omega : m ≠ 0)
  have h2 := Int.emod_lt_of_pos i hm
  have h3 : ((m.natAbs : Nat) : Int) = m := by omega
  split <;> split <;> omega

theorem tmod_range {i m : Int} (hm : 0 < m) : -m < i.tmod m ∧ i.tmod m < m := by
  rw [Int.tmod_eq_emod]
  have h1 := Int.emod_nonneg i (by omega : m ≠ 0)
  have h2 := Int.emod_lt_of_pos i hm
  have h3 : ((m.natAbs : Nat) : Int) = m := by omega
  by_cases h : i % m = 0
  · have : m ∣ i := Int.dvd_of_emod_eq_zero h
    simp (maxDischargeDepth := 30) [this]; omega
  · split <;> omega

set_option maxHeartbeats 1000000 in
theorem sBring {n : Nat} {S : St} {i m : Int} (hm : 0 < m) (hm' : m < 1000000000) : calls table.find (n + 1) 6 [.int .i64 i, .int .i64 m] S = some (.int .i64 (i % m), S, true) := by
  have h0 : ¬ m = 0 := by omega
  have h1 := tmod_range (i := i) hm
  rw [← tmod_fix hm]
  by_cases h : i.tmod m < 0
  · have e : W .i64 (i.tmod m + m) = i.tmod m + m := W_i64 (by omega)
    simp (maxDischargeDepth := 30) [q6, h0, h, e]
  · simp (maxDischargeDepth := 30) [q6, h0, h]

end Go.Proofs.Ytepddcemoofmlaa.Fast

/- What Fresh, Pack, New, Words, through answer and do. -/
namespace Go.Proofs.Ytepddcemoofmlaa.Fast
open Go Go.Proofs.Ytepddcemoofmlaa.AE
set_option maxRecDepth 10000
set_option linter.unusedSimpArgs false
set_option linter.unusedVariables false

/-! ### link.Fresh -/
noncomputable def freshG (key : Int) (x : Nat) : Int := B .xor .u64 (W .u64 ((x : Int) + 2)) (turnedP key x)
/-- The links made so far: the first i. -/
noncomputable def freshR (n : Nat) (key : Int) (i : Nat) : List Int := (List.range n).map fun x => if x < i then freshG key x else 0
/-- A fresh link. -/
noncomputable def freshF (n : Nat) (key : Int) (x : Nat) : Int := if x + 1 = n then turnedP key x else freshG key x

theorem freshR_len {n : Nat} {key : Int} {i : Nat} : (freshR n key i).length = n := by simp [freshR]
theorem map_range_set {n i : Nat} {f g : Nat → Int} {x : Int} (hx : g i = x) (h : ∀ j, j ≠ i → g j = f j) : ((List.range n).map f).set i x = (List.range n).map g := by
  refine List.ext_getElem? fun j => ?_
  by_cases hj : j < n
  · by_cases he : i = j
    · subst he
      rw [List.getElem?_set_self (by simpa using hj)]
      simp [hj, hx]
    · rw [List.getElem?_set_ne he]
      simp [hj, h j (fun e => he e.symm)]
  · rw [List.getElem?_eq_none (by simp; omega), List.getElem?_eq_none (by simp; omega)]

section
variable {n : Nat} {S : St}

set_option maxHeartbeats 4000000 in
theorem freshLoop {R : List Value} {S0 S : St} {key : Int} {m h : Nat} (hR : R.length = 41) (r0 : rd R 0 = .int .i64 m) (r1 : rd R 1 = .int .u64 key) (r6 : rd R 6 = .slice (some ⟨h, 0, none⟩) m 0) (r17 : rd R 17 = .int .i64 m) (r18 : rd R 18 = .int .i64 0)
    (hk : Kept S0 S) (hh : S.at h = some (.cells 22 ((freshR m key 0).map (Value.int .u64)))) (hlo : S0.top ≤ h) (hm : m ≤ 16) :
    Leads (evCode (calls table.find (n + 2)) loop16_0 R S) fun o R' S' => o = .exit 0 ∧ R'.length = 41 ∧ rd R' 0 = .int .i64 m ∧ rd R' 1 = .int .u64 key ∧ rd R' 6 = .slice (some ⟨h, 0, none⟩) m 0 ∧ Kept S0 S' ∧ S'.at h = some (.cells 22 ((freshR m key m).map (Value.int .u64))) := by
  rw [eloop16_0]
  refine loop_goes (fun q R S' => R.length = 41 ∧ rd R 0 = .int .i64 m ∧ rd R 1 = .int .u64 key ∧ rd R 6 = .slice (some ⟨h, 0, none⟩) m 0 ∧ rd R 17 = .int .i64 m ∧ Kept S0 S' ∧ ∃ i : Nat, i + q = m ∧ rd R 18 = .int .i64 i ∧ S'.at h = some (.cells 22 ((freshR m key i).map (Value.int .u64)))) _ m (by omega)
    ⟨hR, r0, r1, r6, r17, hk, 0, by omega, r18, hh⟩ ?_
  clear hR r0 r1 r6 r17 r18 hk hh
  rintro q R S' ⟨hR, r0, r1, r6, r17, hk, i, hi, r18, hh⟩
  cases q with
  | zero =>
    obtain rfl : i = m := by omega
    simp (maxDischargeDepth := 30) [hR, r0, r1, r6, r17, r18]
    exact ⟨hk, hh⟩
  | succ q =>
    have e1 : i < m := by omega
    have w1 : W .i64 ((i : Int) + 1) = (i : Int) + 1 := W_i64 (by omega)
    have w2 : W .i64 ((i : Int) + 2) = (i : Int) + 2 := W_i64 (by omega)
    have ht := fun (m : Nat) (S : St) => @sTurned m S key i
    have il : (freshR m key i).length = m := freshR_len
    simp (maxDischargeDepth := 30) [hR, r0, r1, r6, r17, r18, e1, w1, w2, ht, hh, il]
    refine ⟨q, by omega, hk.wrote _ _ hlo, i + 1, by omega, by omega, ?_⟩
    have e : (freshR m key i).set i (freshG key i) = freshR m key (i + 1) := map_range_set (by simp) fun j hj => by
      have : (j < i + 1) = (j < i) := by simp; omega
      simp only [this]
    rw [← e, List.map_set]
    rfl

set_option maxHeartbeats 4000000 in
theorem sFresh {m : Nat} {key : Int} (h1 : 1 ≤ m) (h2 : m ≤ 16) : ∃ S', calls table.find (n + 3) 16 [.int .i64 m, .int .u64 key] S = some (.tuple #[.slice (some ⟨S.top, 0, none⟩) m 0, .int .i64 0], S', true) ∧ Grown S S' ∧
    S'.at S.top = some (.cells 22 (((List.range m).map (freshF m key)).map (Value.int .u64))) := by
  refine call_rd (x := fun y => ∃ S', y = some (.tuple #[.slice (some ⟨S.top, 0, none⟩) m 0, .int .i64 0], S', true) ∧ Grown S S' ∧ S'.at S.top = some (.cells 22 (((List.range m).map (freshF m key)).map (Value.int .u64)))) (args := [.int .i64 m, .int .u64 key]) b16 (by simp) fun R hR hargs => ?_
  have r0 : rd R 0 = .int .i64 m := hargs 0 (by simp)
  have r1 : rd R 1 = .int .u64 key := hargs 1 (by simp)
  clear hargs
  have e1 : ¬ (m : Int) < 1 := by omega
  have e2 : ¬ (16 : Int) < m := by omega
  have e3 : (m : Int) ≤ 1000000000000000 := by omega
  have e4 : (m : Int) ≤ 281474976710656 := by omega
  have e5 : 8 * (m : Int) ≤ 281474976710656 := by omega
  have e6 : ¬ (m : Int) < 0 := by omega
  simp (maxDischargeDepth := 30) [hR, r0, r1, e1, e2, e3, e4, e5]
  generalize hTe : St.push S.enter _ = T
  have tk : Kept S T := by rw [← hTe]; exact (Kept.enter S).push _
  have th : T.at S.top = some (.cells 22 ((freshR m key 0).map (Value.int .u64))) := by
    have ez : freshR m key 0 = List.replicate m 0 := by
      refine List.ext_getElem? fun j => ?_
      by_cases hj : j < m
      · simp [freshR, hj]
      · rw [List.getElem?_eq_none (by simp [freshR]; omega), List.getElem?_eq_none (by simp; omega)]
    rw [← hTe, ez, List.map_replicate, ← top_enter (S := S), m_push_top]
  clear hTe
  generalize hR2 : wr (wr _ 17 _) 18 _ = R2
  obtain ⟨o, R3, S3, he, rfl, hR3, q0, q1, q6, k3, h3⟩ := freshLoop (n := n) (R := R2) (S0 := S) (S := T) (key := key) (m := m) (h := S.top) (by simp [← hR2, hR]) (by simp [← hR2, r0]) (by simp [← hR2, r1]) (by simp [← hR2, hR]; rfl) (by simp [← hR2, hR]) (by simp [← hR2, hR]) tk th (Nat.le_refl _) h2
  rw [he]
  have w1 : W .i64 ((m : Int) - 1) = ((m - 1 : Nat) : Int) := by rw [W_i64 (by omega)]; omega
  have ht := fun (k : Nat) (S : St) => @sTurned k S key ((m - 1 : Nat) : Int)
  have il : (freshR m key m).length = m := freshR_len
  have lt : m - 1 < m := by omega
  have e : (freshR m key m).set (m - 1) (turnedP key ((m - 1 : Nat) : Int)) = (List.range m).map (freshF m key) := by
    refine List.ext_getElem? fun j => ?_
    by_cases hj : j < m
    · by_cases he : m - 1 = j
      · subst he
        rw [List.getElem?_set_self (by rw [il]; omega)]
        have : m - 1 + 1 = m := by omega
        simp [hj, freshF, this]
      · rw [List.getElem?_set_ne he]
        have : ¬ j + 1 = m := by omega
        simp [freshR, hj, freshF, this]
    · rw [List.getElem?_eq_none (by simp [freshR]; omega), List.getElem?_eq_none (by simp; omega)]
  simp (maxDischargeDepth := 30) [hR3, q0, q1, q6, w1, ht, h3, il, lt]
  generalize hF : St.wrote S3 _ _ _ = F
  have kF : Kept S F := by rw [← hF]; exact k3.wrote _ _ (Nat.le_refl _)
  have aF : F.at S.top = some (.cells 22 (((List.range m).map (freshF m key)).map (Value.int .u64))) := by
    rw [← hF, m_wrote (by rw [h3]; rfl), ← e, List.map_set]
  have hl := leave_new kF (v := .tuple #[.slice (some ⟨S.top, 0, none⟩) m 0, .int .i64 0]) (by simp)
  exact ⟨S.left F, hl, Grown.left kF, by rw [at_left, aF, List.map_map]⟩

/-! ### count.Pack -/
theorem sFlag {b : Bool} {w : Int} : calls table.find (n + 1) 37 [.bool b, .int .u64 w] S = some (.int .u64 (if b then w else 0), S, true) := by
  cases b <;> simp (maxDischargeDepth := 30) [q37]

theorem or_num {a b : Nat} (ha : a < 18446744073709551616) (hb : b < 18446744073709551616) {c : Nat} (h : a ||| b = c) : B .or .u64 (a : Int) (b : Int) = (c : Int) := by rw [B_or_nat ha hb, h]

set_option maxHeartbeats 1000000 in
theorem sPackFull {o : Nat} (ho : o = 16 ∨ o = 10) : calls table.find (n + 2) 20 [.agg #[.int .i64 o, .int .i64 o, .bool true, .bool true]] S = some (.tuple #[.int .u64 (196608 + 257 * o), .int .i64 0], S, true) := by
  have hm := fun (k : Nat) (S : St) => @sMay k S o o true true
  have hf := fun (k : Nat) (S : St) (w : Int) => @sFlag k S true w
  have w1 : W .u64 (o : Int) = o := W_in (by omega) (by omega)
  have hs : B .shl .u64 (o : Int) 8 = ((256 * o : Nat) : Int) := by
    have := shl_mul (x := (o : Int)) (n := 8) (by decide)
    rw [show ((8 : Nat) : Int) = 8 from rfl] at this
    rw [this, W_in (by omega) (by omega)]
    omega
  rcases ho with rfl | rfl
  · have o1 := or_num (a := 16) (b := 4096) (by decide) (by decide) (c := 4112) (by decide)
    have o2 := or_num (a := 4112) (b := 65536) (by decide) (by decide) (c := 69648) (by decide)
    have o3 := or_num (a := 69648) (b := 131072) (by decide) (by decide) (c := 200720) (by decide)
    have hc : cMay 16 16 true true = true := by decide
    simp only [Int.cast_ofNat_Int] at hm w1 hs o1 o2 o3 ⊢
    simp (maxDischargeDepth := 30) [q20, hm, hf, hc, w1, hs, o1, o2, o3]
  · have o1 := or_num (a := 10) (b := 2560) (by decide) (by decide) (c := 2570) (by decide)
    have o2 := or_num (a := 2570) (b := 65536) (by decide) (by decide) (c := 68106) (by decide)
    have o3 := or_num (a := 68106) (b := 131072) (by decide) (by decide) (c := 199178) (by decide)
    have hc : cMay 10 10 true true = true := by decide
    simp only [Int.cast_ofNat_Int] at hm w1 hs o1 o2 o3 ⊢
    simp (maxDischargeDepth := 30) [q20, hm, hf, hc, w1, hs, o1, o2, o3]

/-! ### mem.New, Words -/
set_option maxHeartbeats 1000000 in
theorem sNewMem {m : Nat} (h1 : 1 ≤ m) (h2 : m ≤ 4096) : ∃ S', calls table.find (n + 1) 14 [.int .i64 m] S = some (.tuple #[.pointer (some ⟨S.top + 1, 0, none⟩), .int .i64 0], S', true) ∧ Grown S S' ∧ S'.top = S.top + 2 ∧
    Mem S' (S.top + 1) S.top (List.replicate m 0) 0 := by
  have e1 : ¬ (m : Int) < 1 := by omega
  have e2 : ¬ (4096 : Int) < m := by omega
  have e3 : (m : Int) ≤ 1000000000000000 := by omega
  have e4 : (m : Int) ≤ 281474976710656 := by omega
  have e5 : 8 * (m : Int) ≤ 281474976710656 := by omega
  obtain ⟨X1, hX1⟩ : ∃ X, S.enter.push (.cells 22 (List.replicate m (.int .u64 0))) = X := ⟨_, rfl⟩
  obtain ⟨X2, hX2⟩ : ∃ X, X1.push (.cells 47 [.slice (some ⟨S.top, 0, none⟩) m 0, .int .i64 0]) = X := ⟨_, rfl⟩
  have t1 : X1.top = S.top + 1 := by rw [← hX1, top_push, top_enter]
  have t2 : X2.top = S.top + 2 := by rw [← hX2, top_push, t1]
  have k2 : Kept S X2 := by rw [← hX2, ← hX1]; exact ((Kept.enter S).push _).push _
  have c1 : X2.at S.top = some (.cells 22 ((List.replicate m 0).map (Value.int .u64))) := by rw [← hX2, push_chain (by omega), ← hX1, List.map_replicate]; exact m_push_top
  have c2 : X2.at (S.top + 1) = some (.cells 47 [.slice (some ⟨S.top, 0, none⟩) m 0, .int .i64 0]) := by rw [← hX2, ← t1]; exact m_push_top
  have hl := leave_new k2 (v := .tuple #[.pointer (some ⟨S.top + 1, 0, none⟩), .int .i64 0]) (by simp)
  have e6 : S.enter.top = S.top := rfl
  refine ⟨S.left X2, ?_, Grown.left k2, by rw [top_left]; exact t2, by omega, by rw [at_left, List.length_replicate]; exact c2, by rw [at_left]; exact c1⟩
  simp (maxDischargeDepth := 30) [q14, e1, e2, e3, e4, e5, hX1, e6, t1, hX2, hl]

set_option maxHeartbeats 1000000 in
theorem sWords {bm bw : Nat} {ws : List Int} {cnt : Int} (hM : Mem S bm bw ws cnt) (hl0 : 0 < ws.length) (hl : ws.length ≤ 4096) : ∃ v S', calls table.find (n + 2) 23 [.pointer (some ⟨bm, 0, none⟩)] S = some (v, S', true) ∧ Grown S S' ∧ WRow S' v ws := by
  have hb := hM.2.1
  have hw := hM.2.2
  have hrow : ∀ (T : St) (cp : Nat), T.at bw = some (.cells 22 (ws.map (Value.int .u64))) → rowS T 1 (.slice (some ⟨bw, 0, none⟩) ws.length cp) = some (ws.length, ws.map (Value.int .u64)) := fun T cp h =>
    row_new h (by simp) (by rw [List.all_eq_true]; intro x hx; obtain ⟨y, _, rfl⟩ := List.mem_map.1 hx; rfl)
  obtain ⟨X1, hX1⟩ : ∃ X, S.enter.enter.push (.cells 22 []) = X := ⟨_, rfl⟩
  have t1 : X1.top = S.top + 1 := by rw [← hX1, top_push]; rfl
  have w1 : X1.at bw = some (.cells 22 (ws.map (Value.int .u64))) := by rw [← hX1, push_chain (by show bw < S.top; exact hM.lt2)]; exact hw
  have b1 : X1.at S.top = some (.cells 22 []) := by rw [← hX1]; exact m_push_top
  have happ := app_more (S := X1) (e := 22) (sz := 1) (bytes := 8) (n := ws.length) (b := S.top) (len := 0) (xs := ws.map (Value.int .u64)) b1 (by simp) (by omega) hl0 ⟨by omega, by omega⟩
  rw [List.nil_append, Nat.zero_add] at happ
  obtain ⟨X2, hX2⟩ : ∃ X, X1.app S.top (.cells 22 (ws.map (Value.int .u64))) = X := ⟨_, rfl⟩
  rw [hX2] at happ
  have k2 : Kept S.enter X2 := by rw [← hX2, ← hX1]; exact (((Kept.enter S.enter).push _)).app _ (Nat.le_refl _)
  have c2 : X2.at X1.top = some (.cells 22 (ws.map (Value.int .u64))) := by rw [← hX2]; exact m_app_top
  have hl1 := leave_new k2 (v := .slice (some ⟨X1.top, 0, none⟩) ws.length 0) (by simp; show S.top ≤ X1.top; omega)
  have k3 : Kept S (S.enter.left X2) := (Kept.enter S).left k2
  have hl2 := leave_new k3 (v := .slice (some ⟨X1.top, 0, none⟩) ws.length 0) (by simp; omega)
  have e6 : S.enter.top = S.top := rfl
  have e7 : S.enter.enter.top = S.top := rfl
  refine ⟨.slice (some ⟨X1.top, 0, none⟩) ws.length 0, S.left (S.enter.left X2), ?_, Grown.left k3, X1.top, 0, ws.map (Value.int .u64), rfl, ?_, by simp, fun i x hi => by simp [hi]⟩
  · have hr0 := hrow X1 0 w1
    simp (maxDischargeDepth := 30) [q23, q46, hb, hX1, e7, hr0, happ, hl1, hl2]
  · unfold AE.rowAt
    rw [at_left, at_left, c2]; rfl
end

end Go.Proofs.Ytepddcemoofmlaa.Fast

/- stocked, through, listed. -/
namespace Go.Proofs.Ytepddcemoofmlaa.Fast
open Go Go.Proofs.Ytepddcemoofmlaa.AE
set_option maxRecDepth 10000
set_option linter.unusedSimpArgs false
set_option linter.unusedVariables false

/-! ### the words of a core of one processor and one slab -/
/-- The words: the head, its turn, the slab's counts, the links. -/
def layW (o : Nat) (f : Nat → Int) (h t kw : Int) : List Int := [h, t, 0, 0, 0, 0, 0, 0, 0, kw, 0, 0] ++ (List.range o).map f

theorem layW_len {o : Nat} {f : Nat → Int} {h t kw : Int} : (layW o f h t kw).length = 12 + o := by simp [layW]; omega
theorem layW_nWords {o : Nat} {f : Nat → Int} {h t kw : Int} : (layW o f h t kw).length = nWords 1 1 o := by rw [layW_len, nWords]; omega
theorem layW_set0 {o : Nat} {f : Nat → Int} {h t kw x : Int} : (layW o f h t kw).set 0 x = layW o f x t kw := by simp [layW]
theorem layW_set1 {o : Nat} {f : Nat → Int} {h t kw x : Int} : (layW o f h t kw).set 1 x = layW o f h x kw := by simp [layW]
theorem layW_set9 {o : Nat} {f : Nat → Int} {h t kw x : Int} : (layW o f h t kw).set 9 x = layW o f h t x := by simp [layW]
theorem layW_setL {o i : Nat} {f g : Nat → Int} {h t kw x : Int} (hx : g i = x) (hg : ∀ j, j ≠ i → g j = f j) : (layW o f h t kw).set (12 + i) x = layW o g h t kw := by
  unfold layW
  rw [List.set_append_right _ _ (by simp), ← map_range_set hx hg]
  simp
theorem layW_link {o i : Nat} {f : Nat → Int} {h t kw : Int} (hi : i < o) : wd (layW o f h t kw) (12 + i) = f i := by
  unfold wd layW
  rw [List.getElem?_append_right (by simp)]
  simp [hi]
theorem layW_word {o : Nat} {f : Nat → Int} {h t kw : Int} (h1 : Word h) (h2 : Word t) (h3 : Word kw) (h4 : ∀ i, Word (f i)) : ∀ x ∈ layW o f h t kw, Word x := by
  intro x hx
  have z : Word 0 := ⟨by omega, by omega⟩
  simp only [layW, List.mem_append, List.mem_cons, List.not_mem_nil, or_false, List.mem_map] at hx
  rcases hx with (rfl | rfl | rfl | rfl | rfl | rfl | rfl | rfl | rfl | rfl | rfl | rfl) | ⟨i, _, rfl⟩ <;> first | assumption | exact h4 _

/-- Links that lead from object to object, below k, then nowhere. -/
def Ch (f : Nat → Int) (key : Int) (k : Nat) : Prop := ∀ i, i < k → showP (f i) key i = some (if i + 1 < k then ((i : Int) + 1) else -1)

/-- The objects from one on, below k. -/
def fromTo (i k : Nat) : List Int := (List.range (k - i)).map fun (j : Nat) => ((i + j : Nat) : Int)
theorem fromTo_len {i k : Nat} : (fromTo i k).length = k - i := by simp [fromTo]
theorem fromTo_cons {i k : Nat} (h : i < k) : fromTo i k = (i : Int) :: fromTo (i + 1) k := by
  unfold fromTo
  have e : k - i = (k - (i + 1)) + 1 := by omega
  rw [e, List.range_succ_eq_map, List.map_cons, List.map_map]
  congr 1
  refine List.map_congr_left fun j _ => ?_
  simp; omega
theorem fromTo_nil {i k : Nat} (h : k ≤ i) : fromTo i k = [] := by
  unfold fromTo
  have e : k - i = 0 := by omega
  rw [e]; rfl
theorem fromTo_mem {i k : Nat} {x : Int} (h : x ∈ fromTo i k) : (i : Int) ≤ x ∧ x < k := by
  simp only [fromTo, List.mem_map, List.mem_range] at h
  obtain ⟨j, hj, rfl⟩ := h
  omega

theorem chain_walk {f : Nat → Int} {key : Int} {k o : Nat} (hf : Ch f key k) (hk : k ≤ o) : ∀ (d i : Nat) (seen : List Int), i + d = k → 0 < d → (∀ x ∈ seen, x < i) → Walks (nextP ((List.range o).map f) key) seen i (some (seen ++ fromTo i k))
  | 0, _, _, _, h, _ => absurd h (Nat.lt_irrefl 0)
  | d + 1, i, seen, h, _, hs => by
    have hi : i < k := by omega
    have hno : (i : Int) ∉ seen := fun hm => by have := hs _ hm; omega
    have hsh := hf i hi
    by_cases hlast : i + 1 < k
    · rw [if_pos hlast] at hsh
      have hn : nextP ((List.range o).map f) key (i : Int) = some ((i + 1 : Nat) : Int) := by
        unfold nextP
        have hio : i < o := by omega
        have hio2 : (i : Int) + 1 < (o : Int) := by omega
        simp [hio, hsh, hio2]
      refine .on (by omega) hno hn ?_
      rw [fromTo_cons hi, List.append_cons seen (i : Int) (fromTo (i + 1) k)]
      exact chain_walk hf hk d (i + 1) (seen ++ [(i : Int)]) (by omega) (by omega) fun x hx => by
        rcases List.mem_append.1 hx with hx | hx
        · have := hs x hx; omega
        · simp at hx; omega
    · rw [if_neg hlast] at hsh
      have hn : nextP ((List.range o).map f) key (i : Int) = some (-1) := by
        unfold nextP
        have hio : i < o := by omega
        have hio2 : (-1 : Int) < (o : Int) := by omega
        simp [hio, hsh, hio2]
      refine .on (by omega) hno hn ?_
      rw [fromTo_cons hi, fromTo_nil (by omega)]
      exact .stop _

/-- The head's word: an object, or none. -/
def headW (i : Nat) (k : Nat) : Int := if i < k then 65 + i else 64
def objW (i : Nat) (k : Nat) : Int := if i < k then i else -1

theorem headW_of {i k : Nat} (h : k ≤ 16) : headOfP (headW i k) = some (0, objW i k) := by
  unfold headW objW headOfP
  split
  · rw [if_neg (by omega), if_pos (by omega)]
    congr 1
    rw [Prod.mk.injEq]; omega
  · simp
theorem headP_of {i k : Nat} (h : k ≤ 16) : headP 0 (objW i k) = some (headW i k) := by
  unfold headW objW headP
  split
  · rw [if_neg (by omega), if_pos (by omega)]
    congr 1
    omega
  · simp

theorem cStop {g : Int → Option Int} {ws : List Int} {P N : Nat} {seen : List Int} {w : Int} (h : startP g N w = some (-1)) : CWalk g ws P N seen w (some seen) := by unfold CWalk; rw [h]; exact .stop seen

theorem links_of {o : Nat} {f : Nat → Int} {h t kw : Int} : linkWords (layW o f h t kw) 1 1 o 0 = (List.range o).map f := by
  unfold linkWords layW
  simp
  rw [List.take_of_length_le (by simp)]

theorem lay_see {o i k : Nat} {f : Nat → Int} {t kw key : Int} {c : CountsP} (ho : o ≤ 16) (hk : k ≤ o) (hi : i ≤ k) (hf : Ch f (keyP key 0) k) (hc : countsP kw = some c) :
    SeeR (layW o f (headW i k) t kw) 1 1 o key (some ⟨[⟨0, fromTo i k, t, []⟩], [], false, [⟨c, []⟩]⟩) := by
  have ho' := headW_of (i := i) (k := k) (by omega)
  have part0 : CWalk ofPart (layW o f (headW i k) t kw) 1 1 [] 0 (some []) := cStop (by simp [startP, ofPart, partOfP])
  have shelf0 : CWalk ofShelf (layW o f (headW i k) t kw) 1 1 [] 0 (some []) := cStop (by simp [startP, ofShelf])
  refine .inl ⟨_, rfl, rfl, fun j hj => ?_, ?_, ?_, rfl, fun j hj => ?_⟩
  · obtain rfl : j = 0 := by omega
    unfold SlotR
    have e0 : wd (layW o f (headW i k) t kw) (4 * 0) = headW i k := by simp [wd, layW]
    have e1 : wd (layW o f (headW i k) t kw) (4 * 0 + 1) = t := by simp [wd, layW]
    have e2 : wd (layW o f (headW i k) t kw) (4 * 0 + 2) = 0 := by simp [wd, layW]
    rw [e0, e1, e2, ho']
    refine (if_pos (by omega)).mpr ?_
    refine ⟨some (fromTo i k), ?_, some [], part0, by simp⟩
    rw [if_neg (by omega)]
    unfold LWalk
    rw [show (0 : Int).toNat = 0 from rfl, links_of]
    unfold objW
    by_cases h : i < k
    · rw [if_pos h, if_pos (by omega)]
      have := chain_walk hf hk (k - i) i [] (by omega) (by omega) (by simp)
      simpa using this
    · rw [if_neg h, if_pos (by omega), fromTo_nil (by omega)]
      exact .stop _
  · have e : wd (layW o f (headW i k) t kw) (4 * 1 + 1) = 0 := by simp [wd, layW]
    rw [e]; exact shelf0
  · have e : wd (layW o f (headW i k) t kw) (4 * 1) = 0 := by simp [wd, layW]
    rw [e]; rfl
  · obtain rfl : j = 0 := by omega
    unfold SlabR
    have e0 : wd (layW o f (headW i k) t kw) (4 * 1 + 4 + 4 * 0) = 0 := by simp [wd, layW]
    have e1 : wd (layW o f (headW i k) t kw) (4 * 1 + 4 + 4 * 0 + 1) = kw := by simp [wd, layW]
    rw [e0, e1, hc]
    refine (if_pos (by omega)).mpr ?_
    refine ⟨some [], ?_, by simp⟩
    unfold LWalk
    rw [if_pos (by omega)]
    exact .stop _

end Go.Proofs.Ytepddcemoofmlaa.Fast

/- stocked, through, listed: what they come to. -/
namespace Go.Proofs.Ytepddcemoofmlaa.Fast
open Go Go.Proofs.Ytepddcemoofmlaa.AE
set_option maxRecDepth 10000
set_option linter.unusedSimpArgs false
set_option linter.unusedVariables false

theorem xor_self' {a : Int} (ha : Word a) : B .xor .u64 a a = 0 := by
  obtain ⟨m, rfl, hm⟩ := ha.nat
  rw [B_xor_nat hm hm, Nat.xor_self]; rfl

theorem show_hide {y key : Int} {i : Nat} (hi : i < 16) (hy : -1 ≤ y ∧ y < 16) : showP (B .xor .u64 (W .u64 (y + 1)) (turnedP key i)) key i = some y := by
  have ho : isObj (i : Int) = true := by unfold isObj; simp; omega
  have w : W .u64 (y + 1) = y + 1 := W_in (by omega) (by omega)
  unfold showP
  rw [w, xor_twice ⟨by omega, by omega⟩ (word_turned key i), if_pos ⟨ho, by omega⟩]
  congr 1
  omega

theorem fresh_chain {n : Nat} {key : Int} (hn : n ≤ 16) : Ch (fun i => if i < n then freshF n key i else 0) key n := by
  intro i hi
  simp only [hi, if_true]
  unfold freshF
  by_cases h : i + 1 = n
  · rw [if_pos h, if_neg (by omega)]
    have ho : isObj (i : Int) = true := by unfold isObj; simp; omega
    unfold showP
    rw [xor_self' (word_turned key i), if_pos ⟨ho, by omega⟩]
    rfl
  · rw [if_neg h, if_pos (by omega)]
    have := show_hide (y := (i : Int) + 1) (key := key) (i := i) (by omega) (by omega)
    unfold freshG
    rw [show (i : Int) + 2 = (i : Int) + 1 + 1 by omega]
    exact this

theorem fresh_word {n : Nat} {key : Int} (i : Nat) : Word (if i < n then freshF n key i else 0) := by
  split
  · unfold freshF freshG
    split
    · exact word_turned key i
    · exact word_xor (word_W _) (word_turned key i)
  · exact ⟨by omega, by omega⟩

theorem headW_word {i k : Nat} (h : k ≤ 16) : Word (headW i k) := by
  unfold headW
  split
  · exact ⟨by omega, by omega⟩
  · exact ⟨by omega, by omega⟩

section
variable {n : Nat} {S : St} {bm bw : Nat} {cnt : Int}

theorem may11 {o : Nat} (h1 : 1 ≤ o) (h2 : o ≤ 16) : may ((1 : Nat) : Int) ((1 : Nat) : Int) (o : Int) 0 0 = true := may_iff.2 ⟨by omega, by omega, by omega, by omega, by omega⟩

set_option maxHeartbeats 4000000 in
theorem sListed {o i k : Nat} {f : Nat → Int} {t kw key : Int} {c : CountsP} (hM : Mem S bm bw (layW o f (headW i k) t kw) cnt) (h1 : 1 ≤ o) (ho : o ≤ 16) (hk : k ≤ o) (hi : i ≤ k) (hf : Ch f (keyP key 0) k) (hc : countsP kw = some c)
    (wt : Word t) (wk : Word kw) (wf : ∀ i, Word (f i)) :
    ∃ v' S', calls table.find (n + 10) 9 [.pointer (some ⟨bm, 0, none⟩), chart 1 1 o 0 0 key] S = some (.tuple #[v', .int .u64 t, .bool true], S', true) ∧ Grown S S' ∧ Ints S' S.top v' (fromTo i k) := by
  have hw := layW_word (o := o) (headW_word (i := i) (k := k) (by omega)) wt wk wf
  have hm := may11 h1 ho
  obtain ⟨X1, hX1⟩ : ∃ X, S.enter.push (.cells 26 [.int .i64 1, .int .i64 1, .int .i64 o, .int .i64 0, .int .i64 0, .int .u64 key]) = X := ⟨_, rfl⟩
  have t1 : X1.top = S.top + 1 := by rw [← hX1, top_push, top_enter]
  have k1 : Kept S X1 := by rw [← hX1]; exact (Kept.enter S).push _
  have c1 : X1.at S.top = some (.cells 26 [.int .i64 1, .int .i64 1, .int .i64 o, .int .i64 0, .int .i64 0, .int .u64 key]) := by rw [← hX1]; exact m_push_top
  have m1 : Mem X1 bm bw (layW o f (headW i k) t kw) cnt := by rw [← hX1]; exact Mem.push (S := S.enter) hM _
  obtain ⟨v, X2, hwds, g2, hrow⟩ := sWords (n := n + 7) m1 (by rw [layW_len]; omega) (by rw [layW_len]; omega)
  have c2 := g2.same c1
  have k2 := Grown.kept g2 S k1
  obtain ⟨r, cs, X3, hr, hsee, g3, hout⟩ := sSee hm (n := n) (S := X2) (v := v) (k := key) hrow hw layW_nWords
  obtain rfl := hr.unique (lay_see ho hk hi hf hc)
  have k3 := Grown.kept g3 S k2
  obtain ⟨vs, vh, vt, rfl, so, io, to⟩ := hout
  have ovs := so.1
  have ovh := io.1
  have ovt := to.1
  obtain ⟨b, cc, vl, vp, hvs, hb, hcc, il, ip⟩ := so.get (i := 0) (x := ⟨0, fromTo i k, t, []⟩) rfl
  have hvs : vs = .slice (some ⟨b, 0, none⟩) 1 0 := hvs
  obtain ⟨X4, hX4⟩ : ∃ X, (X3.push (.cells 66 [.slice none 0 0, .slice none 0 0, .bool false, .slice none 0 0])).wrote X3.top (.cells 66 [vs, vh, .bool false, vt]) (.agg ⟨[vs, vh, .bool false, vt]⟩) = X := ⟨_, rfl⟩
  have k4 : Kept S X4 := by rw [← hX4]; exact (k3.push _).wrote _ _ k3.top
  have lb := lt_top hb
  have b4 : X4.at b = some (.cells 71 cc) := by rw [← hX4, m_wrote_ne (by omega), push_chain lb]; exact hb
  have c4 : X4.at X3.top = some (.cells 66 [vs, vh, .bool false, vt]) := by rw [← hX4, m_wrote (by rw [m_push_top]; rfl)]
  have il4 : Ints X4 X2.top vl (fromTo i k) := il.grown fun b o _ h => by
    have := lt_top h
    rw [← hX4, m_wrote_ne (by omega), push_chain this]; exact h
  obtain ⟨d, hd⟩ : ∃ d, cc = [.int .i64 0, vl, .int .u64 t, vp] ++ d := by
    refine ⟨cc.drop 4, ?_⟩
    have := List.take_append_drop 4 cc
    simp only [Nat.zero_mul, List.drop_zero] at hcc
    rw [hcc] at this
    exact this.symm
  have e3 : S.enter.top = S.top := rfl
  have hl3 : (3 : Nat) < cc.length := by rw [hd]; simp
  obtain ⟨S5, hle, hg5, hcase⟩ := leave_any k4 (.tuple #[vl, .int .u64 t, .bool true])
  refine ⟨vl, S5, ?_, hg5, ?_⟩
  · have olv : one vl = true := il.1
    have opv : one vp = true := ip.1
    rw [hd] at b4
    simp only [chart, Option.isSome_some, if_true] at hsee ⊢
    rw [show ((1 : Nat) : Int) = 1 from rfl] at hsee
    rw [hvs] at hX4 c4 hsee
    simp (maxDischargeDepth := 30) [q9, hX1, e3, hwds, c2, hsee, hX4, ovh, ovt, c4, b4, hle]
  · rcases hcase with ⟨hr, rfl⟩ | ⟨_, rfl⟩
    · simp at hr
      obtain ⟨rfl, e⟩ := il4.refs (by have := g2.top; have := k2.top; omega) hr
      rw [e]; exact .nil
    · exact (il4.grown fun b o _ h => by rw [at_left]; exact h).low k2.top
end

end Go.Proofs.Ytepddcemoofmlaa.Fast

/- through: a task's steps, one behind the other. -/
namespace Go.Proofs.Ytepddcemoofmlaa.Fast
open Go Go.Proofs.Ytepddcemoofmlaa.AE
set_option maxRecDepth 10000
set_option linter.unusedSimpArgs false
set_option linter.unusedVariables false

theorem cas2W_word {ws : List Int} {a : Nat} {old second to other : Int} (hw : ∀ x ∈ ws, Word x) (h1 : Word to) (h2 : Word other) : ∀ x ∈ cas2W ws a old second to other, Word x := by
  intro x hx
  unfold cas2W at hx
  split at hx
  · rcases List.mem_or_eq_of_mem_set hx with h | rfl
    · rcases List.mem_or_eq_of_mem_set h with h | rfl
      · exact hw x h
      · exact h1
    · exact h2
  · exact hw x hx

theorem headP_word {s i w : Int} (h : headP s i = some w) : Word w := by
  unfold headP at h
  split at h
  · simp only [Option.some.injEq] at h; subst h; exact ⟨by omega, by omega⟩
  · split at h
    · simp only [Option.some.injEq] at h; exact ⟨by omega, by omega⟩
    · cases h

theorem hideP_word {y key i w : Int} (h : hideP y key i = some w) : Word w := by
  unfold hideP at h
  split at h
  · simp only [Option.some.injEq] at h; subst h; exact word_xor (word_W _) (word_turned key i)
  · cases h

section
variable {P N O : Nat} {k : Int} {ws : List Int} {x : TaskP}

theorem swapR_word {obj again : Int} (hw : ∀ x ∈ ws, Word x) : ∀ y ∈ (swapR P ws x obj again).2.2, Word y := by
  unfold swapR
  split
  · exact hw
  · rename_i w h
    split
    · exact cas2W_word hw (headP_word h) (word_W _)
    · exact hw
theorem swapR_len {obj again : Int} : (swapR P ws x obj again).2.2.length = ws.length := by
  unfold swapR
  split
  · rfl
  · split
    · exact cas2W_len
    · rfl
theorem tieR_word (hw : ∀ x ∈ ws, Word x) : ∀ y ∈ (tieR P N O k ws x).2.2, Word y := by
  unfold tieR
  split
  · exact hw
  · rename_i w h
    intro y hy
    simp only at hy
    split at hy
    · rcases List.mem_or_eq_of_mem_set hy with h2 | rfl
      · exact hw y h2
      · exact hideP_word h
    · exact hw y hy
theorem tieR_len : (tieR P N O k ws x).2.2.length = ws.length := by
  unfold tieR
  split
  · rfl
  · simp only
    split
    · rw [List.length_set]
    · rfl

theorem fastW_word (hw : ∀ x ∈ ws, Word x) : ∀ y ∈ fastW P N O k ws x, Word y := by
  unfold fastW fastR
  split
  · exact hw
  · split
    · exact hw
    · split
      · exact hw
      · split
        · exact swapR_word hw
        · split
          · exact hw
          · split
            · exact tieR_word hw
            · exact swapR_word hw
theorem fastW_len : (fastW P N O k ws x).length = ws.length := by
  unfold fastW fastR
  split
  · rfl
  · split
    · rfl
    · split
      · rfl
      · split
        · exact swapR_len
        · split
          · rfl
          · split
            · exact tieR_len
            · exact swapR_len

open Classical in
/-- A task's steps, as many at most. -/
noncomputable def thruP (P N O : Nat) (k : Int) : Nat → Nat → List Int → TaskP → TaskP × Nat × List Int
  | 0, i, ws, x => (x, i, ws)
  | q + 1, i, ws, x => if fastOk x then (if (fastT P N O k ws x).en = 0 then thruP P N O k q (i + 1) (fastW P N O k ws x) (fastT P N O k ws x) else (fastT P N O k ws x, i + 1, fastW P N O k ws x)) else (x, i, ws)
end

section
variable {n : Nat} {S : St} {bm bw P N O : Nat} {mn cp k : Int} {x0 : TaskP} {ws0 : List Int} {cnt0 : Int}

/-- What stands while through runs. -/
structure ThruSt (S : St) (bm bw P N O : Nat) (mn cp k : Int) (cnt0 : Int) (most : Nat) (R : List Value) (S' : St) (x : TaskP) (ws : List Int) (i : Nat) : Prop where
  len : R.length = 38
  r0 : rd R 0 = .pointer (some ⟨bm, 0, none⟩)
  r3 : rd R 3 = .int .i64 most
  r5 : rd R 5 = .pointer (some ⟨S.top, 0, none⟩)
  r6 : rd R 6 = .pointer (some ⟨S.top + 1, 0, none⟩)
  r8 : rd R 8 = .pointer (some ⟨S.top + 2, 0, none⟩)
  r10 : rd R 10 = .int .i64 i
  aft : Aft (fun j => j = bm ∨ j = bw) S.enter S'
  top : S.top + 2 < S'.top
  ch : S'.at S.top = some (.cells 26 [.int .i64 P, .int .i64 N, .int .i64 O, .int .i64 mn, .int .i64 cp, .int .u64 k])
  tk : S'.at (S.top + 1) = some (.cells 30 x.cells)
  re : ∃ y : TaskP, S'.at (S.top + 2) = some (.cells 30 y.cells)
  mem : ∃ cnt, (cnt0 ≤ cnt ∧ cnt ≤ cnt0 + i) ∧ Mem S' bm bw ws cnt

set_option maxHeartbeats 8000000 in
theorem thruLoop {R : List Value} {S' : St} {most : Nat} (hm : may P N O mn cp = true) (hl0 : 0 < ws0.length) (hl : ws0.length ≤ 4096) (hw0 : ∀ x ∈ ws0, Word x) (hc : 0 ≤ cnt0 ∧ cnt0 < 100000000000000) (hmo : most < 1000) (b1 : bm < S.top) (b2 : bw < S.top)
    (h0 : ThruSt S bm bw P N O mn cp k cnt0 most R S' x0 ws0 0) :
    Leads (evCode (calls table.find (n + 9)) loop8_0 R S') fun o R' S' => R'.length = 38 ∧ ∃ x ws i, thruP P N O k most 0 ws0 x0 = (x, i, ws) ∧
      ((o = .exit 0 ∧ i = most ∧ ThruSt S bm bw P N O mn cp k cnt0 most R' S' x ws i) ∨
      (o = .ret ∧ i ≤ most ∧ rd R' 8 = .pointer (some ⟨S.top + 2, 0, none⟩) ∧ rd R' 9 = .int .i64 i ∧ Aft (fun j => j = bm ∨ j = bw) S.enter S' ∧ S'.at (S.top + 2) = some (.cells 30 x.cells) ∧ ∃ cnt, (cnt0 ≤ cnt ∧ cnt ≤ cnt0 + i) ∧ Mem S' bm bw ws cnt)) := by
  rw [eloop8_0]
  refine loop_goes (fun q R S' => ∃ x ws i, i + q = most ∧ thruP P N O k most 0 ws0 x0 = thruP P N O k q i ws x ∧ ws.length = ws0.length ∧ (∀ x ∈ ws, Word x) ∧ ThruSt S bm bw P N O mn cp k cnt0 most R S' x ws i) _ most (by omega) ⟨x0, ws0, 0, by omega, rfl, rfl, hw0, h0⟩ ?_
  clear h0
  rintro q R S' ⟨x, ws, i, hq, hth, hlen, hw, ⟨hR, r0, r3, r5, r6, r8, r10, haft, htop, hch, htk, ⟨y, hre⟩, ⟨cnt, hcnt, hM⟩⟩⟩
  cases q with
  | zero =>
    obtain rfl : i = most := by omega
    simp (maxDischargeDepth := 30) [hR, r3, r10]
    exact ⟨x, ws, i, hth, rfl, ⟨by simp [hR], by simp [r0], by simp [r3], by simp [r5], by simp [r6], by simp [r8], by simp [r10], haft, htop, hch, htk, ⟨y, hre⟩, ⟨cnt, hcnt, hM⟩⟩⟩
  | succ q =>
    have e1 : i < most := by omega
    have w1 : W .i64 ((i : Int) + 1) = (i : Int) + 1 := W_i64 (by omega)
    by_cases hok : fastOk x
    · obtain ⟨cnt', hcc, S1, q1, h1, a1, t1, m1⟩ := sStep (n := n) hm hM (by omega) (by omega) hw (by omega) hok
      have hw1 := fastW_word (P := P) (N := N) (O := O) (k := k) (x := x) hw
      have hl1 : (fastW P N O k ws x).length = ws.length := fastW_len
      have hth1 : thruP P N O k (q + 1) i ws x = if (fastT P N O k ws x).en = 0 then thruP P N O k q (i + 1) (fastW P N O k ws x) (fastT P N O k ws x) else (fastT P N O k ws x, i + 1, fastW P N O k ws x) := by
        rw [thruP, if_pos hok]
      rw [hth1] at hth
      generalize fastT P N O k ws x = x1 at *
      generalize fastW P N O k ws x = ws1 at *
      obtain ⟨X2, hX2⟩ : ∃ X, (S1.push (.cells 30 zeroT.cells)).wrote S1.top (.cells 30 x1.cells) (.agg ⟨x1.cells⟩) = X := ⟨_, rfl⟩
      have at1 : ∀ j, j < S'.top → j ≠ bm → j ≠ bw → S1.at j = S'.at j := fun j hj h1 h2 => a1.at' j hj (by omega)
      have at2 : ∀ j, j < S1.top → X2.at j = S1.at j := fun j hj => by rw [← hX2, m_wrote_ne (by omega), push_chain hj]
      have c2 : X2.at S1.top = some (.cells 30 x1.cells) := by rw [← hX2, m_wrote (by rw [m_push_top]; rfl)]
      have tk2 : X2.at (S.top + 1) = some (.cells 30 x.cells) := by rw [at2 _ (by omega), at1 _ (by omega) (by omega) (by omega)]; exact htk
      have re2 : X2.at (S.top + 2) = some (.cells 30 y.cells) := by rw [at2 _ (by omega), at1 _ (by omega) (by omega) (by omega)]; exact hre
      have ch2 : X2.at S.top = some (.cells 26 [.int .i64 P, .int .i64 N, .int .i64 O, .int .i64 mn, .int .i64 cp, .int .u64 k]) := by rw [at2 _ (by omega), at1 _ (by omega) (by omega) (by omega)]; exact hch
      have tX2 : X2.top = S1.top + 1 := by rw [← hX2, top_wrote, top_push]
      have k1 : Aft (fun j => j = bm ∨ j = bw) S.enter S1 := haft.trans a1 fun j _ h => h
      have k2 : Aft (fun j => j = bm ∨ j = bw) S.enter X2 := by
        rw [← hX2]; exact (k1.push _).wroteNew _ _ (by have := k1.top; exact this)
      have mX2 : Mem X2 bm bw ws1 cnt' := m1.move (at2 _ (by omega)) (at2 _ (by omega))
      obtain ⟨X3, hX3⟩ : ∃ X, X2.wrote (S.top + 1) (.cells 30 x1.cells) (.agg ⟨x1.cells⟩) = X := ⟨_, rfl⟩
      have k3 : Aft (fun j => j = bm ∨ j = bw) S.enter X3 := by rw [← hX3]; exact k2.wroteNew _ _ (by show S.top ≤ _; omega)
      have at3 : ∀ j, j ≠ S.top + 1 → X3.at j = X2.at j := fun j hj => by rw [← hX3, m_wrote_ne (by omega)]
      have tk3 : X3.at (S.top + 1) = some (.cells 30 x1.cells) := by rw [← hX3, m_wrote (by rw [tk2]; rfl)]
      have re3 : X3.at (S.top + 2) = some (.cells 30 y.cells) := by rw [at3 _ (by omega)]; exact re2
      have ch3 : X3.at S.top = some (.cells 26 [.int .i64 P, .int .i64 N, .int .i64 O, .int .i64 mn, .int .i64 cp, .int .u64 k]) := by rw [at3 _ (by omega)]; exact ch2
      have mX3 : Mem X3 bm bw ws1 cnt' := mX2.move (at3 _ (by omega)) (at3 _ (by omega))
      have tX3 : X3.top = X2.top := by rw [← hX3, top_wrote]
      have hz : zeroT.cells = [.int .i64 0, .int .i64 0, .int .i64 0, .int .i64 0, .int .i64 0, .int .i64 0, .int .i64 0, .int .u64 0, .int .u64 0, .int .u64 0, .int .u64 0, .int .u64 0, .int .i64 0, .int .i64 0, .int .i64 0, .int .i64 0, .int .i64 0] := rfl
      rw [hz] at hX2
      by_cases hen : x1.en = 0
      · rw [if_pos hen] at hth
        have be : (x1.en != 0) = false := by simp [hen]
        have goal1 : ∀ R', ThruSt S bm bw P N O mn cp k cnt0 most R' X3 x1 ws1 (i + 1) → ∃ q', q' < q + 1 ∧ ∃ x ws i, i + q' = most ∧ thruP P N O k most 0 ws0 x0 = thruP P N O k q' i ws x ∧ ws.length = ws0.length ∧ (∀ x ∈ ws, Word x) ∧ ThruSt S bm bw P N O mn cp k cnt0 most R' X3 x ws i := fun R' h =>
          ⟨q, by omega, x1, ws1, i + 1, by omega, hth, by omega, hw1, h⟩
        simp only [TaskP.cells, chart] at *
        simp (maxDischargeDepth := 30) [hR, r0, r3, r5, r6, r8, r10, e1, w1, hch, htk, h1, hX2, c2, tk2, hX3, tk3, be]
        exact goal1 _ ⟨by simp [hR], by simp [r0], by simp [r3], by simp [r5], by simp [r6], by simp [r8], by simp [hR], k3, by omega, ch3, tk3, ⟨y, re3⟩, ⟨cnt', by omega, mX3⟩⟩
      · rw [if_neg hen] at hth
        have be : (x1.en != 0) = true := by simp [hen]
        have k4 : Aft (fun j => j = bm ∨ j = bw) S.enter _ := k3.wroteNew (b := S.top + 2) (.cells 30 x1.cells) (.agg ⟨x1.cells⟩) (by show S.top ≤ _; omega)
        have r4 : (X3.wrote (S.top + 2) (.cells 30 x1.cells) (.agg ⟨x1.cells⟩)).at (S.top + 2) = some (.cells 30 x1.cells) := m_wrote (by rw [re3]; rfl)
        have m4 : Mem (X3.wrote (S.top + 2) (.cells 30 x1.cells) (.agg ⟨x1.cells⟩)) bm bw ws1 cnt' := mX3.wrote _ _ (by omega) (by omega)
        have goal1 : ∀ (oo : Out) (R' : List Value) (X : St), oo = .ret → X = X3.wrote (S.top + 2) (.cells 30 x1.cells) (.agg ⟨x1.cells⟩) → R'.length = 38 → rd R' 8 = .pointer (some ⟨S.top + 2, 0, none⟩) → rd R' 9 = .int .i64 ((i + 1 : Nat) : Int) → R'.length = 38 ∧ ∃ x ws i, thruP P N O k most 0 ws0 x0 = (x, i, ws) ∧
          ((oo = .exit 0 ∧ i = most ∧ ThruSt S bm bw P N O mn cp k cnt0 most R' X x ws i) ∨
          (oo = .ret ∧ i ≤ most ∧ rd R' 8 = .pointer (some ⟨S.top + 2, 0, none⟩) ∧ rd R' 9 = .int .i64 i ∧ Aft (fun j => j = bm ∨ j = bw) S.enter X ∧ X.at (S.top + 2) = some (.cells 30 x.cells) ∧ ∃ cnt, (cnt0 ≤ cnt ∧ cnt ≤ cnt0 + i) ∧ Mem X bm bw ws cnt)) := fun oo R' X eo eX e1 e2 e3 => by
          subst eX
          exact ⟨e1, x1, ws1, i + 1, hth, .inr ⟨eo, by omega, e2, e3, k4, r4, cnt', by omega, m4⟩⟩
        simp only [TaskP.cells, chart] at *
        simp (maxDischargeDepth := 30) [-round_ret, hR, r0, r3, r5, r6, r8, r10, e1, w1, hch, htk, h1, hX2, c2, tk2, hX3, tk3, re3, be]
        refine round_ret.2 ?_
        refine goal1 _ _ _ rfl rfl ?_ ?_ ?_ <;> simp [hR, r8]
    · have h1 := sStepBad (n := n) (k := k) (S := S') hm hM (by omega) hok
      have hth1 : thruP P N O k (q + 1) i ws x = (x, i, ws) := by rw [thruP, if_neg hok]
      rw [hth1] at hth
      obtain ⟨X2, hX2⟩ : ∃ X, (S'.push (.cells 30 zeroT.cells)).wrote S'.top (.cells 30 zeroT.cells) (.agg ⟨zeroT.cells⟩) = X := ⟨_, rfl⟩
      have at2 : ∀ j, j < S'.top → X2.at j = S'.at j := fun j hj => by rw [← hX2, m_wrote_ne (by omega), push_chain hj]
      have tk2 : X2.at (S.top + 1) = some (.cells 30 x.cells) := by rw [at2 _ (by omega)]; exact htk
      have re2 : X2.at (S.top + 2) = some (.cells 30 y.cells) := by rw [at2 _ (by omega)]; exact hre
      have k2 : Aft (fun j => j = bm ∨ j = bw) S.enter X2 := by
        rw [← hX2]; exact (haft.push _).wroteNew _ _ (by have := haft.top; exact this)
      have mX2 : Mem X2 bm bw ws cnt := hM.move (at2 _ (by omega)) (at2 _ (by omega))
      have k4 : Aft (fun j => j = bm ∨ j = bw) S.enter _ := k2.wroteNew (b := S.top + 2) (.cells 30 x.cells) (.agg ⟨x.cells⟩) (by show S.top ≤ _; omega)
      have r4 : (X2.wrote (S.top + 2) (.cells 30 x.cells) (.agg ⟨x.cells⟩)).at (S.top + 2) = some (.cells 30 x.cells) := m_wrote (by rw [re2]; rfl)
      have m4 : Mem (X2.wrote (S.top + 2) (.cells 30 x.cells) (.agg ⟨x.cells⟩)) bm bw ws cnt := mX2.wrote _ _ (by omega) (by omega)
      have hz : zeroT.cells = [.int .i64 0, .int .i64 0, .int .i64 0, .int .i64 0, .int .i64 0, .int .i64 0, .int .i64 0, .int .u64 0, .int .u64 0, .int .u64 0, .int .u64 0, .int .u64 0, .int .i64 0, .int .i64 0, .int .i64 0, .int .i64 0, .int .i64 0] := rfl
      rw [hz] at hX2 h1
      have goal1 : ∀ (oo : Out) (R' : List Value) (X : St), oo = .ret → X = X2.wrote (S.top + 2) (.cells 30 x.cells) (.agg ⟨x.cells⟩) → R'.length = 38 → rd R' 8 = .pointer (some ⟨S.top + 2, 0, none⟩) → rd R' 9 = .int .i64 i → R'.length = 38 ∧ ∃ x ws i, thruP P N O k most 0 ws0 x0 = (x, i, ws) ∧
          ((oo = .exit 0 ∧ i = most ∧ ThruSt S bm bw P N O mn cp k cnt0 most R' X x ws i) ∨
          (oo = .ret ∧ i ≤ most ∧ rd R' 8 = .pointer (some ⟨S.top + 2, 0, none⟩) ∧ rd R' 9 = .int .i64 i ∧ Aft (fun j => j = bm ∨ j = bw) S.enter X ∧ X.at (S.top + 2) = some (.cells 30 x.cells) ∧ ∃ cnt, (cnt0 ≤ cnt ∧ cnt ≤ cnt0 + i) ∧ Mem X bm bw ws cnt)) := fun oo R' X eo eX e1 e2 e3 => by
        subst eX
        exact ⟨e1, x, ws, i, hth, .inr ⟨eo, by omega, e2, e3, k4, r4, cnt, by omega, m4⟩⟩
      simp only [TaskP.cells, chart] at *
      simp (maxDischargeDepth := 30) [-round_ret, hR, r0, r3, r5, r6, r8, r10, e1, w1, hch, htk, h1, hX2, tk2, re2]
      refine round_ret.2 ?_
      refine goal1 _ _ _ rfl rfl ?_ ?_ ?_ <;> simp [hR, r8]

set_option maxHeartbeats 8000000 in
theorem sThrough {most : Nat} (hm : may P N O mn cp = true) (hM : Mem S bm bw ws0 cnt0) (hl0 : 0 < ws0.length) (hl : ws0.length ≤ 4096) (hw0 : ∀ x ∈ ws0, Word x) (hc : 0 ≤ cnt0 ∧ cnt0 < 100000000000000) (hmo : most < 1000) :
    ∃ cnt, (cnt0 ≤ cnt ∧ cnt ≤ cnt0 + most) ∧ EndsIn (calls table.find (n + 10) 8 [.pointer (some ⟨bm, 0, none⟩), chart P N O mn cp k, .agg x0.cells.toArray, .int .i64 most] S) (.tuple #[.agg (thruP P N O k most 0 ws0 x0).1.cells.toArray, .int .i64 (thruP P N O k most 0 ws0 x0).2.1]) fun S' =>
      Aft (fun j => j = bm ∨ j = bw) S S' ∧ S'.top = S.top ∧ Mem S' bm bw (thruP P N O k most 0 ws0 x0).2.2 cnt := by
  have b1 := hM.lt1
  have b2 := hM.lt2
  refine call_rd (x := fun y => ∃ cnt, (cnt0 ≤ cnt ∧ cnt ≤ cnt0 + most) ∧ EndsIn y (.tuple #[.agg (thruP P N O k most 0 ws0 x0).1.cells.toArray, .int .i64 (thruP P N O k most 0 ws0 x0).2.1]) fun S' =>
      Aft (fun j => j = bm ∨ j = bw) S S' ∧ S'.top = S.top ∧ Mem S' bm bw (thruP P N O k most 0 ws0 x0).2.2 cnt) (args := [.pointer (some ⟨bm, 0, none⟩), chart P N O mn cp k, .agg x0.cells.toArray, .int .i64 most]) b8 (by simp) fun R hR hargs => ?_
  have r0 : rd R 0 = .pointer (some ⟨bm, 0, none⟩) := hargs 0 (by simp)
  have r1 : rd R 1 = chart P N O mn cp k := hargs 1 (by simp)
  have r2 : rd R 2 = .agg x0.cells.toArray := hargs 2 (by simp)
  have r3 : rd R 3 = .int .i64 most := hargs 3 (by simp)
  clear hargs
  obtain ⟨X1, hX1⟩ : ∃ X, S.enter.push (.cells 26 [.int .i64 P, .int .i64 N, .int .i64 O, .int .i64 mn, .int .i64 cp, .int .u64 k]) = X := ⟨_, rfl⟩
  obtain ⟨X2, hX2⟩ : ∃ X, X1.push (.cells 30 x0.cells) = X := ⟨_, rfl⟩
  obtain ⟨X3, hX3⟩ : ∃ X, X2.push (.cells 30 zeroT.cells) = X := ⟨_, rfl⟩
  have e3 : S.enter.top = S.top := rfl
  have t1 : X1.top = S.top + 1 := by rw [← hX1, top_push, top_enter]
  have t2 : X2.top = S.top + 2 := by rw [← hX2, top_push, t1]
  have t3 : X3.top = S.top + 3 := by rw [← hX3, top_push, t2]
  have m3 : Mem X3 bm bw ws0 cnt0 := by rw [← hX3, ← hX2, ← hX1]; exact ((Mem.push (S := S.enter) hM _).push _).push _
  have c1 : X3.at S.top = some (.cells 26 [.int .i64 P, .int .i64 N, .int .i64 O, .int .i64 mn, .int .i64 cp, .int .u64 k]) := by rw [← hX3, push_chain (by omega), ← hX2, push_chain (by omega), ← hX1]; exact m_push_top
  have c2 : X3.at (S.top + 1) = some (.cells 30 x0.cells) := by rw [← hX3, push_chain (by omega), ← hX2, ← t1]; exact m_push_top
  have c3 : X3.at (S.top + 2) = some (.cells 30 zeroT.cells) := by rw [← hX3, ← t2]; exact m_push_top
  have k3 : Aft (fun j => j = bm ∨ j = bw) S.enter X3 := by rw [← hX3, ← hX2, ← hX1]; exact (((Aft.refl _ S.enter).push _).push _).push _
  have hz : zeroT.cells = [.int .i64 0, .int .i64 0, .int .i64 0, .int .i64 0, .int .i64 0, .int .i64 0, .int .i64 0, .int .u64 0, .int .u64 0, .int .u64 0, .int .u64 0, .int .u64 0, .int .i64 0, .int .i64 0, .int .i64 0, .int .i64 0, .int .i64 0] := rfl
  have goal2 : ∀ R2 : List Value, ThruSt S bm bw P N O mn cp k cnt0 most R2 X3 x0 ws0 0 → Leads (evCode (calls table.find (n + 9)) loop8_0 R2 X3) fun o R' S' => R'.length = 38 ∧ ∃ x ws i, thruP P N O k most 0 ws0 x0 = (x, i, ws) ∧
      ((o = .exit 0 ∧ i = most ∧ ThruSt S bm bw P N O mn cp k cnt0 most R' S' x ws i) ∨
      (o = .ret ∧ i ≤ most ∧ rd R' 8 = .pointer (some ⟨S.top + 2, 0, none⟩) ∧ rd R' 9 = .int .i64 i ∧ Aft (fun j => j = bm ∨ j = bw) S.enter S' ∧ S'.at (S.top + 2) = some (.cells 30 x.cells) ∧ ∃ cnt, (cnt0 ≤ cnt ∧ cnt ≤ cnt0 + i) ∧ Mem S' bm bw ws cnt)) := fun R2 h => thruLoop hm hl0 hl hw0 hc hmo b1 b2 h
  have mk : ∀ R2 : List Value, R2.length = 38 → rd R2 0 = .pointer (some ⟨bm, 0, none⟩) → rd R2 3 = .int .i64 most → rd R2 5 = .pointer (some ⟨S.top, 0, none⟩) → rd R2 6 = .pointer (some ⟨S.top + 1, 0, none⟩) → rd R2 8 = .pointer (some ⟨S.top + 2, 0, none⟩) → rd R2 10 = .int .i64 0 → ThruSt S bm bw P N O mn cp k cnt0 most R2 X3 x0 ws0 0 := fun R2 a b c d e f g =>
    ⟨a, b, c, d, e, f, g, k3, by omega, c1, c2, ⟨zeroT, c3⟩, cnt0, by omega, m3⟩
  have fin1 : ∀ (x : TaskP) (ws : List Int) (cnt : Int) (F : St), Aft (fun j => j = bm ∨ j = bw) S.enter F → Mem F bm bw ws cnt → EndsIn (some (leave S F (.tuple #[.agg x.cells.toArray, .int .i64 0]))) (.tuple #[.agg x.cells.toArray, .int .i64 0]) fun S' => Aft (fun j => j = bm ∨ j = bw) S S' ∧ S'.top = S.top ∧ Mem S' bm bw ws cnt := fun x ws cnt F k m =>
    k.ends (by simp [TaskP.cells]) fun S' k2 k3 k4 => ⟨k2, k3, m.move (k4 _ b1) (k4 _ b2)⟩
  rw [hz] at hX3
  have u1 : x0.cells = [.int .i64 x0.job, .int .i64 x0.cpu, .int .i64 x0.pc, .int .i64 x0.en, .int .i64 x0.want, .int .i64 x0.slab, .int .i64 x0.obj, .int .u64 x0.h, .int .u64 x0.t, .int .u64 x0.f, .int .u64 x0.k, .int .u64 x0.n, .int .i64 x0.last, .int .i64 x0.many, .int .i64 x0.to, .int .i64 x0.bk, .int .i64 x0.fo] := rfl
  rw [u1] at hX2 r2
  unfold chart at r1
  simp (maxDischargeDepth := 30) [hR, r0, r1, r2, r3, hX1, hX2, hX3, e3, t1, t2]
  generalize hR2 : wr (wr _ 9 _) 10 _ = R2
  obtain ⟨o, R3, S3, he, hR3, x, ws, i, hth, hcase⟩ := goal2 R2 (mk R2 (by simp [← hR2, hR]) (by simp [← hR2, r0]) (by simp [← hR2, r3]) (by simp [← hR2, hR]) (by simp [← hR2, hR]) (by simp [← hR2, hR]) (by simp [← hR2, hR]))
  rw [he, hth]
  rcases hcase with ⟨rfl, rfl, ⟨g0, g1, g3, g5, g6, g8, g10, gaft, gtop, gch, gtk, ⟨y, gre⟩, ⟨cnt, gc, gm⟩⟩⟩ | ⟨rfl, hi, g8, g9, gaft, gre, cnt, gc, gm⟩
  · refine ⟨cnt, gc, ?_⟩
    have k4 : Aft (fun j => j = bm ∨ j = bw) S.enter _ := gaft.wroteNew (b := S.top + 2) (.cells 30 x.cells) (.agg ⟨x.cells⟩) (by show S.top ≤ _; omega)
    have m4 : Mem (S3.wrote (S.top + 2) (.cells 30 x.cells) (.agg ⟨x.cells⟩)) bm bw ws cnt := gm.wrote _ _ (by omega) (by omega)
    have fin := k4.ends (v := .tuple #[.agg x.cells.toArray, .int .i64 i]) (P := fun S' => Aft (fun j => j = bm ∨ j = bw) S S' ∧ S'.top = S.top ∧ Mem S' bm bw ws cnt) (by simp [TaskP.cells]) fun S' k2 k3 k4 => ⟨k2, k3, m4.move (k4 _ b1) (k4 _ b2)⟩
    simp only [TaskP.cells] at gtk gre fin ⊢
    simp (maxDischargeDepth := 30) [hR3, g3, g6, g8, gtk, gre]
    exact fin
  · refine ⟨cnt, by omega, ?_⟩
    have fin := gaft.ends (v := .tuple #[.agg x.cells.toArray, .int .i64 i]) (P := fun S' => Aft (fun j => j = bm ∨ j = bw) S S' ∧ S'.top = S.top ∧ Mem S' bm bw ws cnt) (by simp [TaskP.cells]) fun S' k2 k3 k4 => ⟨k2, k3, gm.move (k4 _ b1) (k4 _ b2)⟩
    simp only [TaskP.cells] at gre fin ⊢
    simp (maxDischargeDepth := 30) [hR3, g8, g9, gre]
    exact fin
end

end Go.Proofs.Ytepddcemoofmlaa.Fast

/- stocked: a core of one processor and one slab. -/
namespace Go.Proofs.Ytepddcemoofmlaa.Fast
open Go Go.Proofs.Ytepddcemoofmlaa.AE
set_option maxRecDepth 10000
set_option linter.unusedSimpArgs false
set_option linter.unusedVariables false

section
variable {n : Nat}

/-- What stands while stocked lays links. -/
structure StkSt (S : St) (bm bw bl m o : Nat) (key turn : Int) (R : List Value) (S' : St) (i : Nat) : Prop where
  len : R.length = 99
  r0 : rd R 0 = .int .i64 m
  r1 : rd R 1 = .int .i64 o
  r3 : rd R 3 = .int .u64 turn
  r9 : rd R 9 = .pointer (some ⟨S.top, 0, none⟩)
  r10 : rd R 10 = .pointer (some ⟨S.top + 1, 0, none⟩)
  r11 : rd R 11 = .pointer (some ⟨bm, 0, none⟩)
  r13 : rd R 13 = .slice (some ⟨bl, 0, none⟩) (max m 1) 0
  r15 : rd R 15 = .int .i64 i
  kept : Kept S S'
  top : S.top + 1 < S'.top
  re : S'.at S.top = some (.cells 26 [.int .i64 0, .int .i64 0, .int .i64 0, .int .i64 0, .int .i64 0, .int .u64 0])
  ch : S'.at (S.top + 1) = some (.cells 26 [.int .i64 1, .int .i64 1, .int .i64 o, .int .i64 0, .int .i64 0, .int .u64 key])
  row : S'.at bl = some (.cells 22 (((List.range (max m 1)).map (freshF (max m 1) (keyI key 0))).map (Value.int .u64)))
  mem : ∃ cnt, (0 ≤ cnt ∧ cnt ≤ i) ∧ Mem S' bm bw (layW o (fun j => if j < i then freshF m (keyI key 0) j else 0) 0 0 0) cnt

set_option maxHeartbeats 8000000 in
theorem stkLoop {S : St} {bm bw bl m o : Nat} {key turn : Int} {R : List Value} {S' : St} (h1 : 1 ≤ o) (ho : o ≤ 16) (hmo : m ≤ o) (b1 : S.top + 1 < bm) (b2 : S.top + 1 < bw) (b3 : S.top + 1 < bl) (b4 : bl ≠ bm) (b5 : bl ≠ bw)
    (h0 : StkSt S bm bw bl m o key turn R S' 0) :
    Leads (evCode (calls table.find (n + 7)) loop7_0 R S') fun oo R' S' => oo = .exit 0 ∧ StkSt S bm bw bl m o key turn R' S' m := by
  rw [eloop7_0]
  refine loop_goes (fun q R S' => ∃ i, i + q = m ∧ StkSt S bm bw bl m o key turn R S' i) _ m (by omega) ⟨0, by omega, h0⟩ ?_
  clear h0
  have hm := may11 h1 ho
  rintro q R S' ⟨i, hq, ⟨hR, r0, r1, r3, r9, r10, r11, r13, r15, hk, ht, hre, hch, hrow, ⟨cnt, hc, hM⟩⟩⟩
  cases q with
  | zero =>
    obtain rfl : i = m := by omega
    simp (maxDischargeDepth := 30) [hR, r0, r15]
    exact ⟨by simp [hR], by simp [r0], by simp [r1], by simp [r3], by simp [r9], by simp [r10], by simp [r11], by simp [r13], by simp [r15], hk, ht, hre, hch, hrow, ⟨cnt, hc, hM⟩⟩
  | succ q =>
    have e1 : i < m := by omega
    have e2 : i < max m 1 := by omega
    have hmax : max m 1 = m := by omega
    rw [hmax] at hrow r13
    have w1 : W .i64 ((i : Int) + 1) = (i : Int) + 1 := W_i64 (by omega)
    have hlk := fun (k : Nat) (S : St) => @vLink k ((1 : Nat) : Int) ((1 : Nat) : Int) o 0 0 key 0 i S hm (by omega) (by omega) (by omega) (by omega)
    obtain ⟨A, hA⟩ : ∃ A : Nat, A = 12 + i := ⟨_, rfl⟩
    have e4 : 4 * ((1 : Nat) : Int) + 4 + 4 * ((1 : Nat) : Int) + 0 * (o : Int) + (i : Int) = (A : Int) := by omega
    rw [e4] at hlk
    unfold chart at hlk
    rw [show ((1 : Nat) : Int) = 1 from rfl] at hlk
    have hg : ∀ h : i < m, freshF m (keyI key 0) i = freshF m (keyI key 0) i := fun _ => rfl
    obtain ⟨S1, q1, hst, a1, t1, m1⟩ := sStore (n := n + 4) (a := A) (x := freshF m (keyI key 0) i) hM (by rw [layW_len]; omega) (by rw [layW_len]; omega) (W_i64 (by omega))
    have hset : (layW o (fun j => if j < i then freshF m (keyI key 0) j else 0) 0 0 0).set (12 + i) (freshF m (keyI key 0) i) = layW o (fun j => if j < i + 1 then freshF m (keyI key 0) j else 0) 0 0 0 := layW_setL (by simp) fun j hj => by
      have : (j < i + 1) = (j < i) := by simp; omega
      simp only [this]
    rw [hA, hset] at m1
    have at1 : ∀ j, j < S'.top → j ≠ bm → j ≠ bw → S1.at j = S'.at j := fun j hj h1 h2 => a1.at' j hj (by omega)
    have lb := lt_top hrow
    simp (maxDischargeDepth := 30) [hR, r0, r10, r11, r13, r15, e1, w1, hch, hlk, hrow, hst]
    refine ⟨q, by omega, i + 1, by omega, ⟨by simp [hR], by simp [r0], by simp [r1], by simp [r3], by simp [r9], by simp [r10], by simp [r11], by simp [r13, hmax], by simp [hR], Aft.kept a1 hk (fun d hd hlt => by omega), by omega, by rw [at1 _ (by omega) (by omega) (by omega)]; exact hre, by rw [at1 _ (by omega) (by omega) (by omega)]; exact hch, by rw [at1 _ lb (by omega) (by omega), hmax]; exact hrow, ⟨cnt + 1, by omega, m1⟩⟩⟩

set_option maxHeartbeats 8000000 in
theorem sStocked {S : St} {m o : Nat} {key turn : Int} (ho : o = 16 ∨ o = 10) (hmo : m ≤ o) (wt : Word turn) :
    ∃ bm bw S' cnt, calls table.find (n + 8) 7 [.int .i64 m, .int .i64 o, .int .u64 key, .int .u64 turn] S = some (.tuple #[.pointer (some ⟨bm, 0, none⟩), chart 1 1 o 0 0 key], S', true) ∧ Grown S S' ∧ S.top ≤ bm ∧ S.top ≤ bw ∧ (0 ≤ cnt ∧ cnt ≤ 100) ∧
      Mem S' bm bw (layW o (fun j => if j < m then freshF m (keyI key 0) j else 0) (headW 0 m) turn (196608 + 257 * o)) cnt := by
  have hm := may11 (o := o) (by omega) (by omega)
  refine call_rd (x := fun y => ∃ bm bw S' cnt, y = some (.tuple #[.pointer (some ⟨bm, 0, none⟩), chart 1 1 o 0 0 key], S', true) ∧ Grown S S' ∧ S.top ≤ bm ∧ S.top ≤ bw ∧ (0 ≤ cnt ∧ cnt ≤ 100) ∧
      Mem S' bm bw (layW o (fun j => if j < m then freshF m (keyI key 0) j else 0) (headW 0 m) turn (196608 + 257 * o)) cnt) (args := [.int .i64 m, .int .i64 o, .int .u64 key, .int .u64 turn]) b7 (by simp) fun R hR hargs => ?_
  have r0 : rd R 0 = .int .i64 m := hargs 0 (by simp)
  have r1 : rd R 1 = .int .i64 o := hargs 1 (by simp)
  have r2 : rd R 2 = .int .u64 key := hargs 2 (by simp)
  have r3 : rd R 3 = .int .u64 turn := hargs 3 (by simp)
  clear hargs
  have e3 : S.enter.top = S.top := rfl
  obtain ⟨X1, hX1⟩ : ∃ X, S.enter.push (.cells 26 [.int .i64 0, .int .i64 0, .int .i64 0, .int .i64 0, .int .i64 0, .int .u64 0]) = X := ⟨_, rfl⟩
  obtain ⟨X2, hX2⟩ : ∃ X, X1.push (.cells 26 [.int .i64 0, .int .i64 0, .int .i64 0, .int .i64 0, .int .i64 0, .int .u64 0]) = X := ⟨_, rfl⟩
  have t1 : X1.top = S.top + 1 := by rw [← hX1, top_push, top_enter]
  have t2 : X2.top = S.top + 2 := by rw [← hX2, top_push, t1]
  have p2 : X2.at (S.top + 1) = some (.cells 26 [.int .i64 0, .int .i64 0, .int .i64 0, .int .i64 0, .int .i64 0, .int .u64 0]) := by rw [← hX2, ← t1]; exact m_push_top
  obtain ⟨X3, hX3⟩ : ∃ X, X2.wrote (S.top + 1) (.cells 26 [.int .i64 1, .int .i64 1, .int .i64 o, .int .i64 0, .int .i64 0, .int .u64 key]) (.agg ⟨[.int .i64 1, .int .i64 1, .int .i64 o, .int .i64 0, .int .i64 0, .int .u64 key]⟩) = X := ⟨_, rfl⟩
  have t3 : X3.top = S.top + 2 := by rw [← hX3, top_wrote, t2]
  have k3 : Kept S X3 := by rw [← hX3, ← hX2, ← hX1]; exact (((Kept.enter S).push _).push _).wrote _ _ (by omega)
  have c1 : X3.at S.top = some (.cells 26 [.int .i64 0, .int .i64 0, .int .i64 0, .int .i64 0, .int .i64 0, .int .u64 0]) := by rw [← hX3, m_wrote_ne (by omega), ← hX2, push_chain (by omega), ← hX1]; exact m_push_top
  have c2 : X3.at (S.top + 1) = some (.cells 26 [.int .i64 1, .int .i64 1, .int .i64 o, .int .i64 0, .int .i64 0, .int .u64 key]) := by rw [← hX3, m_wrote (by rw [p2]; rfl)]
  have hwo := fun (k : Nat) (S : St) => @vWords k ((1 : Nat) : Int) ((1 : Nat) : Int) o 0 0 key S hm
  obtain ⟨L, hL⟩ : ∃ L : Nat, L = 12 + o := ⟨_, rfl⟩
  have e4 : 4 * ((1 : Nat) : Int) + 4 + 4 * ((1 : Nat) : Int) + ((1 : Nat) : Int) * (o : Int) = (L : Int) := by omega
  rw [e4] at hwo
  unfold chart at hwo
  rw [show ((1 : Nat) : Int) = 1 from rfl] at hwo
  obtain ⟨X4, hnew, g4, t4, m4⟩ := sNewMem (n := n + 6) (S := X3) (m := L) (by omega) (by omega)
  have hkey := fun (k : Nat) (S : St) => @gKey k S 1 1 o 0 0 key 0
  unfold chart at hkey
  obtain ⟨X5, hfr, g5, p5⟩ := sFresh (n := n + 4) (S := X4) (m := max m 1) (key := keyI key 0) (by omega) (by omega)
  have hz : List.replicate (12 + o) (0 : Int) = layW o (fun j => if j < 0 then freshF m (keyI key 0) j else 0) 0 0 0 := by
    refine List.ext_getElem? fun j => ?_
    by_cases hj : j < 12 + o
    · rw [List.getElem?_replicate, if_pos hj]
      unfold layW
      by_cases h12 : j < 12
      · rw [List.getElem?_append_left (by simpa using h12)]
        match j, h12 with
        | 0, _ => rfl
        | 1, _ => rfl
        | 2, _ => rfl
        | 3, _ => rfl
        | 4, _ => rfl
        | 5, _ => rfl
        | 6, _ => rfl
        | 7, _ => rfl
        | 8, _ => rfl
        | 9, _ => rfl
        | 10, _ => rfl
        | 11, _ => rfl
      · rw [List.getElem?_append_right (by simp; omega)]
        have : j - 12 < o := by omega
        simp [this]
    · rw [List.getElem?_eq_none (by simp; omega), List.getElem?_eq_none (by rw [layW_len]; omega)]
  rw [hL, hz] at m4
  have lt4 : X4.top = S.top + 4 := by omega
  have m5 : Mem X5 (X3.top + 1) X3.top (layW o (fun j => if j < 0 then freshF m (keyI key 0) j else 0) 0 0 0) 0 := m4.move (Grown.at' g5 _ (by omega)) (Grown.at' g5 _ (by omega))
  have k5 : Kept S X5 := Grown.kept g5 S (Grown.kept g4 S k3)
  have c15 := g5.same (g4.same c1)
  have c25 := g5.same (g4.same c2)
  have c24 := g4.same c2
  have lt5 := lt_top p5
  have hmaxm : max (m : Int) 1 = ((max m 1 : Nat) : Int) := by omega
  have hmax1 : (if (1 : Int) > (m : Int) then (1 : Int) else (m : Int)) = ((max m 1 : Nat) : Int) := by split <;> omega
  have hmax2 : (if (m : Int) < 1 then (1 : Int) else (m : Int)) = ((max m 1 : Nat) : Int) := by split <;> omega
  have hmax3 : ¬ ((L : Int) < 1) := by omega
  obtain ⟨M, hM⟩ : ∃ M : Nat, M = max m 1 := ⟨_, rfl⟩
  rw [← hM] at hmax2 hfr p5
  simp (maxDischargeDepth := 30) [hR, r0, r1, r2, r3, hX1, hX2, e3, t1, p2, hX3, c2, hwo, hnew, c24, hkey, hmax3, hmax2, hfr]
  generalize hR2 : wr (wr _ _ _) 15 _ = R2
  have hX3t : X3.top + 1 = S.top + 3 := by omega
  rw [hM] at p5
  obtain ⟨o1, R3, S3, he, rfl, ⟨g0, g1, g2, g3, g9, g10, g11, g13, g15, gk, gt, gre, gch, grow, ⟨cnt, gc, gm⟩⟩⟩ := stkLoop (n := n) (S := S) (bm := X3.top + 1) (bw := X3.top) (bl := X4.top) (m := m) (o := o) (key := key) (turn := turn) (R := R2) (S' := X5) (by omega) (by omega) hmo (by omega) (by omega) (by omega) (by omega) (by omega)
    ⟨by simp [← hR2, hR], by simp [← hR2, r0], by simp [← hR2, r1], by simp [← hR2, r3], by simp [← hR2, hR], by simp [← hR2, hR], by simp [← hR2, hR], by simp [← hR2, hR, hM], by simp [← hR2, hR], k5, by omega, c15, c25, p5, ⟨0, by omega, m5⟩⟩
  rw [he]
  have hpk := fun (k : Nat) (S : St) => @sPackFull k S o ho
  have hhd := fun (k : Nat) (S : St) => @vHead k ((1 : Nat) : Int) ((1 : Nat) : Int) o 0 0 key 0 S hm (by omega) (by omega)
  have hfi := fun (k : Nat) (S : St) => @vFirst k ((1 : Nat) : Int) ((1 : Nat) : Int) o 0 0 key 0 S hm (by omega) (by omega)
  unfold chart at hhd hfi
  rw [show 4 * (0 : Int) = ((0 : Nat) : Int) from rfl, show ((1 : Nat) : Int) = 1 from rfl] at hhd
  rw [show 4 * ((1 : Nat) : Int) + 4 + 4 * 0 = 8 from rfl, show ((1 : Nat) : Int) = 1 from rfl] at hfi
  have hch := fun (k : Nat) (S : St) => @sHead k S 0 (objW 0 m)
  rw [headP_of (by omega)] at hch
  have w9 : W .i64 (9 : Int) = 9 := W_i64 (by omega)
  have w1' : W .i64 (1 : Int) = 1 := W_i64 (by omega)
  have ll : ∀ f h t k, (layW o f h t k).length = 12 + o := fun f h t k => layW_len
  obtain ⟨Y1, y1, hy1, a1, u1, n1⟩ := sStore (n := n + 4) (a := 0) (x := headW 0 m) gm (by rw [ll]; omega) (by rw [ll]; omega) (W_i64 (by omega))
  rw [layW_set0] at n1
  obtain ⟨Y2, y2, hy2, a2, u2, n2⟩ := sStore (n := n + 4) (a := 1) (x := turn) n1 (by rw [ll]; omega) (by rw [ll]; omega) (W_i64 (by omega))
  rw [layW_set1] at n2
  obtain ⟨Y3, y3, hy3, a3, u3, n3⟩ := sStore (n := n + 4) (a := 9) (x := 196608 + 257 * o) n2 (by rw [ll]; omega) (by rw [ll]; omega) (W_i64 (by omega))
  rw [layW_set9] at n3
  rw [show ((0 : Nat) : Int) = 0 from rfl] at hy1 hhd
  rw [show ((1 : Nat) : Int) = 1 from rfl] at hy2
  rw [show ((9 : Nat) : Int) = 9 from rfl] at hy3
  have away : ∀ {A B : St}, Aft (fun j => j = X3.top + 1 ∨ j = X3.top) A B → S.top + 1 < A.top → (B.at S.top = A.at S.top) ∧ B.at (S.top + 1) = A.at (S.top + 1) := fun {A B} h hl => ⟨h.at' _ (by omega) (by omega), h.at' _ hl (by omega)⟩
  have v1 := away a1 gt
  have v2 := away a2 (by omega)
  have v3 := away a3 (by omega)
  have ch1 := v1.2.trans gch
  have ch2 := v2.2.trans ch1
  have ch3 := v3.2.trans ch2
  have re3 := v3.1.trans (v2.1.trans (v1.1.trans gre))
  have kY : Kept S Y3 := Aft.kept a3 (Aft.kept a2 (Aft.kept a1 gk fun d hd _ => by omega) fun d hd _ => by omega) fun d hd _ => by omega
  have kF := kY.wrote (b := S.top) (.cells 26 [.int .i64 1, .int .i64 1, .int .i64 o, .int .i64 0, .int .i64 0, .int .u64 key]) (.agg ⟨[.int .i64 1, .int .i64 1, .int .i64 o, .int .i64 0, .int .i64 0, .int .u64 key]⟩) (Nat.le_refl _)
  have mF := n3.wrote (b := S.top) (.cells 26 [.int .i64 1, .int .i64 1, .int .i64 o, .int .i64 0, .int .i64 0, .int .u64 key]) (.agg ⟨[.int .i64 1, .int .i64 1, .int .i64 o, .int .i64 0, .int .i64 0, .int .u64 key]⟩) (by omega) (by omega)
  have hl := leave_new kF (v := .tuple #[.pointer (some ⟨X3.top + 1, 0, none⟩), chart 1 1 o 0 0 key]) (by simp [chart]; omega)
  refine ⟨X3.top + 1, X3.top, S.left (Y3.wrote S.top (.cells 26 [.int .i64 1, .int .i64 1, .int .i64 o, .int .i64 0, .int .i64 0, .int .u64 key]) (.agg ⟨[.int .i64 1, .int .i64 1, .int .i64 o, .int .i64 0, .int .i64 0, .int .u64 key]⟩)), ?_, Grown.left kF, by omega, by omega, cnt + 1 + 1 + 1, by omega, ⟨n3.1, by rw [at_left]; exact mF.2.1, by rw [at_left]; exact mF.2.2⟩⟩
  simp only [chart, wordOf, Option.getD_some, Option.isSome_some, if_true] at hl hch ⊢
  by_cases hm0 : m = 0
  · have b0 : ((m : Int) == 0) = true := by simp [hm0]
    have hob : objW 0 m = -1 := by unfold objW; rw [if_neg (by omega)]
    rw [hob] at hch
    simp (maxDischargeDepth := 30) [g0, g1, g2, g3, g9, g10, g11, b0, hch, hpk, gch, hhd, hy1, ch1, w1', hy2, ch2, hfi, w9, hy3, ch3, re3, hl]
  · have b0 : ((m : Int) == 0) = false := by simp [hm0]
    have hob : objW 0 m = 0 := by unfold objW; rw [if_pos (by omega)]; rfl
    rw [hob] at hch
    simp (maxDischargeDepth := 30) [g0, g1, g2, g3, g9, g10, g11, b0, hch, hpk, gch, hhd, hy1, ch1, w1', hy2, ch2, hfi, w9, hy3, ch3, re3, hl]
end

end Go.Proofs.Ytepddcemoofmlaa.Fast
