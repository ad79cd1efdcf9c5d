/- FastSteps' own text: its loop, and what it comes to. -/
import Derived.Test.YtepddcemoofmlaaGreatFastLaidM
import Derived.Test.YtepddcemoofmlaaGreatFastFastWorks
set_option linter.unusedSimpArgs false
set_option linter.unusedVariables false
namespace Go.Proofs.YtepddcemoofmlaaGreat.Fast
open Go Go.Proofs.YtepddcemoofmlaaGreat.AE Go.RowKit
set_option maxRecDepth 10000
set_option linter.unusedSimpArgs false
set_option linter.unusedVariables false

theorem bothStep {n : Nat} {p s o mn cp k : Int} (x : TaskP) {ws : List Int} (hp : InI p) (hs : InI s) (ho : InI o) (hl0 : 0 < ws.length) (hl : ws.length ≤ 4096) (hw : ∀ x ∈ ws, Word x) :
    ∃ (x' : TaskP) (e : Int) (ws' : List Int), (0 < ws'.length ∧ ws'.length ≤ 4096) ∧ (∀ x ∈ ws', Word x) ∧
      (∀ (S : St) (a aw : Nat) (ca : Int), (0 ≤ ca ∧ ca < 1000000000000000) → Mem S a aw ws ca → ∃ ca', (ca ≤ ca' ∧ ca' ≤ ca + 1) ∧ EndsIn (calls table.find (n + 9) 6 [.pointer (some ⟨a, 0, none⟩), chart p s o mn cp k, .agg x.cells.toArray] S) (.tuple #[.agg x'.cells.toArray, .int .i64 e]) fun S' =>
        Aft (fun j => j = a ∨ j = aw) S S' ∧ S'.top = S.top ∧ Mem S' a aw ws' ca') ∧
      (∀ (S : St) (b bw : Nat) (cb : Int), (0 ≤ cb ∧ cb < 1000000000000000) → RMem S b bw ws cb → ∃ cb', (cb ≤ cb' ∧ cb' ≤ cb + 1) ∧ EndsIn (calls table.find (n + 9) 7 [.pointer (some ⟨b, 0, none⟩), chart p s o mn cp k, .agg x.cells.toArray] S) (.tuple #[.agg x'.cells.toArray, .int .i64 e]) fun S' =>
        Aft (fun j => j = b ∨ j = bw) S S' ∧ S'.top = S.top ∧ RMem S' b bw ws' cb') := by
  by_cases hm : may p s o mn cp = true
  · obtain ⟨m1, m2, m3, _⟩ := may_iff.1 hm
    obtain ⟨P, rfl⟩ : ∃ P : Nat, p = P := ⟨p.toNat, by omega⟩
    obtain ⟨N, rfl⟩ : ∃ N : Nat, s = N := ⟨s.toNat, by omega⟩
    obtain ⟨O, rfl⟩ : ∃ O : Nat, o = O := ⟨o.toNat, by omega⟩
    by_cases hok : fastOk x
    · refine ⟨fastT P N O k ws x, 0, fastW P N O k ws x, by rw [fastW_len]; exact ⟨hl0, hl⟩, fastW_word hw, fun S a aw ca hc hM => sStep hm hM hl0 hl hw hc hok, fun S b bw cb hc hM => rStep hm hM hl0 hl hw hc hok⟩
    · exact ⟨zeroT, 292, ws, ⟨hl0, hl⟩, hw, fun S a aw ca hc hM => ⟨ca, by omega, S, true, sStepBad hm hM hl0 hok, Aft.refl _ S, rfl, hM⟩, fun S b bw cb hc hM => ⟨cb, by omega, S, true, rStepBad hm hM hl0 hok, Aft.refl _ S, rfl, hM⟩⟩
  · have hm : may p s o mn cp = false := by simpa using hm
    exact ⟨zeroT, 2, ws, ⟨hl0, hl⟩, hw, fun S a aw ca hc hM => ⟨ca, by omega, S, true, sStepNoChart hm hM hl0, Aft.refl _ S, rfl, hM⟩, fun S b bw cb hc hM => ⟨cb, by omega, S, true, rStepNoChart (by rw [may_eq hp hs ho]; exact hm) hM hl0, Aft.refl _ S, rfl, hM⟩⟩

set_option maxHeartbeats 16000000 in
theorem stepsLoop {R : List Value} {S S' : St} {a aw b bw : Nat} {p s o mn cp k : Int} {x : TaskP} {ws : List Int} {ca cb : Int} (hp : InI p) (hs : InI s) (ho : InI o)
    (la : S.top + 2 ≤ a ∧ S.top + 2 ≤ aw ∧ S.top + 2 ≤ b ∧ S.top + 2 ≤ bw) (hd : a ≠ b ∧ a ≠ bw ∧ aw ≠ b ∧ aw ≠ bw)
    (hR : R.length = 70) (r4 : rd R 4 = .pointer (some ⟨S.top, 0, none⟩)) (r5 : rd R 5 = .pointer (some ⟨S.top + 1, 0, none⟩)) (r7 : rd R 7 = .pointer (some ⟨a, 0, none⟩)) (r8 : rd R 8 = .pointer (some ⟨b, 0, none⟩)) (r9 : rd R 9 = .int .i64 0)
    (hk : Kept S S') (ht : S.top + 2 ≤ S'.top) (hch : S'.at S.top = some (.cells 25 [.int .i64 p, .int .i64 s, .int .i64 o, .int .i64 mn, .int .i64 cp, .int .u64 k])) (htk : S'.at (S.top + 1) = some (.cells 27 x.cells))
    (hl : 0 < ws.length ∧ ws.length ≤ 4096) (hw : ∀ x ∈ ws, Word x) (hca : 0 ≤ ca ∧ ca ≤ 4096) (hcb : 0 ≤ cb ∧ cb ≤ 4096) (hA : Mem S' a aw ws ca) (hB : RMem S' b bw ws cb) :
    Leads (evCode known loop3_0 R S') fun oo R' S' => oo = .exit 0 ∧ R'.length = 70 ∧ Kept S S' := by
  rw [eloop3_0]
  refine loop_goes (fun q R S' => ∃ i : Nat, i + q = 12 ∧ R.length = 70 ∧ rd R 4 = .pointer (some ⟨S.top, 0, none⟩) ∧ rd R 5 = .pointer (some ⟨S.top + 1, 0, none⟩) ∧ rd R 7 = .pointer (some ⟨a, 0, none⟩) ∧ rd R 8 = .pointer (some ⟨b, 0, none⟩) ∧ rd R 9 = .int .i64 i ∧ Kept S S' ∧ S.top + 2 ≤ S'.top ∧
    S'.at S.top = some (.cells 25 [.int .i64 p, .int .i64 s, .int .i64 o, .int .i64 mn, .int .i64 cp, .int .u64 k]) ∧ ∃ (x : TaskP) (ws : List Int) (ca cb : Int), S'.at (S.top + 1) = some (.cells 27 x.cells) ∧ (0 < ws.length ∧ ws.length ≤ 4096) ∧ (∀ x ∈ ws, Word x) ∧
    (0 ≤ ca ∧ ca ≤ 4096 + i) ∧ (0 ≤ cb ∧ cb ≤ 4096 + i) ∧ Mem S' a aw ws ca ∧ RMem S' b bw ws cb) _ 12 (by omega)
    ⟨0, by omega, hR, r4, r5, r7, r8, r9, hk, ht, hch, x, ws, ca, cb, htk, hl, hw, by omega, by omega, hA, hB⟩ ?_
  clear hR r4 r5 r7 r8 r9 hk ht hch htk hl hw hca hcb hA hB x ws ca cb
  rintro q R S' ⟨i, hi, hR, r4, r5, r7, r8, r9, hk, ht, hch, x, ws, ca, cb, htk, hl, hw, hca, hcb, hA, hB⟩
  cases q with
  | zero =>
    have e1 : ¬ (i : Int) < 12 := by omega
    have e1' : ¬ i < 12 := by omega
    simp (maxDischargeDepth := 30) [hR, r9, e1, e1']
    exact hk
  | succ q =>
    have e1 : (i : Int) < 12 := by omega
    have e1' : i < 12 := by omega
    obtain ⟨x', e, ws', hl', hw', hstepA, hstepB⟩ := bothStep (n := 55) (p := p) (s := s) (o := o) (mn := mn) (cp := cp) (k := k) x hp hs ho hl.1 hl.2 hw
    have hcn := fun (S : St) (ws : List Int) (cnt : Int) (h : Mem S a aw ws cnt) => @sCount 63 S a aw ws cnt h
    have hcn0 := hcn S' ws ca hA
    obtain ⟨ca', hca', S1, z1, h1, a1, t1, m1⟩ := hstepA S' a aw ca (by omega) hA
    have ltA1 := hA.lt1
    have ltA2 := hA.lt2
    have ltB1 := hB.lt1
    have ltB2 := hB.lt2
    have B1 : RMem S1 b bw ws cb := hB.move (a1.at' _ ltB1 (by omega)) (a1.at' _ ltB2 (by omega))
    have ch1 : S1.at S.top = some (.cells 25 [.int .i64 p, .int .i64 s, .int .i64 o, .int .i64 mn, .int .i64 cp, .int .u64 k]) := (a1.at' _ (by omega) (by omega)).trans hch
    have tk1 : S1.at (S.top + 1) = some (.cells 27 x.cells) := (a1.at' _ (by omega) (by omega)).trans htk
    have k1 : Kept S S1 := Aft.kept a1 hk fun d hd' _ => by
      have hd' : d = a ∨ d = aw := hd'
      omega
    obtain ⟨X2, hX2⟩ : ∃ X, (S1.push (.cells 27 zeroT.cells)).wrote S1.top (.cells 27 x'.cells) (.agg ⟨x'.cells⟩) = X := ⟨_, rfl⟩
    have at2 : ∀ j, j < S1.top → X2.at j = S1.at j := fun j hj => by rw [← hX2, m_wrote_ne (by omega), push_chain hj]
    have c2 : X2.at S1.top = some (.cells 27 x'.cells) := by rw [← hX2, m_wrote (by rw [m_push_top]; rfl)]
    have t2 : X2.top = S1.top + 1 := by rw [← hX2, top_wrote, top_push]
    have k2 : Kept S X2 := by rw [← hX2]; exact (k1.push _).wrote _ _ k1.top
    have A2 : Mem X2 a aw ws' ca' := m1.move (at2 _ (by omega)) (at2 _ (by omega))
    have B2 : RMem X2 b bw ws cb := B1.move (at2 _ (by omega)) (at2 _ (by omega))
    have ch2 := (at2 _ (by omega)).trans ch1
    have tk2 := (at2 _ (by omega)).trans tk1
    obtain ⟨cb', hcb', S3, z3, h3, a3, t3, m3⟩ := hstepB X2 b bw cb (by omega) B2
    have A3 : Mem S3 a aw ws' ca' := A2.move (a3.at' _ (by omega) (by omega)) (a3.at' _ (by omega) (by omega))
    have ch3 := (a3.at' _ (by omega) (by omega)).trans ch2
    have tk3 := (a3.at' _ (by omega) (by omega)).trans tk2
    have c3 := (a3.at' _ (by omega) (by omega)).trans c2
    have k3 : Kept S S3 := Aft.kept a3 k2 fun d hd' _ => by
      have hd' : d = b ∨ d = bw := hd'
      omega
    obtain ⟨X4, hX4⟩ : ∃ X, (S3.push (.cells 27 zeroT.cells)).wrote S3.top (.cells 27 x'.cells) (.agg ⟨x'.cells⟩) = X := ⟨_, rfl⟩
    have at4 : ∀ j, j < S3.top → X4.at j = S3.at j := fun j hj => by rw [← hX4, m_wrote_ne (by omega), push_chain hj]
    have c4' : X4.at S3.top = some (.cells 27 x'.cells) := by rw [← hX4, m_wrote (by rw [m_push_top]; rfl)]
    have t4 : X4.top = S3.top + 1 := by rw [← hX4, top_wrote, top_push]
    have k4 : Kept S X4 := by rw [← hX4]; exact (k3.push _).wrote _ _ k3.top
    have A4 : Mem X4 a aw ws' ca' := A3.move (at4 _ (by omega)) (at4 _ (by omega))
    have B4 : RMem X4 b bw ws' cb' := m3.move (at4 _ (by omega)) (at4 _ (by omega))
    have ch4 := (at4 _ (by omega)).trans ch3
    have tk4 := (at4 _ (by omega)).trans tk3
    have c4 := (at4 _ (by omega)).trans c3
    obtain ⟨v5, S5, h5, g5, i5⟩ := sWords (n := 62) (S := X4) A4 hl'.1 hl'.2
    have A5 : Mem S5 a aw ws' ca' := A4.move (Grown.at' g5 _ A4.lt1) (Grown.at' g5 _ A4.lt2)
    have B5 : RMem S5 b bw ws' cb' := B4.move (Grown.at' g5 _ B4.lt1) (Grown.at' g5 _ B4.lt2)
    obtain ⟨v6, S6, h6, g6, i6⟩ := rWords (n := 63) (S := S5) B5 hl'.1 hl'.2
    have A6 : Mem S6 a aw ws' ca' := A5.move (Grown.at' g6 _ A5.lt1) (Grown.at' g6 _ A5.lt2)
    have B6 : RMem S6 b bw ws' cb' := B5.move (Grown.at' g6 _ B5.lt1) (Grown.at' g6 _ B5.lt2)
    have ch6 := g6.same (g5.same ch4)
    have tk6 := g6.same (g5.same tk4)
    have c6 := g6.same (g5.same c4)
    have k6 : Kept S S6 := Grown.kept g6 S (Grown.kept g5 S k4)
    have hq := @eqWords 63 S6 v5 v6 ws' (i5.grown (Grown.at' g6)).ints i6.ints (by omega)
    have hcn6 := hcn S6 ws' ca' A6
    have one5 := i5.one
    have one6 := i6.one
    have w1 : W .i64 ((i : Int) + 1) = (i : Int) + 1 := W_i64 (by omega)
    have w2 : W .i64 (ca + 1) = ca + 1 := W_i64 (by omega)
    have e2 : ¬ ca + 1 < ca' := by omega
    have tt6 : S.top + 2 ≤ S6.top := by have := g5.top; have := g6.top; omega
    have hz : zeroT.cells = [.int .i64 0, .int .i64 0, .int .i64 0, .int .i64 0, .int .i64 0, .int .i64 0, .int .i64 0, .int .u64 0, .int .u64 0, .int .u64 0, .int .u64 0, .int .u64 0, .int .i64 0, .int .i64 0, .int .i64 0, .int .i64 0, .int .i64 0] := rfl
    rw [hz] at hX2 hX4
    by_cases he : e = 0
    · subst he
      have fin : ∃ X, S6.wrote (S.top + 1) (.cells 27 x'.cells) (.agg ⟨x'.cells⟩) = X ∧ Kept S X ∧ S.top + 2 ≤ X.top ∧ X.at S.top = some (.cells 25 [.int .i64 p, .int .i64 s, .int .i64 o, .int .i64 mn, .int .i64 cp, .int .u64 k]) ∧ X.at (S.top + 1) = some (.cells 27 x'.cells) ∧ Mem X a aw ws' ca' ∧ RMem X b bw ws' cb' :=
        ⟨_, rfl, k6.wrote _ _ (by omega), by rw [top_wrote]; exact tt6, by rw [m_wrote_ne (by omega)]; exact ch6, by rw [m_wrote (by rw [tk6]; rfl)], A6.move (m_wrote_ne (by omega)) (m_wrote_ne (by omega)), B6.move (m_wrote_ne (by omega)) (m_wrote_ne (by omega))⟩
      obtain ⟨X7, hX7, k7, t7, ch7, tk7, A7, B7⟩ := fin
      simp only [TaskP.cells, chart] at h1 hX2 h3 hX4 c4 c4' c6 htk tk2 tk6 hX7
      simp (maxDischargeDepth := 30) [known_cons, hR, r4, r5, r7, r8, r9, e1, e1', hch, htk, hcn0, h1, hX2, ch2, tk2, h3, hX4, c4, c4', h5, h6, hq, hcn6, w1, w2, e2, one5, one6, c6, tk6, hX7]
      exact ⟨q, by omega, i + 1, by omega, by simp, k7, t7, ch7, ⟨x', tk7⟩, ws', hl', hw', ca', by omega, cb', by omega, A7, B7⟩
    · have he1 : (e != 0) = true := by simp [he]
      simp only [TaskP.cells, chart] at h1 hX2 h3 hX4 c4 c4' c6 htk tk2 tk6
      simp (maxDischargeDepth := 30) [known_cons, hR, r4, r5, r7, r8, r9, e1, e1', hch, htk, hcn0, h1, hX2, ch2, tk2, h3, hX4, c4, c4', h5, h6, hq, hcn6, w1, w2, e2, one5, one6, c6, tk6, he1]
      exact k6

set_option maxHeartbeats 8000000 in
theorem ranSteps {S : St} {v : Value} {w : List Int} {p s o mn cp k : Int} {x : TaskP} (hp : InI p) (hs : InI s) (ho : InI o) (hv : IsInts S.at .u64 v w) (hw : ∀ x ∈ w, Word x) :
    evFun table.find known 3 [v, chart p s o mn cp k, .agg x.cells.toArray] S = some (.bool true, S, true) := by
  refine law_rd (x := fun y => y = _) b3 (by simp) fun R hR hargs => ?_
  have r0 : rd R 0 = v := hargs 0 (by simp)
  have r1 : rd R 1 = chart p s o mn cp k := hargs 1 (by simp)
  have r2 : rd R 2 = .agg x.cells.toArray := hargs 2 (by simp)
  clear hargs
  have e3 : S.enter.top = S.top := rfl
  obtain ⟨X1, X2, hX1, hX2, t1, t2, c1, c2, k2, low, aX⟩ := two S (.cells 25 [.int .i64 p, .int .i64 s, .int .i64 o, .int .i64 mn, .int .i64 cp, .int .u64 k]) (.cells 27 x.cells)
  have one0 : one v = true := by obtain ⟨pp, cc, rfl, _⟩ := hv; rfl
  obtain ⟨a, aw, b, bw, S3, ws, ca, cb, h3, g3, la, hd, hl, hw', hca, hcb, A3, B3⟩ := sLaid (n := 56) (S := X2) (mn := mn) (cp := cp) (k := k) hp hs ho (IsInts.move hv fun b o hb => by rw [low b (lt_top hb)]; exact hb) hw
  have ch3 := g3.same c1
  have tk3 := g3.same c2
  have k3 : Kept S S3 := Grown.kept g3 S k2
  have tt := g3.top
  simp only [chart] at r1 h3
  have hx : x.cells = x.cells := rfl
  simp only [TaskP.cells] at r2 hX2
  simp (maxDischargeDepth := 30) [known_cons, hR, r0, r1, r2, hX1, hX2, e3, t1, t2, c1, one0, h3]
  generalize hR2 : wr _ 9 _ = R2
  obtain ⟨oo, R4, S4, he, rfl, hR4, k4⟩ := stepsLoop (S := S) (R := R2) (S' := S3) (a := a) (aw := aw) (b := b) (bw := bw) (p := p) (s := s) (o := o) (mn := mn) (cp := cp) (k := k) (x := x) (ws := ws) (ca := ca) (cb := cb) hp hs ho (by omega) hd
    (by simp [← hR2, hR]) (by simp [← hR2, hR]) (by simp [← hR2, hR]) (by simp [← hR2, hR]) (by simp [← hR2, hR]) (by simp [← hR2, hR]) k3 (by omega) ch3 tk3 hl hw' hca hcb A3 B3
  rw [he]
  simp (maxDischargeDepth := 30) [hR4, known_works]
  exact leave_quiet k4.wr rfl

end Go.Proofs.YtepddcemoofmlaaGreat.Fast
