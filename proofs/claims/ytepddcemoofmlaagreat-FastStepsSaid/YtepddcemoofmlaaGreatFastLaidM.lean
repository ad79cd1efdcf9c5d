/- Two memories with the same words: new ones, their words, how many accesses there were. -/
import Derived.Test.YtepddcemoofmlaaGreatFastRefM
set_option linter.unusedSimpArgs false
set_option linter.unusedVariables false
namespace Go.Proofs.YtepddcemoofmlaaGreat.Fast
open Go Go.Proofs.YtepddcemoofmlaaGreat.AE
set_option maxRecDepth 10000
set_option linter.unusedSimpArgs false
set_option linter.unusedVariables false

/-! ### words stay words, and as many -/
theorem cas2W_word {ws : List Int} {a : Nat} {old second to other : Int} (hw : ∀ x ∈ ws, Word x) (h1 : Word to) (h2 : Word other) : ∀ x ∈ cas2W ws a old second to other, Word x := by
  intro x hx
  unfold cas2W at hx
  split at hx
  · rcases List.mem_or_eq_of_mem_set hx with h | rfl
    · rcases List.mem_or_eq_of_mem_set h with h | rfl
      · exact hw x h
      · exact h1
    · exact h2
  · exact hw x hx

theorem headP_word {s i w : Int} (h : headP s i = some w) : Word w := by
  unfold headP at h
  split at h
  · simp only [Option.some.injEq] at h; subst h; exact ⟨by omega, by omega⟩
  · split at h
    · simp only [Option.some.injEq] at h; exact ⟨by omega, by omega⟩
    · cases h

theorem hideP_word {y key i w : Int} (h : hideP y key i = some w) : Word w := by
  unfold hideP at h
  split at h
  · simp only [Option.some.injEq] at h; subst h; exact word_xor (word_W _) (word_turned key i)
  · cases h

section
variable {P N O : Nat} {k : Int} {ws : List Int} {x : TaskP}

theorem swapR_word {obj again : Int} (hw : ∀ x ∈ ws, Word x) : ∀ y ∈ (swapR P ws x obj again).2.2, Word y := by
  unfold swapR
  split
  · exact hw
  · rename_i w h
    split
    · exact cas2W_word hw (headP_word h) (word_W _)
    · exact hw
theorem swapR_len {obj again : Int} : (swapR P ws x obj again).2.2.length = ws.length := by
  unfold swapR
  split
  · rfl
  · split
    · exact cas2W_len
    · rfl
theorem tieR_word (hw : ∀ x ∈ ws, Word x) : ∀ y ∈ (tieR P N O k ws x).2.2, Word y := by
  unfold tieR
  split
  · exact hw
  · rename_i w h
    intro y hy
    simp only at hy
    split at hy
    · rcases List.mem_or_eq_of_mem_set hy with h2 | rfl
      · exact hw y h2
      · exact hideP_word h
    · exact hw y hy
theorem tieR_len : (tieR P N O k ws x).2.2.length = ws.length := by
  unfold tieR
  split
  · rfl
  · simp only
    split
    · rw [List.length_set]
    · rfl

theorem fastW_word (hw : ∀ x ∈ ws, Word x) : ∀ y ∈ fastW P N O k ws x, Word y := by
  unfold fastW fastR
  split
  · exact hw
  · split
    · exact hw
    · split
      · exact hw
      · split
        · exact swapR_word hw
        · split
          · exact hw
          · split
            · exact tieR_word hw
            · exact swapR_word hw
theorem fastW_len : (fastW P N O k ws x).length = ws.length := by
  unfold fastW fastR
  split
  · rfl
  · split
    · rfl
    · split
      · rfl
      · split
        · exact swapR_len
        · split
          · rfl
          · split
            · exact tieR_len
            · exact swapR_len
end

/-! ### words laid one by one -/
def inW (w : List Int) (n i : Nat) : List Int := (List.range n).map fun (x : Nat) => if x < i then w[x]?.getD 0 else 0

theorem inW_len {w : List Int} {n i : Nat} : (inW w n i).length = n := by simp [inW]
theorem inW_zero {w : List Int} {n : Nat} : inW w n 0 = List.replicate n 0 := by
  refine List.ext_getElem? fun j => ?_
  by_cases hj : j < n
  · simp [inW, hj]
  · rw [List.getElem?_eq_none (by simp [inW]; omega), List.getElem?_eq_none (by simp; omega)]
theorem inW_set {w : List Int} {n i : Nat} {x : Int} (hx : w[i]? = some x) : (inW w n i).set i x = inW w n (i + 1) := by
  refine List.ext_getElem? fun j => ?_
  by_cases hj : j < n
  · by_cases he : i = j
    · subst he
      rw [List.getElem?_set_self (by simpa [inW] using hj)]
      simp [inW, hj, hx]
    · rw [List.getElem?_set_ne he]
      have e : (j < i + 1) = (j < i) := by simp; omega
      simp [inW, hj, e]
  · rw [List.getElem?_eq_none (by simp [inW]; omega), List.getElem?_eq_none (by simp [inW]; omega)]

theorem IsInts.move {m m' : Nat → Option AObj} {k : IntKind} {v : Value} {xs : List Int} (h : IsInts m k v xs) (hm : ∀ b o, m b = some o → m' b = some o) : IsInts m' k v xs := by
  obtain ⟨p, cp, rfl, hx⟩ := h
  refine ⟨p, cp, rfl, fun i x hi => ?_⟩
  obtain ⟨b, off, c, rfl, hc, hg⟩ := hx i x hi
  refine ⟨b, off, c, rfl, ?_, hg⟩
  cases hb : m b with
  | none => rw [hb] at hc; cases hc
  | some o => rw [hm _ _ hb]; rw [hb] at hc; exact hc

def InI (x : Int) : Prop := -9223372036854775808 ≤ x ∧ x ≤ 9223372036854775807

theorem W_form (n : Int) : W .i64 n = (n + 9223372036854775808) % 18446744073709551616 - 9223372036854775808 := by rw [W_wrap]; exact IntKind.wrap_i64 n

theorem may_eq {p s o mn cp : Int} (hp : InI p) (hs : InI s) (ho : InI o) : mayR p s o mn cp = may p s o mn cp := by
  unfold mayR may within InI at *
  rw [W_form, W_form, W_form, Bool.eq_iff_iff]
  simp
  omega

def WRow (S : St) (v : Value) (ws : List Int) : Prop :=
  ∃ b off c, v = .slice (some ⟨b, off, none⟩) ws.length 0 ∧ AE.rowAt S.at 23 b = some c ∧ off + ws.length ≤ c.length ∧ ∀ (i : Nat) x, ws[i]? = some x → c[off + i]? = some (.int .u64 x)

theorem rowAt_cells {m : Nat → Option AObj} {e : TypeId} {b : Nat} {c : List Value} (h : AE.rowAt m e b = some c) : cellsOf (m b) = some c := by
  unfold AE.rowAt at h
  split at h
  · rename_i e' c' hb
    split at h
    · rw [hb]; exact h
    · cases h
  · rename_i c' hb; rw [hb]; exact h
  · cases h

theorem WRow.grown {S S' : St} {v : Value} {ws : List Int} (h : WRow S v ws) (k : ∀ j, j < S.top → S'.at j = S.at j) : WRow S' v ws := by
  obtain ⟨b, off, c, h1, h2, h3⟩ := h
  have : b < S.top := by
    refine isSome_lt ?_
    cases hb : S.at b with
    | none => have := rowAt_cells h2; rw [hb] at this; cases this
    | some o => rfl
  exact ⟨b, off, c, h1, by unfold AE.rowAt at h2 ⊢; rw [k b this]; exact h2, h3⟩

theorem WRow.ints {S : St} {v : Value} {ws : List Int} (h : WRow S v ws) : IsInts S.at .u64 v ws := by
  obtain ⟨b, off, c, h1, h2, h3, h4⟩ := h
  exact ⟨some ⟨b, off, none⟩, 0, h1, fun i x hx => ⟨b, off, c, rfl, rowAt_cells h2, h4 i x hx⟩⟩

theorem WRow.one {S : St} {v : Value} {ws : List Int} (h : WRow S v ws) : AE.one v = true := by
  obtain ⟨b, off, c, rfl, h2, h3, h4⟩ := h; rfl

section
variable {n : Nat} {S : St}

set_option maxHeartbeats 4000000 in
theorem eqWords {v u : Value} {xs : List Int} (hv : IsInts S.at .u64 v xs) (hu : IsInts S.at .u64 u xs) (hl : xs.length < 1000000000000000) :
    calls table.find (n + 1) 8 [v, u] S = some (.bool true, S, true) := by
  refine call_rd (x := fun y => y = _) b8 (by simp) fun R hR hargs => ?_
  have h0 : rd R 0 = v := hargs 0 (by simp)
  have h1 : rd R 1 = u := hargs 1 (by simp)
  clear hargs
  obtain ⟨p, cp, rfl, hx⟩ := hv
  obtain ⟨p', cp', rfl, hy⟩ := hu
  have e : ((xs.length : Int) != xs.length) = false := by simp
  have hloop : ∀ R : List Value, R.length = 26 → rd R 0 = .slice p xs.length cp → rd R 1 = .slice p' xs.length cp' → rd R 5 = .int .i64 0 →
      Leads (evCode (calls table.find n) loop8_0 R S.enter) fun o R' S' => S' = S.enter ∧ R'.length = 26 ∧ o = .exit 0 := by
    intro R hR h0 h1 h5
    rw [eloop8_0]
    refine loop_goes (fun k R S' => S' = S.enter ∧ R.length = 26 ∧ rd R 0 = .slice p xs.length cp ∧ rd R 1 = .slice p' xs.length cp' ∧ ∃ i : Nat, rd R 5 = .int .i64 i ∧ i + k = xs.length) _ xs.length (by omega)
      ⟨rfl, hR, h0, h1, 0, h5, by omega⟩ ?_
    rintro k R S' ⟨rfl, hR, h0, h1, i, h5, hk⟩
    cases k with
    | zero =>
      have e1 : ¬ i < xs.length := by omega
      simp (maxDischargeDepth := 30) [hR, h0, h1, h5, e1]
    | succ k =>
      have e1 : i < xs.length := by omega
      have g1 : xs[i]? = some xs[i] := List.getElem?_eq_getElem e1
      obtain ⟨b, off, c, rfl, hc, hcx⟩ := hx i _ g1
      obtain ⟨b', off', c', rfl, hc', hcy⟩ := hy i _ g1
      have e4 : W .i64 ((i : Int) + 1) = (i : Int) + 1 := W_i64 (by omega)
      simp (maxDischargeDepth := 30) [hR, h0, h1, h5, e1, hc, hc', hcx, hcy, e4]
      exact ⟨k, by omega, i + 1, by simp, by omega⟩
  simp (maxDischargeDepth := 30) [hR, h0, h1, e]
  generalize hR2 : wr (wr _ _ _) _ _ = R2
  obtain ⟨o, R', S', he, rfl, hl', rfl⟩ := hloop R2 (by simp (maxDischargeDepth := 30) [← hR2, hR]) (by simp (maxDischargeDepth := 30) [← hR2, h0]) (by simp (maxDischargeDepth := 30) [← hR2, h1]) (by simp (maxDischargeDepth := 30) [← hR2, hR])
  rw [he]
  simp (maxDischargeDepth := 30) [hl']

set_option maxHeartbeats 1000000 in
theorem sNewMem {m : Nat} (h1 : 1 ≤ m) (h2 : m ≤ 4096) : ∃ S', calls table.find (n + 1) 13 [.int .i64 m] S = some (.tuple #[.pointer (some ⟨S.top + 1, 0, none⟩), .int .i64 0], S', true) ∧ Grown S S' ∧ S'.top = S.top + 2 ∧
    Mem S' (S.top + 1) S.top (List.replicate m 0) 0 := by
  have e1 : ¬ (m : Int) < 1 := by omega
  have e2 : ¬ (4096 : Int) < m := by omega
  have e3 : (m : Int) ≤ 1000000000000000 := by omega
  have e4 : (m : Int) ≤ 281474976710656 := by omega
  have e5 : 8 * (m : Int) ≤ 281474976710656 := by omega
  obtain ⟨X1, hX1⟩ : ∃ X, S.enter.push (.cells 23 (List.replicate m (.int .u64 0))) = X := ⟨_, rfl⟩
  obtain ⟨X2, hX2⟩ : ∃ X, X1.push (.cells 48 [.slice (some ⟨S.top, 0, none⟩) m 0, .int .i64 0]) = X := ⟨_, rfl⟩
  have t1 : X1.top = S.top + 1 := by rw [← hX1, top_push, top_enter]
  have t2 : X2.top = S.top + 2 := by rw [← hX2, top_push, t1]
  have k2 : Kept S X2 := by rw [← hX2, ← hX1]; exact ((Kept.enter S).push _).push _
  have c1 : X2.at S.top = some (.cells 23 ((List.replicate m 0).map (Value.int .u64))) := by rw [← hX2, push_chain (by omega), ← hX1, List.map_replicate]; exact m_push_top
  have c2 : X2.at (S.top + 1) = some (.cells 48 [.slice (some ⟨S.top, 0, none⟩) m 0, .int .i64 0]) := by rw [← hX2, ← t1]; exact m_push_top
  have hl := leave_new k2 (v := .tuple #[.pointer (some ⟨S.top + 1, 0, none⟩), .int .i64 0]) (by simp)
  have e6 : S.enter.top = S.top := rfl
  refine ⟨S.left X2, ?_, Grown.left k2, by rw [top_left]; exact t2, by omega, by rw [at_left, List.length_replicate]; exact c2, by rw [at_left]; exact c1⟩
  simp (maxDischargeDepth := 30) [q13, e1, e2, e3, e4, e5, hX1, e6, t1, hX2, hl]

set_option maxHeartbeats 1000000 in
theorem sWords {bm bw : Nat} {ws : List Int} {cnt : Int} (hM : Mem S bm bw ws cnt) (hl0 : 0 < ws.length) (hl : ws.length ≤ 4096) : ∃ v S', calls table.find (n + 2) 9 [.pointer (some ⟨bm, 0, none⟩)] S = some (v, S', true) ∧ Grown S S' ∧ WRow S' v ws := by
  have hb := hM.2.1
  have hw := hM.2.2
  have hrow : ∀ (T : St) (cp : Nat), T.at bw = some (.cells 23 (ws.map (Value.int .u64))) → rowS T 1 (.slice (some ⟨bw, 0, none⟩) ws.length cp) = some (ws.length, ws.map (Value.int .u64)) := fun T cp h =>
    row_new h (by simp) (by rw [List.all_eq_true]; intro x hx; obtain ⟨y, _, rfl⟩ := List.mem_map.1 hx; rfl)
  obtain ⟨X1, hX1⟩ : ∃ X, S.enter.enter.push (.cells 23 []) = X := ⟨_, rfl⟩
  have t1 : X1.top = S.top + 1 := by rw [← hX1, top_push]; rfl
  have w1 : X1.at bw = some (.cells 23 (ws.map (Value.int .u64))) := by rw [← hX1, push_chain (by show bw < S.top; exact hM.lt2)]; exact hw
  have b1 : X1.at S.top = some (.cells 23 []) := by rw [← hX1]; exact m_push_top
  have happ := app_more (S := X1) (e := 23) (sz := 1) (bytes := 8) (n := ws.length) (b := S.top) (len := 0) (xs := ws.map (Value.int .u64)) b1 (by simp) (by omega) hl0 ⟨by omega, by omega⟩
  rw [List.nil_append, Nat.zero_add] at happ
  obtain ⟨X2, hX2⟩ : ∃ X, X1.app S.top (.cells 23 (ws.map (Value.int .u64))) = X := ⟨_, rfl⟩
  rw [hX2] at happ
  have k2 : Kept S.enter X2 := by rw [← hX2, ← hX1]; exact (((Kept.enter S.enter).push _)).app _ (Nat.le_refl _)
  have c2 : X2.at X1.top = some (.cells 23 (ws.map (Value.int .u64))) := by rw [← hX2]; exact m_app_top
  have hl1 := leave_new k2 (v := .slice (some ⟨X1.top, 0, none⟩) ws.length 0) (by simp; show S.top ≤ X1.top; omega)
  have k3 : Kept S (S.enter.left X2) := (Kept.enter S).left k2
  have hl2 := leave_new k3 (v := .slice (some ⟨X1.top, 0, none⟩) ws.length 0) (by simp; omega)
  have e6 : S.enter.top = S.top := rfl
  have e7 : S.enter.enter.top = S.top := rfl
  refine ⟨.slice (some ⟨X1.top, 0, none⟩) ws.length 0, S.left (S.enter.left X2), ?_, Grown.left k3, X1.top, 0, ws.map (Value.int .u64), rfl, ?_, by simp, fun i x hi => by simp [hi]⟩
  · have hr0 := hrow X1 0 w1
    simp (maxDischargeDepth := 30) [q9, q29, hb, hX1, e7, hr0, happ, hl1, hl2]
  · unfold AE.rowAt
    rw [at_left, at_left, c2]; rfl

theorem sCount {bm bw : Nat} {ws : List Int} {cnt : Int} (hM : Mem S bm bw ws cnt) : calls table.find (n + 1) 5 [.pointer (some ⟨bm, 0, none⟩)] S = some (.int .i64 cnt, S, true) := by
  have h := hM.2.1
  simp (maxDischargeDepth := 30) [q5, h]

set_option maxHeartbeats 1000000 in
theorem rNewMem {m : Nat} (h1 : 1 ≤ m) (h2 : m ≤ 4096) : ∃ S', calls table.find (n + 1) 14 [.int .i64 m] S = some (.tuple #[.pointer (some ⟨S.top + 1, 0, none⟩), .int .i64 0], S', true) ∧ Grown S S' ∧ S'.top = S.top + 2 ∧
    RMem S' (S.top + 1) S.top (List.replicate m 0) 0 := by
  have e1 : ¬ (m : Int) < 1 := by omega
  have e2 : ¬ (4096 : Int) < m := by omega
  have e3 : (m : Int) ≤ 1000000000000000 := by omega
  have e4 : (m : Int) ≤ 281474976710656 := by omega
  have e5 : 8 * (m : Int) ≤ 281474976710656 := by omega
  obtain ⟨X1, hX1⟩ : ∃ X, S.enter.push (.cells 23 (List.replicate m (.int .u64 0))) = X := ⟨_, rfl⟩
  obtain ⟨X2, hX2⟩ : ∃ X, X1.push (.cells 66 [.slice (some ⟨S.top, 0, none⟩) m 0, .int .i64 0]) = X := ⟨_, rfl⟩
  have t1 : X1.top = S.top + 1 := by rw [← hX1, top_push, top_enter]
  have t2 : X2.top = S.top + 2 := by rw [← hX2, top_push, t1]
  have k2 : Kept S X2 := by rw [← hX2, ← hX1]; exact ((Kept.enter S).push _).push _
  have c1 : X2.at S.top = some (.cells 23 ((List.replicate m 0).map (Value.int .u64))) := by rw [← hX2, push_chain (by omega), ← hX1, List.map_replicate]; exact m_push_top
  have c2 : X2.at (S.top + 1) = some (.cells 66 [.slice (some ⟨S.top, 0, none⟩) m 0, .int .i64 0]) := by rw [← hX2, ← t1]; exact m_push_top
  have hl := leave_new k2 (v := .tuple #[.pointer (some ⟨S.top + 1, 0, none⟩), .int .i64 0]) (by simp)
  have e6 : S.enter.top = S.top := rfl
  refine ⟨S.left X2, ?_, Grown.left k2, by rw [top_left]; exact t2, by omega, by rw [at_left, List.length_replicate]; exact c2, by rw [at_left]; exact c1⟩
  simp (maxDischargeDepth := 30) [q14, e1, e2, e3, e4, e5, hX1, e6, t1, hX2, hl]

set_option maxHeartbeats 1000000 in
theorem rWords {bm bw : Nat} {ws : List Int} {cnt : Int} (hM : RMem S bm bw ws cnt) (hl0 : 0 < ws.length) (hl : ws.length ≤ 4096) : ∃ v S', calls table.find (n + 1) 10 [.pointer (some ⟨bm, 0, none⟩)] S = some (v, S', true) ∧ Grown S S' ∧ WRow S' v ws := by
  have hb := hM.2.1
  have hw := hM.2.2
  have hrow : rowS S.enter 1 (.slice (some ⟨bw, 0, none⟩) ws.length 0) = some (ws.length, ws.map (Value.int .u64)) :=
    row_new (by exact hw) (by simp) (by rw [List.all_eq_true]; intro x hx; obtain ⟨y, _, rfl⟩ := List.mem_map.1 hx; rfl)
  have happ := app_nil (S := S.enter) (e := 23) (sz := 1) (bytes := 8) (n := ws.length) (xs := ws.map (Value.int .u64)) hl0 ⟨by omega, by omega⟩
  have k2 : Kept S (S.enter.push (.cells 23 (ws.map (Value.int .u64)))) := (Kept.enter S).push _
  have hl1 := leave_new k2 (v := .slice (some ⟨S.enter.top, 0, none⟩) ws.length 0) (by simp)
  refine ⟨.slice (some ⟨S.enter.top, 0, none⟩) ws.length 0, S.left (S.enter.push (.cells 23 (ws.map (Value.int .u64)))), ?_, Grown.left k2, S.enter.top, 0, ws.map (Value.int .u64), rfl, ?_, by simp, fun i x hi => by simp [hi]⟩
  · simp (maxDischargeDepth := 30) [q10, hb, hrow, happ, hl1]
  · unfold AE.rowAt
    rw [at_left, m_push_top]; rfl
end

theorem uWords {n : Nat} {S : St} {p s o mn cp k : Int} (hm : may p s o mn cp = true) : calls table.find (n + 6) 12 [chart p s o mn cp k] S = some (.int .i64 (4 * p + 4 + 4 * s + s * o), S, true) := by
  obtain ⟨h1, h2, h3, _⟩ := may_iff.1 hm
  have h5 := mul_le hm (x := s) (by omega) (by omega)
  rw [s12, mayR_may hm, W_i64 (n := 4 * p) (by omega), W_i64 (n := 4 * p + 4) (by omega), W_i64 (n := 4 * s) (by omega), W_i64 (n := 4 * p + 4 + 4 * s) (by omega), W_i64 (n := s * o) (by omega), W_i64 (by omega), if_pos rfl, Int.max_eq_left (by omega)]

/-- How many words a chart has, whatever it is. -/
theorem words_any {p s o mn cp : Int} (k : Int) (hp : InI p) (hs : InI s) (ho : InI o) : ∃ L : Nat, L ≤ 4096 ∧ ∀ (m : Nat) (S : St), calls table.find (m + 6) 12 [chart p s o mn cp k] S = some (.int .i64 L, S, true) := by
  by_cases hm : may p s o mn cp = true
  · obtain ⟨m1, m2, m3, _⟩ := may_iff.1 hm
    have h5 := mul_le hm (x := s) (by omega) (by omega)
    refine ⟨(4 * p + 4 + 4 * s + s * o).toNat, by omega, fun m S => ?_⟩
    rw [uWords hm]
    congr 3
    rw [Int.toNat_of_nonneg (by omega)]
  · refine ⟨0, by omega, fun m S => ?_⟩
    rw [s12, may_eq hp hs ho, if_neg hm]
    rfl

end Go.Proofs.YtepddcemoofmlaaGreat.Fast

/- laid: the same words in a memory of the program and in one of the reference. -/
namespace Go.Proofs.YtepddcemoofmlaaGreat.Fast
open Go Go.Proofs.YtepddcemoofmlaaGreat.AE
set_option maxRecDepth 10000
set_option linter.unusedSimpArgs false
set_option linter.unusedVariables false

theorem inW_word {w : List Int} {n i : Nat} (hw : ∀ x ∈ w, Word x) : ∀ x ∈ inW w n i, Word x := by
  intro x hx
  unfold inW at hx
  obtain ⟨j, _, rfl⟩ := List.mem_map.1 hx
  split
  · cases h : w[j]? with
    | none => exact ⟨by simp, by simp⟩
    | some y => exact hw y (List.mem_of_getElem? h)
  · exact ⟨by omega, by omega⟩

section
variable {n : Nat}

set_option maxHeartbeats 8000000 in
theorem laidLoop {R : List Value} {S0 S : St} {w : List Int} {L a aw b bw : Nat} {v : Value} (hv : IsInts S0.at .u64 v w) (hL : L ≤ 4096) (la : S0.top ≤ a ∧ S0.top ≤ aw ∧ S0.top ≤ b ∧ S0.top ≤ bw) (hd : a ≠ b ∧ a ≠ bw ∧ aw ≠ b ∧ aw ≠ bw)
    (hR : R.length = 53) (r0 : rd R 0 = v) (r6 : rd R 6 = .int .i64 L) (r7 : rd R 7 = .pointer (some ⟨a, 0, none⟩)) (r9 : rd R 9 = .pointer (some ⟨b, 0, none⟩)) (r11 : rd R 11 = .int .i64 0) (hk : Kept S0 S) (hA : Mem S a aw (inW w L 0) 0) (hB : RMem S b bw (inW w L 0) 0) :
    Leads (evCode (calls table.find (n + 7)) loop4_0 R S) fun o R' S' => o = .exit 0 ∧ R'.length = 53 ∧ rd R' 7 = .pointer (some ⟨a, 0, none⟩) ∧ rd R' 9 = .pointer (some ⟨b, 0, none⟩) ∧ Kept S0 S' ∧
      ∃ ca cb : Int, (0 ≤ ca ∧ ca ≤ 4096) ∧ (0 ≤ cb ∧ cb ≤ 4096) ∧ Mem S' a aw (inW w L (min L w.length)) ca ∧ RMem S' b bw (inW w L (min L w.length)) cb := by
  rw [eloop4_0]
  refine loop_goes (fun q R S' => R.length = 53 ∧ rd R 0 = v ∧ rd R 6 = .int .i64 L ∧ rd R 7 = .pointer (some ⟨a, 0, none⟩) ∧ rd R 9 = .pointer (some ⟨b, 0, none⟩) ∧ Kept S0 S' ∧ ∃ (i : Nat) (ca cb : Int), i + q = min L w.length ∧ rd R 11 = .int .i64 i ∧ (0 ≤ ca ∧ ca ≤ i) ∧ (0 ≤ cb ∧ cb ≤ i) ∧
    Mem S' a aw (inW w L i) ca ∧ RMem S' b bw (inW w L i) cb) _ (min L w.length) (by omega) ⟨hR, r0, r6, r7, r9, hk, 0, 0, 0, by omega, r11, by omega, by omega, hA, hB⟩ ?_
  clear hR r0 r6 r7 r9 r11 hk hA hB
  rintro q R S' ⟨hR, r0, r6, r7, r9, hk, i, ca, cb, hi, r11, hca, hcb, hA, hB⟩
  obtain ⟨p, cp, rfl, hx⟩ := id hv
  cases q with
  | zero =>
    have e0 : i = min L w.length := by omega
    by_cases e1 : i < L
    · have e2 : ¬ i < w.length := by omega
      simp (maxDischargeDepth := 30) [hR, r0, r6, r7, r9, r11, e1, e2]
      exact ⟨hk, ca, by omega, cb, by omega, by rw [← e0]; exact hA, by rw [← e0]; exact hB⟩
    · simp (maxDischargeDepth := 30) [hR, r0, r6, r7, r9, r11, e1]
      exact ⟨hk, ca, by omega, cb, by omega, by rw [← e0]; exact hA, by rw [← e0]; exact hB⟩
  | succ q =>
    have e1 : i < L := by omega
    have e2 : i < w.length := by omega
    have g1 : w[i]? = some w[i] := List.getElem?_eq_getElem e2
    obtain ⟨b0, off, c, rfl, hc, hcx⟩ := hx i _ g1
    have hat : ∀ T : St, Kept S0 T → cellsOf (T.at b0) = some c := fun T hT => by
      cases hb : S0.at b0 with
      | none => rw [hb] at hc; cases hc
      | some o => rw [hT.same hb]; rw [hb] at hc; exact hc
    have il : (inW w L i).length = L := inW_len
    obtain ⟨S1, q1, h1, a1, t1, m1⟩ := sStore (n := n + 4) (S := S') (a := i) (x := w[i]) hA (by omega) (by omega) (W_i64 (by omega))
    have k1 : Kept S0 S1 := Aft.kept a1 hk fun d hd' _ => by
      have hd' : d = a ∨ d = aw := hd'
      omega
    have B1 : RMem S1 b bw (inW w L i) cb := hB.move (a1.at' _ hB.lt1 (by omega)) (a1.at' _ hB.lt2 (by omega))
    obtain ⟨cb', hcb', S2, q2, h2, a2, t2, m2⟩ := rStore (n := n + 5) (S := S1) (a := i) (v := w[i]) B1 (by omega)
    have hi' : inR (inW w L i) (i : Int) = true := by unfold inR; simp; omega
    rw [hi', if_pos rfl] at h2 m2
    rw [Int.toNat_natCast, inW_set g1] at m2
    rw [inW_set g1] at m1
    have k2 : Kept S0 S2 := Aft.kept a2 k1 fun d hd' _ => by
      have hd' : d = b ∨ d = bw := hd'
      omega
    have A2 : Mem S2 a aw (inW w L (i + 1)) (ca + 1) := m1.move (a2.at' _ m1.lt1 (by omega)) (a2.at' _ m1.lt2 (by omega))
    have hc0 := hat S' hk
    have hc1 := hat S1 k1
    have w1 : W .i64 ((i : Int) + 1) = (i : Int) + 1 := W_i64 (by omega)
    simp (maxDischargeDepth := 30) [hR, r0, r6, r7, r9, r11, e1, e2, hc0, hc1, hcx, h1, h2, w1]
    exact ⟨q, by omega, k2, i + 1, by omega, by simp, ca + 1, by omega, cb', by omega, A2, m2⟩

set_option maxHeartbeats 8000000 in
theorem sLaid {S : St} {v : Value} {w : List Int} {p s o mn cp k : Int} (hp : InI p) (hs : InI s) (ho : InI o) (hv : IsInts S.at .u64 v w) (hw : ∀ x ∈ w, Word x) :
    ∃ (a aw b bw : Nat) (S' : St) (ws : List Int) (ca cb : Int), calls table.find (n + 8) 4 [v, chart p s o mn cp k] S = some (.tuple #[.pointer (some ⟨a, 0, none⟩), .pointer (some ⟨b, 0, none⟩)], S', true) ∧ Grown S S' ∧ (S.top ≤ a ∧ S.top ≤ aw ∧ S.top ≤ b ∧ S.top ≤ bw) ∧
      (a ≠ b ∧ a ≠ bw ∧ aw ≠ b ∧ aw ≠ bw) ∧ (0 < ws.length ∧ ws.length ≤ 4096) ∧ (∀ x ∈ ws, Word x) ∧ (0 ≤ ca ∧ ca ≤ 4096) ∧ (0 ≤ cb ∧ cb ≤ 4096) ∧ Mem S' a aw ws ca ∧ RMem S' b bw ws cb := by
  obtain ⟨L0, hL0, hwo⟩ := words_any (p := p) (s := s) (o := o) (mn := mn) (cp := cp) k hp hs ho
  refine call_rd (x := fun y => ∃ (a aw b bw : Nat) (S' : St) (ws : List Int) (ca cb : Int), y = some (.tuple #[.pointer (some ⟨a, 0, none⟩), .pointer (some ⟨b, 0, none⟩)], S', true) ∧ Grown S S' ∧ (S.top ≤ a ∧ S.top ≤ aw ∧ S.top ≤ b ∧ S.top ≤ bw) ∧
      (a ≠ b ∧ a ≠ bw ∧ aw ≠ b ∧ aw ≠ bw) ∧ (0 < ws.length ∧ ws.length ≤ 4096) ∧ (∀ x ∈ ws, Word x) ∧ (0 ≤ ca ∧ ca ≤ 4096) ∧ (0 ≤ cb ∧ cb ≤ 4096) ∧ Mem S' a aw ws ca ∧ RMem S' b bw ws cb) (args := [v, chart p s o mn cp k]) b4 (by simp) fun R hR hargs => ?_
  have r0 : rd R 0 = v := hargs 0 (by simp)
  have r1 : rd R 1 = chart p s o mn cp k := hargs 1 (by simp)
  clear hargs
  unfold chart at r1 hwo
  have e3 : S.enter.top = S.top := rfl
  obtain ⟨X1, hX1⟩ : ∃ X, S.enter.push (.cells 25 [.int .i64 p, .int .i64 s, .int .i64 o, .int .i64 mn, .int .i64 cp, .int .u64 k]) = X := ⟨_, rfl⟩
  have t1 : X1.top = S.top + 1 := by rw [← hX1, top_push, top_enter]
  have c1 : X1.at S.top = some (.cells 25 [.int .i64 p, .int .i64 s, .int .i64 o, .int .i64 mn, .int .i64 cp, .int .u64 k]) := by rw [← hX1]; exact m_push_top
  have k1 : Kept S X1 := by rw [← hX1]; exact (Kept.enter S).push _
  obtain ⟨L, hL1, hL2, hcase⟩ : ∃ L : Nat, 1 ≤ L ∧ L ≤ 4096 ∧ ((L0 = 0 ∧ L = 64) ∨ (L0 ≠ 0 ∧ L = L0)) := by
    by_cases h : L0 = 0
    · exact ⟨64, by omega, by omega, .inl ⟨h, rfl⟩⟩
    · exact ⟨L0, by omega, by omega, .inr ⟨h, rfl⟩⟩
  obtain ⟨X2, h2, g2, t2, m2⟩ := sNewMem (n := n + 6) (S := X1) hL1 hL2
  obtain ⟨X3, h3, g3, t3, m3⟩ := rNewMem (n := n + 6) (S := X2) hL1 hL2
  have A3 : Mem X3 (X1.top + 1) X1.top (List.replicate L 0) 0 := m2.move (Grown.at' g3 _ m2.lt1) (Grown.at' g3 _ m2.lt2)
  have k3 : Kept S X3 := Grown.kept g3 S (Grown.kept g2 S k1)
  rw [← inW_zero (w := w)] at A3 m3
  rcases hcase with ⟨rfl, rfl⟩ | ⟨h0, rfl⟩
  · rw [show ((64 : Nat) : Int) = 64 from rfl] at h2 h3
    simp (maxDischargeDepth := 30) [hR, r0, r1, hX1, e3, t1, c1, hwo, h2, h3]
    generalize hR2 : wr _ 11 _ = R2
    obtain ⟨oo, R3, S3, he, rfl, hR3, r7, r9, k4, ca, cb, hca, hcb, A4, B4⟩ := laidLoop (n := n) (R := R2) (S0 := S) (S := X3) (w := w) (L := 64) (a := X1.top + 1) (aw := X1.top) (b := X2.top + 1) (bw := X2.top) hv hL2 (by omega) (by omega)
      (by simp [← hR2, hR]) (by simp [← hR2, r0]) (by simp [← hR2, hR]) (by simp [← hR2, hR]) (by simp [← hR2, hR]) (by simp [← hR2, hR]) k3 A3 m3
    rw [he]
    have hle := leave_new k4 (v := .tuple #[.pointer (some ⟨X1.top + 1, 0, none⟩), .pointer (some ⟨X2.top + 1, 0, none⟩)]) (by simp; omega)
    have il : (inW w 64 (min 64 w.length)).length = 64 := inW_len
    simp (maxDischargeDepth := 30) [hR3, r7, r9]
    rw [hle]
    exact ⟨X1.top + 1, X1.top, X2.top + 1, X2.top, S.left S3, rfl, Grown.left k4, by omega, by omega, _, by omega, inW_word hw, ca, hca, cb, hcb, A4.move rfl rfl, B4.move rfl rfl⟩
  · have b0 : ((L : Int) == 0) = false := by rw [beq_eq_false_iff_ne]; omega
    simp (maxDischargeDepth := 30) [hR, r0, r1, hX1, e3, t1, c1, hwo, b0, h2, h3]
    generalize hR2 : wr _ 11 _ = R2
    obtain ⟨oo, R3, S3, he, rfl, hR3, r7, r9, k4, ca, cb, hca, hcb, A4, B4⟩ := laidLoop (n := n) (R := R2) (S0 := S) (S := X3) (w := w) (L := L) (a := X1.top + 1) (aw := X1.top) (b := X2.top + 1) (bw := X2.top) hv hL2 (by omega) (by omega)
      (by simp [← hR2, hR]) (by simp [← hR2, r0]) (by simp [← hR2, hR]) (by simp [← hR2, hR]) (by simp [← hR2, hR]) (by simp [← hR2, hR]) k3 A3 m3
    rw [he]
    have hle := leave_new k4 (v := .tuple #[.pointer (some ⟨X1.top + 1, 0, none⟩), .pointer (some ⟨X2.top + 1, 0, none⟩)]) (by simp; omega)
    have il : (inW w L (min L w.length)).length = L := inW_len
    simp (maxDischargeDepth := 30) [hR3, r7, r9]
    rw [hle]
    exact ⟨X1.top + 1, X1.top, X2.top + 1, X2.top, S.left S3, rfl, Grown.left k4, by omega, by omega, _, by omega, inW_word hw, ca, hca, cb, hcb, A4.move rfl rfl, B4.move rfl rfl⟩
end

end Go.Proofs.YtepddcemoofmlaaGreat.Fast
