/- FastAlone's own text: what it comes to. -/
import Derived.Test.YtepddcemoofmlaaFastKitM
import Derived.Test.YtepddcemoofmlaaFastFastWorks
set_option linter.unusedSimpArgs false
set_option linter.unusedVariables false
namespace Go.Proofs.Ytepddcemoofmlaa.Fast
open Go Go.Proofs.Ytepddcemoofmlaa.AE Go.RowKit
set_option maxRecDepth 10000
set_option linter.unusedSimpArgs false
set_option linter.unusedVariables false

/-! ### four steps -/
def allocT : TaskP := { zeroT with job := 1 }
def freeT (i : Int) : TaskP := { zeroT with job := 2, pc := 10, obj := i }

section
variable {o i k : Nat} {f : Nat → Int} {t kw key : Int}

theorem lay_inR {f : Nat → Int} {h t kw : Int} {a : Nat} (ha : a < 12 + o) : inR (layW o f h t kw) (a : Int) = true := by
  unfold inR; rw [layW_len]; simp; omega
theorem lay_inR2 {f : Nat → Int} {h t kw : Int} : inR2 (layW o f h t kw) 0 = true := by
  unfold inR2; rw [layW_len]; simp; omega
theorem lay_ld0 {f : Nat → Int} {h t kw : Int} : ld (layW o f h t kw) 0 = h := by
  have := lay_inR (o := o) (f := f) (h := h) (t := t) (kw := kw) (a := 0) (by omega)
  unfold ld; rw [show (0 : Int) = ((0 : Nat) : Int) from rfl, this]; simp [wd, layW]
theorem lay_ld1 {f : Nat → Int} {h t kw : Int} : ld (layW o f h t kw) 1 = t := by
  have := lay_inR (o := o) (f := f) (h := h) (t := t) (kw := kw) (a := 1) (by omega)
  unfold ld; rw [show (1 : Int) = ((1 : Nat) : Int) from rfl, this]; simp [wd, layW]
theorem lay_ldL {f : Nat → Int} {h t kw : Int} (hi : i < o) : ld (layW o f h t kw) (12 + i : Int) = f i := by
  have := lay_inR (o := o) (f := f) (h := h) (t := t) (kw := kw) (a := 12 + i) (by omega)
  unfold ld; rw [show (12 : Int) + i = ((12 + i : Nat) : Int) by omega, this]
  simp only [if_true, Int.toNat_natCast]
  exact layW_link hi
theorem lay_hit {f : Nat → Int} {h t kw : Int} : hit (layW o f h t kw) 0 h t = true := by
  unfold hit; simp [wd, layW]
theorem lay_cas {f : Nat → Int} {h t kw x y : Int} : cas2W (layW o f h t kw) 0 h t x y = layW o f x y kw := by
  unfold cas2W
  rw [lay_hit]
  simp [layW]

theorem headI0 : headI 1 0 = 0 := by decide
theorem linkI0 (hi : i < o) : linkI 1 1 o 0 (i : Int) = 12 + i := by
  unfold linkI; rw [if_pos (by omega)]; omega
theorem objW_lt (hi : i ≤ k) (hk : k ≤ o) (ho : 1 ≤ o) : objW i k < o ∧ -1 ≤ objW i k := by
  unfold objW; split <;> omega
theorem objW_succ : (if i + 1 < k then ((i : Int) + 1) else -1) = objW (i + 1) k := by
  unfold objW; split <;> simp

theorem thru_step {P N O : Nat} {k : Int} {q i : Nat} {ws ws' : List Int} {x x' : TaskP} (hok : fastOk x) (hR : fastR P N O k ws x = (x', false, ws')) (hen : x'.en = 0) : thruP P N O k (q + 1) i ws x = thruP P N O k q (i + 1) ws' x' := by
  have h1 : fastT P N O k ws x = x' := by unfold fastT; rw [hR]; rfl
  have h2 : fastW P N O k ws x = ws' := by unfold fastW; rw [hR]
  rw [thruP, if_pos hok, h1, h2, if_pos hen]
theorem thru_last {P N O : Nat} {k : Int} {q i : Nat} {ws ws' : List Int} {x x' : TaskP} (hok : fastOk x) (hR : fastR P N O k ws x = (x', false, ws')) (hen : x'.en ≠ 0) : thruP P N O k (q + 1) i ws x = (x', i + 1, ws') := by
  have h1 : fastT P N O k ws x = x' := by unfold fastT; rw [hR]; rfl
  have h2 : fastW P N O k ws x = ws' := by unfold fastW; rw [hR]
  rw [thruP, if_pos hok, h1, h2, if_neg hen]

/-- An object is taken. -/
theorem thru_alloc (h1 : 1 ≤ o) (ho : o ≤ 16) (hk : k ≤ o) (hi : i < k) (hf : Ch f (keyI key 0) k) :
    ∃ x, thruP 1 1 o key 9 0 (layW o f (headW i k) t kw) allocT = (x, 4, layW o f (headW (i + 1) k) (W .u64 (t + 1)) kw) ∧ x.en = 1 ∧ x.obj = i := by
  have hob : objW i k = i := by unfold objW; rw [if_pos hi]
  have hs : headS (headW i k) = (0, (i : Int)) := by unfold headS; rw [headW_of (by omega), hob]; rfl
  have hok : headOk 1 o (headW i k) = true := by unfold headOk; rw [headW_of (by omega), hs]; simp; omega
  have hsh := hf i hi
  rw [objW_succ] at hsh
  obtain ⟨hy, hy'⟩ := objW_lt (i := i + 1) (k := k) (o := o) (by omega) hk h1
  have hp := headP_of (i := i + 1) (k := k) (by omega)
  have s1 : fastR 1 1 o key (layW o f (headW i k) t kw) allocT = ({ allocT with t := t, pc := 1 }, false, layW o f (headW i k) t kw) := by
    unfold fastR
    have hb : behindI (headI 1 allocT.cpu) = 1 := by decide
    have hr : inR (layW o f (headW i k) t kw) 1 = true := lay_inR (a := 1) (by omega)
    rw [if_pos (by left; rfl), hb, lay_ld1, hr]
    rfl
  have s2 : fastR 1 1 o key (layW o f (headW i k) t kw) { allocT with t := t, pc := 1 } = ({ allocT with t := t, pc := 2, h := headW i k, slab := 0, obj := i }, false, layW o f (headW i k) t kw) := by
    unfold fastR
    have hb : headI 1 allocT.cpu = 0 := by decide
    have hr : inR (layW o f (headW i k) t kw) 0 = true := lay_inR (a := 0) (by omega)
    have hn : ¬ (i : Int) < 0 := by omega
    simp [hb, lay_ld0, hs, hr, hok, hn]
  have s3 : fastR 1 1 o key (layW o f (headW i k) t kw) { allocT with t := t, pc := 2, h := headW i k, slab := 0, obj := i } = ({ allocT with t := t, pc := 3, h := headW i k, slab := 0, obj := i, last := objW (i + 1) k }, false, layW o f (headW i k) t kw) := by
    unfold fastR
    have hr : inR (layW o f (headW i k) t kw) (12 + i : Int) = true := by
      have := lay_inR (o := o) (f := f) (h := headW i k) (t := t) (kw := kw) (a := 12 + i) (by omega)
      rwa [show ((12 + i : Nat) : Int) = 12 + (i : Int) by omega] at this
    have hli := linkI0 (i := i) (o := o) (by omega)
    have hll := lay_ldL (o := o) (i := i) (f := f) (h := headW i k) (t := t) (kw := kw) (by omega)
    simp [hli, hll, hr, hsh, nextT, hy]
  have s4 : fastR 1 1 o key (layW o f (headW i k) t kw) { allocT with t := t, pc := 3, h := headW i k, slab := 0, obj := i, last := objW (i + 1) k } = ({ allocT with t := t, pc := 3, h := headW i k, slab := 0, obj := i, last := objW (i + 1) k, en := 1 }, false, layW o f (headW (i + 1) k) (W .u64 (t + 1)) kw) := by
    unfold fastR
    have hb : headI 1 allocT.cpu = 0 := by decide
    simp [swapR, hp, hb, lay_inR2, lay_hit, lay_cas]
  have ok : ∀ x : TaskP, x.en = 0 → x.want = 0 → (x.pc = 0 ∨ x.pc = 1 ∨ x.pc = 2 ∨ x.pc = 3 ∨ x.pc = 10 ∨ x.pc = 11 ∨ x.pc = 12 ∨ x.pc = 13) → fastOk x := fun x a b c => ⟨a, b, c⟩
  refine ⟨{ allocT with t := t, pc := 3, h := headW i k, slab := 0, obj := i, last := objW (i + 1) k, en := 1 }, ?_, rfl, rfl⟩
  rw [thru_step (ok _ rfl rfl (by decide)) s1 rfl, thru_step (ok _ rfl rfl (by simp)) s2 rfl, thru_step (ok _ rfl rfl (by simp)) s3 rfl, thru_last (ok _ rfl rfl (by simp)) s4 (by simp)]

/-- An object comes back. -/
theorem thru_free (h1 : 1 ≤ o) (ho : o ≤ 16) (hk : k ≤ o) (hi : i < k) (hf : Ch f (keyI key 0) k) (wf : ∀ i, Word (f i)) :
    ∃ x g, thruP 1 1 o key 9 0 (layW o f (headW (i + 1) k) t kw) (freeT i) = (x, 4, layW o g (headW i k) (W .u64 (t + 1)) kw) ∧ x.en = 1 ∧ Ch g (keyI key 0) k ∧ ∀ i, Word (g i) := by
  obtain ⟨hy, hy'⟩ := objW_lt (i := i + 1) (k := k) (o := o) (by omega) hk h1
  have hs : headS (headW (i + 1) k) = (0, objW (i + 1) k) := by unfold headS; rw [headW_of (by omega)]; rfl
  have hok : headOk 1 o (headW (i + 1) k) = true := by unfold headOk; rw [headW_of (by omega), hs]; simp; omega
  have hob : objW i k = i := by unfold objW; rw [if_pos hi]
  have hp := headP_of (i := i) (k := k) (by omega)
  rw [hob] at hp
  obtain ⟨y, hyy⟩ : ∃ y, objW (i + 1) k = y := ⟨_, rfl⟩
  rw [hyy] at hy hy' hs
  have hyo : y = -1 ∨ isObj y = true := by unfold isObj; simp; omega
  have hio : isObj (i : Int) = true := by unfold isObj; simp; omega
  have hh : hideP y (keyI key 0) i = some (B .xor .u64 (W .u64 (y + 1)) (turnedP (keyI key 0) i)) := by unfold hideP; rw [if_pos ⟨hyo, hio⟩]
  obtain ⟨g, hg⟩ : ∃ g : Nat → Int, g = fun j => if j = i then B .xor .u64 (W .u64 (y + 1)) (turnedP (keyI key 0) i) else f j := ⟨_, rfl⟩
  have hgi : g i = B .xor .u64 (W .u64 (y + 1)) (turnedP (keyI key 0) i) := by rw [hg]; simp
  have hgj : ∀ j, j ≠ i → g j = f j := fun j hj => by rw [hg]; simp [hj]
  have hset : ∀ h t, (layW o f h t kw).set (12 + i) (B .xor .u64 (W .u64 (y + 1)) (turnedP (keyI key 0) i)) = layW o g h t kw := fun h t => layW_setL hgi hgj
  have s1 : fastR 1 1 o key (layW o f (headW (i + 1) k) t kw) (freeT i) = ({ freeT i with t := t, pc := 11 }, false, layW o f (headW (i + 1) k) t kw) := by
    unfold fastR
    have hb : behindI (headI 1 (freeT i).cpu) = 1 := by show behindI (headI 1 0) = 1; decide
    have hr : inR (layW o f (headW (i + 1) k) t kw) 1 = true := lay_inR (a := 1) (by omega)
    rw [if_pos (by right; rfl), hb, lay_ld1, hr]
    rfl
  have s2 : fastR 1 1 o key (layW o f (headW (i + 1) k) t kw) { freeT i with t := t, pc := 11 } = ({ freeT i with t := t, pc := 12, h := headW (i + 1) k, last := y }, false, layW o f (headW (i + 1) k) t kw) := by
    unfold fastR
    have hb : headI 1 (freeT i).cpu = 0 := by show headI 1 0 = 0; decide
    have hr : inR (layW o f (headW (i + 1) k) t kw) 0 = true := lay_inR (a := 0) (by omega)
    have hsl : (freeT i).slab = 0 := rfl
    simp [hb, lay_ld0, hs, hr, hok, hsl]
  have s3 : fastR 1 1 o key (layW o f (headW (i + 1) k) t kw) { freeT i with t := t, pc := 12, h := headW (i + 1) k, last := y } = ({ freeT i with t := t, pc := 13, h := headW (i + 1) k, last := y }, false, layW o g (headW (i + 1) k) t kw) := by
    unfold fastR
    have hr : inR (layW o f (headW (i + 1) k) t kw) (12 + i : Int) = true := by
      have := lay_inR (o := o) (f := f) (h := headW (i + 1) k) (t := t) (kw := kw) (a := 12 + i) (by omega)
      rwa [show ((12 + i : Nat) : Int) = 12 + (i : Int) by omega] at this
    have hli := linkI0 (i := i) (o := o) (by omega)
    have hsl : (freeT i).slab = 0 := rfl
    have hobj : (freeT i).obj = i := rfl
    have hn : ((12 : Int) + i).toNat = 12 + i := by omega
    simp [tieR, hsl, hobj, hh, hli, hr, hn, hset]
  have s4 : fastR 1 1 o key (layW o g (headW (i + 1) k) t kw) { freeT i with t := t, pc := 13, h := headW (i + 1) k, last := y } = ({ freeT i with t := t, pc := 13, h := headW (i + 1) k, last := y, en := 1 }, false, layW o g (headW i k) (W .u64 (t + 1)) kw) := by
    unfold fastR
    have hb : headI 1 (freeT i).cpu = 0 := by show headI 1 0 = 0; decide
    have hsl : (freeT i).slab = 0 := rfl
    have hobj : (freeT i).obj = i := rfl
    simp [swapR, hsl, hobj, hp, hb, lay_inR2, lay_hit, lay_cas]
  have ok : ∀ x : TaskP, x.en = 0 → x.want = 0 → (x.pc = 0 ∨ x.pc = 1 ∨ x.pc = 2 ∨ x.pc = 3 ∨ x.pc = 10 ∨ x.pc = 11 ∨ x.pc = 12 ∨ x.pc = 13) → fastOk x := fun x a b c => ⟨a, b, c⟩
  refine ⟨{ freeT i with t := t, pc := 13, h := headW (i + 1) k, last := y, en := 1 }, g, ?_, rfl, ?_, ?_⟩
  · rw [thru_step (ok _ rfl rfl (by simp [freeT])) s1 rfl, thru_step (ok _ rfl rfl (by simp)) s2 rfl, thru_step (ok _ rfl rfl (by simp)) s3 rfl, thru_last (ok _ rfl rfl (by simp)) s4 (by simp)]
  · intro j hj
    by_cases hji : j = i
    · subst hji
      rw [hgi, objW_succ, hyy]
      exact show_hide (by omega) (by omega)
    · rw [hgj j hji]; exact hf j hj
  · intro j
    by_cases hji : j = i
    · subst hji; rw [hgi]; exact word_xor (word_W _) (word_turned _ _)
    · rw [hgj j hji]; exact wf j
end

end Go.Proofs.Ytepddcemoofmlaa.Fast

/- FastAlone's own text: its loops, and what it comes to. -/
namespace Go.Proofs.Ytepddcemoofmlaa.Fast
open Go Go.Proofs.Ytepddcemoofmlaa.AE Go.RowKit
set_option maxRecDepth 10000
set_option linter.unusedSimpArgs false
set_option linter.unusedVariables false

theorem out_slice {S : St} {lo sz : Nat} {e : TypeId} {v : Value} {c : List Value} {n : Nat} (h : OutRow S lo e sz v c n) : ∃ p cp, v = .slice p n cp := by
  rcases h with ⟨h1, _, rfl⟩ | ⟨_, _, b, rfl, _⟩
  · exact ⟨none, 0, by rw [h1]⟩
  · exact ⟨_, _, rfl⟩

theorem full_counts {o : Nat} (ho : o = 16 ∨ o = 10) : ∃ c, countsP (196608 + 257 * o) = some c := by
  rcases ho with rfl | rfl
  · refine ⟨readC 200720, ?_⟩
    show countsP 200720 = _
    unfold countsP
    rw [if_pos (by decide)]
  · refine ⟨readC 199178, ?_⟩
    show countsP 199178 = _
    unfold countsP
    rw [if_pos (by decide)]

/-- What stands while FastAlone runs. -/
structure AloSt (S : St) (bm bw cb k : Nat) (kw key nn tk : Int) (j : Nat) (R : List Value) (S' : St) : Prop where
  len : R.length = 143
  r0 : rd R 0 = .int .i64 nn
  r7 : rd R 7 = .int .i64 k
  r8 : rd R 8 = .pointer (some ⟨bm, 0, none⟩)
  r9 : rd R 9 = .pointer (some ⟨cb, 0, none⟩)
  r10 : rd R 10 = .int .i64 tk
  kept : Kept S S'
  ch : S'.at cb = some (.cells 26 [.int .i64 1, .int .i64 1, .int .i64 16, .int .i64 0, .int .i64 0, .int .u64 key])
  mem : ∃ (f : Nat → Int) (t cnt : Int), Ch f (keyI key 0) k ∧ (∀ i, Word (f i)) ∧ Word t ∧ (0 ≤ cnt ∧ cnt + 9 * j ≤ 1000) ∧ Mem S' bm bw (layW 16 f (headW j k) t kw) cnt

section
variable {S : St} {bm bw cb k : Nat} {key nn kw : Int} {T : Nat} {c : CountsP} (wkw : Word kw) (hcc : countsP kw = some c)
include wkw hcc

set_option maxHeartbeats 8000000 in
theorem aloLoop1 {R : List Value} {S' : St} {f : Nat → Int} {cnt : Int} (hk : k ≤ 16) (hT : T ≤ k) (b1 : S.top ≤ bm) (b2 : S.top ≤ bw) (b3 : S.top ≤ cb) (b4 : cb ≠ bm) (b5 : cb ≠ bw)
    (hR : R.length = 143) (r0 : rd R 0 = .int .i64 nn) (r7 : rd R 7 = .int .i64 k) (r8 : rd R 8 = .pointer (some ⟨bm, 0, none⟩)) (r9 : rd R 9 = .pointer (some ⟨cb, 0, none⟩)) (r10 : rd R 10 = .int .i64 T) (r11 : rd R 11 = .int .i64 0)
    (hkp : Kept S S') (hch : S'.at cb = some (.cells 26 [.int .i64 1, .int .i64 1, .int .i64 16, .int .i64 0, .int .i64 0, .int .u64 key])) (hf : Ch f (keyI key 0) k) (wf : ∀ i, Word (f i)) (hc : 0 ≤ cnt ∧ cnt ≤ 100)
    (hM : Mem S' bm bw (layW 16 f (headW 0 k) (W .u64 nn) kw) cnt) :
    Leads (evCode known loop3_0 R S') fun o R' S' => o = .exit 0 ∧ AloSt S bm bw cb k kw key nn T T R' S' := by
  have hm := may11 (o := 16) (by omega) (by omega)
  rw [eloop3_0]
  refine loop_goes (fun q R S' => ∃ i : Nat, i + q = T ∧ R.length = 143 ∧ rd R 0 = .int .i64 nn ∧ rd R 7 = .int .i64 k ∧ rd R 8 = .pointer (some ⟨bm, 0, none⟩) ∧ rd R 9 = .pointer (some ⟨cb, 0, none⟩) ∧ rd R 10 = .int .i64 T ∧ rd R 11 = .int .i64 i ∧ Kept S S' ∧
    S'.at cb = some (.cells 26 [.int .i64 1, .int .i64 1, .int .i64 16, .int .i64 0, .int .i64 0, .int .u64 key]) ∧ ∃ cnt : Int, (0 ≤ cnt ∧ cnt ≤ 100 + 9 * i) ∧ Mem S' bm bw (layW 16 f (headW i k) (W .u64 (nn + i)) kw) cnt) _ T (by omega)
    ⟨0, by omega, hR, r0, r7, r8, r9, r10, r11, hkp, hch, cnt, by omega, by simpa using hM⟩ ?_
  clear hR r0 r7 r8 r9 r10 r11 hkp hch hM hc
  rintro q R S' ⟨i, hq, hR, r0, r7, r8, r9, r10, r11, hkp, hch, cnt, hc, hM⟩
  cases q with
  | zero =>
    obtain rfl : i = T := by omega
    simp (maxDischargeDepth := 30) [hR, r10, r11]
    exact ⟨by simp [hR], by simp [r0], by simp [r7], by simp [r8], by simp [r9], by simp [r10], hkp, hch, f, _, cnt, hf, wf, word_W _, by omega, hM⟩
  | succ q =>
    have e1 : i < T := by omega
    have hw := layW_word (o := 16) (headW_word (i := i) (k := k) (by omega)) (word_W (nn + i)) wkw wf
    obtain ⟨x, hx, hen, hob⟩ := thru_alloc (o := 16) (i := i) (k := k) (f := f) (t := W .u64 (nn + i)) (kw := kw) (key := key) (by omega) (by omega) hk (by omega) hf
    obtain ⟨cnt1, hc1, S1, q1, h1, a1, t1, m1⟩ := sThrough (n := 54) (most := 9) (x0 := allocT) hm hM (by rw [layW_len]; omega) (by rw [layW_len]; omega) hw (by omega) (by omega)
    rw [hx] at h1 m1
    have hturn : W .u64 (W .u64 (nn + i) + 1) = W .u64 (nn + ((i + 1 : Nat) : Int)) := by rw [W_u64, W_u64, W_u64]; omega
    rw [hturn] at m1
    obtain ⟨X2, hX2⟩ : ∃ X, (S1.push (.cells 30 zeroT.cells)).wrote S1.top (.cells 30 x.cells) (.agg ⟨x.cells⟩) = X := ⟨_, rfl⟩
    have lt1 := hM.lt1
    have lt2 := hM.lt2
    have ltc := lt_top hch
    have at2 : ∀ j, j < S1.top → X2.at j = S1.at j := fun j hj => by rw [← hX2, m_wrote_ne (by omega), push_chain hj]
    have c2 : X2.at S1.top = some (.cells 30 x.cells) := by rw [← hX2, m_wrote (by rw [m_push_top]; rfl)]
    have m2 : Mem X2 bm bw (layW 16 f (headW (i + 1) k) (W .u64 (nn + ((i + 1 : Nat) : Int))) kw) cnt1 := m1.move (at2 _ (by omega)) (at2 _ (by omega))
    have ch1 : S1.at cb = some (.cells 26 [.int .i64 1, .int .i64 1, .int .i64 16, .int .i64 0, .int .i64 0, .int .u64 key]) := by rw [a1.at' cb ltc (by omega)]; exact hch
    have ch2 : X2.at cb = some (.cells 26 [.int .i64 1, .int .i64 1, .int .i64 16, .int .i64 0, .int .i64 0, .int .u64 key]) := by rw [at2 _ (by omega)]; exact ch1
    have k1 : Kept S S1 := Aft.kept a1 hkp fun d hd _ => by
      have hd : d = bm ∨ d = bw := hd
      omega
    have k2 : Kept S X2 := by rw [← hX2]; exact (k1.push _).wrote _ _ k1.top
    obtain ⟨v, S3, h3, g3, i3⟩ := sListed (n := 54) (o := 16) (i := i + 1) (k := k) (f := f) (key := key) (c := c) m2 (by omega) (by omega) hk (by omega) hf hcc (word_W _) wkw wf
    have k3 := Grown.kept g3 S k2
    have c3 := g3.same c2
    have ch3 := g3.same ch2
    have m3 : Mem S3 bm bw (layW 16 f (headW (i + 1) k) (W .u64 (nn + ((i + 1 : Nat) : Int))) kw) cnt1 := m2.move (Grown.at' g3 _ m2.lt1) (Grown.at' g3 _ m2.lt2)
    obtain ⟨p, cp, hv⟩ := out_slice i3.2
    rw [fromTo_len] at hv
    obtain ⟨D, hD⟩ : ∃ D : Nat, D = k - (i + 1) := ⟨_, rfl⟩
    rw [← hD] at hv
    subst hv
    have be : (x.en != 1) = false := by simp [hen]
    have bo : (x.obj != (i : Int)) = false := by simp [hob]
    have w1 : W .i64 ((i : Int) + 1) = (i : Int) + 1 := W_i64 (by omega)
    have wk1 : W .i64 ((k : Int) - i) = (k : Int) - i := W_i64 (by omega)
    have wk2 : W .i64 ((k : Int) - i - 1) = D := by rw [W_i64 (by omega)]; omega
    have wt : W .u64 (W .u64 (W .u64 nn + W .u64 (i : Int)) + 1) = W .u64 (nn + ((i + 1 : Nat) : Int)) := by rw [W_u64, W_u64, W_u64, W_u64, W_u64]; omega
    have hz : zeroT.cells = [.int .i64 0, .int .i64 0, .int .i64 0, .int .i64 0, .int .i64 0, .int .i64 0, .int .i64 0, .int .u64 0, .int .u64 0, .int .u64 0, .int .u64 0, .int .u64 0, .int .i64 0, .int .i64 0, .int .i64 0, .int .i64 0, .int .i64 0] := rfl
    have ha : allocT.cells = [.int .i64 1, .int .i64 0, .int .i64 0, .int .i64 0, .int .i64 0, .int .i64 0, .int .i64 0, .int .u64 0, .int .u64 0, .int .u64 0, .int .u64 0, .int .u64 0, .int .i64 0, .int .i64 0, .int .i64 0, .int .i64 0, .int .i64 0] := rfl
    rw [hz] at hX2
    rw [ha] at h1
    simp only [TaskP.cells, chart] at h1 hX2 c2 c3 h3
    rw [show ((1 : Nat) : Int) = 1 from rfl, show ((9 : Nat) : Int) = 9 from rfl, show ((16 : Nat) : Int) = 16 from rfl, show ((4 : Nat) : Int) = 4 from rfl] at h1
    rw [show ((16 : Nat) : Int) = 16 from rfl] at h3
    simp (maxDischargeDepth := 30) [known_cons, hR, r0, r7, r8, r9, r10, r11, e1, hch, h1, hX2, ch2, h3, c3, be, bo, w1, wk1, wk2, wt]
    exact ⟨q, by omega, i + 1, by omega, by omega, k3, ch3, cnt1, by omega, by simpa using m3⟩

set_option maxHeartbeats 8000000 in
theorem aloLoop2 {R : List Value} {S' : St} (hk : k ≤ 16) (hT : T ≤ k) (b1 : S.top ≤ bm) (b2 : S.top ≤ bw) (b3 : S.top ≤ cb) (b4 : cb ≠ bm) (b5 : cb ≠ bw)
    (h0 : AloSt S bm bw cb k kw key nn T T R S') (r17 : rd R 17 = .int .i64 ((T : Int) - 1)) :
    Leads (evCode known loop3_1 R S') fun o R' S' => o = .exit 2 ∧ R'.length = 143 ∧ Kept S S' := by
  have hm := may11 (o := 16) (by omega) (by omega)
  rw [eloop3_1]
  refine loop_goes (fun q R S' => q ≤ T ∧ AloSt S bm bw cb k kw key nn T q R S' ∧ rd R 17 = .int .i64 ((q : Int) - 1)) _ T (by omega) ⟨Nat.le_refl _, h0, r17⟩ ?_
  clear h0 r17
  rintro q R S' ⟨hq, ⟨hR, r0, r7, r8, r9, r10, hkp, hch, f, t, cnt, hf, wf, wt, hc, hM⟩, r17⟩
  cases q with
  | zero =>
    simp (maxDischargeDepth := 30) [hR, r17]
    exact hkp
  | succ i =>
    have r17 : rd R 17 = .int .i64 (i : Int) := by rw [r17]; congr 1; omega
    have hw := layW_word (o := 16) (headW_word (i := i + 1) (k := k) (by omega)) wt wkw wf
    obtain ⟨x, g, hx, hen, hg, wg⟩ := thru_free (o := 16) (i := i) (k := k) (f := f) (t := t) (kw := kw) (key := key) (by omega) (by omega) hk (by omega) hf wf
    obtain ⟨cnt1, hc1, S1, q1, h1, a1, t1, m1⟩ := sThrough (n := 54) (most := 9) (x0 := freeT i) hm hM (by rw [layW_len]; omega) (by rw [layW_len]; omega) hw (by omega) (by omega)
    rw [hx] at h1 m1
    obtain ⟨X2, hX2⟩ : ∃ X, (S1.push (.cells 30 zeroT.cells)).wrote S1.top (.cells 30 x.cells) (.agg ⟨x.cells⟩) = X := ⟨_, rfl⟩
    have lt1 := hM.lt1
    have lt2 := hM.lt2
    have ltc := lt_top hch
    have at2 : ∀ j, j < S1.top → X2.at j = S1.at j := fun j hj => by rw [← hX2, m_wrote_ne (by omega), push_chain hj]
    have c2 : X2.at S1.top = some (.cells 30 x.cells) := by rw [← hX2, m_wrote (by rw [m_push_top]; rfl)]
    have m2 : Mem X2 bm bw (layW 16 g (headW i k) (W .u64 (t + 1)) kw) cnt1 := m1.move (at2 _ (by omega)) (at2 _ (by omega))
    have ch1 : S1.at cb = some (.cells 26 [.int .i64 1, .int .i64 1, .int .i64 16, .int .i64 0, .int .i64 0, .int .u64 key]) := by rw [a1.at' cb ltc (by omega)]; exact hch
    have ch2 : X2.at cb = some (.cells 26 [.int .i64 1, .int .i64 1, .int .i64 16, .int .i64 0, .int .i64 0, .int .u64 key]) := by rw [at2 _ (by omega)]; exact ch1
    have k1 : Kept S S1 := Aft.kept a1 hkp fun d hd _ => by
      have hd : d = bm ∨ d = bw := hd
      omega
    have k2 : Kept S X2 := by rw [← hX2]; exact (k1.push _).wrote _ _ k1.top
    obtain ⟨v, S3, h3, g3, i3⟩ := sListed (n := 54) (o := 16) (i := i) (k := k) (f := g) (key := key) (c := c) m2 (by omega) (by omega) hk (by omega) hg hcc (word_W _) wkw wg
    have k3 := Grown.kept g3 S k2
    have c3 := g3.same c2
    have ch3 := g3.same ch2
    have m3 : Mem S3 bm bw (layW 16 g (headW i k) (W .u64 (t + 1)) kw) cnt1 := m2.move (Grown.at' g3 _ m2.lt1) (Grown.at' g3 _ m2.lt2)
    obtain ⟨b, hv, hb⟩ : ∃ b, v = .slice (some ⟨b, 0, none⟩) (k - i) 0 ∧ S3.at b = some (.cells 3 ((fromTo i k).map (Value.int .i64))) := by
      rcases i3.2 with ⟨h, _, _⟩ | ⟨_, _, b, h1, _, h3⟩
      · rw [fromTo_len] at h; omega
      · rw [fromTo_len] at h1; exact ⟨b, h1, h3⟩
    obtain ⟨D, hD⟩ : ∃ D : Nat, D = k - i := ⟨_, rfl⟩
    rw [← hD] at hv
    rw [fromTo_cons (by omega)] at hb
    subst hv
    have hD0 : 0 < D := by omega
    have be : (x.en != 1) = false := by simp [hen]
    have w1 : W .i64 ((i : Int) - 1) = (i : Int) - 1 := W_i64 (by omega)
    have wk1 : W .i64 ((k : Int) - i) = D := by rw [W_i64 (by omega)]; omega
    have hz : zeroT.cells = [.int .i64 0, .int .i64 0, .int .i64 0, .int .i64 0, .int .i64 0, .int .i64 0, .int .i64 0, .int .u64 0, .int .u64 0, .int .u64 0, .int .u64 0, .int .u64 0, .int .i64 0, .int .i64 0, .int .i64 0, .int .i64 0, .int .i64 0] := rfl
    have ha : (freeT i).cells = [.int .i64 2, .int .i64 0, .int .i64 10, .int .i64 0, .int .i64 0, .int .i64 0, .int .i64 i, .int .u64 0, .int .u64 0, .int .u64 0, .int .u64 0, .int .u64 0, .int .i64 0, .int .i64 0, .int .i64 0, .int .i64 0, .int .i64 0] := rfl
    have fin : ∀ R' : List Value, R'.length = 143 → rd R' 0 = .int .i64 nn → rd R' 7 = .int .i64 k → rd R' 8 = .pointer (some ⟨bm, 0, none⟩) → rd R' 9 = .pointer (some ⟨cb, 0, none⟩) → rd R' 10 = .int .i64 T → AloSt S bm bw cb k kw key nn T i R' S3 := fun R' a b c d e h => ⟨a, b, c, d, e, h, k3, ch3, g, _, cnt1, hg, wg, word_W _, by omega, m3⟩
    rw [hz] at hX2
    rw [ha] at h1
    simp only [TaskP.cells, chart] at h1 hX2 c2 c3 h3
    rw [show ((1 : Nat) : Int) = 1 from rfl, show ((9 : Nat) : Int) = 9 from rfl, show ((16 : Nat) : Int) = 16 from rfl, show ((4 : Nat) : Int) = 4 from rfl] at h1
    rw [show ((16 : Nat) : Int) = 16 from rfl] at h3
    simp (maxDischargeDepth := 30) [known_cons, hR, r0, r7, r8, r9, r10, r17, hch, h1, hX2, ch2, h3, c3, be, w1, wk1, hb, hD0]
    refine ⟨i, by omega, by omega, fin _ ?_ ?_ ?_ ?_ ?_ ?_, rfl⟩ <;> simp [hR, r0, r7, r8, r9, r10]
end

set_option maxHeartbeats 8000000 in
theorem ranAlone {S : St} {nn key many : Int} : evFun table.find known 3 [.int .i64 nn, .int .u64 key, .int .i64 many] S = some (.bool true, S, true) := by
  refine law_rd (x := fun y => y = _) b3 (by simp) fun R hR hargs => ?_
  have r0 : rd R 0 = .int .i64 nn := hargs 0 (by simp)
  have r1 : rd R 1 = .int .u64 key := hargs 1 (by simp)
  have r2 : rd R 2 = .int .i64 many := hargs 2 (by simp)
  clear hargs
  obtain ⟨k, hk⟩ : ∃ k : Nat, 1 + nn % 16 = (k : Int) := ⟨(1 + nn % 16).toNat, by omega⟩
  obtain ⟨T, hT⟩ : ∃ T : Nat, 1 + many % k = (T : Int) := ⟨(1 + many % k).toNat, by have := Int.emod_nonneg many (show (k : Int) ≠ 0 by omega); omega⟩
  have hTk : T ≤ k := by have := Int.emod_lt_of_pos many (show (0 : Int) < k by omega); omega
  have hb1 := fun (S : St) => @sBring 63 S nn 16 (by omega) (by omega)
  have hb2 := fun (S : St) => @sBring 63 S many k (by omega) (by omega)
  have wk : W .i64 (k : Int) = k := W_i64 (by omega)
  have wT : W .i64 (T : Int) = T := W_i64 (by omega)
  have wT1 : W .i64 ((T : Int) - 1) = (T : Int) - 1 := W_i64 (by omega)
  obtain ⟨bm, bw, S1, cnt, h1, g1, b1, b2, hc, hM⟩ := sStocked (n := 56) (S := S.enter) (m := k) (o := 16) (key := key) (turn := W .u64 nn) (.inl rfl) (by omega) (word_W _)
  obtain ⟨c, hcc⟩ := full_counts (o := 16) (.inl rfl)
  have k1 : Kept S S1 := Grown.kept g1 S (Kept.enter S)
  obtain ⟨X2, hX2⟩ : ∃ X, (S1.push (.cells 26 [.int .i64 0, .int .i64 0, .int .i64 0, .int .i64 0, .int .i64 0, .int .u64 0])).wrote S1.top (.cells 26 [.int .i64 1, .int .i64 1, .int .i64 16, .int .i64 0, .int .i64 0, .int .u64 key]) (.agg ⟨[.int .i64 1, .int .i64 1, .int .i64 16, .int .i64 0, .int .i64 0, .int .u64 key]⟩) = X := ⟨_, rfl⟩
  have lt1 := hM.lt1
  have lt2 := hM.lt2
  have at2 : ∀ j, j < S1.top → X2.at j = S1.at j := fun j hj => by rw [← hX2, m_wrote_ne (by omega), push_chain hj]
  have k2 : Kept S X2 := by rw [← hX2]; exact (k1.push _).wrote _ _ k1.top
  have ch2 : X2.at S1.top = some (.cells 26 [.int .i64 1, .int .i64 1, .int .i64 16, .int .i64 0, .int .i64 0, .int .u64 key]) := by rw [← hX2, m_wrote (by rw [m_push_top]; rfl)]
  have m2 := hM.move (at2 _ lt1) (at2 _ lt2)
  have hk1 := k1.top
  simp only [chart] at h1
  rw [show ((16 : Nat) : Int) = 16 from rfl] at h1
  simp (maxDischargeDepth := 30) [known_cons, hR, r0, r1, r2, hb1, hk, wk, h1, hX2, hb2, hT, wT]
  generalize hR2 : wr (wr _ _ _) 11 _ = R2
  obtain ⟨o, R3, S3, he, rfl, h3⟩ := aloLoop1 (S := S) (bm := bm) (bw := bw) (cb := S1.top) (k := k) (key := key) (nn := nn) (T := T) ⟨by omega, by omega⟩ hcc (R := R2) (S' := X2) (f := fun j => if j < k then freshF k (keyI key 0) j else 0) (cnt := cnt) (by omega) hTk b1 b2 hk1 (by omega) (by omega)
    (by simp [← hR2, hR]) (by simp [← hR2, r0]) (by simp [← hR2, hR]) (by simp [← hR2, hR]) (by simp [← hR2, hR]) (by simp [← hR2, hR]) (by simp [← hR2, hR]) k2 ch2 (fresh_chain (by omega)) (fun i => fresh_word i) hc m2
  rw [he]
  have hR3 := h3.len
  have r10 := h3.r10
  simp (maxDischargeDepth := 30) [hR3, r10, wT1]
  generalize hR4 : wr (wr _ _ _) 17 _ = R4
  obtain ⟨g0, g1', g2, g3, g4, g5, g6, g7, g8⟩ := h3
  obtain ⟨o, R5, S5, he5, rfl, hR5, k5⟩ := aloLoop2 (S := S) (bm := bm) (bw := bw) (cb := S1.top) (k := k) (key := key) (nn := nn) (T := T) ⟨by omega, by omega⟩ hcc (R := R4) (S' := S3) (by omega) hTk b1 b2 hk1 (by omega) (by omega)
    ⟨by simp [← hR4, g0], by simp [← hR4, g1'], by simp [← hR4, g2], by simp [← hR4, g3], by simp [← hR4, g4], by simp [← hR4, g5], g6, g7, g8⟩ (by simp [← hR4, g0])
  rw [he5]
  simp (maxDischargeDepth := 30) [hR5, known_works]
  exact leave_quiet k5.wr rfl

end Go.Proofs.Ytepddcemoofmlaa.Fast
