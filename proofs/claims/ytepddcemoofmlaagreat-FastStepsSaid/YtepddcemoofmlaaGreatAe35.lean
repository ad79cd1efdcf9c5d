/- What is kept of a heap while a call runs, and what a call leaves. -/
import Derived.Test.YtepddcemoofmlaaGreatAe34
namespace Go.Proofs.YtepddcemoofmlaaGreat.AE
open Go

/-- From S on nothing of S's blocks was written, and no block of S's refers to a newer one. -/
structure Kept (S S1 : St) : Prop where
  wr : S.top ≤ S1.wr
  esc : S.top ≤ S1.esc
  top : S.top ≤ S1.top
  at' : ∀ j, j < S.top → S1.at j = S.at j

theorem Kept.enter (S : St) : Kept S S.enter := ⟨Nat.le_refl _, Nat.le_refl _, Nat.le_refl _, fun _ _ => rfl⟩

section
variable {S S1 S2 : St}

theorem Kept.push (h : Kept S S1) (o : AObj) : Kept S (S1.push o) :=
  ⟨h.wr, h.esc, by rw [top_push]; have := h.top; omega, fun j hj => by
    rw [← h.at' j hj]
    have : j < S1.blks.length := Nat.lt_of_lt_of_le hj h.top
    simp only [St.at, St.push]
    rw [List.getElem?_append_left this]⟩

theorem Kept.wrote (h : Kept S S1) {b : Nat} (o : AObj) (v : Value) (hb : S.top ≤ b) : Kept S (S1.wrote b o v) := by
  refine ⟨Nat.le_min.2 ⟨h.wr, hb⟩, ?_, by rw [top_wrote]; exact h.top, fun j hj => by rw [m_wrote_ne (by omega)]; exact h.at' j hj⟩
  show S.top ≤ if refsLt (b + 1) v then S1.esc else min S1.esc b
  split
  · exact h.esc
  · exact Nat.le_min.2 ⟨h.esc, hb⟩

theorem Kept.app (h : Kept S S1) {b : Nat} (o : AObj) (hb : S.top ≤ b) : Kept S (S1.app b o) := by
  refine ⟨Nat.le_min.2 ⟨h.wr, hb⟩, h.esc, by rw [top_app]; have := h.top; omega, fun j hj => ?_⟩
  rw [← h.at' j hj]
  have : j < S1.blks.length := Nat.lt_of_lt_of_le hj h.top
  simp only [St.at, St.app]
  rw [List.getElem?_append_left (by simpa using this), List.getElem?_set_ne (by omega)]

/-- What a call leaves that hands back something new. -/
def St.left (S S1 : St) : St := ⟨S1.blks, min S.wr S1.wr, min S.esc S1.esc⟩

@[simp] theorem at_left {b : Nat} : (S.left S1).at b = S1.at b := (rfl)
theorem top_left : (S.left S1).top = S1.top := rfl

theorem Kept.left (h : Kept S S1) (k : Kept S1 S2) : Kept S (S1.left S2) :=
  ⟨Nat.le_min.2 ⟨h.wr, Nat.le_trans h.top k.wr⟩, Nat.le_min.2 ⟨h.esc, Nat.le_trans h.top k.esc⟩, Nat.le_trans h.top k.top,
    fun j hj => (k.at' j (Nat.lt_of_lt_of_le hj h.top)).trans (h.at' j hj)⟩

theorem Kept.quiet (h : Kept S S1) : Quiet S S1 := h.wr

theorem Kept.same (h : Kept S S1) {b : Nat} {o : AObj} (hb : S.at b = some o) : S1.at b = some o := by rw [h.at' b (lt_top hb)]; exact hb

/-- A call whose value refers to something new. -/
theorem leave_new (h : Kept S S1) {v : Value} (hv : refsLt S.top v = false) : leave S S1 v = (v, S.left S1, true) := by
  rw [leave_eq]
  have := h.wr
  simp [hv, this, St.left]

theorem refs_new {b off len cp n : Nat} (h : n ≤ b) : refsLt n (.slice (some ⟨b, off, none⟩) len cp) = false := by simp; omega

/-! ### Calls that write what was there -/
/-- Something that was there before was written. -/
def Dirty (S S1 : St) : Prop := S1.wr < S.top
/-- No old block refers to a new one. -/
def Safe (S S1 : St) : Prop := S.top ≤ S1.esc
/-- What a call leaves that wrote old blocks and hands back nothing new. -/
def St.back (S S1 : St) : St := ⟨S1.blks.take S.top, min S.wr S1.wr, min S.esc S1.esc⟩

@[simp] theorem dirty_enter : Dirty S S1.enter ↔ S1.top < S.top := (Iff.rfl)
@[simp] theorem dirty_push {o : AObj} : Dirty S (S1.push o) ↔ Dirty S S1 := (Iff.rfl)
@[simp] theorem dirty_wrote {b : Nat} {o : AObj} {v : Value} : Dirty S (S1.wrote b o v) ↔ Dirty S S1 ∨ b < S.top := by simp [Dirty, St.wrote]; omega
@[simp] theorem dirty_app {b : Nat} {o : AObj} : Dirty S (S1.app b o) ↔ Dirty S S1 ∨ b < S.top := by simp [Dirty, St.app]; omega
@[simp] theorem dirty_back : Dirty S (S1.back S2) ↔ Dirty S S1 ∨ Dirty S S2 := by simp [Dirty, St.back]; omega
@[simp] theorem dirty_left : Dirty S (S1.left S2) ↔ Dirty S S1 ∨ Dirty S S2 := by simp [Dirty, St.left]; omega
@[simp] theorem quiet_back : Quiet S (S1.back S2) ↔ Quiet S S1 ∧ Quiet S S2 := by simp [Quiet, St.back]; omega
@[simp] theorem quiet_left : Quiet S (S1.left S2) ↔ Quiet S S1 ∧ Quiet S S2 := by simp [Quiet, St.left]; omega
@[simp] theorem safe_enter : Safe S S1.enter ↔ S.top ≤ S1.top := (Iff.rfl)
@[simp] theorem safe_push {o : AObj} : Safe S (S1.push o) ↔ Safe S S1 := (Iff.rfl)
@[simp] theorem safe_wrote {b : Nat} {o : AObj} {v : Value} (h : refsLt (b + 1) v = true) : Safe S (S1.wrote b o v) ↔ Safe S S1 := by simp [Safe, St.wrote, h]
@[simp] theorem safe_app {b : Nat} {o : AObj} : Safe S (S1.app b o) ↔ Safe S S1 := (Iff.rfl)
@[simp] theorem safe_back : Safe S (S1.back S2) ↔ Safe S S1 ∧ Safe S S2 := by simp [Safe, St.back]; omega
@[simp] theorem safe_left : Safe S (S1.left S2) ↔ Safe S S1 ∧ Safe S S2 := by simp [Safe, St.left]; omega

@[simp] theorem at_back {b : Nat} (h : (S.at b).isSome = true) : (S.back S1).at b = S1.at b := by
  have := isSome_lt h
  simp only [St.at, St.back]
  rw [List.getElem?_take_of_lt this]
theorem top_back (h : S.top ≤ S1.top) : (S.back S1).top = S.top := by
  simp only [St.top, St.back, List.length_take] at *; omega

@[simp] theorem top_le_back (h : S.top ≤ S1.top) (k : S1.top ≤ S2.top) : S.top ≤ (S1.back S2).top := by rw [top_back k]; exact h
@[simp] theorem top_le_left (h : S.top ≤ S2.top) : S.top ≤ (S1.left S2).top := h
@[simp] theorem top_le_enter2 (h : S.top ≤ S1.top) : S.top ≤ S1.enter.top := h

@[simp] theorem lt_top' {b : Nat} (h : (S.at b).isSome = true) : (b < S.top) = True := by
  have := isSome_lt h
  simp [this]

theorem leave_dirty {v : Value} (hd : Dirty S S1) (hs : Safe S S1) (hv : refsLt S.top v = true) : leave S S1 v = (v, S.back S1, false) := by
  rw [leave_eq]
  have h1 : ¬ S.top ≤ S1.wr := by unfold Dirty at hd; omega
  have h2 : S.top ≤ S1.esc := hs
  simp [h1, h2, hv, St.back]

/-- out = append(out, ..), where out is a row that this call made. -/
theorem app_row {b len n sz bytes cp : Nat} {e : TypeId} {c xs : List Value} (hb : S.at b = some (.cells e c)) (hc : c.length = len * sz) (hn : xs.length = n * sz) (hs : 0 < sz) (h0 : 0 < n) (ho : xs.all one = true)
    (hle : len + n ≤ 100000000) (hy : bytes ≤ 1000) :
    appK e sz bytes (.slice (some ⟨b, 0, none⟩) len 0) (rowS (S.push (.cells e xs)) sz (.slice (some ⟨S.top, 0, none⟩) n cp)) (S.push (.cells e xs)) =
      some (.slice (some ⟨(S.push (.cells e xs)).top, 0, none⟩) (len + n) 0, (S.push (.cells e xs)).app b (.cells e (c ++ xs))) := by
  rw [row_new m_push_top hn ho]
  refine app_more (by rw [m_push (by rw [hb]; rfl)]; exact hb) hc hs h0 ⟨?_, by omega⟩
  calc (2 * (len + n) + 768) * bytes ≤ (2 * 100000000 + 768) * 1000 := Nat.mul_le_mul (by omega) hy
    _ ≤ 281474976710656 := by decide

/-- out = append(out, ..), where out is nil. -/
theorem app_first {n sz bytes cp : Nat} {e : TypeId} {xs : List Value} (hn : xs.length = n * sz) (h0 : 0 < n) (ho : xs.all one = true) (hle : n ≤ 100000000) (hy : bytes ≤ 1000) :
    appK e sz bytes (.slice none 0 0) (rowS (S.push (.cells e xs)) sz (.slice (some ⟨S.top, 0, none⟩) n cp)) (S.push (.cells e xs)) =
      some (.slice (some ⟨(S.push (.cells e xs)).top, 0, none⟩) n 0, (S.push (.cells e xs)).push (.cells e xs)) := by
  rw [row_new m_push_top hn ho]
  refine app_nil h0 ⟨?_, by omega⟩
  calc (2 * n + 768) * bytes ≤ (2 * 100000000 + 768) * 1000 := Nat.mul_le_mul (by omega) hy
    _ ≤ 281474976710656 := by decide

end
end Go.Proofs.YtepddcemoofmlaaGreat.AE
