/- What a heap of named blocks says of the model's world; values carried over by a naming. -/
import Derived.Test.YtepddcemoofmlaaGreatAe1
namespace Go.Proofs.YtepddcemoofmlaaGreat.AE
open Go

structure Rho where
  blk : Nat → Nat
  off : Nat → Nat
  cap : Nat → Nat

def renA (ρ : Rho) (a : Addr) : Addr := ⟨ρ.blk a.block, ρ.off a.block + a.off, none⟩

mutual
def ren (ρ : Rho) : Value → Value
  | .pointer (some a) => .pointer (some (renA ρ a))
  | .slice (some a) n c => .slice (some (renA ρ a)) n (if c = 0 then ρ.cap a.block - a.off else c - 1)
  | .map (some r) => .map (some (ρ.blk r))
  | .func fn f c => .func fn (renR ρ f) (renR ρ c)
  | .agg cs => .agg (renR ρ cs)
  | .tuple cs => .tuple (renR ρ cs)
  | v => v
def renR (ρ : Rho) : Array Value → Array Value
  | ⟨l⟩ => ⟨renL ρ l⟩
def renL (ρ : Rho) : List Value → List Value
  | [] => []
  | v :: l => ren ρ v :: renL ρ l
 end

theorem renL_eq (ρ : Rho) (l : List Value) : renL ρ l = l.map (ren ρ) := by
  induction l with
  | nil => simp [renL]
  | cons v l ih => simp [renL, ih]

theorem renR_eq (ρ : Rho) (a : Array Value) : renR ρ a = a.map (ren ρ) := by
  cases a with
  | mk l => simp [renR, renL_eq]

theorem ren_agg (ρ : Rho) (cs : Array Value) : ren ρ (.agg cs) = .agg (cs.map (ren ρ)) := by simp [ren, renR_eq]
theorem ren_tuple (ρ : Rho) (cs : Array Value) : ren ρ (.tuple cs) = .tuple (cs.map (ren ρ)) := by simp [ren, renR_eq]
theorem ren_func (ρ : Rho) (fn : Fn) (f c : Array Value) : ren ρ (.func fn f c) = .func fn (f.map (ren ρ)) (c.map (ren ρ)) := by simp [ren, renR_eq]
theorem ren_undef (ρ : Rho) : ren ρ undef = undef := by simp [undef, ren_tuple]
theorem ren_int (ρ : Rho) (k : IntKind) (n : Int) : ren ρ (.int k n) = .int k n := by simp [ren]
theorem ren_bool (ρ : Rho) (b : Bool) : ren ρ (.bool b) = .bool b := by simp [ren]

/- References: all of them in D. -/
mutual
def Clo (D : Nat → Prop) : Value → Prop
  | .pointer (some a) => D a.block ∧ a.spot = none
  | .slice (some a) _ _ => D a.block ∧ a.spot = none
  | .map (some r) => D r
  | .chan (some _) => False
  | .func (.func _) f c => CloA D f ∧ CloA D c
  | .func _ _ _ => False
  | .iface _ _ => False
  | .agg cs => CloA D cs
  | .tuple cs => CloA D cs
  | _ => True
def CloA (D : Nat → Prop) : Array Value → Prop
  | ⟨l⟩ => CloL D l
def CloL (D : Nat → Prop) : List Value → Prop
  | [] => True
  | v :: l => Clo D v ∧ CloL D l
 end

theorem cloL_iff {D : Nat → Prop} {l : List Value} : CloL D l ↔ ∀ v ∈ l, Clo D v := by
  induction l with
  | nil => simp [CloL]
  | cons v l ih => simp [CloL, ih]

theorem cloA_iff {D : Nat → Prop} {a : Array Value} : CloA D a ↔ ∀ v ∈ a.toList, Clo D v := by
  cases a with
  | mk l => simp [CloA, cloL_iff]

theorem refsLt_iff (n : Nat) (v : Value) : refsLt n v = true ↔ Clo (· < n) v := by
  refine Value.rec (motive_1 := fun v => refsLt n v = true ↔ Clo (· < n) v) (motive_2 := fun a => refsLtA n a = true ↔ CloA (· < n) a)
    (motive_3 := fun l => refsLtL n l = true ↔ CloL (· < n) l) ?_ ?_ ?_ ?_ ?_ ?_ ?_ ?_ ?_ ?_ ?_ ?_ ?_ ?_ ?_ ?_ ?_ ?_ v
  case refine_6 => intro a; cases a <;> simp [refsLt, Clo]
  case refine_7 => intro a n' c; cases a <;> simp [refsLt, Clo]
  case refine_8 => intro a; cases a <;> simp [refsLt, Clo]
  case refine_9 => intro a; cases a <;> simp [refsLt, Clo]
  case refine_10 => intro fn f c hf hc; cases fn <;> simp [refsLt, Clo, hf, hc]
  case refine_14 => intro cs h; simp [refsLt, Clo, h]
  case refine_15 => intro cs h; simp [refsLt, Clo, h]
  case refine_16 => intro l h; simp [refsLtA, CloA, h]
  case refine_17 => simp [refsLtL, CloL]
  case refine_18 => intro v l h1 h2; simp [refsLtL, CloL, h1, h2]
  all_goals intros; simp [refsLt, Clo]

theorem Clo.mono {D D' : Nat → Prop} (hD : ∀ b, D b → D' b) (v : Value) : Clo D v → Clo D' v := by
  refine Value.rec (motive_1 := fun v => Clo D v → Clo D' v) (motive_2 := fun a => CloA D a → CloA D' a)
    (motive_3 := fun l => CloL D l → CloL D' l) ?_ ?_ ?_ ?_ ?_ ?_ ?_ ?_ ?_ ?_ ?_ ?_ ?_ ?_ ?_ ?_ ?_ ?_ v
  case refine_6 => intro a h; cases a <;> simp_all [Clo]
  case refine_7 => intro a n' c h; cases a <;> simp_all [Clo]
  case refine_8 => intro a h; cases a <;> simp_all [Clo]
  case refine_9 => intro a h; cases a <;> simp_all [Clo]
  case refine_10 => intro fn f c hf hc h; cases fn <;> simp_all [Clo]
  case refine_14 => intro cs h h2; simp_all [Clo]
  case refine_15 => intro cs h h2; simp_all [Clo]
  case refine_16 => intro l h h2; simp_all [CloA]
  case refine_17 => simp [CloL]
  case refine_18 => intro v l h1 h2 h3; simp_all [CloL]
  all_goals intros; simp_all [Clo]

def Agree (ρ ρ' : Rho) (b : Nat) : Prop := ρ'.blk b = ρ.blk b ∧ ρ'.off b = ρ.off b ∧ ρ'.cap b = ρ.cap b

theorem ren_congr {ρ ρ' : Rho} (v : Value) : Clo (Agree ρ ρ') v → ren ρ' v = ren ρ v := by
  refine Value.rec (motive_1 := fun v => Clo (Agree ρ ρ') v → ren ρ' v = ren ρ v) (motive_2 := fun a => CloA (Agree ρ ρ') a → renR ρ' a = renR ρ a)
    (motive_3 := fun l => CloL (Agree ρ ρ') l → renL ρ' l = renL ρ l) ?_ ?_ ?_ ?_ ?_ ?_ ?_ ?_ ?_ ?_ ?_ ?_ ?_ ?_ ?_ ?_ ?_ ?_ v
  case refine_6 =>
    intro a h
    cases a with
    | none => simp [ren]
    | some a => obtain ⟨⟨h1, h2, h3⟩, _⟩ := (by simpa only [Clo] using h : Agree ρ ρ' a.block ∧ a.spot = none); simp [ren, renA, h1, h2]
  case refine_7 =>
    intro a n' c h
    cases a with
    | none => simp [ren]
    | some a => obtain ⟨⟨h1, h2, h3⟩, _⟩ := (by simpa only [Clo] using h : Agree ρ ρ' a.block ∧ a.spot = none); simp [ren, renA, h1, h2, h3]
  case refine_8 =>
    intro a h
    cases a with
    | none => simp [ren]
    | some a => obtain ⟨h1, h2, h3⟩ := (by simpa only [Clo] using h : Agree ρ ρ' a); simp [ren, h1]
  case refine_9 => intro a h; cases a <;> simp_all [ren]
  case refine_10 =>
    intro fn f c hf hc h
    cases fn with
    | func k =>
      simp only [Clo] at h
      simp [ren, hf h.1, hc h.2]
    | _ => simp [Clo] at h
  case refine_14 => intro cs h h2; simp only [Clo] at h2; simp [ren, h h2]
  case refine_15 => intro cs h h2; simp only [Clo] at h2; simp [ren, h h2]
  case refine_16 => intro l h h2; simp only [CloA] at h2; simp [renR, h h2]
  case refine_17 => simp [renL]
  case refine_18 => intro v l h1 h2 h3; simp only [CloL] at h3; simp [renL, h1 h3.1, h2 h3.2]
  all_goals intros; simp [ren]

/-- A value without references stands as it is. -/
theorem ren_closed {ρ : Rho} (v : Value) : Clo (fun _ => False) v → ren ρ v = v := by
  refine Value.rec (motive_1 := fun v => Clo (fun _ => False) v → ren ρ v = v) (motive_2 := fun a => CloA (fun _ => False) a → renR ρ a = a)
    (motive_3 := fun l => CloL (fun _ => False) l → renL ρ l = l) ?_ ?_ ?_ ?_ ?_ ?_ ?_ ?_ ?_ ?_ ?_ ?_ ?_ ?_ ?_ ?_ ?_ ?_ v
  case refine_6 => intro a h; cases a <;> simp_all [Clo, ren]
  case refine_7 => intro a n' c h; cases a <;> simp_all [Clo, ren]
  case refine_8 => intro a h; cases a <;> simp_all [Clo, ren]
  case refine_9 => intro a h; cases a <;> simp_all [Clo, ren]
  case refine_10 =>
    intro fn f c hf hc h
    cases fn with
    | func k =>
      simp only [Clo] at h
      simp [ren, hf h.1, hc h.2]
    | _ => simp [Clo] at h
  case refine_14 => intro cs h h2; simp only [Clo] at h2; simp [ren, h h2]
  case refine_15 => intro cs h h2; simp only [Clo] at h2; simp [ren, h h2]
  case refine_16 => intro l h h2; simp only [CloA] at h2; simp [renR, h h2]
  case refine_17 => simp [renL]
  case refine_18 => intro v l h1 h2 h3; simp only [CloL] at h3; simp [renL, h1 h3.1, h2 h3.2]
  all_goals intros; simp [ren]

theorem clo_of_zero {D : Nat → Prop} {v : Value} (h : refsLt 0 v = true) : Clo D v :=
  Clo.mono (fun b hb => absurd hb (Nat.not_lt_zero b)) v ((refsLt_iff 0 v).1 h)

theorem ren_of_zero {ρ : Rho} {v : Value} (h : refsLt 0 v = true) : ren ρ v = v :=
  ren_closed v (Clo.mono (fun b hb => absurd hb (Nat.not_lt_zero b)) v ((refsLt_iff 0 v).1 h))

theorem refsLtL_iff {n : Nat} {l : List Value} : refsLtL n l = true ↔ ∀ v ∈ l, refsLt n v = true := by
  induction l with
  | nil => simp [refsLtL]
  | cons v l ih => simp [refsLtL, ih]

theorem one_ren {ρ : Rho} {v : Value} : one (ren ρ v) = one v := by
  cases v with
  | pointer a => cases a <;> simp [ren, one]
  | slice a n c => cases a <;> simp [ren, one]
  | map a => cases a <;> simp [ren, one]
  | _ => simp [ren, one]

theorem cells_ren {ρ : Rho} {v : Value} : (ren ρ v).cells = v.cells.map (ren ρ) := by
  cases v with
  | pointer a => cases a <;> simp [ren, Value.cells]
  | slice a n c => cases a <;> simp [ren, Value.cells]
  | map a => cases a <;> simp [ren, Value.cells]
  | agg cs => simp [ren_agg, Value.cells]
  | _ => simp [ren, Value.cells]

theorem clo_cells {D : Nat → Prop} {v : Value} (h : Clo D v) : ∀ u ∈ v.cells.toList, Clo D u := by
  cases v with
  | agg cs => simp only [Clo] at h; exact cloA_iff.1 h
  | _ => intro u hu; simp only [Value.cells, List.mem_singleton] at hu; subst hu; exact h

/-! ### What a heap says -/
def AObj.own : AObj → Bool
  | .cells _ _ => true
  | .amap _ => true
  | _ => false

def AObj.live : AObj → Bool
  | .dead => false
  | _ => true

def AObj.Clo (D : Nat → Prop) : AObj → Prop
  | .cells _ c => ∀ v ∈ c, AE.Clo D v
  | .view c => ∀ v ∈ c, AE.Clo D v
  | .amap es => ∀ x ∈ es, AE.Clo D x.2
  | .dead => True

def RepObj (P : Program) (ρ : Rho) (b : Nat) (w : World) : AObj → Prop
  | .cells e c => ρ.off b = 0 ∧ ∃ junk : List Value, w.heap[ρ.blk b]? = some (.cells (c.map (ren ρ) ++ junk).toArray e (0, 0)) ∧ c.length + junk.length = ρ.cap b * P.cellsOf e
  | .view c => (∃ cs e fr, w.heap[ρ.blk b]? = some (.cells cs e fr) ∧ ∀ i v, c[i]? = some v → cs[ρ.off b + i]? = some (ren ρ v)) ∧ c.length ≤ ρ.cap b
  | .amap es => ∃ ents clock, w.heap[ρ.blk b]? = some (.map ents clock) ∧ ents.toList.map (fun x => (x.key, x.val)) = es.map fun x => (Value.int .i64 x.1, ren ρ x.2)
  | .dead => True

structure Rep (P : Program) (nG : Nat) (ρ : Rho) (m : Nat → Option AObj) (w : World) : Prop where
  size : ∀ b o, m b = some o → ρ.blk b < w.heap.size
  obj : ∀ b o, m b = some o → RepObj P ρ b w o
  sep : ∀ b b' o o', m b = some o → m b' = some o' → o.own = true → o'.live = true → b ≠ b' → ρ.blk b ≠ ρ.blk b'
  clo : ∀ b o, m b = some o → o.Clo (fun r => (m r).isSome = true)
  glob : ∀ g, g < nG → ρ.blk g = g ∧ ρ.off g = 0 ∧ (m g).isSome = true

/-- From one state to a later one: what was named stays so; what is not the heap's own stays as it was. -/
structure Ext (ρ : Rho) (m : Nat → Option AObj) (w : World) (ρ' : Rho) (m' : Nat → Option AObj) (w' : World) : Prop where
  os : w'.os = w.os
  tape : w'.tape = w.tape
  output : w'.output = w.output
  size : w.heap.size ≤ w'.heap.size
  agree : ∀ b, (m b).isSome = true → Agree ρ ρ' b
  frame : ∀ k, k < w.heap.size → (∀ b o, m b = some o → o.own = true → ρ.blk b ≠ k) → w'.heap[k]? = w.heap[k]?
  orig : ∀ b o, m' b = some o → o.live = true → w.heap.size ≤ ρ'.blk b ∨ ∃ b0 o0, m b0 = some o0 ∧ o0.live = true ∧ (o.own = true → o0.own = true) ∧ ρ.blk b0 = ρ'.blk b
  dom : ∀ b, (m b).isSome = true → (m' b).isSome = true

theorem Ext.refl (ρ : Rho) (m : Nat → Option AObj) (w : World) : Ext ρ m w ρ m w :=
  ⟨rfl, rfl, rfl, Nat.le_refl _, fun _ _ => ⟨rfl, rfl, rfl⟩, fun _ _ _ => rfl, fun b o h ho => .inr ⟨b, o, h, ho, id, rfl⟩, fun _ h => h⟩

theorem AObj.live_of_own {o : AObj} (h : o.own = true) : o.live = true := by cases o <;> simp_all [AObj.own, AObj.live]

theorem Ext.trans {ρ1 ρ2 ρ3 : Rho} {m1 m2 m3 : Nat → Option AObj} {w1 w2 w3 : World}
    (h : Ext ρ1 m1 w1 ρ2 m2 w2) (k : Ext ρ2 m2 w2 ρ3 m3 w3) : Ext ρ1 m1 w1 ρ3 m3 w3 := by
  refine ⟨k.os.trans h.os, k.tape.trans h.tape, k.output.trans h.output, Nat.le_trans h.size k.size, ?_, ?_, ?_, fun b hb => k.dom b (h.dom b hb)⟩
  · intro b hb
    obtain ⟨a1, a2, a3⟩ := h.agree b hb
    obtain ⟨c1, c2, c3⟩ := k.agree b (h.dom b hb)
    exact ⟨c1.trans a1, c2.trans a2, c3.trans a3⟩
  · intro i hi hno
    rw [k.frame i (Nat.lt_of_lt_of_le hi h.size) ?_, h.frame i hi hno]
    intro b o hb ho hk
    rcases h.orig b o hb (AObj.live_of_own ho) with h1 | ⟨b0, o0, h1, _, h2, h3⟩
    · omega
    · exact hno b0 o0 h1 (h2 ho) (h3.trans hk)
  · intro b o hb ho
    rcases k.orig b o hb ho with h1 | ⟨b0, o0, h1, h2, h2', h3⟩
    · exact .inl (Nat.le_trans h.size h1)
    · rcases h.orig b0 o0 h1 h2 with h4 | ⟨b1, o1, h4, h5, h5', h6⟩
      · exact .inl (by omega)
      · exact .inr ⟨b1, o1, h4, h5, fun x => h5' (h2' x), h6.trans h3⟩

theorem Ext.clo {ρ ρ' : Rho} {m m' : Nat → Option AObj} {w w' : World} (h : Ext ρ m w ρ' m' w') {v : Value}
    (hv : Clo (fun r => (m r).isSome = true) v) : Clo (fun r => (m' r).isSome = true) v := hv.mono h.dom

theorem Ext.ren {ρ ρ' : Rho} {m m' : Nat → Option AObj} {w w' : World} (h : Ext ρ m w ρ' m' w') {v : Value}
    (hv : Clo (fun r => (m r).isSome = true) v) : ren ρ' v = ren ρ v := ren_congr v (hv.mono h.agree)

theorem Ext.renR {ρ ρ' : Rho} {m m' : Nat → Option AObj} {w w' : World} (h : Ext ρ m w ρ' m' w') {l : List Value}
    (hv : ∀ v ∈ l, Clo (fun r => (m r).isSome = true) v) : l.map (AE.ren ρ') = l.map (AE.ren ρ) :=
  List.map_congr_left fun v hv' => h.ren (hv v hv')

end Go.Proofs.YtepddcemoofmlaaGreat.AE
