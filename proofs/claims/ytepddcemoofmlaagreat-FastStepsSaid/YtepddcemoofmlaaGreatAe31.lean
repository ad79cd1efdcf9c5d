/- A call that is known over a small heap is known over any heap that has those blocks; answers that stand ahead of others. -/
import Derived.Test.YtepddcemoofmlaaGreatAe30
namespace Go.Proofs.YtepddcemoofmlaaGreat.AE
open Go

/-! ### Blocks by other names -/
mutual
def mv (ι : Nat → Nat) : Value → Value
  | .pointer (some a) => .pointer (some ⟨ι a.block, a.off, a.spot⟩)
  | .slice (some a) n c => .slice (some ⟨ι a.block, a.off, a.spot⟩) n c
  | .map (some r) => .map (some (ι r))
  | .func fn f c => .func fn (mvR ι f) (mvR ι c)
  | .agg cs => .agg (mvR ι cs)
  | .tuple cs => .tuple (mvR ι cs)
  | v => v
def mvR (ι : Nat → Nat) : Array Value → Array Value
  | ⟨l⟩ => ⟨mvL ι l⟩
def mvL (ι : Nat → Nat) : List Value → List Value
  | [] => []
  | v :: l => mv ι v :: mvL ι l
 end

def Rho.on (ρ : Rho) (ι : Nat → Nat) : Rho := ⟨fun b => ρ.blk (ι b), fun b => ρ.off (ι b), fun b => ρ.cap (ι b)⟩

theorem ren_mv {ρ : Rho} {ι : Nat → Nat} (v : Value) : ren ρ (mv ι v) = ren (ρ.on ι) v := by
  refine Value.rec (motive_1 := fun v => ren ρ (mv ι v) = ren (ρ.on ι) v) (motive_2 := fun a => renR ρ (mvR ι a) = renR (ρ.on ι) a)
    (motive_3 := fun l => renL ρ (mvL ι l) = renL (ρ.on ι) l) ?_ ?_ ?_ ?_ ?_ ?_ ?_ ?_ ?_ ?_ ?_ ?_ ?_ ?_ ?_ ?_ ?_ ?_ v
  case refine_6 => intro a; cases a <;> simp [ren, mv, renA, Rho.on]
  case refine_7 => intro a n' c; cases a <;> simp [ren, mv, renA, Rho.on]
  case refine_8 => intro a; cases a <;> simp [ren, mv, Rho.on]
  case refine_9 => intro a; cases a <;> simp [ren, mv]
  case refine_10 => intro fn f c hf hc; simp [ren, mv, hf, hc]
  case refine_14 => intro cs h; simp [ren, mv, h]
  case refine_15 => intro cs h; simp [ren, mv, h]
  case refine_16 => intro l h; simp [renR, mvR, h]
  case refine_17 => simp [renL, mvL]
  case refine_18 => intro v l h1 h2; simp [renL, mvL, h1, h2]
  all_goals intros; simp [ren, mv]

theorem clo_mv {D : Nat → Prop} {ι : Nat → Nat} (v : Value) : Clo D (mv ι v) ↔ Clo (fun b => D (ι b)) v := by
  refine Value.rec (motive_1 := fun v => Clo D (mv ι v) ↔ Clo (fun b => D (ι b)) v) (motive_2 := fun a => CloA D (mvR ι a) ↔ CloA (fun b => D (ι b)) a)
    (motive_3 := fun l => CloL D (mvL ι l) ↔ CloL (fun b => D (ι b)) l) ?_ ?_ ?_ ?_ ?_ ?_ ?_ ?_ ?_ ?_ ?_ ?_ ?_ ?_ ?_ ?_ ?_ ?_ v
  case refine_6 => intro a; cases a <;> simp [Clo, mv]
  case refine_7 => intro a n' c; cases a <;> simp [Clo, mv]
  case refine_8 => intro a; cases a <;> simp [Clo, mv]
  case refine_9 => intro a; cases a <;> simp [Clo, mv]
  case refine_10 => intro fn f c hf hc; cases fn <;> simp [Clo, mv, hf, hc]
  case refine_14 => intro cs h; simp [Clo, mv, h]
  case refine_15 => intro cs h; simp [Clo, mv, h]
  case refine_16 => intro l h; simp [CloA, mvR, h]
  case refine_17 => simp [CloL, mvL]
  case refine_18 => intro v l h1 h2; simp [CloL, mvL, h1, h2]
  all_goals intros; simp [Clo, mv]

/-- A value without references stands as it is. -/
theorem mv_closed {ι : Nat → Nat} (v : Value) : Clo (fun _ => False) v → mv ι v = v := by
  refine Value.rec (motive_1 := fun v => Clo (fun _ => False) v → mv ι v = v) (motive_2 := fun a => CloA (fun _ => False) a → mvR ι a = a)
    (motive_3 := fun l => CloL (fun _ => False) l → mvL ι l = l) ?_ ?_ ?_ ?_ ?_ ?_ ?_ ?_ ?_ ?_ ?_ ?_ ?_ ?_ ?_ ?_ ?_ ?_ v
  case refine_6 => intro a h; cases a <;> simp_all [Clo, mv]
  case refine_7 => intro a n' c h; cases a <;> simp_all [Clo, mv]
  case refine_8 => intro a h; cases a <;> simp_all [Clo, mv]
  case refine_9 => intro a h; cases a <;> simp_all [Clo, mv]
  case refine_10 =>
    intro fn f c hf hc h
    cases fn with
    | func k => simp only [Clo] at h; simp [mv, hf h.1, hc h.2]
    | _ => simp [Clo] at h
  case refine_14 => intro cs h h2; simp only [Clo] at h2; simp [mv, h h2]
  case refine_15 => intro cs h h2; simp only [Clo] at h2; simp [mv, h h2]
  case refine_16 => intro l h h2; simp only [CloA] at h2; simp [mvR, h h2]
  case refine_17 => simp [mvL]
  case refine_18 => intro v l h1 h2 h3; simp only [CloL] at h3; simp [mvL, h1 h3.1, h2 h3.2]
  all_goals intros; simp [mv]

theorem mv_zero {ι : Nat → Nat} {v : Value} (h : refsLt 0 v = true) : mv ι v = v :=
  mv_closed v (Clo.mono (fun b hb => absurd hb (Nat.not_lt_zero b)) v ((refsLt_iff 0 v).1 h))

def AObj.mv (ι : Nat → Nat) : AObj → AObj
  | .cells e c => .cells e (c.map (AE.mv ι))
  | .view c => .view (c.map (AE.mv ι))
  | .amap es => .amap (es.map fun x => (x.1, AE.mv ι x.2))
  | .dead => .dead

theorem AObj.own_mv {ι : Nat → Nat} {o : AObj} : (o.mv ι).own = o.own := by cases o <;> rfl
theorem AObj.live_mv {ι : Nat → Nat} {o : AObj} : (o.mv ι).live = o.live := by cases o <;> rfl

theorem AObj.clo_mv {D : Nat → Prop} {ι : Nat → Nat} {o : AObj} : (o.mv ι).Clo D ↔ o.Clo (fun b => D (ι b)) := by
  cases o with
  | cells e c => simp [AObj.mv, AObj.Clo, AE.clo_mv]
  | view c => simp [AObj.mv, AObj.Clo, AE.clo_mv]
  | amap es =>
    simp only [AObj.mv, AObj.Clo, List.mem_map]
    constructor
    · intro h x hx; exact (AE.clo_mv _).1 (h _ ⟨x, hx, rfl⟩)
    · rintro h _ ⟨x, hx, rfl⟩; exact (AE.clo_mv _).2 (h x hx)
  | dead => simp [AObj.mv, AObj.Clo]

theorem repObj_mv {P : Program} {ρ : Rho} {ι : Nat → Nat} {b : Nat} {w : World} {o : AObj} : RepObj P ρ (ι b) w (o.mv ι) ↔ RepObj P (ρ.on ι) b w o := by
  have e : (ren ρ ∘ mv ι) = ren (ρ.on ι) := funext fun v => ren_mv v
  cases o with
  | cells e' c => simp only [AObj.mv, RepObj, List.map_map, e, List.length_map]; exact Iff.rfl
  | view c =>
    have : ∀ (i : Nat) (cs : Array Value), (∀ v, (c.map (mv ι))[i]? = some v → cs[ρ.off (ι b) + i]? = some (ren ρ v)) ↔ (∀ v, c[i]? = some v → cs[(ρ.on ι).off b + i]? = some (ren (ρ.on ι) v)) := by
      intro i cs
      rw [List.getElem?_map]
      constructor
      · intro h v hv; rw [← ren_mv]; exact h _ (by rw [hv]; rfl)
      · intro h v hv
        obtain ⟨u, hu, rfl⟩ := Option.map_eq_some_iff.1 hv
        rw [ren_mv]; exact h u hu
    simp only [AObj.mv, RepObj, List.length_map]
    constructor
    · rintro ⟨⟨cs, e', fr, h1, h2⟩, h3⟩; exact ⟨⟨cs, e', fr, h1, fun i => (this i cs).1 (h2 i)⟩, h3⟩
    · rintro ⟨⟨cs, e', fr, h1, h2⟩, h3⟩; exact ⟨⟨cs, e', fr, h1, fun i => (this i cs).2 (h2 i)⟩, h3⟩
  | amap es => simp only [AObj.mv, RepObj, List.map_map, Function.comp_def, ren_mv]; exact Iff.rfl
  | dead => simp [AObj.mv, RepObj]

theorem repObj_congr {P : Program} {ρ ρ' : Rho} {b : Nat} {w : World} {o : AObj} (hb : Agree ρ ρ' b) (ho : o.Clo (Agree ρ ρ')) : RepObj P ρ b w o → RepObj P ρ' b w o := by
  obtain ⟨h1, h2, h3⟩ := hb
  cases o with
  | cells e c =>
    have e' : c.map (ren ρ') = c.map (ren ρ) := List.map_congr_left fun v hv => ren_congr v (ho v hv)
    simp only [RepObj, h1, h2, h3, e']; exact id
  | view c =>
    simp only [RepObj, h1, h2, h3]
    rintro ⟨⟨cs, e', fr, k1, k2⟩, k3⟩
    exact ⟨⟨cs, e', fr, k1, fun i v hv => by rw [ren_congr v (ho v (List.mem_of_getElem? hv))]; exact k2 i v hv⟩, k3⟩
  | amap es =>
    have e' : es.map (fun x => (Value.int .i64 x.1, ren ρ' x.2)) = es.map fun x => (Value.int .i64 x.1, ren ρ x.2) := List.map_congr_left fun x hx => by rw [ren_congr _ (ho x hx)]
    simp only [RepObj, h1, e']; exact id
  | dead => exact id

theorem repObj_heap {P : Program} {ρ : Rho} {b : Nat} {w w' : World} {o : AObj} (h : w'.heap[ρ.blk b]? = w.heap[ρ.blk b]?) : RepObj P ρ b w o → RepObj P ρ b w' o := by
  cases o <;> simp only [RepObj, h] <;> exact id

/-! ### What is known over a small heap -/
structure Moved (C : CallS) (nG : Nat) (f : FuncId) (args : List Value) (S : St) (v : Value) (S' : St) (q : Bool)
    (B : List AObj) (args0 : List Value) (v0 : Value) (T : St) (q0 : Bool) (ι : Nat → Nat) : Prop where
  run : C f args0 ⟨B, B.length, B.length⟩ = some (v0, T, q0)
  ha : args = args0.map (mv ι)
  hv : v = mv ι v0
  cloB : ∀ o ∈ B, o.Clo (· < B.length)
  cloA : ∀ u ∈ args0, Clo (· < B.length) u
  glob : ∀ g, g < nG → ι g = g ∧ g < B.length
  inj : ∀ i j, i < B.length → j < B.length → ι i = ι j → i = j
  old : ∀ i o, B[i]? = some o → S.blks[ι i]? = some (o.mv ι)
  new : ∀ i, B.length ≤ i → ι i = S.blks.length + (i - B.length)
  len : S'.blks.length = S.blks.length + (T.blks.length - B.length)
  own : ∀ i o, T.blks[i]? = some o → S'.blks[ι i]? = some (o.mv ι)
  rest : ∀ j, j < S.blks.length → (∀ i, i < B.length → ι i ≠ j) → S'.blks[j]? = S.blks[j]?
  wr : S'.wr ≤ S.wr ∧ ∀ i, i < B.length → S'.wr ≤ ι i ∨ T.blks[i]? = B[i]?
  esc : S'.esc ≤ S.esc ∧ ∀ (i : Nat) (o o' : AObj), B[i]? = some o → T.blks[i]? = some o' → ∀ D : Nat → Prop, o.Clo D → o'.Clo D
  qq : q = true → ∀ i, i < B.length → T.blks[i]? = B[i]?
  tl : B.length ≤ T.blks.length

section
variable {P : Program} {nG : Nat} {C : CallS} {f : FuncId} {args : List Value} {S : St} {v : Value} {S' : St} {q : Bool}
    {B : List AObj} {args0 : List Value} {v0 : Value} {T : St} {q0 : Bool} {ι : Nat → Nat}

theorem Moved.lt (M : Moved C nG f args S v S' q B args0 v0 T q0 ι) {i : Nat} (hi : i < B.length) : ι i < S.blks.length :=
  (List.getElem?_eq_some_iff.1 (M.old i B[i] (List.getElem?_eq_getElem hi))).1

/-- Each block behind is one of the small heap's, or stood so before. -/
theorem Moved.part (M : Moved C nG f args S v S' q B args0 v0 T q0 ι) {b : Nat} {o : AObj} (hb : S'.blks[b]? = some o) :
    (∃ i o', T.blks[i]? = some o' ∧ b = ι i ∧ o = o'.mv ι) ∨ (b < S.blks.length ∧ (∀ i, i < B.length → ι i ≠ b) ∧ S.blks[b]? = some o) := by
  have hlt : b < S'.blks.length := (List.getElem?_eq_some_iff.1 hb).1
  have hin : ∀ i, i < T.blks.length → ι i = b → ∃ i o', T.blks[i]? = some o' ∧ b = ι i ∧ o = o'.mv ι := by
    intro i hi e
    have h1 : T.blks[i]? = some T.blks[i] := List.getElem?_eq_getElem hi
    have h2 := M.own i _ h1
    rw [e, hb] at h2
    exact ⟨i, _, h1, e.symm, Option.some.inj h2⟩
  by_cases hS : b < S.blks.length
  · by_cases h : ∃ i, i < B.length ∧ ι i = b
    · obtain ⟨i, hi, e⟩ := h
      have := M.tl
      exact .inl (hin i (by omega) e)
    · refine .inr ⟨hS, fun i hi e => h ⟨i, hi, e⟩, ?_⟩
      rw [← M.rest b hS fun i hi e => h ⟨i, hi, e⟩]; exact hb
  · have hl := M.len
    exact .inl (hin (B.length + (b - S.blks.length)) (by omega) (by rw [M.new _ (by omega)]; omega))

theorem Moved.evo (M : Moved C nG f args S v S' q B args0 v0 T q0 ι) : Evo S S' := by
  refine ⟨by have := M.len; omega, M.wr.1, M.esc.1, ?_, ?_⟩
  · intro b hb hw
    by_cases h : ∃ i, i < B.length ∧ ι i = b
    · obtain ⟨i, hi, rfl⟩ := h
      rcases M.wr.2 i hi with h | h
      · omega
      · have hB : B[i]? = some B[i] := List.getElem?_eq_getElem hi
        rw [M.own i _ (h.trans hB), M.old i _ hB]
    · exact M.rest b hb fun i hi e => h ⟨i, hi, e⟩
  · intro n hn _ hc b o hb hbo
    rcases M.part hbo with ⟨i, o', h1, rfl, rfl⟩ | ⟨_, _, h3⟩
    · by_cases hi : i < B.length
      · have hB : B[i]? = some B[i] := List.getElem?_eq_getElem hi
        have := hc (ι i) _ hb (M.old i _ hB)
        rw [AObj.clo_mv] at this ⊢
        exact M.esc.2 i _ _ hB h1 _ this
      · have := M.new i (by omega)
        omega
    · exact hc b o hb h3

theorem Moved.same (M : Moved C nG f args S v S' q B args0 v0 T q0 ι) (hq : q = true) : ∀ b, b < S.blks.length → S'.blks[b]? = S.blks[b]? := by
  intro b hb
  by_cases h : ∃ i, i < B.length ∧ ι i = b
  · obtain ⟨i, hi, rfl⟩ := h
    have hB : B[i]? = some B[i] := List.getElem?_eq_getElem hi
    rw [M.own i _ ((M.qq hq i hi).trans hB), M.old i _ hB]
  · exact M.rest b hb fun i hi e => h ⟨i, hi, e⟩

theorem Moved.calls (hC : CallOK P nG C) (M : Moved C nG f args S v S' q B args0 v0 T q0 ι) (ρ : Rho) (w : World) (rep : Rep P nG ρ S.m w) :
    Calls P f (args.map (ren ρ)).toArray w fun e w' => ∃ ρ', e = .returned (ren ρ' v) ∧ Rep P nG ρ' S'.m w' ∧ Ext ρ S.m w ρ' S'.m w' ∧ Clo (fun r => (S'.m r).isSome = true) v := by
  have hB : ∀ i (hi : i < B.length), B[i]? = some (B[i]'hi) := fun i hi => List.getElem?_eq_getElem hi
  have small : Rep P nG (ρ.on ι) (St.m ⟨B, B.length, B.length⟩) w := by
    refine ⟨fun b o h => rep.size (ι b) _ (M.old b o h), fun b o h => repObj_mv.1 (rep.obj (ι b) _ (M.old b o h)), ?_, ?_, ?_⟩
    · intro b b' o o' h h' ho ho' hne
      have lb : b < B.length := (List.getElem?_eq_some_iff.1 h).1
      have lb' : b' < B.length := (List.getElem?_eq_some_iff.1 h').1
      exact rep.sep (ι b) (ι b') _ _ (M.old b o h) (M.old b' o' h') (by rw [AObj.own_mv]; exact ho) (by rw [AObj.live_mv]; exact ho') fun e => hne (M.inj b b' lb lb' e)
    · intro b o h
      refine AObj.Clo.mono (fun r hr => ?_) (M.cloB o (List.mem_of_getElem? h))
      show (B[r]?).isSome = true
      rw [hB r hr]; rfl
    · intro g hg
      obtain ⟨e, hl⟩ := M.glob g hg
      obtain ⟨g1, g2, _⟩ := rep.glob g hg
      refine ⟨by show ρ.blk (ι g) = g; rw [e]; exact g1, by show ρ.off (ι g) = 0; rw [e]; exact g2, ?_⟩
      show (B[g]?).isSome = true
      rw [hB g hl]; rfl
  have hargs : (args.map (ren ρ)) = args0.map (ren (ρ.on ι)) := by
    rw [M.ha, List.map_map]; exact List.map_congr_left fun u _ => ren_mv u
  rw [hargs]
  refine Calls.mono (hC.run f args0 _ v0 T q0 M.run (ρ.on ι) w small fun u hu => Clo.mono (fun r hr => ?_) u (M.cloA u hu)) ?_
  · show (B[r]?).isSome = true
    rw [hB r hr]; rfl
  rintro e w' ⟨ρ1, he, rep1, x1, c1⟩
  have glue : ∃ ρ' : Rho, (∀ b, b < S.blks.length → Agree ρ ρ' b) ∧ ∀ i, i < T.blks.length → Agree ρ1 (ρ'.on ι) i := by
    refine ⟨⟨fun b => if b < S.blks.length then ρ.blk b else ρ1.blk (B.length + (b - S.blks.length)), fun b => if b < S.blks.length then ρ.off b else ρ1.off (B.length + (b - S.blks.length)),
      fun b => if b < S.blks.length then ρ.cap b else ρ1.cap (B.length + (b - S.blks.length))⟩, ?_, ?_⟩
    · intro b hb; simp [Agree, hb]
    · intro i hi
      by_cases h : i < B.length
      · have hl := M.lt h
        obtain ⟨a1, a2, a3⟩ := x1.agree i (by show (B[i]?).isSome = true; rw [hB i h]; rfl)
        simp only [Agree, Rho.on, hl, if_true]
        exact ⟨a1.symm, a2.symm, a3.symm⟩
      · have hn := M.new i (by omega)
        have hl : ¬ ι i < S.blks.length := by omega
        have hx : B.length + (ι i - S.blks.length) = i := by omega
        simp only [Agree, Rho.on, hl, if_false, hx, and_self]
  obtain ⟨ρ', ag0, ag1⟩ := glue
  have hT : ∀ r, (T.m r).isSome = true → r < T.blks.length := fun r hr => by
    obtain ⟨o, ho⟩ := Option.isSome_iff_exists.1 hr
    exact (List.getElem?_eq_some_iff.1 ho).1
  have hS : ∀ r, (S.m r).isSome = true → r < S.blks.length := fun r hr => by
    obtain ⟨o, ho⟩ := Option.isSome_iff_exists.1 hr
    exact (List.getElem?_eq_some_iff.1 ho).1
  have somT : ∀ r, (T.m r).isSome = true → (S'.m (ι r)).isSome = true := fun r hr => by
    obtain ⟨o, ho⟩ := Option.isSome_iff_exists.1 hr
    show (S'.blks[ι r]?).isSome = true
    rw [M.own r o ho]; rfl
  have somS : ∀ r, (S.m r).isSome = true → (S'.m r).isSome = true := fun r hr => by
    have h1 := hS r hr
    have h2 := M.len
    show (S'.blks[r]?).isSome = true
    rw [List.getElem?_eq_getElem (by omega)]; rfl
  have oldAt : ∀ b, b < S.blks.length → ρ'.blk b = ρ.blk b := fun b hb => (ag0 b hb).1
  have rest : ∀ b o, b < S.blks.length → (∀ i, i < B.length → ι i ≠ b) → S.blks[b]? = some o → o.live = true → w'.heap[ρ.blk b]? = w.heap[ρ.blk b]? := by
    intro b o hb hno ho hlive
    refine x1.frame _ (rep.size b o ho) fun b0 o0 h0 hown => ?_
    have l0 : b0 < B.length := (List.getElem?_eq_some_iff.1 h0).1
    exact rep.sep (ι b0) b _ o (M.old b0 o0 h0) ho (by rw [AObj.own_mv]; exact hown) hlive (hno b0 l0)
  refine ⟨ρ', ?_, ⟨?_, ?_, ?_, ?_, ?_⟩, ⟨x1.os, x1.tape, x1.output, x1.size, fun b hb => ag0 b (hS b hb), ?_, ?_, somS⟩, ?_⟩
  · rw [he, M.hv, ren_mv]
    rw [ren_congr v0 (Clo.mono (fun r hr => ag1 r (hT r hr)) v0 c1)]
  · intro b o h
    rcases M.part h with ⟨i, o', h1, rfl, rfl⟩ | ⟨hb, _, h3⟩
    · have hi : i < T.blks.length := (List.getElem?_eq_some_iff.1 h1).1
      have := (ag1 i hi).1
      simp only [Rho.on] at this
      rw [this]; exact rep1.size i o' h1
    · rw [oldAt b hb]; exact Nat.lt_of_lt_of_le (rep.size b o h3) x1.size
  · intro b o h
    rcases M.part h with ⟨i, o', h1, rfl, rfl⟩ | ⟨hb, hno, h3⟩
    · have hi : i < T.blks.length := (List.getElem?_eq_some_iff.1 h1).1
      exact repObj_mv.2 (repObj_congr (ag1 i hi) (AObj.Clo.mono (fun r hr => ag1 r (hT r hr)) (rep1.clo i o' h1)) (rep1.obj i o' h1))
    · by_cases hl : o.live = true
      · exact repObj_congr (ag0 b hb) (AObj.Clo.mono (fun r hr => ag0 r (hS r hr)) (rep.clo b o h3)) (repObj_heap (rest b o hb hno h3 hl) (rep.obj b o h3))
      · cases o <;> simp [AObj.live] at hl
        trivial
  · intro b b' o o' h h' ho ho' hne
    rcases M.part h with ⟨i, u, h1, rfl, rfl⟩ | ⟨hb, hno, h3⟩ <;> rcases M.part h' with ⟨i', u', h1', rfl, rfl⟩ | ⟨hb', hno', h3'⟩
    · have hi : i < T.blks.length := (List.getElem?_eq_some_iff.1 h1).1
      have hi' : i' < T.blks.length := (List.getElem?_eq_some_iff.1 h1').1
      have e1 := (ag1 i hi).1
      have e2 := (ag1 i' hi').1
      simp only [Rho.on] at e1 e2
      rw [e1, e2]
      rw [AObj.own_mv] at ho; rw [AObj.live_mv] at ho'
      exact rep1.sep i i' u u' h1 h1' ho ho' fun e => hne (by rw [e])
    · have hi : i < T.blks.length := (List.getElem?_eq_some_iff.1 h1).1
      have e1 := (ag1 i hi).1
      simp only [Rho.on] at e1
      rw [e1, oldAt b' hb']
      rw [AObj.own_mv] at ho
      have hz := rep.size b' o' h3'
      rcases x1.orig i u h1 (AObj.live_of_own ho) with hge | ⟨b0, o0, k1, k2, k3, k4⟩
      · omega
      · rw [← k4]
        exact rep.sep (ι b0) b' _ o' (M.old b0 o0 k1) h3' (by rw [AObj.own_mv]; exact k3 ho) ho' (hno' b0 (List.getElem?_eq_some_iff.1 k1).1)
    · have hi' : i' < T.blks.length := (List.getElem?_eq_some_iff.1 h1').1
      have e2 := (ag1 i' hi').1
      simp only [Rho.on] at e2
      rw [e2, oldAt b hb]
      rw [AObj.live_mv] at ho'
      have hz := rep.size b o h3
      rcases x1.orig i' u' h1' ho' with hge | ⟨b0, o0, k1, k2, k3, k4⟩
      · omega
      · rw [← k4]
        exact rep.sep b (ι b0) o _ h3 (M.old b0 o0 k1) ho (by rw [AObj.live_mv]; exact k2) fun e => hno b0 (List.getElem?_eq_some_iff.1 k1).1 e.symm
    · rw [oldAt b hb, oldAt b' hb']
      exact rep.sep b b' o o' h3 h3' ho ho' hne
  · intro b o h
    rcases M.part h with ⟨i, u, h1, rfl, rfl⟩ | ⟨hb, hno, h3⟩
    · exact AObj.clo_mv.2 (AObj.Clo.mono (fun r hr => somT r hr) (rep1.clo i u h1))
    · exact AObj.Clo.mono (fun r hr => somS r hr) (rep.clo b o h3)
  · intro g hg
    obtain ⟨g1, g2, g3⟩ := rep.glob g hg
    have hl := hS g g3
    obtain ⟨a1, a2, _⟩ := ag0 g hl
    exact ⟨a1.trans g1, a2.trans g2, somS g g3⟩
  · intro k hk hno
    refine x1.frame k hk fun b0 o0 h0 hown => ?_
    exact hno (ι b0) _ (M.old b0 o0 h0) (by rw [AObj.own_mv]; exact hown)
  · intro b o h hlive
    rcases M.part h with ⟨i, u, h1, rfl, rfl⟩ | ⟨hb, hno, h3⟩
    · have hi : i < T.blks.length := (List.getElem?_eq_some_iff.1 h1).1
      have e1 := (ag1 i hi).1
      simp only [Rho.on] at e1
      rw [e1]
      rw [AObj.live_mv] at hlive
      rcases x1.orig i u h1 hlive with hge | ⟨b0, o0, k1, k2, k3, k4⟩
      · exact .inl hge
      · exact .inr ⟨ι b0, _, M.old b0 o0 k1, by rw [AObj.live_mv]; exact k2, by rw [AObj.own_mv, AObj.own_mv]; exact k3, k4⟩
    · exact .inr ⟨b, o, h3, hlive, id, (oldAt b hb).symm⟩
  · rw [M.hv]
    exact (clo_mv v0).2 (Clo.mono (fun r hr => somT r hr) v0 c1)

end

/-- Answers that are all known over small heaps. -/
theorem moved_ok {P : Program} {nG : Nat} {C X : CallS} (hC : CallOK P nG C)
    (h : ∀ f args S v S' q, X f args S = some (v, S', q) → ∃ B args0 v0 T q0 ι, Moved C nG f args S v S' q B args0 v0 T q0 ι) : CallOK P nG X := by
  refine ⟨?_, ?_, ?_, ?_⟩
  · intro f args S v S' q e; obtain ⟨B, a, v0, T, q0, ι, M⟩ := h _ _ _ _ _ _ e; exact M.evo
  · intro f args S v S' q e; obtain ⟨B, a, v0, T, q0, ι, M⟩ := h _ _ _ _ _ _ e; exact M.same
  · intro f args S v S' q e; obtain ⟨B, a, v0, T, q0, ι, M⟩ := h _ _ _ _ _ _ e; exact hC.enter _ _ _ _ _ _ M.run
  · intro f args S v S' q e ρ w rep _; obtain ⟨B, a, v0, T, q0, ι, M⟩ := h _ _ _ _ _ _ e; exact M.calls hC ρ w rep

/-- Answers that stand ahead of others. -/
def ahead (X C : CallS) : CallS := fun f args S => match X f args S with
  | some r => some r
  | none => C f args S

theorem ahead_ok {P : Program} {nG : Nat} {X C : CallS} (hX : CallOK P nG X) (hC : CallOK P nG C) : CallOK P nG (ahead X C) := by
  have key : ∀ f args S x, ahead X C f args S = some x → X f args S = some x ∨ C f args S = some x := by
    intro f args S x h
    unfold ahead at h
    split at h
    · rename_i r hr; exact .inl (hr.trans h)
    · exact .inr h
  refine ⟨?_, ?_, ?_, ?_⟩
  · intro f args S v S' q h; exact (key _ _ _ _ h).elim (fun h => hX.evo _ _ _ _ _ _ h) (fun h => hC.evo _ _ _ _ _ _ h)
  · intro f args S v S' q h; exact (key _ _ _ _ h).elim (fun h => hX.same _ _ _ _ _ _ h) (fun h => hC.same _ _ _ _ _ _ h)
  · intro f args S v S' q h; exact (key _ _ _ _ h).elim (fun h => hX.enter _ _ _ _ _ _ h) (fun h => hC.enter _ _ _ _ _ _ h)
  · intro f args S v S' q h; exact (key _ _ _ _ h).elim (fun h => hX.run _ _ _ _ _ _ h) (fun h => hC.run _ _ _ _ _ _ h)

/-- Answers for some functions alone. -/
def onlyFor (p : FuncId → Bool) (C : CallS) : CallS := fun f args S => if p f then C f args S else none

theorem onlyFor_ok {P : Program} {nG : Nat} {p : FuncId → Bool} {C : CallS} (hC : CallOK P nG C) : CallOK P nG (onlyFor p C) := by
  have key : ∀ f args S x, onlyFor p C f args S = some x → C f args S = some x := by
    intro f args S x h; unfold onlyFor at h; split at h
    · exact h
    · cases h
  exact ⟨fun _ _ _ _ _ _ h => hC.evo _ _ _ _ _ _ (key _ _ _ _ h), fun _ _ _ _ _ _ h => hC.same _ _ _ _ _ _ (key _ _ _ _ h),
    fun _ _ _ _ _ _ h => hC.enter _ _ _ _ _ _ (key _ _ _ _ h), fun _ _ _ _ _ _ h => hC.run _ _ _ _ _ _ (key _ _ _ _ h)⟩

/-- Calls over answers that are known. -/
def callsX (X : CallS) (prog : Nat → Option IFun) : Nat → CallS
  | 0 => X
  | n + 1 => ahead X (evFun prog (callsX X prog n))

theorem callsX_ok {P : Program} {nG : Nat} {Q : FuncId → Bool} {X : CallS} {prog : Nat → Option IFun} (hp : Stands P nG Q prog) (hm : P.follows .mixedOrders = true) (hX : CallOK P nG X) : ∀ n, CallOK P nG (callsX X prog n)
  | 0 => hX
  | n + 1 => ahead_ok hX (evFun_ok hp hm (callsX_ok hp hm hX n))

theorem callsX_of {X : CallS} {prog : Nat → Option IFun} {f : FuncId} {args : List Value} {S : St} {r : Value × St × Bool} (n : Nat) (h : X f args S = some r) : callsX X prog n f args S = some r := by
  cases n with
  | zero => exact h
  | succ n => simp [callsX, ahead, h]

theorem callX_step {X : CallS} {prog : Nat → Option IFun} {n f nt : Nat} {b : ICode} {rs : List IRes} {args : List Value} {S : St} (hX : X f args S = none) (hf : prog f = some ⟨nt, b, rs⟩) :
    callsX X prog (n + 1) f args S = endK S rs (evCode (callsX X prog n) b (args ++ List.replicate (nt - args.length) undef) ⟨S.blks, S.blks.length, S.blks.length⟩) := by
  simp only [callsX, ahead, hX]
  unfold evFun
  simp only [hf, endK]; rfl

end Go.Proofs.YtepddcemoofmlaaGreat.AE
