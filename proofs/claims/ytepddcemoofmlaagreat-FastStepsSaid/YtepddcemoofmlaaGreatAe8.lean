/- New blocks. -/
import Derived.Test.YtepddcemoofmlaaGreatAe7
namespace Go.Proofs.YtepddcemoofmlaaGreat.AE
set_option linter.unusedSimpArgs false
set_option linter.unusedVariables false
open Go

def Rho.upd (ρ : Rho) (N k c : Nat) : Rho :=
  ⟨fun b => if b = N then k else ρ.blk b, fun b => if b = N then 0 else ρ.off b, fun b => if b = N then c else ρ.cap b⟩

def upM (m : Nat → Option AObj) (N : Nat) (o : AObj) : Nat → Option AObj := fun b => if b = N then some o else m b

def World.pushed (w : World) (o : Obj) : World := { w with heap := w.heap.push o }

theorem pushed_old {w : World} {o : Obj} {k : Nat} (h : k < w.heap.size) : (World.pushed w o).heap[k]? = w.heap[k]? := by
  simp only [World.pushed, Array.getElem?_push]
  rw [if_neg (by omega)]

theorem pushed_new {w : World} {o : Obj} : (World.pushed w o).heap[w.heap.size]? = some o := by
  show (w.heap.push o)[w.heap.size]? = some o
  rw [Array.getElem?_push, if_pos rfl]

theorem pushed_size {w : World} {o : Obj} : (World.pushed w o).heap.size = w.heap.size + 1 := by
  simp [World.pushed]

section
variable {P : Program} {nG : Nat} {Q : FuncId → Bool} {ρ : Rho} {a : Act} {R : List Value} {m : Nat → Option AObj} {w : World}

theorem agree_upd {N k c b : Nat} (h : b ≠ N) : Agree ρ (ρ.upd N k c) b := by
  simp [Agree, Rho.upd, h]

theorem map_ren_upd {N k c : Nat} {l : List Value} (hl : ∀ v ∈ l, Clo (fun r => (m r).isSome = true) v) (hN : m N = none) :
    l.map (ren (ρ.upd N k c)) = l.map (ren ρ) :=
  List.map_congr_left fun v hv => ren_congr v ((hl v hv).mono fun b hb => agree_upd (by rintro rfl; simp [hN] at hb))

/-- An object says the same in a later world, if its block stands as it was and its names too. -/
theorem RepObj.carry {ρ ρ' : Rho} {b : Nat} {w w' : World} {o : AObj} (h : RepObj P ρ b w o) (hw : w'.heap[ρ.blk b]? = w.heap[ρ.blk b]?)
    (hb : Agree ρ ρ' b) (ho : o.Clo (Agree ρ ρ')) : RepObj P ρ' b w' o := by
  obtain ⟨h1, h2, h3⟩ := hb
  cases o with
  | cells e c =>
    obtain ⟨h0, junk, hh, hl⟩ := h
    have : c.map (ren ρ') = c.map (ren ρ) := List.map_congr_left fun v hv => ren_congr v (ho v hv)
    exact ⟨h2.trans h0, junk, by rw [h1, hw, this]; exact hh, by rw [h3]; exact hl⟩
  | view c =>
    obtain ⟨⟨cs, e, fr, hh, hc⟩, hl⟩ := h
    refine ⟨⟨cs, e, fr, by rw [h1, hw]; exact hh, fun i v hv => ?_⟩, by rw [h3]; exact hl⟩
    rw [h2, ren_congr v (ho v (List.mem_of_getElem? hv))]
    exact hc i v hv
  | amap es =>
    obtain ⟨ents, clock, hh, he⟩ := h
    refine ⟨ents, clock, by rw [h1, hw]; exact hh, ?_⟩
    rw [he]
    exact List.map_congr_left fun x hx => by rw [ren_congr x.2 (ho x hx)]
  | dead => trivial

theorem AObj.Clo.mono {D D' : Nat → Prop} (hD : ∀ b, D b → D' b) {o : AObj} (h : o.Clo D) : o.Clo D' := by
  cases o with
  | cells e c => exact fun v hv => AE.Clo.mono hD v (h v hv)
  | view c => exact fun v hv => AE.Clo.mono hD v (h v hv)
  | amap es => exact fun x hx => AE.Clo.mono hD x.2 (h x hx)
  | dead => trivial

theorem push_rep (rep : Rep P nG ρ m w) {N c : Nat} {o' : AObj} {obj : Obj} (hN : m N = none)
    (ho : RepObj P (ρ.upd N w.heap.size c) N (World.pushed w obj) o') (hclo : o'.Clo (fun r => (m r).isSome = true)) :
    Rep P nG (ρ.upd N w.heap.size c) (upM m N o') (World.pushed w obj) ∧ Ext ρ m w (ρ.upd N w.heap.size c) (upM m N o') (World.pushed w obj) := by
  have hdom : ∀ b, (m b).isSome = true → (upM m N o' b).isSome = true := by
    intro b hb; unfold upM; split <;> simp [hb]
  have hag : ∀ b, (m b).isSome = true → Agree ρ (ρ.upd N w.heap.size c) b := fun b hb => agree_upd (by rintro rfl; simp [hN] at hb)
  have hblk : ∀ b, b ≠ N → (ρ.upd N w.heap.size c).blk b = ρ.blk b := fun b hb => by simp [Rho.upd, hb]
  have hblkN : (ρ.upd N w.heap.size c).blk N = w.heap.size := by simp [Rho.upd]
  constructor
  · refine ⟨?_, ?_, ?_, ?_, ?_⟩
    · intro b o hb
      unfold upM at hb
      split at hb
      · rename_i h; rw [h, hblkN, pushed_size]; omega
      · rename_i h; rw [hblk b h, pushed_size]; have := rep.size b o hb; omega
    · intro b o hb
      unfold upM at hb
      split at hb
      · rename_i h; simp only [Option.some.injEq] at hb; subst hb h; exact ho
      · rename_i h
        exact (rep.obj b o hb).carry (pushed_old (rep.size b o hb)) (hag b (by simp [hb])) ((rep.clo b o hb).mono hag)
    · intro b b' o o2 hb hb' hown hlive hne
      unfold upM at hb hb'
      split at hb
      · rename_i h
        split at hb'
        · rename_i h'; exact absurd (h.trans h'.symm) hne
        · rename_i h'; rw [h, hblkN, hblk b' h']; have := rep.size b' o2 hb'; omega
      · rename_i h
        split at hb'
        · rename_i h'; rw [h', hblkN, hblk b h]; have := rep.size b o hb; omega
        · rename_i h'; rw [hblk b h, hblk b' h']; exact rep.sep b b' o o2 hb hb' hown hlive hne
    · intro b o hb
      unfold upM at hb
      split at hb
      · simp only [Option.some.injEq] at hb; subst hb; exact hclo.mono hdom
      · exact (rep.clo b o hb).mono hdom
    · intro g hg
      obtain ⟨h1, h2, h3⟩ := rep.glob g hg
      obtain ⟨a1, a2, _⟩ := hag g h3
      exact ⟨a1.trans h1, a2.trans h2, hdom g h3⟩
  · refine ⟨rfl, rfl, rfl, by rw [pushed_size]; omega, hag, fun k hk _ => pushed_old hk, ?_, hdom⟩
    intro b o hb hown
    unfold upM at hb
    split at hb
    · rename_i h; left; rw [h, hblkN]; exact Nat.le_refl _
    · rename_i h; right; exact ⟨b, o, hb, hown, id, (hblk b h).symm⟩

theorem evFill_length : ∀ {ps : List (Nat × Nat × Value)} {zs cs : List Value}, evFill ps zs = some cs → cs.length = zs.length
  | [], zs, cs, h => by simp only [evFill, Option.some.injEq] at h; subst h; rfl
  | (off, sz, v) :: r, zs, cs, h => by
    simp only [evFill] at h
    split at h
    · rename_i hn
      rw [evFill_length h]
      simp
      omega
    · cases h

theorem zeros_eq (zs : List Value) (len : Nat) (h : 0 < zs.length) :
    ((Array.range (len * zs.length)).map (zs.toArray[· % zs.length]!)) = (List.flatten (List.replicate len zs)).toArray := by
  apply Array.ext'
  rw [Array.toList_map]
  have hr : (Array.range (len * zs.length)).toList = List.range (len * zs.length) := by simp
  rw [hr]
  induction len with
  | zero => simp
  | succ len ih =>
    rw [show (len + 1) * zs.length = zs.length + len * zs.length by rw [Nat.succ_mul]; omega, List.range_add, List.map_append, List.replicate_succ, List.flatten_cons]
    simp only [List.map_map]
    congr 1
    · apply List.ext_getElem
      · simp
      · intro i h1 h2
        simp only [List.length_map, List.length_range] at h1
        simp [Nat.mod_eq_of_lt h1, h1]
    · have := ih (by simp)
      simp only at this
      rw [← this]
      apply List.map_congr_left
      intro i _
      simp

theorem alloc_sound {o : Oper} {io : IOp} {o' : AObj} {f : Nat → Value} (hc : cOp P nG Q o.op = some io) (he : evAlloc R io = some (o', f)) (rep : Rep P nG ρ m w)
    (ha : a.tmps = (R.map (ren ρ)).toArray) (hcl : ∀ v ∈ io.vals R, Clo (fun r => (m r).isSome = true) v) {N : Nat} (hN : m N = none) :
    ∃ obj c, (execOp a.eval o).run P w = .ok (.value (ren (ρ.upd N w.heap.size c) (f N))) (World.pushed w obj) ∧
      RepObj P (ρ.upd N w.heap.size c) N (World.pushed w obj) o' ∧ o'.Clo (fun r => (m r).isSome = true) ∧ (∀ D : Nat → Prop, D N → Clo D (f N)) := by
  have hg : ∀ g, g < nG → ρ.blk g = g ∧ ρ.off g = 0 := fun g h => ⟨(rep.glob g h).1, (rep.glob g h).2.1⟩
  unfold execOp
  cases hop : o.op <;> rw [hop] at hc <;> simp only [cOp] at hc
  case alloc e =>
    obtain ⟨zs, hzs, rfl⟩ := Option.map_eq_some_iff.1 hc
    obtain ⟨z, n, h1, h2, h3, h4, h5, h6⟩ := zs_spec hzs
    simp only [evAlloc, Option.some.injEq, Prod.mk.injEq] at he
    obtain ⟨rfl, rfl⟩ := he
    refine ⟨.cells z.cells e, 1, ?_, ?_, fun v hv => clo_of_zero (h5 v hv), fun D hD => by simp [Clo, hD]⟩
    · simp [Instr.alloc, run_zero h1, newVar, newRow, ren, renA, Rho.upd, World.pushed]
    · refine ⟨by simp [Rho.upd], [], ?_, ?_⟩
      · rw [map_ren_zero h5, List.append_nil]
        have : (ρ.upd N w.heap.size 1).blk N = w.heap.size := by simp [Rho.upd]
        rw [this, pushed_new, ← h3]
      · simp [Rho.upd, cellsOf_sz h2, h4]
  case box e x =>
    split at hc
    · rename_i n y h1 h2
      simp only [Option.some.injEq] at hc; subst hc
      simp only [evAlloc] at he
      split at he
      · rename_i hn
        simp only [Option.some.injEq, Prod.mk.injEq] at he
        obtain ⟨rfl, rfl⟩ := he
        have hcx := clo_cells (hcl (y.ev R) (by simp [IOp.vals]))
        refine ⟨.cells (ren ρ (y.ev R)).cells e, 1, ?_, ?_, hcx, fun D hD => by simp [Clo, hD]⟩
        · simp [Instr.box, iv_sound ha hg h2, newVar, newRow, ren, renA, Rho.upd, World.pushed]
        · refine ⟨by simp [Rho.upd], [], ?_, ?_⟩
          · rw [map_ren_upd hcx hN, List.append_nil]
            have : (ρ.upd N w.heap.size 1).blk N = w.heap.size := by simp [Rho.upd]
            rw [this, pushed_new, cells_ren, ← Array.toList_map]
          · simp [Rho.upd, cellsOf_sz h1]; simpa using hn.1
      · cases he
    · cases hc
  case buildSlice t len parts =>
    split at hc
    · rename_i e hu
      split at hc
      · rename_i n zs h1 h2
        split at hc
        · rename_i hb
          obtain ⟨ps, hps, rfl⟩ := Option.map_eq_some_iff.1 hc
          obtain ⟨z, n', q1, q2, q3, q4, q5, q6⟩ := zs_spec h2
          have hnn : n' = n := by rw [q2] at h1; simpa using h1
          subst hnn
          simp only [evAlloc] at he
          split at he
          · rename_i cs hcs
            split at he
            · rename_i hone
              simp only [Option.some.injEq, Prod.mk.injEq] at he
              obtain ⟨rfl, rfl⟩ := he
              have hzf : ∀ v ∈ List.flatten (List.replicate len zs), refsLt 0 v = true := by
                intro v hv
                obtain ⟨l, hl, hv⟩ := List.mem_flatten.1 hv
                rw [List.mem_replicate] at hl
                exact q5 v (hl.2 ▸ hv)
              have hf := fill_sound (fun i => some (i * n', n')) hps ha hg hcs
              rw [map_ren_zero hzf] at hf
              have hlen := evFill_length hcs
              have hlen2 : (List.flatten (List.replicate len zs)).length = len * n' := by simp [q4]
              have hccs : ∀ v ∈ cs, Clo (fun r => (m r).isSome = true) v := by
                refine clo_evFill ?_ ?_ hcs
                · intro p hp
                  obtain ⟨q, hq, rfl⟩ := List.mem_map.1 hp
                  exact hcl _ (by simp only [IOp.vals, List.mem_append, List.mem_map]; exact .inr ⟨q, hq, rfl⟩)
                · exact fun v hv => clo_of_zero (hzf v hv)
              refine ⟨.cells (cs.map (ren ρ)).toArray e, len, ?_, ?_, hccs, fun D hD => by simp [Clo, hD]⟩
              · have hzero : ∃ zc : Array Value, (if len * n' = 0 then pure #[] else do pure (← zeroValue e).cells : Sem (Array Value)).run P w = .ok zc w ∧
                    (Array.range (len * n')).map (zc[· % zc.size]!) = (List.flatten (List.replicate len zs)).toArray := by
                  by_cases hz : len * n' = 0
                  · refine ⟨#[], by simp [hz], ?_⟩
                    have : len = 0 := by
                      rcases Nat.mul_eq_zero.1 hz with h | h
                      · exact h
                      · omega
                    subst this; simp
                  · refine ⟨z.cells, by simp [hz, run_zero q1], ?_⟩
                    have hs : z.cells.size = n' := by rw [← Array.length_toList, q3, q4]
                    have := zeros_eq zs len (by omega)
                    rw [← this, q4, hs, ← q3]
                obtain ⟨zc, hz1, hz2⟩ := hzero
                have hpa : (parts.map fun p => (p.1, a.eval p.2)).toList = parts.toList.map fun p => (p.1, a.eval p.2) := by simp
                have hf' : Instr.fill (fun i => some (i * n', n')) ((Array.range (len * n')).map (zc[· % zc.size]!)) (parts.map fun p => (p.1, a.eval p.2)).toList = some (cs.map (ren ρ)).toArray := by
                  rw [hpa, hz2]; exact hf
                simp only [Instr.buildSlice, Sem.run_bind, run_underlying hu, Result.andThen_ok, run_sz h1]
                rw [if_neg (by omega)]
                by_cases hz0 : len * n' = 0
                · rw [if_pos hz0] at hz1 ⊢
                  simp only [Sem.run_pure, Result.ok.injEq, and_true] at hz1
                  subst hz1
                  simp only [Sem.run_bind, Sem.run_pure, Result.andThen_ok, hf']
                  simp [newRow, ren, renA, Rho.upd, World.pushed]
                · rw [if_neg hz0] at hz1 ⊢
                  simp only [Sem.run_bind, run_zero q1, Sem.run_pure, Result.andThen_ok, Result.ok.injEq, and_true] at hz1
                  subst hz1
                  simp only [Sem.run_bind, run_zero q1, Sem.run_pure, Result.andThen_ok, hf']
                  simp [newRow, ren, renA, Rho.upd, World.pushed]
              · refine ⟨by simp [Rho.upd], [], ?_, ?_⟩
                · rw [map_ren_upd hccs hN, List.append_nil]
                  have : (ρ.upd N w.heap.size len).blk N = w.heap.size := by simp [Rho.upd]
                  rw [this, pushed_new]
                · simp [Rho.upd, cellsOf_sz h1, hlen, q4]
            · cases he
          · cases he
        · cases hc
      · cases hc
    · cases hc
  case makeMap t r =>
    cases r <;> simp at hc
    subst hc
    simp only [evAlloc, Option.some.injEq, Prod.mk.injEq] at he
    obtain ⟨rfl, rfl⟩ := he
    refine ⟨.map #[] 0, 0, ?_, ?_, ?_, fun D hD => by simp [Clo, hD]⟩
    · simp [Instr.makeMap, ren, Rho.upd, World.pushed]
    · refine ⟨#[], 0, ?_, by simp⟩
      have : (ρ.upd N w.heap.size 0).blk N = w.heap.size := by simp [Rho.upd]
      rw [this, pushed_new]
    · intro x hx; simp at hx
  case makeSlice t l c =>
    split at hc
    · rename_i e l' c' hu hl hcc
      split at hc
      · rename_i i z hi hz
        simp only [Option.some.injEq] at hc; subst hc
        obtain ⟨zv, n', q1, q2, q3, q4, q5, q6⟩ := zs_spec hz
        simp only [List.length_singleton] at q4
        subst q4
        simp only [evAlloc] at he
        split at he
        · rename_i n m' hln hcn
          split at he
          · rename_i hb
            obtain ⟨rfl, hb1, hb2, hb3⟩ := hb
            simp only [Option.some.injEq, Prod.mk.injEq] at he
            obtain ⟨rfl, rfl⟩ := he
            have hcz : refsLt 0 z = true := q5 z (by simp)
            refine ⟨.cells (List.replicate n.toNat z).toArray e, n.toNat, ?_, ?_, ?_, fun D hD => by simp [Clo, hD]⟩
            · have hti : (typeInfo e).run P w = .ok i w := by simp [typeInfo, hi]
              have hw : IntKind.i64.wrap n = n := by unfold IntKind.wrap IntKind.bits IntKind.signed; simp; omega
              have hzero : ∃ zc : Array Value, (if n.toNat * 1 = 0 then pure #[] else do pure (← zeroValue e).cells : Sem (Array Value)).run P w = .ok zc w ∧
                  (Array.range (n.toNat * 1)).map (zc[· % zc.size]!) = (List.replicate n.toNat z).toArray := by
                by_cases hz0 : n.toNat * 1 = 0
                · refine ⟨#[], by rw [if_pos hz0]; rfl, ?_⟩
                  have : n.toNat = 0 := by omega
                  rw [this]; simp
                · refine ⟨zv.cells, by rw [if_neg hz0]; simp [run_zero q1], ?_⟩
                  have hs : zv.cells.size = 1 := by rw [← Array.length_toList, q3]; rfl
                  have := zeros_eq [z] n.toNat (by simp)
                  simp only [List.length_singleton] at this
                  have hzv : zv.cells = [z].toArray := by rw [← q3]
                  rw [hs, hzv, this]
                  congr 1
                  generalize n.toNat = k
                  induction k with
                  | zero => simp
                  | succ k ih => simp [List.replicate_succ, ih]
              obtain ⟨zc, hz1, hz2⟩ := hzero
              have hbool : (decide (n < 0) || decide ((i.bytes : Int) * n > 2 ^ 48)) = false := by
                simp; omega
              simp only [iv_sound ha hg hl, iv_sound ha hg hcc, hln, hcn, ren_int]
              simp only [Instr.makeSlice, Sem.run_bind, run_underlying hu, Result.andThen_ok, asInt, asIntOf, Sem.run_pure, hti, hw, hbool]
              rw [if_neg (by simp; omega)]
              simp only [Sem.run_bind, run_askRoom, Result.andThen_ok, run_sz q2]
              by_cases hz0 : n.toNat * 1 = 0
              · rw [if_pos hz0] at hz1 ⊢
                simp only [Sem.run_pure, Result.ok.injEq, and_true] at hz1
                subst hz1
                simp only [Sem.run_bind, Sem.run_pure, Result.andThen_ok, hz2]
                simp [newRow, ren, renA, Rho.upd, World.pushed]
              · rw [if_neg hz0] at hz1 ⊢
                simp only [Sem.run_bind, run_zero q1, Sem.run_pure, Result.andThen_ok, Result.ok.injEq, and_true] at hz1
                subst hz1
                simp only [Sem.run_bind, run_zero q1, Sem.run_pure, Result.andThen_ok, hz2]
                simp [newRow, ren, renA, Rho.upd, World.pushed]
            · refine ⟨by simp [Rho.upd], [], ?_, ?_⟩
              · have e1 : (List.replicate n.toNat z).map (ren (ρ.upd N w.heap.size n.toNat)) = List.replicate n.toNat z := by simp [ren_of_zero hcz]
                rw [e1, List.append_nil]
                have : (ρ.upd N w.heap.size n.toNat).blk N = w.heap.size := by simp [Rho.upd]
                rw [this, pushed_new]
              · simp [Rho.upd, cellsOf_sz q2]
            · intro v hv
              rw [List.mem_replicate] at hv
              exact hv.2 ▸ clo_of_zero hcz
          · cases he
        · cases he
      · cases hc
    · cases hc
  case call c =>
    split at hc
    · split at hc
      · simp only [Option.some.injEq] at hc; subst hc; simp [evAlloc] at he
      · cases hc
    · unfold cBuiltin at hc
      split at hc
      all_goals (first
        | (cases hc; done)
        | (split at hc <;> first | (cases hc; done) | (simp only [Option.some.injEq] at hc; subst hc; simp [evAlloc] at he; done) |
          (split at hc <;> first | (cases hc; done) | (simp only [Option.some.injEq] at hc; subst hc; simp [evAlloc] at he; done))))
    · cases hc
  case move => obtain ⟨y, hy, rfl⟩ := Option.map_eq_some_iff.1 hc; simp [evAlloc] at he
  case assign => obtain ⟨y, hy, rfl⟩ := Option.map_eq_some_iff.1 hc; simp [evAlloc] at he
  case nilCheck => obtain ⟨y, hy, rfl⟩ := Option.map_eq_some_iff.1 hc; simp [evAlloc] at he
  case unOp => obtain ⟨y, hy, rfl⟩ := Option.map_eq_some_iff.1 hc; simp [evAlloc] at he
  case extract => obtain ⟨y, hy, rfl⟩ := Option.map_eq_some_iff.1 hc; simp [evAlloc] at he
  case makeFunc fn f c =>
    cases fn <;> simp at hc
    split at hc
    · simp only [Option.some.injEq] at hc; subst hc; simp [evAlloc] at he
    · cases hc
  all_goals (first
    | (cases hc; done)
    | (split at hc <;> first | (cases hc; done) | (simp only [Option.some.injEq] at hc; subst hc; simp [evAlloc] at he; done) | (obtain ⟨y, hy, rfl⟩ := Option.map_eq_some_iff.1 hc; simp [evAlloc] at he; done) |
        (split at hc <;> first | (cases hc; done) | (simp only [Option.some.injEq] at hc; subst hc; simp [evAlloc] at he; done) | (obtain ⟨y, hy, rfl⟩ := Option.map_eq_some_iff.1 hc; simp [evAlloc] at he; done) |
          (split at hc <;> first | (cases hc; done) | (simp only [Option.some.injEq] at hc; subst hc; simp [evAlloc] at he; done) | (obtain ⟨y, hy, rfl⟩ := Option.map_eq_some_iff.1 hc; simp [evAlloc] at he; done)))))

end
end Go.Proofs.YtepddcemoofmlaaGreat.AE
