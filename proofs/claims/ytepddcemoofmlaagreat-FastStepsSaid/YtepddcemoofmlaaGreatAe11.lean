/- append; all that writes, in one. -/
import Derived.Test.YtepddcemoofmlaaGreatAe10
namespace Go.Proofs.YtepddcemoofmlaaGreat.AE
set_option linter.unusedSimpArgs false
set_option linter.unusedVariables false
open Go

section
variable {P : Program} {nG : Nat} {Q : FuncId → Bool} {ρ : Rho} {a : Act} {R : List Value} {w : World}

theorem zeroCells_len (z : Array Value) (n : Nat) : (Builtin.zeroCells z n).size = n * z.size := by simp [Builtin.zeroCells]

theorem get_len {S : St} : S.m S.blks.length = none := by
  show S.blks[S.blks.length]? = none
  simp

/-- A new array is made for an append: behind its old elements the new ones, and room. -/
theorem grow_run {S : St} (rep : Rep P nG ρ S.m w) {t0 t1 ty e e2 : TypeId} (hu : P.underlying t0 = some (.slice e)) (hu1 : P.underlying t1 = some (.slice e2)) {i : TypeInfo} (hi : P.info? e = some i)
    {zs : List Value} (hz : zsOf P e = some zs) {base : Option Addr} {len cap n : Nat} {xv : Value} {old xs : List Value} (hcap : cap < len + n)
    (hx : rowOf S.m i.size xv = some (n, xs)) (hold : ∀ w1 : World, w1.heap = w.heap → (Builtin.firstCells i.size len (.slice base len cap)).run P w1 = .ok (old.map (ren ρ)).toArray w1)
    (holdlen : old.length = len * i.size) (hoc : ∀ v ∈ old, Clo (fun r => (S.m r).isSome = true) v) (hb : (2 * (len + n) + 768) * i.bytes ≤ 281474976710656) (hm : len + n ≤ 1000000000000000) :
    ∃ cap' obj w1, (Builtin.append_ #[t0, t1] ty #[.slice base len cap, ren ρ xv]).run P w = .ok (.slice (some ⟨w.heap.size, 0, none⟩) (len + n) cap') (World.pushed w1 obj) ∧
      w1 = { w with drawn := w.drawn + 1 } ∧ RepObj P (ρ.upd S.blks.length w.heap.size cap') S.blks.length (World.pushed w1 obj) (.cells e (old ++ xs)) := by
  obtain ⟨z, nz, q1, q2, q3, q4, q5, q6⟩ := zs_spec hz
  have hsz : szOf P e = some i.size := by simp [szOf, hi]
  have hnz : nz = i.size := by rw [q2] at hsz; simpa using hsz
  subst hnz
  have hti : ∀ w : World, (typeInfo e).run P w = .ok i w := fun w => by simp [typeInfo, hi]
  obtain ⟨x1, x2, x3, x4, x5⟩ := rowOf_run rep hx
  let w1 : World := { w with drawn := w.drawn + 1 }
  have rep1 : Rep P nG ρ S.m w1 := drawn_rep rep
  obtain ⟨y1, y2, _⟩ := rowOf_run rep1 hx
  let q : Question := .appendCap (len + n) cap e
  let cap' : Nat := q.cut (w.tape w.drawn q)
  have hq : (choose q).run P w = .ok cap' w1 := by simp [choose, Sem.run, q, Question.forced, cap', w1]
  have hcap' : len + n ≤ cap' := by
    show len + n ≤ len + n + _ % _
    omega
  have hnext := nextcap_le hcap
  have hmul : Builtin.nextslicecap (len + n) cap * i.bytes ≤ 281474976710656 := Nat.le_trans (Nat.mul_le_mul_right _ hnext) hb
  let obj : Obj := .cells ((old.map (ren ρ)).toArray ++ (xs.map (ren ρ)).toArray ++ Builtin.zeroCells z.cells (cap' - (len + n))) e
  refine ⟨cap', obj, w1, ?_, rfl, ?_⟩
  · unfold Builtin.append_
    simp only [List.getElem?_toArray, List.getElem?_cons_zero, List.getElem?_cons_succ, Sem.run_bind, run_underlying hu, Result.andThen_ok, run_sz hsz, run_underlying hu1, Sem.run_pure]
    simp only [Bool.false_eq_true, if_false, x1, Sem.run_bind, Result.andThen_ok, hti, or_false, false_or]
    rw [if_neg (by omega)]
    simp only [Sem.run_bind, hti, Result.andThen_ok]
    have g1 : ¬ (((len + n : Nat) : Int) > IntKind.i64.max ∧ i.bytes = 0) := by
      intro h
      have : IntKind.i64.max = 9223372036854775807 := by decide
      rw [this] at h
      omega
    rw [if_neg g1]
    simp only [Sem.run_bind, hti, Result.andThen_ok]
    rw [if_neg (by omega)]
    simp only [Sem.run_bind, hti, Result.andThen_ok]
    rw [hq]
    simp only [Result.andThen_ok, run_askRoom, hold w1 rfl, Bool.not_false, if_true, y2, run_zero q1]
    rfl
  · refine ⟨by simp [Rho.upd], (Builtin.zeroCells z.cells (cap' - (len + n))).toList, ?_, ?_⟩
    · have e1 : (old ++ xs).map (ren (ρ.upd S.blks.length w.heap.size cap')) = (old ++ xs).map (ren ρ) :=
        map_ren_upd (m := S.m) (by intro v hv; rcases List.mem_append.1 hv with h | h; exact hoc v h; exact x4 v h) get_len
      have e2 : (ρ.upd S.blks.length w.heap.size cap').blk S.blks.length = w1.heap.size := by simp [Rho.upd, w1]
      rw [e1, e2, pushed_new]
      simp [obj]
    · have hzs : z.cells.size = i.size := by rw [← Array.length_toList, q3, q4]
      simp only [List.length_append, Array.length_toList, zeroCells_len, hzs, holdlen, x3, Rho.upd, if_true, cellsOf_sz hsz]
      rw [← Nat.add_mul, ← Nat.add_mul]
      congr 1
      omega

theorem append_run {S S' : St} (rep : Rep P nG ρ S.m w) {t0 t1 ty e e2 : TypeId} (hu : P.underlying t0 = some (.slice e)) (hu1 : P.underlying t1 = some (.slice e2)) {i : TypeInfo} (hi : P.info? e = some i)
    {zs : List Value} (hz : zsOf P e = some zs) {s x : IV} {v : Value} (hs : Clo (fun r => (S.m r).isSome = true) (s.ev R)) (he : evWrite R S (.append e i.size i.bytes s x) = some (v, S')) :
    ∃ ρ' w', (Builtin.append_ #[t0, t1] ty #[ren ρ (s.ev R), ren ρ (x.ev R)]).run P w = .ok (ren ρ' v) w' ∧ Rep P nG ρ' S'.m w' ∧ Ext ρ S.m w ρ' S'.m w' ∧ Clo (fun r => (S'.m r).isSome = true) v := by
  have hsz : szOf P e = some i.size := by simp [szOf, hi]
  have hti : ∀ w : World, (typeInfo e).run P w = .ok i w := fun w => by simp [typeInfo, hi]
  simp only [evWrite] at he
  split at he
  · cases he
  · rename_i n xs hrow
    obtain ⟨x1, x2, x3, x4, x5⟩ := rowOf_run rep hrow
    split at he
    · -- a nil slice
      rename_i hsv
      split at he
      · rename_i hn
        simp only [Option.some.injEq, Prod.mk.injEq] at he
        obtain ⟨rfl, rfl⟩ := he
        subst hn
        refine ⟨ρ, w, ?_, rep, Ext.refl _ _ _, by simp [Clo]⟩
        rw [hsv]
        simp only [ren]
        unfold Builtin.append_
        simp only [List.getElem?_toArray, List.getElem?_cons_zero, List.getElem?_cons_succ, Sem.run_bind, run_underlying hu, Result.andThen_ok, run_sz hsz, run_underlying hu1, Sem.run_pure]
        simp [x1, x2]
      · rename_i hn
        split at he
        · rename_i hb
          simp only [Option.some.injEq, Prod.mk.injEq] at he
          obtain ⟨rfl, rfl⟩ := he
          obtain ⟨cap', obj, w1, r1, r2, r3⟩ := grow_run (nG := nG) (base := none) (len := 0) (cap := 0) (old := []) (ty := ty) rep hu hu1 hi hz (by omega) hrow (fun w1 _ => by simp [Builtin.firstCells]) (by simp) (by simp) (by simpa using hb.1) (by simpa using hb.2)
          subst r2
          have hp := push_rep (drawn_rep rep) (c := cap') (o' := .cells e xs) get_len (by simpa using r3) x4
          have hm : (S.push (.cells e xs)).m = upM S.m S.blks.length (.cells e xs) := get_push
          rw [hm]
          refine ⟨_, _, ?_, hp.1, drawn_ext.trans hp.2, by simp [Clo, upM]⟩
          rw [hsv]
          simp only [ren, Nat.zero_add] at r1 ⊢
          rw [r1]
          simp [renA, Rho.upd]
        · cases he
    · -- a slice of a block
      rename_i ad len hsv
      split at he
      · rename_i e' c hb
        split at he
        · rename_i hcond
          obtain ⟨rfl, h0, hcl, hpos⟩ := hcond
          obtain ⟨o0, junk, hh, hlen⟩ := rep.obj _ _ hb
          rw [cellsOf_sz hsz] at hlen
          have hcapge : len ≤ ρ.cap ad.block := by
            have : len * i.size ≤ ρ.cap ad.block * i.size := by omega
            exact Nat.le_of_mul_le_mul_right this hpos
          have hold : ∀ w1 : World, w1.heap = w.heap → (Builtin.firstCells i.size len (.slice (some (renA ρ ad)) len (ρ.cap ad.block - ad.off))).run P w1 = .ok (c.map (ren ρ)).toArray w1 := by
            intro w1 hw1
            have hc1 : rowOf S.m i.size (.slice (some ad) len 0) = rowOf S.m i.size (.slice (some ad) len 0) := rfl
            simp only [Builtin.firstCells]
            have key := run_loadCells_list (P := P) w1 (renA ρ ad) (c.map (ren ρ)) (by
              intro j u hu
              unfold renA
              rw [Addr.add_mid, List.getElem?_map] at *
              cases hq : c[j]? with
              | none => simp [hq] at hu
              | some u' =>
                simp only [hq, Option.map_some, Option.some.injEq] at hu
                subst hu
                have := cell_at rep (b := ad.block) (c := c) (i := j) (v := u') (by simp only [cellsAt, hb]) hq
                unfold World.cell? at this ⊢
                rw [hw1, h0, Nat.add_zero]
                exact this)
            rw [List.length_map, hcl] at key
            exact key
          split at he
          · rename_i hn
            simp only [Option.some.injEq, Prod.mk.injEq] at he
            obtain ⟨rfl, rfl⟩ := he
            subst hn
            have hxs : xs = [] := List.length_eq_zero_iff.1 (by simpa using x3)
            refine ⟨ρ, w, ?_, rep, Ext.refl _ _ _, by rw [hsv] at hs; exact hs⟩
            rw [hsv]
            simp only [ren, if_true]
            unfold Builtin.append_
            simp only [List.getElem?_toArray, List.getElem?_cons_zero, List.getElem?_cons_succ, Sem.run_bind, run_underlying hu, Result.andThen_ok, run_sz hsz, run_underlying hu1, Sem.run_pure]
            simp only [Bool.false_eq_true, if_false, x1, Sem.run_bind, Result.andThen_ok, Nat.add_zero]
            rw [if_pos (by omega)]
            simp [x2, hxs, storeCells]
          · rename_i hn
            split at he
            · rename_i hbd
              simp only [Option.some.injEq, Prod.mk.injEq] at he
              obtain ⟨rfl, rfl⟩ := he
              have hclb : ∀ v ∈ c, Clo (fun r => (S.m r).isSome = true) v := rep.clo _ _ hb
              have hcxs : ∀ v ∈ c ++ xs, Clo (fun r => (S.m r).isSome = true) v := by
                intro v hv; rcases List.mem_append.1 hv with h | h; exact hclb v h; exact x4 v h
              have hbl : ad.block < S.blks.length := lt_of_get hb
              have hm : (St.m ⟨S.blks.set ad.block .dead ++ [.cells e' (c ++ xs)], min S.wr ad.block, S.esc⟩) = upM (upM S.m ad.block .dead) S.blks.length (.cells e' (c ++ xs)) := by
                show (fun b => (S.blks.set ad.block .dead ++ [.cells e' (c ++ xs)])[b]?) = _
                rw [get_push, get_set hbl]
                simp
              rw [hm]
              by_cases hroom : len + n ≤ ρ.cap ad.block
              · -- there is room
                have hfit : len * i.size + xs.length ≤ (c.map (ren ρ) ++ junk).toArray.size := by
                  simp only [List.size_toArray, List.length_append, List.length_map]
                  rw [hlen, x3, ← Nat.add_mul]
                  exact Nat.mul_le_mul_right _ hroom
                have hst := run_storeCells_at P (ρ.blk ad.block) (len * i.size) e' (xs.map (ren ρ)) 0 _ w hh (by simpa using hfit) (by
                  intro u hu
                  obtain ⟨u', hu', rfl⟩ := List.mem_map.1 hu
                  exact one_cell (by rw [one_ren]; exact List.all_eq_true.1 x5 u' hu'))
                let w2 : World := w.setRow (ρ.blk ad.block) ((c.map (ren ρ) ++ junk).toArray.toList.take (len * i.size + 0) ++ xs.map (ren ρ) ++ (c.map (ren ρ) ++ junk).toArray.toList.drop (len * i.size + 0 + (xs.map (ren ρ)).length)).toArray
                have hmv := move_rep (nG := nG) rep (b := ad.block) (N := S.blks.length) (c := ρ.cap ad.block) (o' := .cells e' (c ++ xs)) (w' := w2) hb rfl get_len rfl rfl rfl (setRow_size w _ _) (fun k hk => setRow_other _ _ _ _ hk) (by
                  refine ⟨by simp [Rho.upd], junk.drop xs.length, ?_, ?_⟩
                  · rw [map_ren_upd hcxs get_len]
                    have e2 : (ρ.upd S.blks.length (ρ.blk ad.block) (ρ.cap ad.block)).blk S.blks.length = ρ.blk ad.block := by simp [Rho.upd]
                    rw [e2, setRow_heap _ _ _ _ _ _ hh]
                    congr 2
                    simp only [Nat.add_zero, List.length_map, ← hcl]
                    have t1 : (c.map (ren ρ) ++ junk).take c.length = c.map (ren ρ) := by rw [List.take_append_of_le_length (by rw [List.length_map]; exact Nat.le_refl _), List.take_of_length_le (by rw [List.length_map]; exact Nat.le_refl _)]
                    have t2 : (c.map (ren ρ) ++ junk).drop (c.length + xs.length) = junk.drop xs.length := by
                      rw [List.drop_append]; simp
                    simp [t1, t2]
                  · simp only [List.length_append, List.length_drop, Rho.upd, if_true, cellsOf_sz hsz]
                    have : xs.length ≤ junk.length := by
                      simp only [List.size_toArray, List.length_append, List.length_map] at hfit
                      omega
                    omega) hcxs
                have hst' : (storeCells ⟨ρ.blk ad.block, len * i.size, none⟩ (xs.map (ren ρ))).run P w = .ok () w2 := hst
                clear_value w2
                refine ⟨_, w2, ?_, hmv.1, hmv.2, by simp [Clo, upM]⟩
                rw [hsv]
                simp only [ren, if_true]
                unfold Builtin.append_
                simp only [List.getElem?_toArray, List.getElem?_cons_zero, List.getElem?_cons_succ, Sem.run_bind, run_underlying hu, Result.andThen_ok, run_sz hsz, run_underlying hu1, Sem.run_pure]
                simp only [Bool.false_eq_true, if_false, x1, Sem.run_bind, Result.andThen_ok]
                rw [if_pos (by omega)]
                simp only [Sem.run_bind, Bool.not_false, if_true, x2, Result.andThen_ok]
                have hadd : (renA ρ ad).add (len * i.size) = ⟨ρ.blk ad.block, len * i.size, none⟩ := by
                  rw [renA_add]; simp [renA, o0, h0]
                rw [hadd]
                simp only [hst', Sem.run_bind, Sem.run_pure, Result.andThen_ok]
                simp [Rho.upd, renA, h0, o0]
              · obtain ⟨cap', obj, w1, r1, r2, r3⟩ := grow_run (nG := nG) (base := some (renA ρ ad)) (len := len) (cap := ρ.cap ad.block - ad.off) (old := c) (ty := ty) rep hu hu1 hi hz (by omega) hrow hold hcl hclb hbd.1 hbd.2
                subst r2
                obtain ⟨k1, k2⟩ := kill_rep (drawn_rep rep) hb
                have hN : upM S.m ad.block .dead S.blks.length = none := by
                  unfold upM; rw [if_neg (by omega)]; exact get_len
                have hdom : ∀ r, (S.m r).isSome = true → (upM S.m ad.block .dead r).isSome = true := k2.dom
                have hp := push_rep k1 (c := cap') (o' := .cells e' (c ++ xs)) hN r3 (fun v hv => (hcxs v hv).mono hdom)
                refine ⟨_, _, ?_, hp.1, (drawn_ext.trans k2).trans hp.2, by simp [Clo, upM]⟩
                rw [hsv]
                simp only [ren, if_true]
                rw [r1]
                simp [renA, Rho.upd]
            · cases he
        · cases he
      · cases he
    · -- a slice without elements and without room
      rename_i ad hsv
      split at he
      · rename_i hn
        simp only [Option.some.injEq, Prod.mk.injEq] at he
        obtain ⟨rfl, rfl⟩ := he
        subst hn
        have hxs : xs = [] := List.length_eq_zero_iff.1 (by simpa using x3)
        refine ⟨ρ, w, ?_, rep, Ext.refl _ _ _, by rw [hsv] at hs; exact hs⟩
        rw [hsv]
        simp only [ren]
        unfold Builtin.append_
        simp only [List.getElem?_toArray, List.getElem?_cons_zero, List.getElem?_cons_succ, Sem.run_bind, run_underlying hu, Result.andThen_ok, run_sz hsz, run_underlying hu1, Sem.run_pure]
        simp [x1, x2, hxs, storeCells]
      · rename_i hn
        split at he
        · rename_i hb
          simp only [Option.some.injEq, Prod.mk.injEq] at he
          obtain ⟨rfl, rfl⟩ := he
          obtain ⟨cap', obj, w1, r1, r2, r3⟩ := grow_run (nG := nG) (base := some (renA ρ ad)) (len := 0) (cap := 0) (old := []) (ty := ty) rep hu hu1 hi hz (by omega) hrow (fun w1 _ => by simp [Builtin.firstCells, loadCells, loadCellsFrom]) (by simp) (by simp) (by simpa using hb.1) (by simpa using hb.2)
          subst r2
          have hp := push_rep (drawn_rep rep) (c := cap') (o' := .cells e xs) get_len (by simpa using r3) x4
          have hm : (S.push (.cells e xs)).m = upM S.m S.blks.length (.cells e xs) := get_push
          rw [hm]
          refine ⟨_, _, ?_, hp.1, drawn_ext.trans hp.2, by simp [Clo, upM]⟩
          rw [hsv]
          simp only [ren, Nat.zero_add] at r1 ⊢
          simp only [Nat.reduceEqDiff, if_false, Nat.sub_self] at r1 ⊢
          rw [r1]
          simp [renA, Rho.upd]
        · cases he
    · cases he

end
end Go.Proofs.YtepddcemoofmlaaGreat.AE
