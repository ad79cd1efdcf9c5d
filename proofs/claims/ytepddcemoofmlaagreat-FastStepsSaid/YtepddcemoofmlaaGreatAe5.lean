/- The operations that only compute: the model's step gives what the evaluator gives, in any world. -/
import Derived.Test.YtepddcemoofmlaaGreatAe4
namespace Go.Proofs.YtepddcemoofmlaaGreat.AE
open Go

section
variable {P : Program} {nG : Nat} {Q : FuncId → Bool} {ρ : Rho} {a : Act} {R : List Value}

theorem arr_of_list {α β : Type} {f : α → β} {xs : Array α} {l : List β} (h : xs.toList.map f = l) : xs.map f = l.toArray := by
  apply Array.ext'
  rw [Array.toList_map, h]

theorem nth_ren {x i v : Value} {len sz : Nat} {ad : Addr} (h : nth x len sz i ad = some v) :
    ∃ k n, i = .int k n ∧ 0 ≤ n ∧ n < (len : Int) ∧ v = .pointer (some ⟨ad.block, ad.off + n.toNat * sz, none⟩) := by
  unfold nth at h
  split at h
  · rename_i k n
    split at h
    · rename_i hn
      simp only [Option.some.injEq] at h
      exact ⟨k, n, rfl, hn.1, hn.2, h.symm⟩
    · cases h
  · cases h

theorem renA_add (ρ : Rho) (ad : Addr) (n : Nat) : (renA ρ ad).add n = renA ρ ⟨ad.block, ad.off + n, none⟩ := by
  unfold Addr.add renA
  split
  · rename_i h; subst h; simp
  · simp [Nat.add_assoc]

set_option maxHeartbeats 1000000 in
theorem pure_sound {o : Oper} {io : IOp} {v : Value} (hc : cOp P nG Q o.op = some io) (he : evPure R io = some v)
    (ha : a.tmps = (R.map (ren ρ)).toArray) (hg : ∀ g, g < nG → ρ.blk g = g ∧ ρ.off g = 0) (w : World) :
    (execOp a.eval o).run P w = .ok (.value (ren ρ v)) w := by
  unfold execOp
  cases hop : o.op <;> rw [hop] at hc <;> simp only [cOp] at hc
  case move x =>
    obtain ⟨y, hy, rfl⟩ := Option.map_eq_some_iff.1 hc
    simp only [evPure, Option.some.injEq] at he
    subst he
    simp [iv_sound ha hg hy]
  case assign x =>
    obtain ⟨y, hy, rfl⟩ := Option.map_eq_some_iff.1 hc
    simp only [evPure, Option.some.injEq] at he
    subst he
    simp [iv_sound ha hg hy]
  case pick c x y =>
    split at hc
    · rename_i c' x' y' h1 h2 h3
      simp only [Option.some.injEq] at hc
      subst hc
      simp only [evPure] at he
      simp only [iv_sound ha hg h1, iv_sound ha hg h2, iv_sound ha hg h3]
      split at he
      · rename_i hcv; simp only [Option.some.injEq] at he; subst he; simp [hcv, ren_bool, asBool]
      · rename_i hcv; simp only [Option.some.injEq] at he; subst he; simp [hcv, ren_bool, asBool]
      · cases he
    · cases hc
  case build t parts =>
    split at hc
    · rename_i zs fs hz hu
      split at hc
      · rename_i pl hpl
        obtain ⟨ps, hps, rfl⟩ := Option.map_eq_some_iff.1 hc
        simp only [evPure] at he
        obtain ⟨cs, hcs, rfl⟩ := Option.map_eq_some_iff.1 he
        obtain ⟨z, n, h1, h2, h3, h4, h5, h6⟩ := zs_spec hz
        have hf := fill_sound (fun i => pl[i]?) hps ha hg hcs
        rw [map_ren_zero h5] at hf
        have hzc : z.cells = zs.toArray := by rw [← h3]
        have hm : (fs.mapM fun f => do pure (f.offset, ← sizeOf f.type) : Sem (Array (Nat × Nat))).run P w = .ok pl.toArray w := by
          rw [Array.mapM_eq_mapM_toList, Sem.run_map, places_run hpl w]
          rfl
        simp only [Instr.build, Sem.run_bind, run_zero h1, Result.andThen_ok, run_underlying hu, hm]
        have hpa : (parts.map fun p => (p.1, a.eval p.2)).toList = parts.toList.map fun p => (p.1, a.eval p.2) := by simp
        have hf' : Instr.fill (fun i => pl.toArray[i]?) z.cells (parts.map fun p => (p.1, a.eval p.2)).toList = some (cs.map (ren ρ)).toArray := by
          rw [hpa, hzc]; simpa using hf
        simp only [hf', Sem.run_pure, Result.andThen_ok, ren_agg, List.map_toArray]
      · cases hc
    · rename_i zs n e hz hu
      split at hc
      · rename_i sz hsz
        obtain ⟨ps, hps, rfl⟩ := Option.map_eq_some_iff.1 hc
        simp only [evPure] at he
        obtain ⟨cs, hcs, rfl⟩ := Option.map_eq_some_iff.1 he
        obtain ⟨z, n, h1, h2, h3, h4, h5, h6⟩ := zs_spec hz
        have hf := fill_sound (fun i => some (i * sz, sz)) hps ha hg hcs
        rw [map_ren_zero h5] at hf
        have hzc : z.cells = zs.toArray := by rw [← h3]
        simp only [Instr.build, Sem.run_bind, run_zero h1, Result.andThen_ok, run_underlying hu, run_sz hsz]
        have hpa : (parts.map fun p => (p.1, a.eval p.2)).toList = parts.toList.map fun p => (p.1, a.eval p.2) := by simp
        have hf' : Instr.fill (fun i => some (i * sz, sz)) z.cells (parts.map fun p => (p.1, a.eval p.2)).toList = some (cs.map (ren ρ)).toArray := by
          rw [hpa, hzc]; exact hf
        simp only [hf', Sem.run_pure, Result.andThen_ok, ren_agg, List.map_toArray]
      · cases hc
    · cases hc
  case nilCheck x =>
    obtain ⟨y, hy, rfl⟩ := Option.map_eq_some_iff.1 hc
    simp only [evPure] at he
    simp only [iv_sound ha hg hy]
    split at he <;> simp only [Option.some.injEq, reduceCtorEq] at he
    · rename_i hv; subst he; simp [hv, ren]
    · rename_i hv; subst he; simp [hv, ren]
    · rename_i ad n c hv; subst he; cases ad <;> simp [hv, ren]
    · rename_i r hv; subst he; cases r <;> simp [hv, ren]
  case binOp op t x y t2 =>
    split at hc
    · rename_i e x' y' h1 h2 h3
      simp only [Option.some.injEq] at hc
      subst hc
      simp only [evPure] at he
      have := bin_sound (ρ := ρ) (X := x) (Y := y) h1 he w
      simp only [iv_sound ha hg h2, iv_sound ha hg h3]
      rw [Sem.run_bind] at this ⊢
      simp only [Sem.run_bind]
      rw [this]
      simp
    · cases hc
  case unOp op t x =>
    obtain ⟨y, hy, rfl⟩ := Option.map_eq_some_iff.1 hc
    simp only [evPure] at he
    simp only [iv_sound ha hg hy]
    unfold evUn at he
    split at he
    · rename_i k n hv; simp only [Option.some.injEq] at he; subst he; simp [hv, ren_int, Op.unary, Op.intArith]
    · rename_i k n hv; simp only [evInt, Option.some.injEq] at he; subst he; simp [hv, ren_int, Op.unary, Op.intBits]
    · rename_i b hv; simp only [Option.some.injEq] at he; subst he; simp [hv, ren_bool, Op.unary]
    · cases he
  case convert src dst x =>
    split at hc
    · rename_i sd k x' h1 h2 h3
      simp only [Option.some.injEq] at hc
      subst hc
      simp only [evPure] at he
      simp only [iv_sound ha hg h3]
      split at he
      · rename_i k' n hv
        simp only [Option.some.injEq] at he
        subst he
        simp [hv, ren_int, convert, run_underlying h1, run_underlying h2, Conv.intToInt]
      · cases he
    · cases hc
  case makeFunc fn first captured =>
    cases fn with
    | func f =>
      simp only at hc
      split at hc
      · rename_i x' y' h1 h2
        simp only [Option.some.injEq] at hc
        subst hc
        simp only [evPure, Option.some.injEq] at he
        subst he
        simp only [ren_func]
        have e1 := ivs_sound ha hg h1
        have e2 := ivs_sound ha hg h2
        simp only [Instr.makeFunc, Sem.run_bind, Sem.run_pure, Result.andThen_ok]
        rw [arr_of_list e1, arr_of_list e2]
        simp
      · cases hc
    | _ => simp at hc
  case fieldAddr s x f =>
    split at hc
    · rename_i fs x' hu hx
      split at hc
      · rename_i fd hfd
        split at hc
        · rename_i n hn
          simp only [Option.some.injEq] at hc
          subst hc
          simp only [evPure] at he
          simp only [iv_sound ha hg hx]
          split at he
          · rename_i ad hv
            simp only [Option.some.injEq] at he
            subst he
            simp [hv, ren, Instr.fieldAt, Instr.sureAddr, fieldPlace, run_underlying hu, hfd, run_sz hn, renA_add]
          · cases he
        · cases hc
      · cases hc
    · cases hc
  case field t x f =>
    split at hc
    · rename_i fs x' hu hx
      split at hc
      · rename_i fd hfd
        split at hc
        · rename_i ag n hag hn
          simp only [Option.some.injEq] at hc
          subst hc
          simp only [evPure] at he
          simp only [iv_sound ha hg hx]
          split at he
          · rename_i cs hv
            have h2 := cut_ren (ρ := ρ) he
            have h3 : cut ag n fd.offset (cs.map (ren ρ)).toList = some (ren ρ v) := by simpa using h2
            simp [hv, ren_agg, Instr.field, asAgg, run_underlying hu, hfd, run_part hag hn h3]
          · cases he
        · cases hc
      · cases hc
    · cases hc
  case indexAddr t x i =>
    split at hc
    · rename_i e x' i' hu hx hi
      obtain ⟨n, hn, rfl⟩ := Option.map_eq_some_iff.1 hc
      simp only [evPure] at he
      simp only [iv_sound ha hg hx, iv_sound ha hg hi]
      split at he
      · rename_i ad len c hv
        obtain ⟨k, j, e1, e2, e3, rfl⟩ := nth_ren he
        simp [hv, e1, ren, Instr.indexAt, asIntOf, run_underlying hu, e2, e3, run_sz hn, renA_add]
      · cases he
    · rename_i len e x' i' hu hx hi
      obtain ⟨n, hn, rfl⟩ := Option.map_eq_some_iff.1 hc
      simp only [evPure] at he
      simp only [iv_sound ha hg hx, iv_sound ha hg hi]
      split at he
      · rename_i ad hv
        obtain ⟨k, j, e1, e2, e3, rfl⟩ := nth_ren he
        simp [hv, e1, ren, Instr.indexAt, asIntOf, Instr.sureAddr, run_underlying hu, e2, e3, run_sz hn, renA_add]
      · cases he
    · cases hc
  case index t x i =>
    split at hc
    · rename_i len e x' i' hu hx hi
      split at hc
      · rename_i ag n hag hn
        simp only [Option.some.injEq] at hc
        subst hc
        simp only [evPure] at he
        simp only [iv_sound ha hg hx, iv_sound ha hg hi]
        split at he
        · rename_i cs k j hv hj
          split at he
          · rename_i hb
            have h2 := cut_ren (ρ := ρ) he
            have h3 : cut ag n (j.toNat * n) (cs.map (ren ρ)).toList = some (ren ρ v) := by simpa using h2
            simp [hv, hj, ren_agg, ren_int, Instr.index, asIntOf, run_underlying hu, hb.1, hb.2, run_sz hn, run_part hag hn h3]
          · cases he
        · cases he
      · cases hc
    · cases hc
  case extract x i =>
    obtain ⟨y, hy, rfl⟩ := Option.map_eq_some_iff.1 hc
    simp only [evPure] at he
    simp only [iv_sound ha hg hy]
    split at he
    · rename_i vs hv
      have he' : vs[i]? = some v := by simpa using he
      simp [hv, ren_tuple, Instr.extract, he']
    · cases he
  case call c =>
    split at hc
    · split at hc
      · simp only [Option.some.injEq] at hc; subst hc; simp [evPure] at he
      · cases hc
    · rename_i b hcal
      simp only [resolve, hcal, Sem.run_bind, Sem.run_pure, Result.andThen_ok, invoke, builtin]
      unfold cBuiltin at hc
      split at hc
      · rename_i x hargs
        have hx0 : c.args = #[x] := Array.ext' (by simpa using hargs)
        split at hc
        · rename_i e y h1 h2
          simp only [Option.some.injEq] at hc; subst hc
          simp only [evPure] at he
          split at he
          · rename_i ad n cp hv
            simp only [Option.some.injEq] at he; subst he
            cases ht : c.argTypes[0]? with
            | none => simp [ht] at h1
            | some t =>
              simp only [ht, Option.bind_some] at h1
              cases ad <;> simp [hx0, iv_sound ha hg h2, hv, ren, Builtin.len_, ht, run_underlying h1, goInt]
          · cases he
        · rename_i k e y h1 h2
          simp only [Option.some.injEq] at hc; subst hc; simp [evPure] at he
        · rename_i n e y h1 h2
          simp only [Option.some.injEq] at hc; subst hc
          simp only [evPure, IV.ev, Option.some.injEq] at he; subst he
          cases ht : c.argTypes[0]? with
          | none => simp [ht] at h1
          | some t =>
            simp only [ht, Option.bind_some] at h1
            simp [hx0, Builtin.len_, ht, run_underlying h1, goInt, ren_int]
        · cases hc
      · split at hc
        · split at hc
          · simp only [Option.some.injEq] at hc; subst hc; simp [evPure] at he
          · cases hc
        · cases hc
      · rename_i x l hargs
        split at hc
        · rename_i y r h1 h2
          simp only [Option.some.injEq] at hc; subst hc
          simp only [evPure] at he
          split at he
          · rename_i k n hv
            have e2 := ivs_sound ha hg h2
            have hl : (c.args.map a.eval).toList = .int k n :: (r.map (IV.ev R)).map (ren ρ) := by
              rw [Array.toList_map, hargs, List.map_cons, iv_sound ha hg h1, hv, ren_int, e2]
            have key : ∀ (l : List Value) (x v : Value), evMin true x l = some v → (∃ k n, x = .int k n) → evMin true x (l.map (ren ρ)) = some v ∧ ren ρ v = v := by
              intro l
              induction l with
              | nil => rintro x v h ⟨k, n, rfl⟩; simp only [evMin, Option.some.injEq] at h; subst h; simp [evMin, ren_int]
              | cons y l ih =>
                rintro x v h ⟨k, n, rfl⟩
                cases y with
                | int k' n' => simp only [evMin] at h; simp only [List.map_cons, ren_int, evMin]; exact ih _ _ h ⟨_, _, rfl⟩
                | _ => simp [evMin] at h
            obtain ⟨k1, k2⟩ := key _ _ _ he ⟨k, n, rfl⟩
            have := minmax_sound (P := P) true k1 w
            simp only [if_true] at this
            simp only [Builtin.max_, hl, this, k2, Sem.run_bind, Sem.run_pure, Result.andThen_ok]
          · cases he
        · cases hc
      · rename_i x l hargs
        split at hc
        · rename_i y r h1 h2
          simp only [Option.some.injEq] at hc; subst hc
          simp only [evPure] at he
          split at he
          · rename_i k n hv
            have e2 := ivs_sound ha hg h2
            have hl : (c.args.map a.eval).toList = .int k n :: (r.map (IV.ev R)).map (ren ρ) := by
              rw [Array.toList_map, hargs, List.map_cons, iv_sound ha hg h1, hv, ren_int, e2]
            have key : ∀ (l : List Value) (x v : Value), evMin false x l = some v → (∃ k n, x = .int k n) → evMin false x (l.map (ren ρ)) = some v ∧ ren ρ v = v := by
              intro l
              induction l with
              | nil => rintro x v h ⟨k, n, rfl⟩; simp only [evMin, Option.some.injEq] at h; subst h; simp [evMin, ren_int]
              | cons y l ih =>
                rintro x v h ⟨k, n, rfl⟩
                cases y with
                | int k' n' => simp only [evMin] at h; simp only [List.map_cons, ren_int, evMin]; exact ih _ _ h ⟨_, _, rfl⟩
                | _ => simp [evMin] at h
            obtain ⟨k1, k2⟩ := key _ _ _ he ⟨k, n, rfl⟩
            have := minmax_sound (P := P) false k1 w
            simp only [Bool.false_eq_true, if_false] at this
            simp only [Builtin.min_, hl, this, k2, Sem.run_bind, Sem.run_pure, Result.andThen_ok]
          · cases he
        · cases hc
      · split at hc
        · split at hc
          · simp only [Option.some.injEq] at hc; subst hc; simp [evPure] at he
          · cases hc
        · cases hc
      · cases hc
    · cases hc
  case alloc => obtain ⟨y, hy, rfl⟩ := Option.map_eq_some_iff.1 hc; simp [evPure] at he
  case makeMap t r => cases r <;> simp at hc; subst hc; simp [evPure] at he
  all_goals (first
    | (cases hc; done)
    | (split at hc <;> first | (cases hc; done) | (simp only [Option.some.injEq] at hc; subst hc; simp [evPure] at he; done) |
        (split at hc <;> first | (cases hc; done) | (simp only [Option.some.injEq] at hc; subst hc; simp [evPure] at he; done) |
          (split at hc <;> first | (cases hc; done) | (simp only [Option.some.injEq] at hc; subst hc; simp [evPure] at he; done) | (obtain ⟨y, hy, rfl⟩ := Option.map_eq_some_iff.1 hc; simp [evPure] at he; done)))))

end
end Go.Proofs.YtepddcemoofmlaaGreat.AE
