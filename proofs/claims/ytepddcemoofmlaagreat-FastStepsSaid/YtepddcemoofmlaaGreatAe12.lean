/- All that writes; how a state evolves. -/
import Derived.Test.YtepddcemoofmlaaGreatAe11
namespace Go.Proofs.YtepddcemoofmlaaGreat.AE
open Go

section
variable {P : Program} {nG : Nat} {Q : FuncId → Bool} {ρ : Rho} {a : Act} {R : List Value} {w : World}

set_option maxHeartbeats 1000000 in
theorem write_sound {S S' : St} {o : Oper} {io : IOp} {v : Value} (hc : cOp P nG Q o.op = some io) (he : evWrite R S io = some (v, S')) (rep : Rep P nG ρ S.m w)
    (ha : a.tmps = (R.map (ren ρ)).toArray) (hcl : ∀ v ∈ io.vals R, Clo (fun r => (S.m r).isSome = true) v) : Left P nG ρ S w ((execOp a.eval o).run P w) v S' := by
  have hg : ∀ g, g < nG → ρ.blk g = g ∧ ρ.off g = 0 := fun g h => ⟨(rep.glob g h).1, (rep.glob g h).2.1⟩
  have cu : ∀ D : Nat → Prop, Clo D undef := fun D => by simp [undef, Clo, CloA, CloL]
  unfold Left execOp
  cases hop : o.op <;> rw [hop] at hc <;> simp only [cOp] at hc
  case store t x y =>
    split at hc
    · rename_i n x' y' h1 h2 h3
      simp only [Option.some.injEq] at hc; subst hc
      simp only [evWrite] at he
      simp only [iv_sound ha hg h2, iv_sound ha hg h3]
      split at he
      · rename_i ad hq
        split at he
        · rename_i e c hb
          have hcv := clo_cells (hcl (y'.ev R) (by simp [IOp.vals]))
          have hsure : ∀ w : World, (Instr.sureAddr (ren ρ (x'.ev R))).run P w = .ok ⟨ρ.blk ad.block, ρ.off ad.block + ad.off, none⟩ w := by
            intro w; simp [hq, ren, renA, Instr.sureAddr]
          have fin : ∀ vs, (y'.ev R).cells.toList = vs → vs.length = n → vs.all one = true → ad.off + n ≤ c.length →
              some (undef, S.wrote ad.block (.cells e (c.take ad.off ++ (vs ++ c.drop (ad.off + n)))) (y'.ev R)) = some (v, S') →
              ∃ ρ' w', ((do Instr.storeAt t (ren ρ (x'.ev R)) (ren ρ (y'.ev R)); pure Next.skip : Sem Next).run P w = .ok (.value (ren ρ' v)) w' ∨
                ((do Instr.storeAt t (ren ρ (x'.ev R)) (ren ρ (y'.ev R)); pure Next.skip : Sem Next).run P w = .ok .skip w' ∧ v = undef)) ∧
                Rep P nG ρ' S'.m w' ∧ Ext ρ S.m w ρ' S'.m w' ∧ Clo (fun r => (S'.m r).isSome = true) v := by
            intro vs hvs hl hone hfit heq
            simp only [Option.some.injEq, Prod.mk.injEq] at heq
            obtain ⟨rfl, rfl⟩ := heq
            obtain ⟨w', r1, r2, r3⟩ := store_run rep h1 hb hvs hl hone hfit (by rw [← hvs]; exact hcv)
            rw [wrote_m (lt_of_get hb)]
            refine ⟨ρ, w', .inr ⟨?_, rfl⟩, r2, r3, cu _⟩
            simp only [Instr.storeAt, Sem.run_bind, hsure, Result.andThen_ok, r1, Sem.run_pure]
          split at he
          · rename_i u hu
            split at he
            · rename_i hcond
              obtain ⟨rfl, ho, hlt⟩ := hcond
              refine fin [u] hu rfl (by simp [ho]) (by omega) ?_
              rw [← he]
              congr 4
              rw [List.set_eq_take_append_cons_drop, if_pos hlt]
              rfl
            · cases he
          · rename_i vs hvs
            split at he
            · rename_i hcond
              obtain ⟨hl, ho, hfit⟩ := hcond
              exact fin _ rfl hl ho hfit he
            · cases he
        · cases he
      · cases he
    · cases hc
  case insert t m k x =>
    split at hc
    · rename_i key el m' k' x' h1 h2 h3 h4
      split at hc
      · rename_i hk
        simp only [Option.some.injEq] at hc; subst hc
        simp only [evWrite] at he
        simp only [iv_sound ha hg h2, iv_sound ha hg h3, iv_sound ha hg h4]
        split at he
        · rename_i r kk hq hj
          split at he
          · rename_i es hb
            simp only [Option.some.injEq, Prod.mk.injEq] at he
            obtain ⟨rfl, rfl⟩ := he
            obtain ⟨w', r1, r2, r3⟩ := mapSet_run rep h1 hk hb kk (hcl (x'.ev R) (by simp [IOp.vals]))
            refine ⟨ρ, w', .inr ⟨?_, rfl⟩, r2, r3, cu _⟩
            rw [hq, hj]
            simp only [ren, Sem.run_bind, r1, Result.andThen_ok, Sem.run_pure]
          · cases he
        · cases he
      · cases hc
    · cases hc
  case mapUpdate t m k x =>
    split at hc
    · rename_i key el m' k' x' h1 h2 h3 h4
      split at hc
      · rename_i hk
        simp only [Option.some.injEq] at hc; subst hc
        simp only [evWrite] at he
        simp only [iv_sound ha hg h2, iv_sound ha hg h3, iv_sound ha hg h4]
        split at he
        · rename_i r kk hq hj
          split at he
          · rename_i es hb
            simp only [Option.some.injEq, Prod.mk.injEq] at he
            obtain ⟨rfl, rfl⟩ := he
            obtain ⟨w', r1, r2, r3⟩ := mapSet_run rep h1 hk hb kk (hcl (x'.ev R) (by simp [IOp.vals]))
            refine ⟨ρ, w', .inr ⟨?_, rfl⟩, r2, r3, cu _⟩
            rw [hq, hj]
            simp only [ren, Sem.run_bind, r1, Result.andThen_ok, Sem.run_pure]
          · cases he
        · cases he
      · cases hc
    · cases hc
  case call c =>
    split at hc
    · split at hc
      · simp only [Option.some.injEq] at hc; subst hc; simp [evWrite] at he
      · cases hc
    · rename_i b hcal
      simp only [resolve, hcal, Sem.run_bind, Sem.run_pure, Result.andThen_ok, invoke, builtin]
      unfold cBuiltin at hc
      split at hc
      · split at hc
        · simp only [Option.some.injEq] at hc; subst hc; simp [evWrite] at he
        · simp only [Option.some.injEq] at hc; subst hc; simp [evWrite] at he
        · simp only [Option.some.injEq] at hc; subst hc; simp [evWrite] at he
        · cases hc
      · rename_i s x hargs
        have hx0 : c.args = #[s, x] := Array.ext' (by simpa using hargs)
        split at hc
        · rename_i e s' x' h1 h2 h3
          split at hc
          · rename_i i zs e2 hi hz h4
            simp only [Option.some.injEq] at hc; subst hc
            cases ht : c.argTypes[0]? with
            | none => simp [ht] at h1
            | some t =>
              simp only [ht, Option.bind_some] at h1
              cases ht1 : c.argTypes[1]? with
              | none => simp [ht1] at h4
              | some t1 =>
                simp only [ht1, Option.bind_some] at h4
                obtain ⟨ρ', w', r1, r2, r3, r4⟩ := append_run (R := R) (ty := o.type) rep h1 h4 hi hz (hcl (s'.ev R) (by simp [IOp.vals])) he
                refine ⟨ρ', w', .inl ?_, r2, r3, r4⟩
                have hargs' : c.args.map a.eval = #[ren ρ (s'.ev R), ren ρ (x'.ev R)] := by rw [hx0]; simp [iv_sound ha hg h2, iv_sound ha hg h3]
                rw [hargs']
                have happ : ∀ (args : Array Value), (Builtin.append_ c.argTypes o.type args).run P w = (Builtin.append_ #[t, t1] o.type args).run P w := by
                  intro args
                  unfold Builtin.append_
                  simp only [ht, ht1, List.getElem?_toArray, List.getElem?_cons_zero, List.getElem?_cons_succ]
                dsimp only
                rw [Sem.run_bind, happ, r1]
                rfl
          · cases hc
        · cases hc
      · split at hc
        · simp only [Option.some.injEq] at hc; subst hc; simp [evWrite] at he
        · cases hc
      · split at hc
        · simp only [Option.some.injEq] at hc; subst hc; simp [evWrite] at he
        · cases hc
      · rename_i m k hargs
        have hx0 : c.args = #[m, k] := Array.ext' (by simpa using hargs)
        split at hc
        · rename_i key el m' k' h1 h2 h3
          split at hc
          · rename_i hk
            simp only [Option.some.injEq] at hc; subst hc
            have hargs' : c.args.map a.eval = #[ren ρ (m'.ev R), ren ρ (k'.ev R)] := by rw [hx0]; simp [iv_sound ha hg h2, iv_sound ha hg h3]
            cases ht : c.argTypes[0]? with
            | none => simp [ht] at h1
            | some t =>
              simp only [ht, Option.bind_some] at h1
              have hdel : ∀ (args : Array Value), (Builtin.delete_ c.argTypes o.type args).run P w = (Builtin.delete_ #[t, t] o.type args).run P w := by
                intro args
                unfold Builtin.delete_
                simp only [ht, List.getElem?_toArray, List.getElem?_cons_zero]
              simp only [evWrite] at he
              rw [hargs']
              dsimp only
              rw [Sem.run_bind, hdel]
              split at he
              · rename_i kk hq hj
                simp only [Option.some.injEq, Prod.mk.injEq] at he
                obtain ⟨rfl, rfl⟩ := he
                refine ⟨ρ, w, .inl ?_, rep, Ext.refl _ _ _, cu _⟩
                rw [hq, hj]
                simp [ren, renR_eq, Builtin.delete_, run_underlying h1, run_checkKey_int (intKey_spec hk)]
              · rename_i r kk hq hj
                split at he
                · rename_i es hb
                  simp only [Option.some.injEq, Prod.mk.injEq] at he
                  obtain ⟨rfl, rfl⟩ := he
                  obtain ⟨w', r1, r2, r3⟩ := delete_run (t2 := t) (ty := o.type) rep h1 hk hb kk
                  refine ⟨ρ, w', .inl ?_, r2, r3, cu _⟩
                  rw [hq, hj]
                  simp only [ren, r1, Result.andThen_ok, renR]
                  rfl
                · cases he
              · cases he
          · cases hc
        · cases hc
      · cases hc
    · cases hc
  case alloc => obtain ⟨y, hy, rfl⟩ := Option.map_eq_some_iff.1 hc; simp [evWrite] at he
  case move => obtain ⟨y, hy, rfl⟩ := Option.map_eq_some_iff.1 hc; simp [evWrite] at he
  case assign => obtain ⟨y, hy, rfl⟩ := Option.map_eq_some_iff.1 hc; simp [evWrite] at he
  case nilCheck => obtain ⟨y, hy, rfl⟩ := Option.map_eq_some_iff.1 hc; simp [evWrite] at he
  case unOp => obtain ⟨y, hy, rfl⟩ := Option.map_eq_some_iff.1 hc; simp [evWrite] at he
  case extract => obtain ⟨y, hy, rfl⟩ := Option.map_eq_some_iff.1 hc; simp [evWrite] at he
  case makeMap t r => cases r <;> simp at hc; subst hc; simp [evWrite] at he
  case makeFunc fn f c =>
    cases fn <;> simp at hc
    split at hc
    · simp only [Option.some.injEq] at hc; subst hc; simp [evWrite] at he
    · cases hc
  all_goals (first
    | (cases hc; done)
    | (split at hc <;> first | (cases hc; done) | (simp only [Option.some.injEq] at hc; subst hc; simp [evWrite] at he; done) | (obtain ⟨y, hy, rfl⟩ := Option.map_eq_some_iff.1 hc; simp [evWrite] at he; done) |
        (split at hc <;> first | (cases hc; done) | (simp only [Option.some.injEq] at hc; subst hc; simp [evWrite] at he; done) | (obtain ⟨y, hy, rfl⟩ := Option.map_eq_some_iff.1 hc; simp [evWrite] at he; done) |
          (split at hc <;> first | (cases hc; done) | (simp only [Option.some.injEq] at hc; subst hc; simp [evWrite] at he; done) | (obtain ⟨y, hy, rfl⟩ := Option.map_eq_some_iff.1 hc; simp [evWrite] at he; done)))))

end

/-! ### How a state evolves -/
structure Evo (S S' : St) : Prop where
  len : S.blks.length ≤ S'.blks.length
  wr : S'.wr ≤ S.wr
  esc : S'.esc ≤ S.esc
  same : ∀ b, b < S.blks.length → b < S'.wr → S'.blks[b]? = S.blks[b]?
  refs : ∀ n, n ≤ S.blks.length → n ≤ S'.esc → (∀ b o, b < n → S.blks[b]? = some o → o.Clo (· < n)) → ∀ b o, b < n → S'.blks[b]? = some o → o.Clo (· < n)

theorem Evo.refl (S : St) : Evo S S := ⟨Nat.le_refl _, Nat.le_refl _, Nat.le_refl _, fun _ _ _ => rfl, fun _ _ _ h => h⟩

theorem Evo.trans {A B C : St} (h : Evo A B) (k : Evo B C) : Evo A C :=
  ⟨Nat.le_trans h.len k.len, Nat.le_trans k.wr h.wr, Nat.le_trans k.esc h.esc,
    fun b hb hw => (k.same b (Nat.lt_of_lt_of_le hb h.len) hw).trans (h.same b hb (Nat.lt_of_lt_of_le hw k.wr)),
    fun n hn he hA => k.refs n (Nat.le_trans hn h.len) he (h.refs n hn (Nat.le_trans he k.esc) hA)⟩

theorem Evo.push (S : St) (o : AObj) : Evo S (S.push o) := by
  have hg : ∀ b, b < S.blks.length → (S.push o).blks[b]? = S.blks[b]? := fun b hb => by
    show (S.blks ++ [o])[b]? = _
    rw [List.getElem?_append_left hb]
  refine ⟨by simp [St.push], Nat.le_refl _, Nat.le_refl _, fun b hb _ => hg b hb, fun n hn _ h b o' hb hbo => ?_⟩
  rw [hg b (Nat.lt_of_lt_of_le hb hn)] at hbo
  exact h b o' hb hbo

theorem Evo.wrote (S : St) {b : Nat} {o o' : AObj} {v : Value} (hb : S.blks[b]? = some o) (hclo : ∀ D : Nat → Prop, o.Clo D → Clo D v → o'.Clo D) : Evo S (S.wrote b o' v) := by
  have hne : ∀ x, x ≠ b → (S.wrote b o' v).blks[x]? = S.blks[x]? := fun x hx => by
    show (S.blks.set b o')[x]? = _
    rw [List.getElem?_set, if_neg (Ne.symm hx)]
  have hesc : (S.wrote b o' v).esc ≤ S.esc := by
    show (if refsLt (b + 1) v then S.esc else min S.esc b) ≤ _
    split
    · exact Nat.le_refl _
    · exact Nat.min_le_left _ _
  refine ⟨by simp [St.wrote], Nat.min_le_left _ _, hesc, fun x _ hx => hne x ?_, fun n hn he h x ox hx hox => ?_⟩
  · have : x < min S.wr b := hx
    omega
  · by_cases hxb : x = b
    · subst hxb
      have : (S.wrote x o' v).blks[x]? = some o' := by
        show (S.blks.set x o')[x]? = _
        simp [lt_of_get hb]
      rw [this] at hox
      simp only [Option.some.injEq] at hox
      subst hox
      refine hclo _ (h x o hx hb) ?_
      have he' : n ≤ (if refsLt (x + 1) v then S.esc else min S.esc x) := he
      split at he'
      · rename_i hr
        exact Clo.mono (fun r hr' => by omega) v ((refsLt_iff _ _).1 hr)
      · omega
    · rw [hne x hxb] at hox
      exact h x ox hx hox

theorem evo_write {R : List Value} {S S' : St} {io : IOp} {v : Value} (he : evWrite R S io = some (v, S')) : Evo S S' := by
  cases io <;> simp only [evWrite, reduceCtorEq] at he
  case store n x y =>
    split at he
    · split at he
      · rename_i e c hb
        split at he
        · rename_i u hu
          split at he
          · simp only [Option.some.injEq, Prod.mk.injEq] at he
            obtain ⟨rfl, rfl⟩ := he
            refine Evo.wrote S hb fun D h1 h2 => ?_
            intro z hz
            rcases List.mem_or_eq_of_mem_set hz with hz | hz
            · exact h1 z hz
            · subst hz; exact clo_cells h2 z (by rw [hu]; simp)
          · cases he
        · split at he
          · simp only [Option.some.injEq, Prod.mk.injEq] at he
            obtain ⟨rfl, rfl⟩ := he
            refine Evo.wrote S hb fun D h1 h2 => ?_
            intro z hz
            simp only [List.mem_append] at hz
            rcases hz with hz | hz | hz
            · exact h1 z (List.mem_of_mem_take hz)
            · exact clo_cells h2 z hz
            · exact h1 z (List.mem_of_mem_drop hz)
          · cases he
      · cases he
    · cases he
  case mapSet m k y =>
    split at he
    · split at he
      · rename_i es hb
        simp only [Option.some.injEq, Prod.mk.injEq] at he
        obtain ⟨rfl, rfl⟩ := he
        refine Evo.wrote S hb fun D h1 h2 => ?_
        intro z hz
        rcases setM_mem hz with hz | hz
        · exact h1 z hz
        · rw [hz]; exact h2
      · cases he
    · cases he
  case delete m k =>
    split at he
    · simp only [Option.some.injEq, Prod.mk.injEq] at he
      obtain ⟨rfl, rfl⟩ := he
      exact Evo.refl _
    · split at he
      · rename_i es hb
        simp only [Option.some.injEq, Prod.mk.injEq] at he
        obtain ⟨rfl, rfl⟩ := he
        exact Evo.wrote S hb fun D h1 _ z hz => h1 z (delM_mem hz)
      · cases he
    · cases he
  case append e sz bytes s x =>
    split at he
    · cases he
    · split at he
      · split at he
        · simp only [Option.some.injEq, Prod.mk.injEq] at he
          obtain ⟨rfl, rfl⟩ := he
          exact Evo.refl _
        · split at he
          · simp only [Option.some.injEq, Prod.mk.injEq] at he
            obtain ⟨rfl, rfl⟩ := he
            exact Evo.push _ _
          · cases he
      · rename_i ad len _
        split at he
        · rename_i e' c hbl
          split at he
          · split at he
            · simp only [Option.some.injEq, Prod.mk.injEq] at he
              obtain ⟨rfl, rfl⟩ := he
              exact Evo.refl _
            · split at he
              · simp only [Option.some.injEq, Prod.mk.injEq] at he
                obtain ⟨rfl, rfl⟩ := he
                have hne : ∀ (l2 : List AObj) (y : Nat), y < S.blks.length → y ≠ ad.block → (S.blks.set ad.block .dead ++ l2)[y]? = S.blks[y]? := fun l2 y hy hx => by
                  rw [List.getElem?_append_left (by simpa using hy), List.getElem?_set, if_neg (Ne.symm hx)]
                refine ⟨by simp, Nat.min_le_left _ _, Nat.le_refl _, fun y hy hw => hne _ y hy ?_, fun n hn _ h y oy hy hoy => ?_⟩
                · have : y < min S.wr ad.block := hw
                  omega
                · by_cases hyb : y = ad.block
                  · subst hyb
                    have hlt := lt_of_get hbl
                    rw [List.getElem?_append_left (by simpa using hlt)] at hoy
                    simp [hlt] at hoy
                    subst hoy
                    trivial
                  · rw [hne _ y (Nat.lt_of_lt_of_le hy hn) hyb] at hoy
                    exact h y oy hy hoy
              · cases he
          · cases he
        · cases he
      · split at he
        · simp only [Option.some.injEq, Prod.mk.injEq] at he
          obtain ⟨rfl, rfl⟩ := he
          exact Evo.refl _
        · split at he
          · simp only [Option.some.injEq, Prod.mk.injEq] at he
            obtain ⟨rfl, rfl⟩ := he
            exact Evo.push _ _
          · cases he
      · cases he

end Go.Proofs.YtepddcemoofmlaaGreat.AE
