/- One operation, and a region whose order is fixed. -/
import Derived.Test.YtepddcemoofmlaaGreatAe12
import Derived.Tactics
namespace Go.Proofs.YtepddcemoofmlaaGreat.AE
open Go

/-- What is asked of the calls: each that comes to something is a call of the model's that comes to that. -/
structure CallOK (P : Program) (nG : Nat) (C : CallS) : Prop where
  evo : ∀ f args S v S' q, C f args S = some (v, S', q) → Evo S S'
  same : ∀ f args S v S' q, C f args S = some (v, S', q) → q = true → ∀ b, b < S.blks.length → S'.blks[b]? = S.blks[b]?
  enter : ∀ f args S v S' q, C f args S = some (v, S', q) → ∀ (vs : Array Value) (w : World), (callFunc f vs).run P w = .ok (.enter f vs) w
  run : ∀ f args S v S' q, C f args S = some (v, S', q) → ∀ (ρ : Rho) (w : World), Rep P nG ρ S.m w → (∀ u ∈ args, Clo (fun r => (S.m r).isSome = true) u) →
    Calls P f (args.map (ren ρ)).toArray w fun e w' => ∃ ρ', e = .returned (ren ρ' v) ∧ Rep P nG ρ' S'.m w' ∧ Ext ρ S.m w ρ' S'.m w' ∧ Clo (fun r => (S'.m r).isSome = true) v

/-- A frame and a world that a frame and a state of the evaluator's stand for, behind where it began. -/
def Rel (P : Program) (nG : Nat) (ρ0 : Rho) (S0 : St) (w0 : World) (R : List Value) (S : St) (a : Act) (w : World) : Prop :=
  ∃ ρ, a.tmps = (R.map (ren ρ)).toArray ∧ a.defers = [] ∧ Rep P nG ρ S.m w ∧ (∀ v ∈ R, Clo (fun r => (S.m r).isSome = true) v) ∧ Ext ρ0 S0.m w0 ρ S.m w

section
variable {P : Program} {nG : Nat} {Q : FuncId → Bool} {C : CallS} {ρ0 : Rho} {S0 : St} {w0 : World}

theorem put_rel {ρ ρ' : Rho} {R : List Value} {S S' : St} {a : Act} {w w' : World} {v : Value} (d : Option Tmp) (ha : a.tmps = (R.map (ren ρ)).toArray)
    (hR : ∀ v ∈ R, Clo (fun r => (S.m r).isSome = true) v) (hx : Ext ρ S.m w ρ' S'.m w') (hv : Clo (fun r => (S'.m r).isSome = true) v) :
    (a.put d (ren ρ' v)).tmps = ((put R d v).map (ren ρ')).toArray ∧ (a.put d (ren ρ' v)).defers = a.defers ∧ ∀ u ∈ put R d v, Clo (fun r => (S'.m r).isSome = true) u := by
  have e : R.map (ren ρ) = R.map (ren ρ') := (hx.renR hR).symm
  cases d with
  | none => exact ⟨by simp [Act.put, put, ha, e], rfl, fun u hu => hx.clo (hR u hu)⟩
  | some d =>
    refine ⟨?_, rfl, ?_⟩
    · simp [Act.put, put, ha, e, List.map_set]
    · intro u hu
      rcases List.mem_or_eq_of_mem_set hu with hu | hu
      · exact hx.clo (hR u hu)
      · rw [hu]; exact hv

theorem evo_op (hC : CallOK P nG C) {R : List Value} {S S' : St} {io : IOp} {v : Value} (he : evOp C R S io = some (v, S')) : Evo S S' := by
  have pu : ∀ {x : Option Value}, x.map (fun u => (u, S)) = some (v, S') → Evo S S' := by
    intro x hx
    obtain ⟨u, _, hu⟩ := Option.map_eq_some_iff.1 hx
    simp only [Prod.mk.injEq] at hu
    rw [← hu.2]; exact Evo.refl _
  have al : ∀ {x : Option (AObj × (Nat → Value))}, x.map (fun p => (p.2 S.blks.length, S.push p.1)) = some (v, S') → Evo S S' := by
    intro x hx
    obtain ⟨u, _, hu⟩ := Option.map_eq_some_iff.1 hx
    simp only [Prod.mk.injEq] at hu
    rw [← hu.2]; exact Evo.push _ _
  cases io <;> simp only [evOp] at he
  case call f args q =>
    simp only [evCall] at he
    split at he
    · split at he
      · rename_i hcall
        split at he
        · cases he
        · simp only [Option.some.injEq, Prod.mk.injEq] at he
          obtain ⟨rfl, rfl⟩ := he
          exact hC.evo _ _ _ _ _ _ hcall
      · cases he
    · cases he
  all_goals first | exact pu he | exact al he | exact evo_write he

theorem op_core (hC : CallOK P nG C) {R : List Value} {S S' : St} {a : Act} {w : World} {o : Oper} {io : IOp} {v : Value} {K : Act → World → Prop} {Q' : Exit → Act → World → Prop} {ρ : Rho}
    (hc : cOp P nG Q o.op = some io) (he : evOp C R S io = some (v, S')) (ha : a.tmps = (R.map (ren ρ)).toArray) (rep : Rep P nG ρ S.m w)
    (hcl : ∀ u ∈ io.vals R, Clo (fun r => (S.m r).isSome = true) u)
    (fin : ∀ {ρ' : Rho} {w' : World}, Rep P nG ρ' S'.m w' → Ext ρ S.m w ρ' S'.m w' → Clo (fun r => (S'.m r).isSome = true) v → K (a.put o.dst (ren ρ' v)) w') :
    o.wp P a w K Q' := by
  have hg : ∀ g, g < nG → ρ.blk g = g ∧ ρ.off g = 0 := fun g h => ⟨(rep.glob g h).1, (rep.glob g h).2.1⟩
  have pu : ∀ {u : Value} {x : Option Value}, x = some u → x.map (fun u => (u, S)) = some (v, S') → (execOp a.eval o).run P w = .ok (.value (ren ρ u)) w → Clo (fun r => (S.m r).isSome = true) u → o.wp P a w K Q' := by
    intro u x h1 h2 h3 h4
    subst h1
    simp only [Option.map_some, Option.some.injEq, Prod.mk.injEq] at h2
    obtain ⟨rfl, rfl⟩ := h2
    unfold Oper.wp
    rw [h3]
    exact fin rep (Ext.refl _ _ _) h4
  have pure' : (evPure R io).map (fun u => (u, S)) = some (v, S') → o.wp P a w K Q' := by
    intro h
    obtain ⟨u, hu, _⟩ := Option.map_eq_some_iff.1 h
    exact pu hu h (pure_sound hc hu ha hg w) (clo_pure hcl hu)
  have read' : (evRead R (S.blks[·]?) io).map (fun u => (u, S)) = some (v, S') → o.wp P a w K Q' := by
    intro h
    obtain ⟨u, hu, _⟩ := Option.map_eq_some_iff.1 h
    exact pu hu h (read_sound hc hu rep ha) (clo_read rep hcl hu)
  have alloc' : (evAlloc R io).map (fun p => (p.2 S.blks.length, S.push p.1)) = some (v, S') → o.wp P a w K Q' := by
    intro h
    obtain ⟨⟨o', f⟩, hu, h2⟩ := Option.map_eq_some_iff.1 h
    simp only [Prod.mk.injEq] at h2
    obtain ⟨rfl, rfl⟩ := h2
    obtain ⟨obj, c, r1, r2, r3, r4⟩ := alloc_sound hc hu rep ha hcl (N := S.blks.length) get_len
    obtain ⟨p1, p2⟩ := push_rep rep get_len r2 r3
    have hm : (S.push o').m = upM S.m S.blks.length o' := get_push
    unfold Oper.wp
    rw [r1]
    rw [← hm] at p1 p2
    exact fin p1 p2 (r4 _ (by rw [hm]; simp [upM]))
  have write' : evWrite R S io = some (v, S') → o.wp P a w K Q' := by
    intro h
    obtain ⟨ρ', w', h1, h2, h3, h4⟩ := write_sound hc h rep ha hcl
    unfold Oper.wp
    rcases h1 with h1 | ⟨h1, hv⟩
    · rw [h1]; exact fin h2 h3 h4
    · rw [h1]
      have := fin h2 h3 h4
      rw [hv, ren_undef] at this
      exact this
  cases io
  case call f args q =>
    simp only [evOp, evCall] at he
    split at he
    · rename_i fid first captured hf
      split at he
      · rename_i u S1 q' hcall
        split at he
        · cases he
        · simp only [Option.some.injEq, Prod.mk.injEq] at he
          obtain ⟨rfl, rfl⟩ := he
          -- the operation is a call of a function value
          have hop : ∃ c fo, o.op = .call c ∧ c.callee = .value fo ∧ cIV nG fo = some f ∧ cIVs nG c.args.toList = some args := by
            cases hop : o.op <;> rw [hop] at hc <;> simp only [cOp] at hc
            case call c =>
              split at hc
              · rename_i fo hcal
                split at hc
                · rename_i f' args' h1 h2
                  simp only [Option.some.injEq, IOp.call.injEq] at hc
                  obtain ⟨rfl, rfl, _⟩ := hc
                  exact ⟨c, fo, rfl, hcal, h1, h2⟩
                · cases hc
              · unfold cBuiltin at hc
                split at hc
                all_goals (first
                  | (cases hc; done)
                  | (split at hc <;> first | (cases hc; done) | (split at hc <;> cases hc; done)))
              · cases hc
            case makeMap t r => cases r <;> simp at hc
            case makeFunc fn f c =>
              cases fn <;> simp at hc
              split at hc <;> cases hc
            all_goals (first
              | (cases hc; done)
              | (obtain ⟨y, hy, hyy⟩ := Option.map_eq_some_iff.1 hc; cases hyy; done)
              | (split at hc <;> first | (cases hc; done) | (obtain ⟨y, hy, hyy⟩ := Option.map_eq_some_iff.1 hc; cases hyy; done) |
                (split at hc <;> first | (cases hc; done) | (obtain ⟨y, hy, hyy⟩ := Option.map_eq_some_iff.1 hc; cases hyy; done) |
                  (split at hc <;> first | (cases hc; done) | (obtain ⟨y, hy, hyy⟩ := Option.map_eq_some_iff.1 hc; cases hyy; done)))))
          obtain ⟨c, fo, hop, hcal, hfo, hargs⟩ := hop
          have hfv : a.eval fo = .func (.func fid) (first.map (ren ρ)) (captured.map (ren ρ)) := by rw [iv_sound ha hg hfo, hf, ren_func]
          have hav := ivs_sound ha hg hargs
          have hcf : Clo (fun r => (S.m r).isSome = true) (.func (.func fid) first captured) := by
            rw [← hf]; exact hcl _ (by simp [IOp.vals])
          simp only [Clo] at hcf
          have hcargs : ∀ z ∈ first.toList ++ (args.map (IV.ev R) ++ captured.toList), Clo (fun r => (S.m r).isSome = true) z := by
            intro z hz
            simp only [List.mem_append] at hz
            rcases hz with hz | hz | hz
            · exact cloA_iff.1 hcf.1 z hz
            · exact hcl z (by simp only [IOp.vals, List.mem_cons]; exact .inr hz)
            · exact cloA_iff.1 hcf.2 z hz
          have hall : first.map (ren ρ) ++ c.args.map a.eval ++ captured.map (ren ρ) = ((first.toList ++ (args.map (IV.ev R) ++ captured.toList)).map (ren ρ)).toArray := by
            apply Array.ext'
            simp only [Array.toList_append, Array.toList_map, List.map_append, List.append_assoc, hav]
          have hrun : (execOp a.eval o).run P w = .ok (.enter fid ((first.toList ++ (args.map (IV.ev R) ++ captured.toList)).map (ren ρ)).toArray) w := by
            unfold execOp
            rw [hop]
            simp only [resolve, hcal, hfv, Deferred.ofValue, Sem.run_bind, Sem.run_pure, Result.andThen_ok, invoke]
            rw [hall]
            exact hC.enter _ _ _ _ _ _ hcall _ w
          unfold Oper.wp
          rw [hrun]
          simp only [Oper.upon]
          refine (hC.run _ _ _ _ _ _ hcall ρ w rep hcargs).mono ?_
          rintro e w' ⟨ρ', rfl, h1, h2, h3⟩
          exact fin h1 h2 h3
      · cases he
    · cases he
  all_goals first | exact pure' he | exact read' he | exact alloc' he | exact write' he

theorem op_sound (hC : CallOK P nG C) {R : List Value} {S S' : St} {a : Act} {w : World} {o : Oper} {io : IOp} {v : Value} {K : Act → World → Prop} {Q' : Exit → Act → World → Prop}
    (hc : cOp P nG Q o.op = some io) (he : evOp C R S io = some (v, S')) (hr : Rel P nG ρ0 S0 w0 R S a w) (hK : ∀ a' w', Rel P nG ρ0 S0 w0 (put R o.dst v) S' a' w' → K a' w') :
    o.wp P a w K Q' := by
  obtain ⟨ρ, ha, hd, rep, hR, hx⟩ := hr
  refine op_core hC hc he ha rep (cop_clo hR (fun g h => (rep.glob g h).2.2) hc) ?_
  intro ρ' w' h1 h2 h3
  obtain ⟨p1, p2, p3⟩ := put_rel o.dst ha hR h2 h3
  exact hK _ _ ⟨ρ', p1, p2.trans hd, h1, p3, hx.trans h2⟩

theorem wanted_sound {ops : Array Oper} {o : Oper} {g : Option (Nat × Bool)} {R : List Value} {ρ : Rho} {a : Act} (hg : cGuard ops o.guard = some g) (ha : a.tmps = (R.map (ren ρ)).toArray) :
    Region.wanted o (yielded ops a.tmps) = wantedI g R := by
  unfold Region.wanted
  cases ho : o.guard with
  | none => rw [ho] at hg; simp only [cGuard, Option.some.injEq] at hg; subst hg; rfl
  | some x =>
    obtain ⟨j, want⟩ := x
    rw [ho] at hg
    simp only [cGuard] at hg
    split at hg
    · rename_i t ht
      simp only [Option.some.injEq] at hg
      subst hg
      simp only [wantedI, yielded, ht, Option.bind_some, ha, List.getElem?_toArray, List.getElem?_map]
      cases hR : R[t]? with
      | none => rfl
      | some v =>
        simp only [Option.map_some]
        cases v with
        | bool b => cases b <;> cases want <;> rfl
        | pointer p => cases p <;> rfl
        | slice p n c => cases p <;> rfl
        | map p => cases p <;> rfl
        | _ => rfl
    · cases hg

theorem ops_sound (hC : CallOK P nG C) {ops : Array Oper} {al : List IOper} : ∀ {l : List Oper} {il : List IOper} {p : Nat} {H : List (Nat × St)} {R R' : List Value} {S S' : St},
    cOpers P nG Q ops l = some il → evOps C al il p H R S = some (R', S') →
    Evo S S' ∧ ∀ (a : Act) (w : World) (Q' : Exit → Act → World → Prop), Rel P nG ρ0 S0 w0 R S a w → (∀ a' w', Rel P nG ρ0 S0 w0 R' S' a' w' → Q' .normal a' w') → wpList P ops Q' l a w
  | [], il, p, H, R, R', S, S', hc, he => by
    simp only [cOpers, Option.some.injEq] at hc
    subst hc
    simp only [evOps, Option.some.injEq, Prod.mk.injEq] at he
    obtain ⟨rfl, rfl⟩ := he
    exact ⟨Evo.refl _, fun a w Q' hr hq => hq a w hr⟩
  | o :: l, il, p, H, R, R', S, S', hc, he => by
    simp only [cOpers] at hc
    split at hc
    · rename_i x r hx hr
      simp only [Option.some.injEq] at hc
      subst hc
      unfold cOper at hx
      split at hx
      · rename_i io g h1 h2
        simp only [Option.some.injEq] at hx
        subst hx
        simp only [evOps] at he
        by_cases hw : wantedI g R = true
        · rw [if_pos hw] at he
          split at he
          · rename_i v S1 hv
            split at he
            · obtain ⟨e1, ih⟩ := ops_sound hC hr he
              refine ⟨(evo_op hC hv).trans e1, fun a w Q' hrel hq => ?_⟩
              unfold wpList
              have hww : Region.wanted o (yielded ops a.tmps) = true := by
                obtain ⟨ρ, ha, _⟩ := hrel
                rw [wanted_sound h2 ha]; exact hw
              rw [if_pos hww]
              exact .inl (op_sound hC h1 hv hrel fun a' w' hrel' => ih a' w' Q' hrel' hq)
            · cases he
          · cases he
        · rw [if_neg hw] at he
          obtain ⟨e1, ih⟩ := ops_sound hC hr he
          refine ⟨e1, fun a w Q' hrel hq => ?_⟩
          unfold wpList
          have hww : Region.wanted o (yielded ops a.tmps) = false := by
            obtain ⟨ρ, ha, _⟩ := hrel
            rw [wanted_sound h2 ha]; simpa using hw
          rw [hww]
          simp only [Bool.false_eq_true, if_false]
          refine ih _ w Q' ?_ hq
          obtain ⟨ρ, ha, hd, rep, hR, hx⟩ := hrel
          obtain ⟨p1, p2, p3⟩ := put_rel (v := undef) o.dst ha hR (Ext.refl _ _ w) (by simp [undef, Clo, CloA, CloL])
          rw [ren_undef] at p1 p2
          exact ⟨ρ, p1, p2.trans hd, rep, p3, hx⟩
      · cases hx
    · cases hc

end
end Go.Proofs.YtepddcemoofmlaaGreat.AE
