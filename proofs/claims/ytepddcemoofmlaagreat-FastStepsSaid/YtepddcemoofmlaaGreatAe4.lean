/- The operations that only compute, each kind: what the evaluator gives, the model gives. -/
import Derived.Test.YtepddcemoofmlaaGreatAe3
namespace Go.Proofs.YtepddcemoofmlaaGreat.AE
open Go

section
variable {P : Program} {nG : Nat} {Q : FuncId → Bool} {ρ : Rho} {a : Act} {R : List Value}

theorem guard_run {op : BinOp} {t : TypeId} {X Y : Operand} {x y : Value} (hn : x ≠ .nilIface) (hagg : ∀ xs ys, x = .agg xs → y = .agg ys → P.eqGuardType P.depth t = false) (w : World) :
    (eqGuard op t X Y x y).run P w = .ok () w := by
  unfold eqGuard
  cases op
  case eql | neq =>
    cases x with
    | nilIface => exact absurd rfl hn
    | agg xs =>
      cases y with
      | agg ys => have := hagg xs ys rfl rfl; simp [this]
      | _ => simp
    | _ => simp
  all_goals simp

theorem ren_ne_nilIface {x : Value} (h : x ≠ .nilIface) : ren ρ x ≠ .nilIface := by
  cases x with
  | pointer p => cases p <;> simp [ren]
  | slice p n c => cases p <;> simp [ren]
  | map p => cases p <;> simp [ren]
  | nilIface => exact absurd rfl h
  | _ => simp [ren]

def eqShape : Value → Bool
  | .bool _ => true
  | .pointer _ => true
  | .slice _ _ _ => true
  | .map _ => true
  | .func _ _ _ => true
  | .nilFunc => true
  | .agg _ => true
  | _ => false

theorem eqShape_ren {x : Value} (h : eqShape x = true) : eqShape (ren ρ x) = true := by
  cases x with
  | pointer p => cases p <;> simp [ren, eqShape]
  | slice p n c => cases p <;> simp [ren, eqShape]
  | map p => cases p <;> simp [ren, eqShape]
  | bool b => simp [ren, eqShape]
  | func fn f c => simp [ren, eqShape]
  | nilFunc => simp [ren, eqShape]
  | agg cs => simp [ren, eqShape]
  | _ => simp [eqShape] at h

theorem binOp_eql {t : TypeId} {x y : Value} (h : eqShape x = true) : binOp .eql t x y = (do pure (.bool (← Op.equal t x y)) : Sem Value) := by
  cases x <;> first | (simp [eqShape] at h; done) | rfl

theorem binOp_neq {t : TypeId} {x y : Value} (h : eqShape x = true) : binOp .neq t x y = (do pure (.bool (!(← Op.equal t x y))) : Sem Value) := by
  cases x <;> first | (simp [eqShape] at h; done) | rfl

theorem evEq_shape {e : EqT} {x y : Value} {b : Bool} (he : evEq e x y = some b) : eqShape x = true := by
  unfold evEq at he
  split at he <;> simp_all [eqShape]

theorem bin_run_eq {t : TypeId} {e : EqT} {x y : Value} {b : Bool} (ht : eqOf P t = some e) (he : evEq e x y = some b) (w : World) :
    (binOp .eql t (ren ρ x) (ren ρ y)).run P w = .ok (.bool b) w ∧ (binOp .neq t (ren ρ x) (ren ρ y)).run P w = .ok (.bool (!b)) w := by
  have h := equal_sound (ρ := ρ) ht he w
  have hs := eqShape_ren (ρ := ρ) (evEq_shape he)
  rw [binOp_eql hs, binOp_neq hs]
  simp [h]

theorem bin_sound {op : BinOp} {t : TypeId} {e : EqT} {X Y : Operand} {x y v : Value} (ht : eqOf P t = some e) (he : evBin op e x y = some v) (w : World) :
    (do eqGuard op t X Y (ren ρ x) (ren ρ y); binOp op t (ren ρ x) (ren ρ y) : Sem Value).run P w = .ok (ren ρ v) w := by
  have hn : x ≠ .nilIface := by
    intro hx; subst hx
    cases op <;> cases y <;> simp_all [evEq, evBin]
  have hagg : ∀ xs ys, ren ρ x = .agg xs → ren ρ y = .agg ys → P.eqGuardType P.depth t = false := by
    intro xs ys hx hy
    unfold eqOf at ht
    have hsh : ∃ cs ds, x = .agg cs ∧ y = .agg ds := by
      refine ⟨?_, ?_, ?_, ?_⟩
      · exact match x with | .agg cs => cs | _ => #[]
      · exact match y with | .agg cs => cs | _ => #[]
      · cases x with
        | pointer p => cases p <;> simp [ren] at hx
        | slice p n c => cases p <;> simp [ren] at hx
        | map p => cases p <;> simp [ren] at hx
        | agg cs => rfl
        | _ => simp [ren] at hx
      · cases y with
        | pointer p => cases p <;> simp [ren] at hy
        | slice p n c => cases p <;> simp [ren] at hy
        | map p => cases p <;> simp [ren] at hy
        | agg cs => rfl
        | _ => simp [ren] at hy
    obtain ⟨cs, ds, rfl, rfl⟩ := hsh
    split at ht
    all_goals first
      | (cases ht; done)
      | (simp only [Option.some.injEq] at ht; subst ht; exfalso; revert he; cases op <;> simp [evEq, evBin]; done)
      | (split at ht; rename_i hc; exact hc.2; cases ht)
  rw [Sem.run_bind, guard_run (ren_ne_nilIface hn) hagg, Result.andThen_ok]
  unfold evBin at he
  split at he
  · rename_i k x' k' y'
    simp only [ren_int]
    split at he
    · have := shift_sound (P := P) (k' := k') he w
      simp only [binOp, this]
      unfold evShift at he
      split at he
      · cases he
      · simp only [Option.some.injEq] at he; subst he; simp [ren_int]
    · have := shift_sound (P := P) (k' := k') he w
      simp only [binOp, this]
      unfold evShift at he
      split at he
      · cases he
      · simp only [Option.some.injEq] at he; subst he; simp [ren_int]
    · rename_i h1 h2
      split at he
      · rename_i hk
        subst hk
        rw [int_sound he (fun h => h1 h) (fun h => h2 h)]
        unfold evInt at he
        split at he <;> (try split at he) <;> simp only [Option.some.injEq, reduceCtorEq] at he <;> subst he <;> simp [ren_int, ren_bool]
      · cases he
  · split at he
    · obtain ⟨b, hb, rfl⟩ := Option.map_eq_some_iff.1 he
      rw [(bin_run_eq ht hb w).1, ren_bool]
    · obtain ⟨b, hb, rfl⟩ := Option.map_eq_some_iff.1 he
      rw [(bin_run_eq ht hb w).2, ren_bool]
    · cases he

theorem fill_sound (place : Nat → Option (Nat × Nat)) : ∀ {parts : List (Nat × Operand)} {ps : List (Nat × Nat × IV)} {zs cs : List Value},
    cParts P nG place parts = some ps → (ha : a.tmps = (R.map (ren ρ)).toArray) → (hg : ∀ g, g < nG → ρ.blk g = g ∧ ρ.off g = 0) →
    evFill (ps.map fun p => (p.1, p.2.1, p.2.2.ev R)) zs = some cs →
    Instr.fill place (zs.map (ren ρ)).toArray (parts.map fun p => (p.1, a.eval p.2)) = some (cs.map (ren ρ)).toArray
  | [], ps, zs, cs, hc, _, _, he => by
    simp only [cParts, Option.some.injEq] at hc
    subst hc
    simp only [List.map_nil, evFill, Option.some.injEq] at he
    subst he
    simp [Instr.fill]
  | (i, x) :: l, ps, zs, cs, hc, ha, hg, he => by
    simp only [cParts] at hc
    split at hc
    · rename_i off sz y r hp hy hr
      simp only [Option.some.injEq] at hc
      subst hc
      simp only [List.map_cons, evFill] at he
      split at he
      · rename_i hn
        obtain ⟨h1, h2⟩ := hn
        have ih := fill_sound place hr ha hg he
        simp only [List.map_cons, Instr.fill, hp, iv_sound ha hg hy]
        have hsz : (ren ρ (y.ev R)).cells.size = sz := by rw [cells_ren]; simpa using h1
        rw [if_neg (by simp [hsz]; omega)]
        rw [← ih]
        congr 1
        have key : ∀ (vs : List Value) (o : Nat) (acc : List Value), o + vs.length ≤ acc.length →
            (vs.toArray.zipIdx.foldl (fun cs (x : Value × Nat) => cs.setIfInBounds (o + x.2) x.1) acc.toArray) = (acc.take o ++ (vs ++ acc.drop (o + vs.length))).toArray := by
          intro vs
          have gen : ∀ (vs : List Value) (o s : Nat) (acc : List Value), o + s + vs.length ≤ acc.length →
              ((vs.zipIdx s).foldl (fun cs (x : Value × Nat) => cs.setIfInBounds (o + x.2) x.1) acc.toArray) = (acc.take (o + s) ++ (vs ++ acc.drop (o + s + vs.length))).toArray := by
            intro vs
            induction vs with
            | nil => intro o s acc _; simp
            | cons v vs ih =>
              intro o s acc h
              simp only [List.zipIdx_cons, List.foldl_cons]
              simp only [List.length_cons] at h
              have e1 : (acc.toArray.setIfInBounds (o + s) v) = (acc.set (o + s) v).toArray := by simp
              rw [e1, ih o (s + 1) (acc.set (o + s) v) (by simp; omega)]
              congr 1
              have q1 : (acc.set (o + s) v).take (o + (s + 1)) = acc.take (o + s) ++ [v] := by
                rw [show o + (s + 1) = (o + s) + 1 by omega, List.take_succ_eq_append_getElem (by simp; omega), List.take_set_of_le (Nat.le_refl _)]
                simp
              have q2 : (acc.set (o + s) v).drop (o + (s + 1) + vs.length) = acc.drop (o + s + (vs.length + 1)) := by
                rw [List.drop_set_of_lt (by omega)]
                congr 1; omega
              rw [q1, q2]
              simp
          intro o acc h
          have := gen vs o 0 acc (by omega)
          simp only [Nat.add_zero] at this
          rw [← this, ← Array.foldl_toList]
          simp
        have k2 := key ((y.ev R).cells.toList.map (ren ρ)) off (zs.map (ren ρ)) (by rw [List.length_map, List.length_map, Array.length_toList, h1]; exact h2)
        have e3 : ((y.ev R).cells.toList.map (ren ρ)).toArray = (ren ρ (y.ev R)).cells := by rw [cells_ren, ← Array.toList_map, Array.toArray_toList]
        rw [e3] at k2
        rw [k2]
        simp [List.map_take, List.map_drop, h1]
      · cases he
    · cases hc

theorem clo_fill {D : Nat → Prop} (place : Nat → Option (Nat × Nat)) : ∀ {parts : List (Nat × Operand)} {ps : List (Nat × Nat × IV)} {zs cs : List Value},
    cParts P nG place parts = some ps → (∀ v ∈ R, Clo D v) → (∀ g, g < nG → D g) → (∀ v ∈ zs, Clo D v) →
    evFill (ps.map fun p => (p.1, p.2.1, p.2.2.ev R)) zs = some cs → ∀ v ∈ cs, Clo D v
  | [], ps, zs, cs, hc, _, _, hz, he => by
    simp only [cParts, Option.some.injEq] at hc
    subst hc
    simp only [List.map_nil, evFill, Option.some.injEq] at he
    subst he
    exact hz
  | (i, x) :: l, ps, zs, cs, hc, hR, hg, hz, he => by
    simp only [cParts] at hc
    split at hc
    · rename_i off sz y r hp hy hr
      simp only [Option.some.injEq] at hc
      subst hc
      simp only [List.map_cons, evFill] at he
      split at he
      · refine clo_fill place hr hR hg ?_ he
        intro v hv
        simp only [List.mem_append] at hv
        rcases hv with hv | hv | hv
        · exact hz v (List.mem_of_mem_take hv)
        · exact clo_cells (clo_iv hR hg hy) v hv
        · exact hz v (List.mem_of_mem_drop hv)
      · cases he
    · cases hc

theorem places_run : ∀ {fs : List Field} {pl : List (Nat × Nat)}, fieldPlaces P fs = some pl → ∀ w : World,
    (fs.mapM fun f => do pure (f.offset, ← sizeOf f.type) : Sem (List (Nat × Nat))).run P w = .ok pl w
  | [], pl, h, w => by simp only [fieldPlaces, Option.some.injEq] at h; subst h; simp
  | f :: fs, pl, h, w => by
    simp only [fieldPlaces] at h
    split at h
    · rename_i n r hn hr
      simp only [Option.some.injEq] at h
      subst h
      rw [List.mapM_cons]
      simp only [Sem.run_bind, run_sz hn, Result.andThen_ok, Sem.run_pure, places_run hr w]
    · cases h

theorem minmax_sound (mx : Bool) : ∀ {l : List Value} {x v : Value}, evMin mx x l = some v → (w : World) →
    (l.foldlM (if mx then Builtin.max2 else Builtin.min2) x : Sem Value).run P w = .ok v w
  | [], x, v, h, w => by cases x <;> (simp only [evMin, Option.some.injEq] at h; subst h; simp)
  | y :: l, x, v, h, w => by
    cases x with
    | int k n =>
      cases y with
      | int k' n' =>
        simp only [evMin] at h
        have := minmax_sound mx h w
        cases mx <;> simp [List.foldlM_cons, Builtin.max2, Builtin.min2] at this ⊢ <;> exact this
      | _ => simp [evMin] at h
    | _ => simp [evMin] at h

end
end Go.Proofs.YtepddcemoofmlaaGreat.AE
