/- The operations that only compute: the model's step and the evaluator's come to the same. -/
import Derived.Test.YtepddcemoofmlaaGreatAe2
import Derived.Laws.StructEq
import Derived.Laws.Entries
namespace Go.Proofs.YtepddcemoofmlaaGreat.AE
open Go

section
variable {P : Program} {nG : Nat} {ρ : Rho} {a : Act} {R : List Value}

theorem iv_sound (ha : a.tmps = (R.map (ren ρ)).toArray) (hg : ∀ g, g < nG → ρ.blk g = g ∧ ρ.off g = 0) {x : Operand} {y : IV} (h : cIV nG x = some y) :
    a.eval x = ren ρ (y.ev R) := by
  cases x with
  | tmp t =>
    simp only [cIV, Option.some.injEq] at h
    subst h
    simp only [Act.eval, IV.ev, ha]
    rw [Array.getD_eq_getD_getElem?, List.getElem?_toArray, List.getElem?_map, List.getD_eq_getElem?_getD]
    cases R[t]? <;> simp [ren_undef]
  | const v =>
    simp only [cIV] at h
    split at h
    · rename_i hz
      simp only [Option.some.injEq] at h
      subst h
      simp [Act.eval, IV.ev, ren_of_zero hz]
    · cases h
  | global g =>
    simp only [cIV] at h
    split at h
    · rename_i hz
      simp only [Option.some.injEq] at h
      subst h
      simp [Act.eval, IV.ev, ren, renA, (hg g hz).1, (hg g hz).2]
    · cases h
  | func f =>
    simp only [cIV, Option.some.injEq] at h
    subst h
    simp [Act.eval, IV.ev, ren_func]

theorem ivs_sound (ha : a.tmps = (R.map (ren ρ)).toArray) (hg : ∀ g, g < nG → ρ.blk g = g ∧ ρ.off g = 0) : ∀ {l : List Operand} {l' : List IV}, cIVs nG l = some l' →
    l.map a.eval = (l'.map (IV.ev R)).map (ren ρ)
  | [], l', h => by simp only [cIVs, Option.some.injEq] at h; subst h; rfl
  | x :: l, l', h => by
    simp only [cIVs] at h
    split at h
    · rename_i y r hy hr
      simp only [Option.some.injEq] at h
      subst h
      simp [iv_sound ha hg hy, ivs_sound ha hg hr]
    · cases h

theorem clo_iv {D : Nat → Prop} (hR : ∀ v ∈ R, Clo D v) (hg : ∀ g, g < nG → D g) {x : Operand} {y : IV} (h : cIV nG x = some y) : Clo D (y.ev R) := by
  cases x with
  | tmp t =>
    simp only [cIV, Option.some.injEq] at h
    subst h
    simp only [IV.ev, List.getD_eq_getElem?_getD]
    cases hx : R[t]? with
    | none => simp [undef, Clo, CloA, CloL]
    | some v => exact hR v (List.mem_of_getElem? hx)
  | const v =>
    simp only [cIV] at h
    split at h
    · rename_i hz
      simp only [Option.some.injEq] at h
      subst h
      exact clo_of_zero hz
    · cases h
  | global g =>
    simp only [cIV] at h
    split at h
    · rename_i hz
      simp only [Option.some.injEq] at h
      subst h
      simp [IV.ev, Clo, hg g hz]
    · cases h
  | func f =>
    simp only [cIV, Option.some.injEq] at h
    subst h
    simp [IV.ev, Clo, CloA, CloL]

theorem clo_ivs {D : Nat → Prop} (hR : ∀ v ∈ R, Clo D v) (hg : ∀ g, g < nG → D g) : ∀ {l : List Operand} {l' : List IV}, cIVs nG l = some l' → ∀ v ∈ l'.map (IV.ev R), Clo D v
  | [], l', h => by simp only [cIVs, Option.some.injEq] at h; subst h; simp
  | x :: l, l', h => by
    simp only [cIVs] at h
    split at h
    · rename_i y r hy hr
      simp only [Option.some.injEq] at h
      subst h
      intro v hv
      simp only [List.map_cons, List.mem_cons] at hv
      rcases hv with rfl | hv
      · exact clo_iv hR hg hy
      · exact clo_ivs hR hg hr v hv
    · cases h

/-! ### Types -/
theorem run_sz {t : TypeId} {n : Nat} (h : szOf P t = some n) (w : World) : (sizeOf t).run P w = .ok n w := by
  unfold szOf at h
  cases hi : P.info? t with
  | none => simp [hi] at h
  | some i => simp only [hi, Option.map_some, Option.some.injEq] at h; simp [sizeOf, typeInfo, hi, h]

theorem run_ag {t : TypeId} {b : Bool} (h : aggOf P t = some b) (w : World) : (isAgg t).run P w = .ok b w := by
  unfold aggOf at h
  unfold isAgg
  split at h
  · cases h
  · rename_i fs hu; simp only [Option.some.injEq] at h; subst h; simp [run_underlying hu]
  · rename_i n e hu; simp only [Option.some.injEq] at h; subst h; simp [run_underlying hu]
  · rename_i d h1 h2 hu; simp only [Option.some.injEq] at h; subst h
    rw [Sem.run_bind, run_underlying hu]
    cases d <;> simp_all

theorem run_zero {t : TypeId} {z : Value} (h : zOf P t = some z) (w : World) : (zeroValue t).run P w = .ok z w := by
  unfold zOf at h
  cases hi : P.info? t with
  | none => simp [hi] at h
  | some i => simp only [hi, Option.bind_some] at h; simp [zeroValue, typeInfo, hi, h]

theorem zs_spec {t : TypeId} {zs : List Value} (h : zsOf P t = some zs) :
    ∃ z n, zOf P t = some z ∧ szOf P t = some n ∧ z.cells.toList = zs ∧ zs.length = n ∧ (∀ v ∈ zs, refsLt 0 v = true) ∧ zs.all one = true := by
  unfold zsOf at h
  split at h
  · rename_i z n hz hn
    split at h
    · rename_i hc
      simp only [Option.some.injEq] at h
      simp only [Bool.and_eq_true, beq_iff_eq] at hc
      subst h
      exact ⟨z, n, hz, hn, rfl, by simpa using hc.2, refsLtL_iff.1 hc.1.1, hc.1.2⟩
    · cases h
  · cases h

theorem map_ren_zero {zs : List Value} (h : ∀ v ∈ zs, refsLt 0 v = true) : zs.map (ren ρ) = zs := by
  conv => rhs; rw [← List.map_id zs]
  exact List.map_congr_left fun v hv => ren_of_zero (h v hv)

/-! ### Parts of values -/
theorem cut_ren {agg : Bool} {n off : Nat} {c : List Value} {v : Value} (h : cut agg n off c = some v) : cut agg n off (c.map (ren ρ)) = some (ren ρ v) := by
  unfold cut at *
  cases agg
  · simp only [Bool.false_eq_true, if_false, List.getElem?_map] at *
    simp [h]
  · simp only [if_true] at *
    split at h
    · rename_i hn
      simp only [Option.some.injEq] at h
      subst h
      rw [if_pos (by simpa using hn)]
      simp [ren_agg, List.map_drop, List.map_take]
    · cases h

theorem clo_cut {D : Nat → Prop} {agg : Bool} {n off : Nat} {c : List Value} {v : Value} (hc : ∀ u ∈ c, Clo D u) (h : cut agg n off c = some v) : Clo D v := by
  unfold cut at h
  cases agg
  · simp only [Bool.false_eq_true, if_false] at h
    exact hc v (List.mem_of_getElem? h)
  · simp only [if_true] at h
    split at h
    · simp only [Option.some.injEq] at h
      subst h
      simp only [Clo]
      exact cloA_iff.2 fun u hu => hc u (List.mem_of_mem_drop (List.mem_of_mem_take hu))
    · cases h

theorem run_part {t : TypeId} {agg : Bool} {n off : Nat} {cs : Array Value} {v : Value} (ha : aggOf P t = some agg) (hn : szOf P t = some n)
    (h : cut agg n off cs.toList = some v) (w : World) : (part t cs off).run P w = .ok v w := by
  unfold part
  rw [Sem.run_bind, run_ag ha]
  unfold cut at h
  cases agg
  · simp only [Bool.false_eq_true, if_false] at h
    have h' : cs[off]? = some v := by simpa using h
    simp [h']
  · simp only [if_true] at h
    split at h
    · simp only [Option.some.injEq] at h
      subst h
      simp only [Result.andThen_ok, if_true, Sem.run_bind, run_sz hn, Sem.run_pure]
      congr 2
      apply Array.ext'
      simp [List.extract_eq_take_drop]
    · cases h

/-! ### Integers, equality -/
theorem shift_sound {op : BinOp} {k k' : IntKind} {x y : Int} {v : Value} (h : evShift op k x y = some v) (w : World) : (Op.shift op k x k' y).run P w = .ok v w := by
  unfold evShift at h
  unfold Op.shift
  split at h
  · cases h
  · rename_i hy
    rw [if_neg hy]
    cases op <;> simp_all

theorem int_sound {op : BinOp} {k : IntKind} {x y : Int} {v : Value} (h : evInt op k x y = some v) (hs1 : op ≠ .shl) (hs2 : op ≠ .shr) (t : TypeId) (w : World) :
    (binOp op t (.int k x) (.int k y)).run P w = .ok v w := by
  unfold evInt at h
  cases op <;> simp_all [binOp, Op.intArith, Op.intBits, Op.intCmp, Op.intDiv]

theorem eqFields_sound {xs ys : Array Value} : ∀ {fs : List Field} {i : Nat} {ks : List (Option IntKind)} {b : Bool}, plainK P fs i = some ks →
    eqCells ks (xs.toList.drop i) (ys.toList.drop i) = some b → ∀ (d : Nat) (w : World), (Op.eqFields (d + 1) xs ys fs).run P w = .ok b w
  | [], i, ks, b, hk, he, d, w => by
    simp only [plainK, Option.some.injEq] at hk
    subst hk
    unfold eqCells at he
    split at he <;> simp_all [Op.eqFields]
  | f :: fs, i, ks, b, hk, he, d, w => by
    simp only [plainK] at hk
    split at hk
    · rename_i hf
      obtain ⟨h1, h2⟩ := hf
      have key : ∀ (x y : Value), xs.toList[i]? = some x → ys.toList[i]? = some y → aggOf P f.type = some false →
          (part f.type xs f.offset).run P w = .ok x w ∧ (part f.type ys f.offset).run P w = .ok y w := by
        intro x y hx hy ha
        have hx' : xs[i]? = some x := by simpa using hx
        have hy' : ys[i]? = some y := by simpa using hy
        unfold part
        simp [run_ag ha, h1, hx', hy']
      split at hk
      · rename_i k r hu hr
        simp only [Option.some.injEq] at hk
        subst hk
        unfold eqCells at he
        split at he
        case h_2 k1 ks1 k2 a xs1 k3 b1 ys1 e1 e2 e3 =>
          simp only [List.cons.injEq, Option.some.injEq] at e1
          obtain ⟨e1a, e1b⟩ := e1
          subst e1a e1b
          split at he
          · rename_i hkk
            subst hkk
            have hx : xs.toList[i]? = some (.int k2 a) := by
              have := congrArg (fun l => l[0]?) e2; simpa using this
            have hy : ys.toList[i]? = some (.int k2 b1) := by
              have := congrArg (fun l => l[0]?) e3; simpa using this
            obtain ⟨p1, p2⟩ := key _ _ hx hy (by unfold aggOf; rw [hu])
            obtain ⟨b2, hb2, hb⟩ := Option.map_eq_some_iff.1 he
            have hx1 : xs1 = xs.toList.drop (i + 1) := by rw [← List.drop_drop, e2]; rfl
            have hy1 : ys1 = ys.toList.drop (i + 1) := by rw [← List.drop_drop, e3]; rfl
            have ih := eqFields_sound hr (hx1 ▸ hy1 ▸ hb2) d w
            simp only [Op.eqFields, h2, ne_eq, not_false_eq_true, if_true, Sem.run_bind, p1, p2, Result.andThen_ok, run_equalIn_int w d f.type k2 k a b1 hu]
            by_cases hab : (a == b1) = true
            · simp [hab] at hb ⊢; rw [ih, hb]
            · simp [hab] at hb ⊢; simp [hb]
          · cases he
        all_goals simp_all
      · rename_i r hu hr
        simp only [Option.some.injEq] at hk
        subst hk
        unfold eqCells at he
        split at he
        case h_3 ks1 a xs1 b1 ys1 e1 e2 e3 =>
          simp only [List.cons.injEq] at e1
          obtain ⟨_, e1b⟩ := e1
          subst e1b
          have hx : xs.toList[i]? = some (.bool a) := by
            have := congrArg (fun l => l[0]?) e2; simpa using this
          have hy : ys.toList[i]? = some (.bool b1) := by
            have := congrArg (fun l => l[0]?) e3; simpa using this
          obtain ⟨p1, p2⟩ := key _ _ hx hy (by unfold aggOf; rw [hu])
          obtain ⟨b2, hb2, hb⟩ := Option.map_eq_some_iff.1 he
          have hx1 : xs1 = xs.toList.drop (i + 1) := by rw [← List.drop_drop, e2]; rfl
          have hy1 : ys1 = ys.toList.drop (i + 1) := by rw [← List.drop_drop, e3]; rfl
          have ih := eqFields_sound hr (hx1 ▸ hy1 ▸ hb2) d w
          simp only [Op.eqFields, h2, ne_eq, not_false_eq_true, if_true, Sem.run_bind, p1, p2, Result.andThen_ok, run_equalIn_bool w d f.type a b1 hu]
          by_cases hab : (a == b1) = true
          · simp [hab] at hb ⊢; rw [ih, hb]
          · simp [hab] at hb ⊢; simp [hb]
        all_goals simp_all
      · cases hk
    · cases hk

theorem eqCells_ren : ∀ {ks : List (Option IntKind)} {xs ys : List Value} {b : Bool}, eqCells ks xs ys = some b → eqCells ks (xs.map (ren ρ)) (ys.map (ren ρ)) = some b := by
  intro ks
  induction ks with
  | nil => intro xs ys b h; unfold eqCells at h; split at h <;> simp_all [eqCells]
  | cons k ks ih =>
    intro xs ys b h
    unfold eqCells at h
    split at h
    case h_2 k1 ks1 k2 a xs1 k3 b1 ys1 e1 =>
      simp only [List.cons.injEq] at e1
      obtain ⟨rfl, rfl⟩ := e1
      simp only [List.map_cons, ren_int, eqCells]
      split at h
      · rename_i hk
        rw [if_pos hk]
        obtain ⟨b2, hb2, hb⟩ := Option.map_eq_some_iff.1 h
        rw [ih hb2]; simp [hb]
      · cases h
    case h_3 ks1 a xs1 b1 ys1 e1 =>
      simp only [List.cons.injEq] at e1
      obtain ⟨rfl, rfl⟩ := e1
      simp only [List.map_cons, ren_bool, eqCells]
      obtain ⟨b2, hb2, hb⟩ := Option.map_eq_some_iff.1 h
      rw [ih hb2]; simp [hb]
    all_goals simp_all

theorem fieldsOf_eq {t : TypeId} {fs : Array Field} (h : P.underlying t = some (.struct fs)) : P.fieldsOf t = fs := by
  simp [Program.fieldsOf, h]

theorem equal_sound {t : TypeId} {e : EqT} {x y : Value} {b : Bool} (ht : eqOf P t = some e) (he : evEq e x y = some b) (w : World) :
    (Op.equal t (ren ρ x) (ren ρ y)).run P w = .ok b w := by
  unfold Op.equal
  show (Op.equalIn ((9998 + 1) + 1) t (ren ρ x) (ren ρ y)).run P w = .ok b w
  generalize 9998 = d
  unfold eqOf at ht
  split at ht
  · simp only [Option.some.injEq] at ht; subst ht; simp [evEq] at he
  · rename_i hu; simp only [Option.some.injEq] at ht; subst ht
    unfold evEq at he; split at he <;> simp_all
    simp [ren_bool, run_equalIn_bool w (d + 1) t _ _ hu, he]
  · rename_i el hu; simp only [Option.some.injEq] at ht; subst ht
    unfold evEq at he; split at he <;> simp_all
    · rename_i y'; subst he; cases y' <;> (unfold Op.equalIn; rw [Sem.run_bind, run_underlying hu]; rfl)
    · (unfold Op.equalIn; rw [Sem.run_bind, run_underlying hu]; rfl)
  · rename_i el hu; simp only [Option.some.injEq] at ht; subst ht
    unfold evEq at he; split at he <;> simp_all
    · rename_i y' _ _; subst he; cases y' <;> (unfold Op.equalIn; rw [Sem.run_bind, run_underlying hu]; rfl)
    · (unfold Op.equalIn; rw [Sem.run_bind, run_underlying hu]; rfl)
  · rename_i ps rs v hu; simp only [Option.some.injEq] at ht; subst ht
    unfold evEq at he; split at he <;> simp_all
    · (unfold Op.equalIn; rw [Sem.run_bind, run_underlying hu]; rfl)
    · (unfold Op.equalIn; rw [Sem.run_bind, run_underlying hu]; rfl)
    · (unfold Op.equalIn; rw [Sem.run_bind, run_underlying hu]; rfl)
  · rename_i ke el hu; simp only [Option.some.injEq] at ht; subst ht
    unfold evEq at he; split at he <;> simp_all
    · rename_i y'; subst he; cases y' <;> (unfold Op.equalIn; rw [Sem.run_bind, run_underlying hu]; rfl)
    · (unfold Op.equalIn; rw [Sem.run_bind, run_underlying hu]; rfl)
  · rename_i fs hu
    split at ht
    · rename_i hc
      obtain ⟨ks, hks, rfl⟩ := Option.map_eq_some_iff.1 ht
      unfold evEq at he; split at he
      all_goals try (simp_all; done)
      rename_i ks' xs ys _
      simp only [ren_agg]
      rw [run_equalIn_struct w (d + 1) t _ _ (by rw [fieldsOf_eq hu]; exact hu) hc.1, fieldsOf_eq hu]
      rename_i heq; injection heq with heq; subst heq
      exact eqFields_sound hks (by simpa using eqCells_ren he) d w
    · cases ht
  · cases ht

end
end Go.Proofs.YtepddcemoofmlaaGreat.AE
