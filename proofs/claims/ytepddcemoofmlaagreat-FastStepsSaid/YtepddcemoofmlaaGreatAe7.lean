/- Reading: what a heap says, the model's world gives. -/
import Derived.Test.YtepddcemoofmlaaGreatAe6
import Derived.Deep.MidRow
namespace Go.Proofs.YtepddcemoofmlaaGreat.AE
set_option linter.unusedSimpArgs false
set_option linter.unusedVariables false
open Go

section
variable {P : Program} {nG : Nat} {Q : FuncId → Bool} {ρ : Rho} {a : Act} {R : List Value} {m : Nat → Option AObj} {w : World}

theorem cellsOf_sz {t : TypeId} {n : Nat} (h : szOf P t = some n) : P.cellsOf t = n := by
  unfold szOf at h
  simp [Program.cellsOf, h]

/-- The cells of a block. -/
theorem cell_at (rep : Rep P nG ρ m w) {b : Nat} {c : List Value} (h : cellsAt m b = some c) {i : Nat} {v : Value} (hv : c[i]? = some v) :
    w.cell? ⟨ρ.blk b, ρ.off b + i, none⟩ = some (ren ρ v) := by
  unfold cellsAt at h
  split at h
  · rename_i e c' hm
    simp only [Option.some.injEq] at h; subst h
    obtain ⟨h0, junk, hh, _⟩ := rep.obj b _ hm
    simp only [World.cell?, hh, h0, Nat.zero_add, Option.isSome_none, Bool.false_eq_true, if_false, List.getElem?_toArray]
    rw [List.getElem?_append_left (by simp; exact (List.getElem?_eq_some_iff.1 hv).1)]
    simp [hv]
  · rename_i c' hm
    simp only [Option.some.injEq] at h; subst h
    obtain ⟨⟨cs, e, fr, hh, hc⟩, _⟩ := rep.obj b _ hm
    simp only [World.cell?, hh, Option.isSome_none, Bool.false_eq_true, if_false]
    exact hc i v hv
  · cases h

theorem clo_cellsAt (rep : Rep P nG ρ m w) {b : Nat} {c : List Value} (h : cellsAt m b = some c) : ∀ v ∈ c, Clo (fun r => (m r).isSome = true) v := by
  unfold cellsAt at h
  split at h
  · rename_i e c' hm
    simp only [Option.some.injEq] at h; subst h
    exact rep.clo b _ hm
  · rename_i c' hm
    simp only [Option.some.injEq] at h; subst h
    exact rep.clo b _ hm
  · cases h

theorem rowAt_cells {e : TypeId} {b : Nat} {c : List Value} (h : rowAt m e b = some c) : cellsAt m b = some c := by
  unfold rowAt at h
  unfold cellsAt
  split at h
  · split at h <;> simp_all
  · simp_all
  · cases h

theorem rowAt_cap (rep : Rep P nG ρ m w) {e : TypeId} (he : szOf P e = some 1) {b : Nat} {c : List Value} (h : rowAt m e b = some c) : c.length ≤ ρ.cap b := by
  unfold rowAt at h
  split at h
  · rename_i e' c' hm
    split at h
    · rename_i hee
      simp only [Option.some.injEq] at h; subst h
      obtain ⟨h0, junk, hh, hl⟩ := rep.obj b _ hm
      rw [hee, cellsOf_sz he] at hl
      omega
    · cases h
  · rename_i c' hm
    simp only [Option.some.injEq] at h; subst h
    exact (rep.obj b _ hm).2
  · cases h

theorem load_sound (rep : Rep P nG ρ m w) {t : TypeId} {ag : Bool} {n : Nat} (hag : aggOf P t = some ag) (hn : szOf P t = some n) {b o : Nat} {c : List Value}
    (hc : cellsAt m b = some c) {v : Value} (hv : cut ag n o c = some v) : (loadVar t ⟨ρ.blk b, ρ.off b + o, none⟩).run P w = .ok (ren ρ v) w := by
  unfold loadVar
  rw [Sem.run_bind, run_ag hag]
  unfold cut at hv
  cases ag
  · simp only [Bool.false_eq_true, if_false] at hv
    simp only [Result.andThen_ok, Bool.false_eq_true, if_false, run_load, cell_at rep hc hv]
  · simp only [if_true] at hv
    split at hv
    · rename_i hl
      simp only [Option.some.injEq] at hv; subst hv
      simp only [Result.andThen_ok, if_true, Sem.run_bind, run_sz hn]
      have key := run_loadCells_list (P := P) w ⟨ρ.blk b, ρ.off b + o, none⟩ (((c.drop o).take n).map (ren ρ)) (by
        intro j u hu
        rw [Addr.add_mid]
        rw [List.getElem?_map] at hu
        cases hq : ((c.drop o).take n)[j]? with
        | none => simp [hq] at hu
        | some u' =>
          simp only [hq, Option.map_some, Option.some.injEq] at hu
          subst hu
          have : c[o + j]? = some u' := by
            have h2 := hq
            rw [List.getElem?_take] at h2
            split at h2
            · rwa [List.getElem?_drop] at h2
            · cases h2
          rw [Nat.add_assoc]
          exact cell_at rep hc this)
      rw [List.length_map, hl] at key
      rw [key]
      simp [ren_agg]
    · cases hv

theorem run_checkKey_int {t : TypeId} {k : IntKind} (h : P.underlying t = some (.int k)) (e : Bool) (k' : IntKind) (n : Int) (w : World) :
    (Instr.checkKey e 10000 t (.int k' n)).run P w = .ok () w := by
  show (Instr.checkKey e (9999 + 1) t (.int k' n)).run P w = .ok () w
  generalize 9999 = d
  unfold Instr.checkKey
  rw [Sem.run_bind, run_underlying h]
  rfl

theorem intKey_spec {t : TypeId} (h : intKey P t = true) : P.underlying t = some (.int .i64) := by
  unfold intKey at h
  split at h
  · assumption
  · cases h

/-- Which entry it is, of those with this key. -/
def idxM (k : Int) : List (Int × Value) → Option Nat
  | [] => none
  | (j, _) :: es => if k == j then some 0 else (idxM k es).map (· + 1)

theorem findNow_int (k : Int) : ∀ (ents : List MapEntry) (es : List (Int × Value)) (i : Nat),
    ents.map (fun x => (x.key, x.val)) = es.map (fun x => (Value.int .i64 x.1, ren ρ x.2)) →
    Instr.findNow (.int .i64) (.int .i64 k) ents i = some (match idxM k es, findM k es with | some j, some v => some (i + j, ren ρ v) | _, _ => none)
  | [], [], i, _ => by simp [Instr.findNow, idxM]
  | [], x :: es, i, h => by simp at h
  | x :: ents, [], i, h => by simp at h
  | x :: ents, (j, v) :: es, i, h => by
    simp only [List.map_cons, List.cons.injEq, Prod.mk.injEq] at h
    obtain ⟨⟨h1, h2⟩, h3⟩ := h
    simp only [Instr.findNow, Instr.sameNow, h1, if_true]
    by_cases hk : (k == j) = true
    · simp [hk, idxM, findM, h2]
    · simp only [hk, idxM, findM, Bool.false_eq_true, if_false]
      rw [findNow_int k ents es (i + 1) h3]
      cases idxM k es <;> cases findM k es <;> simp [Nat.add_assoc, Nat.add_comm 1]

theorem idx_find (k : Int) : ∀ (es : List (Int × Value)), (idxM k es).isSome = (findM k es).isSome
  | [] => rfl
  | (j, v) :: es => by
    simp only [idxM, findM]
    split
    · rfl
    · simp [idx_find k es]

theorem findKey_run {t : TypeId} (ht : P.underlying t = some (.int .i64)) (k : Int) {ents : List MapEntry} {es : List (Int × Value)}
    (h : ents.map (fun x => (x.key, x.val)) = es.map (fun x => (Value.int .i64 x.1, ren ρ x.2))) (w : World) :
    (Instr.findKey t (.int .i64 k) ents).run P w = .ok (match idxM k es, findM k es with | some j, some v => some (j, ren ρ v) | _, _ => none) w := by
  unfold Instr.findKey
  rw [Sem.run_bind, run_underlying ht, Result.andThen_ok, findNow_int k ents es 0 h]
  simp

theorem bound_run {x : Value} {k : IntKind} {i : Int} {n y : Nat} (hx : x = .int k i) (h0 : 0 ≤ i) (hi : i.toNat = n) (hn : n ≤ y) (code : BoundsCode) (w : World) :
    (Instr.sliceBound x y code).run P w = .ok n w := by
  subst hx
  unfold Instr.sliceBound
  simp only [asIntOf, Sem.run_bind, Sem.run_pure, Result.andThen_ok]
  rw [if_pos ⟨h0, by omega⟩, Sem.run_pure, hi]

theorem clo_read {io : IOp} {v : Value} (rep : Rep P nG ρ m w) (hv : ∀ u ∈ io.vals R, Clo (fun r => (m r).isSome = true) u) (he : evRead R m io = some v) :
    Clo (fun r => (m r).isSome = true) v := by
  cases io <;> simp only [evRead, reduceCtorEq] at he
  case load ag n x =>
    split at he
    · split at he
      · rename_i hc; exact clo_cut (clo_cellsAt rep hc) he
      · cases he
    · cases he
  case slice e x lo hi mx =>
    have hx := hv (x.ev R) (by simp [IOp.vals])
    unfold evSlice at he
    split at he
    · rename_i ad len k l k' h hq _ _ _
      rw [hq] at hx; simp only [Clo] at hx
      unfold cutS at he
      split at he
      · split at he
        · simp only [Option.some.injEq] at he; subst he; simp [Clo, hx.1]
        · cases he
      · cases he
    · rename_i ad len k' h hq _ _ _
      rw [hq] at hx; simp only [Clo] at hx
      unfold cutS at he
      split at he
      · split at he
        · simp only [Option.some.injEq] at he; subst he; simp [Clo, hx.1]
        · cases he
      · cases he
    · simp only [Option.some.injEq] at he; subst he; simp [Clo]
    · rename_i ad len k k' hq _ _ _
      rw [hq] at hx; simp only [Clo] at hx
      simp only [Option.some.injEq] at he; subst he; simp [Clo, hx]
    · cases he
  case lookup z ok mp k =>
    have hz := hv z (by simp [IOp.vals])
    split at he
    · simp only [Option.some.injEq] at he; subst he; split <;> simp [Clo, CloA, CloL, hz]
    · split at he
      · rename_i es hm
        split at he
        · rename_i u hu
          have hcu : Clo (fun r => (m r).isSome = true) u := by
            have hh := rep.clo _ _ hm
            simp only [AObj.Clo] at hh
            clear hm he
            induction es with
            | nil => simp [findM] at hu
            | cons x es ih =>
              obtain ⟨j, u'⟩ := x
              simp only [findM] at hu
              split at hu
              · simp only [Option.some.injEq] at hu; subst hu; exact hh (j, u') (by simp)
              · exact ih hu (fun x hx => hh x (by simp [hx]))
          simp only [Option.some.injEq] at he; subst he; split <;> simp [Clo, CloA, CloL, hcu]
        · simp only [Option.some.injEq] at he; subst he; split <;> simp [Clo, CloA, CloL, hz]
      · cases he
    · cases he
  case lenM x =>
    split at he
    · simp only [Option.some.injEq] at he; subst he; simp [Clo]
    · split at he
      · simp only [Option.some.injEq] at he; subst he; simp [Clo]
      · cases he
    · cases he

set_option maxHeartbeats 1000000 in
theorem read_sound {o : Oper} {io : IOp} {v : Value} (hc : cOp P nG Q o.op = some io) (he : evRead R m io = some v) (rep : Rep P nG ρ m w)
    (ha : a.tmps = (R.map (ren ρ)).toArray) : (execOp a.eval o).run P w = .ok (.value (ren ρ v)) w := by
  have hg : ∀ g, g < nG → ρ.blk g = g ∧ ρ.off g = 0 := fun g h => ⟨(rep.glob g h).1, (rep.glob g h).2.1⟩
  unfold execOp
  cases hop : o.op <;> rw [hop] at hc <;> simp only [cOp] at hc
  case load t x =>
    split at hc
    · rename_i ag n x' h1 h2 h3
      simp only [Option.some.injEq] at hc; subst hc
      simp only [evRead] at he
      simp only [iv_sound ha hg h3]
      split at he
      · rename_i ad hq
        split at he
        · rename_i c hcs
          simp [hq, ren, Instr.loadAt, Instr.sureAddr, renA, load_sound rep h1 h2 hcs he]
        · cases he
      · cases he
    · cases hc
  case slice t x lo hi mx =>
    split at hc
    · rename_i e x' lo' hi' mx' h1 h2 h3 h4 h5
      split at hc
      · rename_i hsz
        simp only [Option.some.injEq] at hc; subst hc
        simp only [evRead] at he
        simp only [iv_sound ha hg h2]
        have opt {z : Option Operand} {z' : Option IV} (h : cOpt nG z = some z') : z'.map (fun y => ren ρ (y.ev R)) = z.map a.eval := by
          unfold cOpt at h
          split at h
          · simp only [Option.some.injEq] at h; subst h; rfl
          · obtain ⟨y, hy, rfl⟩ := Option.map_eq_some_iff.1 h; simp [iv_sound ha hg hy]
        have val {z : Option Operand} {z' : Option IV} {k : IntKind} {n : Int} (h : cOpt nG z = some z') (hz : z'.map (IV.ev R) = some (.int k n)) : z.map a.eval = some (.int k n) := by
          rw [← opt h]
          cases z' with
          | none => cases hz
          | some y => simp only [Option.map_some, Option.some.injEq] at hz ⊢; rw [hz, ren_int]
        have non {z : Option Operand} {z' : Option IV} (h : cOpt nG z = some z') (hz : z'.map (IV.ev R) = none) : z.map a.eval = none := by
          rw [← opt h]
          cases z' with
          | none => rfl
          | some y => cases hz
        have main : ∀ (ad : Addr) (len : Nat) (l h : Int) (k' : IntKind), x'.ev R = .slice (some ad) len 0 → hi.map a.eval = some (.int k' h) → mx.map a.eval = none →
            (lo.map a.eval = none ∧ l = 0 ∨ ∃ k, lo.map a.eval = some (.int k l)) → cutS m e ad len l h = some v →
            (do let __do_lift ← Instr.sliceAt t (ren ρ (x'.ev R)) (lo.map a.eval) (hi.map a.eval) (mx.map a.eval); pure (Next.value __do_lift) : Sem Next).run P w = .ok (.value (ren ρ v)) w := by
          intro ad len l h k' hq hh hm hl he
          unfold cutS at he
          split at he
          · rename_i c hrow
            split at he
            · rename_i hb
              obtain ⟨hb0, hb1, hb2, hb3, hb4⟩ := hb
              simp only [Option.some.injEq] at he; subst he
              have hcap := rowAt_cap rep hsz hrow
              have hl0 : (if ρ.cap ad.block - ad.off = l.toNat then some (renA ρ ad) else (some (renA ρ ad)).map (·.add (l.toNat * 1))) = some (renA ρ ⟨ad.block, ad.off + l.toNat, none⟩) := by
                split
                · have : l.toNat = 0 := by omega
                  rw [this]; simp [renA]
                · simp [renA_add]
              have hbh : (Instr.sliceBound (.int k' h) (ρ.cap ad.block - ad.off) .sliceAcap).run P w = .ok h.toNat w := bound_run rfl (by omega) rfl (by omega) _ w
              rw [hh, hm, hq]
              simp only [ren, Instr.sliceAt, Sem.run_bind, run_underlying h1, Result.andThen_ok, if_true]
              unfold Instr.slice Instr.sliceBounds
              rcases hl with ⟨hl, rfl⟩ | ⟨k, hl⟩
              · rw [hl]
                simp only [Int.toNat_zero] at hl0
                simp only [Option.isSome_none, if_true, Sem.run_bind, run_underlying h1, Result.andThen_ok, Sem.run_pure, hbh, run_sz hsz, Int.toNat_zero, hl0]
                simp [Nat.sub_sub]
              · rw [hl]
                have hbl : (Instr.sliceBound (.int k l) h.toNat .sliceB).run P w = .ok l.toNat w := bound_run rfl hb1 rfl (by omega) _ w
                simp only [Option.isSome_none, if_true, Sem.run_bind, run_underlying h1, Result.andThen_ok, Sem.run_pure, hbh, hbl, run_sz hsz, hl0, Bool.false_eq_true, if_false]
                simp [Nat.sub_sub]
            · cases he
          · cases he
        unfold evSlice at he
        split at he
        · rename_i ad len k l k' h hq hl hh hm
          exact main ad len l h k' hq (val h4 hh) (non h5 hm) (.inr ⟨k, val h3 hl⟩) he
        · rename_i ad len k' h hq hl hh hm
          exact main ad len 0 h k' hq (val h4 hh) (non h5 hm) (.inl ⟨non h3 hl, rfl⟩) he
        · rename_i k k' hq hl hh hm
          simp only [Option.some.injEq] at he; subst he
          rw [non h3 hl, val h4 hh, val h5 hm, hq]
          have b1 : (Instr.sliceBound (.int k 0) 0 .slice3B).run P w = .ok 0 w := bound_run rfl (Int.le_refl 0) rfl (Nat.le_refl 0) _ w
          have b2 : ∀ y, (Instr.sliceBound (.int k' 0) y .slice3Acap).run P w = .ok 0 w := fun y => bound_run rfl (Int.le_refl 0) rfl (Nat.zero_le _) _ w
          simp only [ren, Instr.sliceAt, Sem.run_bind, run_underlying h1, Result.andThen_ok]
          unfold Instr.slice Instr.sliceBounds
          simp only [if_true, Sem.run_bind, run_underlying h1, Result.andThen_ok, Sem.run_pure, run_sz hsz, b1, b2]
        · rename_i ad len k k' hq hl hh hm
          simp only [Option.some.injEq] at he; subst he
          rw [non h3 hl, val h4 hh, val h5 hm, hq]
          have b1 : (Instr.sliceBound (.int k 0) 0 .slice3B).run P w = .ok 0 w := bound_run rfl (Int.le_refl 0) rfl (Nat.le_refl 0) _ w
          have b2 : ∀ y, (Instr.sliceBound (.int k' 0) y .slice3Acap).run P w = .ok 0 w := fun y => bound_run rfl (Int.le_refl 0) rfl (Nat.zero_le _) _ w
          simp only [ren, Instr.sliceAt, Sem.run_bind, run_underlying h1, Result.andThen_ok, if_true]
          unfold Instr.slice Instr.sliceBounds
          simp only [if_true, Sem.run_bind, run_underlying h1, Result.andThen_ok, Sem.run_pure, run_sz hsz, b1, b2]
          simp
        · cases he
      · cases hc
    · cases hc
  case lookup t x i ok =>
    split at hc
    · rename_i key e x' i' h1 h2 h3
      split at hc
      · rename_i z hz
        split at hc
        · rename_i hk
          have hkey := intKey_spec hk.1
          simp only [Option.some.injEq] at hc; subst hc
          simp only [evRead] at he
          simp only [iv_sound ha hg h2, iv_sound ha hg h3]
          split at he
          · rename_i k hq hj
            simp only [Option.some.injEq] at he; subst he
            simp only [hq, hj, ren, Instr.lookup, Sem.run_bind, run_underlying h1, Result.andThen_ok, Sem.run_pure, run_checkKey_int hkey,
              findKey_run (ρ := ρ) hkey k (ents := []) (es := []) rfl, idxM, findM, run_zero hz]
            cases ok <;> simp [ren_tuple, ren_bool, ren_of_zero hk.2]
          · rename_i r k hq hj
            split at he
            · rename_i es hm
              obtain ⟨ents, clock, hh, hes⟩ := rep.obj r _ hm
              have hget : (getObj (ρ.blk r)).run P w = .ok (.map ents clock) w := by simp [getObj, Sem.run, hh]
              simp only [hq, hj, ren, Instr.lookup, Sem.run_bind, run_underlying h1, Result.andThen_ok, Sem.run_pure, hget, run_checkKey_int hkey,
                findKey_run (ρ := ρ) hkey k hes]
              have hif := idx_find k es
              split at he
              · rename_i u hu
                simp only [Option.some.injEq] at he; subst he
                cases hi : idxM k es with
                | none => simp [hu, hi] at hif
                | some j => cases ok <;> simp [hu, ren_tuple, ren_bool]
              · rename_i hu
                simp only [Option.some.injEq] at he; subst he
                cases hi : idxM k es with
                | some j => simp [hu, hi] at hif
                | none => cases ok <;> simp [run_zero hz, ren_tuple, ren_bool, ren_of_zero hk.2]
            · cases he
          · cases he
        · cases hc
      · cases hc
    · cases hc
  case call c =>
    split at hc
    · split at hc
      · simp only [Option.some.injEq] at hc; subst hc; simp [evRead] at he
      · cases hc
    · rename_i b hcal
      simp only [resolve, hcal, Sem.run_bind, Sem.run_pure, Result.andThen_ok, invoke, builtin]
      unfold cBuiltin at hc
      split at hc
      · rename_i x hargs
        have hx0 : c.args = #[x] := Array.ext' (by simpa using hargs)
        split at hc
        · simp only [Option.some.injEq] at hc; subst hc; simp [evRead] at he
        · rename_i k e y h1 h2
          simp only [Option.some.injEq] at hc; subst hc
          simp only [evRead] at he
          cases ht : c.argTypes[0]? with
          | none => simp [ht] at h1
          | some t =>
            simp only [ht, Option.bind_some] at h1
            split at he
            · rename_i hq
              simp only [Option.some.injEq] at he; subst he
              simp [hx0, iv_sound ha hg h2, hq, ren, Builtin.len_, ht, run_underlying h1, goInt]
            · rename_i r hq
              split at he
              · rename_i es hm
                simp only [Option.some.injEq] at he; subst he
                obtain ⟨ents, clock, hh, hes⟩ := rep.obj r _ hm
                have hget : (getObj (ρ.blk r)).run P w = .ok (.map ents clock) w := by simp [getObj, Sem.run, hh]
                have hlen : ents.size = es.length := by have := congrArg List.length hes; simpa using this
                simp [hx0, iv_sound ha hg h2, hq, ren, Builtin.len_, ht, run_underlying h1, goInt, hget, hlen]
              · cases he
            · cases he
        · simp only [Option.some.injEq] at hc; subst hc; simp [evRead] at he
        · cases hc
      · split at hc
        · split at hc
          · simp only [Option.some.injEq] at hc; subst hc; simp [evRead] at he
          · cases hc
        · cases hc
      · split at hc
        · simp only [Option.some.injEq] at hc; subst hc; simp [evRead] at he
        · cases hc
      · split at hc
        · simp only [Option.some.injEq] at hc; subst hc; simp [evRead] at he
        · cases hc
      · split at hc
        · split at hc
          · simp only [Option.some.injEq] at hc; subst hc; simp [evRead] at he
          · cases hc
        · cases hc
      · cases hc
    · cases hc
  case alloc => obtain ⟨y, hy, rfl⟩ := Option.map_eq_some_iff.1 hc; simp [evRead] at he
  case move => obtain ⟨y, hy, rfl⟩ := Option.map_eq_some_iff.1 hc; simp [evRead] at he
  case assign => obtain ⟨y, hy, rfl⟩ := Option.map_eq_some_iff.1 hc; simp [evRead] at he
  case nilCheck => obtain ⟨y, hy, rfl⟩ := Option.map_eq_some_iff.1 hc; simp [evRead] at he
  case unOp => obtain ⟨y, hy, rfl⟩ := Option.map_eq_some_iff.1 hc; simp [evRead] at he
  case extract => obtain ⟨y, hy, rfl⟩ := Option.map_eq_some_iff.1 hc; simp [evRead] at he
  case makeMap t r => cases r <;> simp at hc; subst hc; simp [evRead] at he
  case makeFunc fn f c =>
    cases fn <;> simp at hc
    split at hc
    · simp only [Option.some.injEq] at hc; subst hc; simp [evRead] at he
    · cases hc
  all_goals (first
    | (cases hc; done)
    | (split at hc <;> first | (cases hc; done) | (simp only [Option.some.injEq] at hc; subst hc; simp [evRead] at he; done) | (obtain ⟨y, hy, rfl⟩ := Option.map_eq_some_iff.1 hc; simp [evRead] at he; done) |
        (split at hc <;> first | (cases hc; done) | (simp only [Option.some.injEq] at hc; subst hc; simp [evRead] at he; done) | (obtain ⟨y, hy, rfl⟩ := Option.map_eq_some_iff.1 hc; simp [evRead] at he; done) |
          (split at hc <;> first | (cases hc; done) | (simp only [Option.some.injEq] at hc; subst hc; simp [evRead] at he; done) | (obtain ⟨y, hy, rfl⟩ := Option.map_eq_some_iff.1 hc; simp [evRead] at he; done)))))

end
end Go.Proofs.YtepddcemoofmlaaGreat.AE
