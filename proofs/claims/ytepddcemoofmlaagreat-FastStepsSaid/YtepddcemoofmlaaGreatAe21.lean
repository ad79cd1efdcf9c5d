/- A call: its results, what it leaves, and all calls. -/
import Derived.Test.YtepddcemoofmlaaGreatAe20
namespace Go.Proofs.YtepddcemoofmlaaGreat.AE
set_option linter.unusedSimpArgs false
set_option linter.unusedVariables false
open Go

section
variable {P : Program} {nG : Nat} {Q : FuncId → Bool} {C : CallS} {ρ : Rho} {a : Act} {R : List Value} {S : St} {w : World}

def oneRes (tmps : Array Value) : ResultVar → Sem Value
  | .tmp t => pure (tmps.getD t undef)
  | .cell a t => do loadVar t (← asAddr (tmps.getD a undef))

theorem results_eq (fn : Func) (tmps : Array Value) : results fn tmps = (do
    let vs ← fn.results.mapM (oneRes tmps)
    pure (if h : vs.size = 1 then vs[0] else .tuple vs)) := by
  unfold results
  congr 1

theorem getD_ren (ha : a.tmps = (R.map (ren ρ)).toArray) (t : Nat) : a.tmps.getD t undef = ren ρ (R.getD t undef) := by
  rw [ha, List.getD_eq_getElem?_getD]
  simp only [Array.getD_eq_getD_getElem?, List.getElem?_toArray, List.getElem?_map]
  cases R[t]? <;> simp [ren_undef]

theorem oneRes_sound (rep : Rep P nG ρ S.m w) (ha : a.tmps = (R.map (ren ρ)).toArray) {r : ResultVar} {ir : IRes} (hc : cRes P r = some ir) {v : Value}
    (he : evRes1 R S ir = some v) : (oneRes a.tmps r).run P w = .ok (ren ρ v) w := by
  cases r with
  | tmp t =>
    simp only [cRes, Option.some.injEq] at hc; subst hc
    simp only [evRes1, Option.some.injEq] at he; subst he
    simp only [oneRes, Sem.run_pure, getD_ren ha]
  | cell t ty =>
    simp only [cRes] at hc
    split at hc
    · rename_i g n h1 h2
      simp only [Option.some.injEq] at hc; subst hc
      simp only [evRes1] at he
      split at he
      · rename_i ad hq
        split at he
        · rename_i c hcs
          simp only [oneRes, getD_ren ha, hq, ren, asAddr, Sem.run_bind, Sem.run_pure, Result.andThen_ok, renA]
          exact load_sound rep h1 h2 hcs he
        · cases he
      · cases he
    · cases hc

theorem clo_res1 (rep : Rep P nG ρ S.m w) (hR : ∀ v ∈ R, Clo (fun r => (S.m r).isSome = true) v) {ir : IRes} {v : Value}
    (he : evRes1 R S ir = some v) : Clo (fun r => (S.m r).isSome = true) v := by
  have hget : ∀ t, Clo (fun r => (S.m r).isSome = true) (R.getD t undef) := by
    intro t
    rw [List.getD_eq_getElem?_getD]
    cases h : R[t]? with
    | none => simp [undef, Clo, CloA, CloL]
    | some u => exact hR u (List.mem_of_getElem? h)
  cases ir with
  | tmp t =>
    simp only [evRes1, Option.some.injEq] at he; subst he
    exact hget t
  | cell t g n =>
    simp only [evRes1] at he
    split at he
    · rename_i ad hq
      split at he
      · rename_i c hcs
        exact clo_cut (clo_cellsAt rep hcs) he
      · cases he
    · cases he

theorem resL_sound (rep : Rep P nG ρ S.m w) (ha : a.tmps = (R.map (ren ρ)).toArray) (hR : ∀ v ∈ R, Clo (fun r => (S.m r).isSome = true) v) :
    ∀ {l : List ResultVar} {il : List IRes} {vs : List Value}, cResL P l = some il → evResL R S il = some vs →
      (l.mapM (oneRes a.tmps)).run P w = .ok (vs.map (ren ρ)) w ∧ ∀ v ∈ vs, Clo (fun r => (S.m r).isSome = true) v
  | [], il, vs, hc, he => by
    simp only [cResL, Option.some.injEq] at hc; subst hc
    simp only [evResL, Option.some.injEq] at he; subst he
    simp
  | r :: l, il, vs, hc, he => by
    simp only [cResL] at hc
    split at hc
    · rename_i x y hx hy
      simp only [Option.some.injEq] at hc; subst hc
      simp only [evResL] at he
      split at he
      · rename_i v hv
        obtain ⟨us, hus, rfl⟩ := Option.map_eq_some_iff.1 he
        obtain ⟨i1, i2⟩ := resL_sound rep ha hR hy hus
        refine ⟨?_, ?_⟩
        · simp only [List.mapM_cons, Sem.run_bind, oneRes_sound rep ha hx hv, Result.andThen_ok, i1, Sem.run_pure, List.map_cons]
        · intro u hu
          simp only [List.mem_cons] at hu
          rcases hu with rfl | hu
          · exact clo_res1 rep hR hv
          · exact i2 u hu
      · cases he
    · cases hc

theorem res_sound (rep : Rep P nG ρ S.m w) (ha : a.tmps = (R.map (ren ρ)).toArray) (hR : ∀ v ∈ R, Clo (fun r => (S.m r).isSome = true) v)
    {fn : Func} {il : List IRes} {v : Value} (hc : cResL P fn.results.toList = some il) (he : evRes R S il = some v) :
    (results fn a.tmps).run P w = .ok (ren ρ v) w ∧ Clo (fun r => (S.m r).isSome = true) v := by
  rw [results_eq, Array.mapM_eq_mapM_toList]
  simp only [evRes] at he
  split at he
  · rename_i u hu
    simp only [Option.some.injEq] at he; subst he
    obtain ⟨h1, h2⟩ := resL_sound rep ha hR hc hu
    refine ⟨?_, h2 _ (by simp)⟩
    simp [h1, Sem.run_bind]
  · rename_i us hno hu
    simp only [Option.some.injEq] at he; subst he
    obtain ⟨h1, h2⟩ := resL_sound rep ha hR hc hu
    refine ⟨?_, ?_⟩
    · simp only [Sem.run_bind, Sem.run_map, h1, Result.andThen_ok, Sem.run_pure]
      have hlen : (us.map (ren ρ)).toArray.size ≠ 1 := by
        intro hl
        simp only [List.size_toArray, List.length_map] at hl
        obtain ⟨u, rfl⟩ := List.length_eq_one_iff.1 hl
        exact hno u rfl
      rw [dif_neg hlen, ren_tuple]
      simp
    · simp only [Clo]
      exact cloA_iff.2 fun u hu' => h2 u (by simpa using hu')
  · cases he

/-! ### What a call leaves -/
theorem leave_ok {S1 : St} {v : Value} {ρ1 : Rho} {w1 : World} {v' : Value} {S' : St} {q : Bool} (rep : Rep P nG ρ S.m w) (ev : Evo ⟨S.blks, S.blks.length, S.blks.length⟩ S1)
    (rep1 : Rep P nG ρ1 S1.m w1) (hx : Ext ρ S.m w ρ1 S1.m w1) (hv : Clo (fun r => (S1.m r).isSome = true) v) (h : leave S S1 v = (v', S', q)) :
    v' = v ∧ Rep P nG ρ1 S'.m w1 ∧ Ext ρ S.m w ρ1 S'.m w1 ∧ Clo (fun r => (S'.m r).isSome = true) v := by
  have hl : ∀ b, b < S.blks.length ↔ (S.m b).isSome = true := fun b => by simp [St.m]
  unfold leave at h
  dsimp only at h
  split at h
  · rename_i hc
    simp only [Bool.and_eq_true, decide_eq_true_eq] at hc
    simp only [Prod.mk.injEq] at h
    obtain ⟨rfl, rfl, rfl⟩ := h
    have hsub : ∀ b o, S.m b = some o → S1.m b = some o := by
      intro b o hb
      have hlt := (List.getElem?_eq_some_iff.1 hb).1
      rw [← hb]; exact ev.same b hlt (by omega)
    refine ⟨rfl, restrict_rep rep1 hsub rep.clo fun g hg => (rep.glob g hg).2.2, ⟨hx.os, hx.tape, hx.output, hx.size, hx.agree, hx.frame, fun b o hb ho => hx.orig b o (hsub b o hb) ho, fun _ h => h⟩, ?_⟩
    exact ((refsLt_iff _ _).1 hc.2).mono fun b hb => (hl b).1 hb
  · split at h
    · rename_i hc
      simp only [Bool.and_eq_true, decide_eq_true_eq] at hc
      simp only [Prod.mk.injEq] at h
      obtain ⟨rfl, rfl, rfl⟩ := h
      have hlen := ev.len
      dsimp only at hlen
      have hm : ∀ b, b < S.blks.length → (S1.blks.take S.blks.length)[b]? = S1.blks[b]? := fun b hb => by rw [List.getElem?_take_of_lt hb]
      have hlt : ∀ b o, (S1.blks.take S.blks.length)[b]? = some o → b < S.blks.length := by
        intro b o hb
        have := (List.getElem?_eq_some_iff.1 hb).1
        simp only [List.length_take] at this
        omega
      have hdom : ∀ b, b < S.blks.length → ((S1.blks.take S.blks.length)[b]?).isSome = true := fun b hb => by
        rw [hm b hb]; simp; omega
      have hsub : ∀ b o, (S1.blks.take S.blks.length)[b]? = some o → S1.m b = some o := by
        intro b o hb
        rw [hm b (hlt b o hb)] at hb; exact hb
      refine ⟨rfl, restrict_rep rep1 hsub ?_ fun g hg => hdom g ((hl g).2 (rep.glob g hg).2.2), ⟨hx.os, hx.tape, hx.output, hx.size, hx.agree, hx.frame, fun b o hb ho => hx.orig b o (hsub b o hb) ho, fun b hb => hdom b ((hl b).2 hb)⟩, ?_⟩
      · intro b o hb
        have hcl := ev.refs S.blks.length (Nat.le_refl _) hc.1 (fun b' o' hb' ho' => by
          have := rep.clo b' o' ho'
          cases o' with
          | cells e c => exact fun u hu => (this u hu).mono fun r hr => (hl r).2 hr
          | view c => exact fun u hu => (this u hu).mono fun r hr => (hl r).2 hr
          | amap es => exact fun u hu => (this u hu).mono fun r hr => (hl r).2 hr
          | dead => trivial) b o (hlt b o hb) (hsub b o hb)
        cases o with
        | cells e c => exact fun u hu => (hcl u hu).mono fun r hr => hdom r hr
        | view c => exact fun u hu => (hcl u hu).mono fun r hr => hdom r hr
        | amap es => exact fun u hu => (hcl u hu).mono fun r hr => hdom r hr
        | dead => trivial
      · exact ((refsLt_iff _ _).1 hc.2).mono fun b hb => hdom b hb
    · simp only [Prod.mk.injEq] at h
      obtain ⟨rfl, rfl, rfl⟩ := h
      exact ⟨rfl, rep1, hx, hv⟩

theorem leave_evo {S1 : St} {v v' : Value} {S' : St} {q : Bool} (ev : Evo ⟨S.blks, S.blks.length, S.blks.length⟩ S1) (h : leave S S1 v = (v', S', q)) :
    Evo S S' ∧ (q = true → ∀ b, b < S.blks.length → S'.blks[b]? = S.blks[b]?) := by
  have hlen := ev.len
  dsimp only at hlen
  unfold leave at h
  dsimp only at h
  split at h
  · simp only [Prod.mk.injEq] at h
    obtain ⟨rfl, rfl, rfl⟩ := h
    exact ⟨Evo.refl _, fun _ _ _ => rfl⟩
  · split at h
    · simp only [Prod.mk.injEq] at h
      obtain ⟨rfl, rfl, rfl⟩ := h
      have hm : ∀ b, b < S.blks.length → (S1.blks.take S.blks.length)[b]? = S1.blks[b]? := fun b hb => by rw [List.getElem?_take_of_lt hb]
      refine ⟨⟨by simp; omega, Nat.min_le_left _ _, Nat.min_le_left _ _, fun b hb hw => ?_, fun n hn he hA b o hb hbo => ?_⟩, by simp⟩
      · rw [hm b hb]; exact ev.same b hb (by simp only at hw; omega)
      · rw [hm b (by omega)] at hbo
        exact ev.refs n hn (by simp only at he; omega) hA b o hb hbo
    · simp only [Prod.mk.injEq] at h
      obtain ⟨rfl, rfl, rfl⟩ := h
      refine ⟨⟨hlen, Nat.min_le_left _ _, Nat.min_le_left _ _, fun b hb hw => ?_, fun n hn he hA b o hb hbo => ?_⟩, fun hq b hb => ?_⟩
      · exact ev.same b hb (by simp only at hw; omega)
      · exact ev.refs n hn (by simp only at he; omega) hA b o hb hbo
      · exact ev.same b hb (by have : S.blks.length ≤ S1.wr := by simpa using hq
                               omega)

/-- The compact form stands for the program's functions. -/
def Stands (P : Program) (nG : Nat) (Q : FuncId → Bool) (prog : Nat → Option IFun) : Prop :=
  ∀ f fn, prog f = some fn → ∃ func, P.funcs[f]? = some func ∧ cFun P nG Q func = some fn

theorem evFun_ok {prog : Nat → Option IFun} (hp : Stands P nG Q prog) (hm : P.follows .mixedOrders = true) (hC : CallOK P nG C) : CallOK P nG (evFun prog C) := by
  have key : ∀ f args S v S' q, evFun prog C f args S = some (v, S', q) → ∃ fn e R S1 v1, prog f = some fn ∧ (e = .norm ∨ e = .ret) ∧
      evCode C fn.body (args ++ List.replicate (fn.ntmps - args.length) undef) ⟨S.blks, S.blks.length, S.blks.length⟩ = some (e, R, S1) ∧ evRes R S1 fn.res = some v1 ∧ leave S S1 v1 = (v, S', q) := by
    intro f args S v S' q h
    unfold evFun at h
    split at h
    · cases h
    · rename_i fn hf
      split at h
      · rename_i R S1 hev
        obtain ⟨v1, h1, h2⟩ := Option.map_eq_some_iff.1 h
        exact ⟨fn, .norm, R, S1, v1, hf, .inl rfl, hev, h1, h2⟩
      · rename_i R S1 hev
        obtain ⟨v1, h1, h2⟩ := Option.map_eq_some_iff.1 h
        exact ⟨fn, .ret, R, S1, v1, hf, .inr rfl, hev, h1, h2⟩
      · cases h
  have keyF : ∀ f fn, prog f = some fn → ∃ func b, P.funcs[f]? = some func ∧ func.body = some b ∧ cCode P nG Q b = some fn.body ∧ cResL P func.results.toList = some fn.res ∧ func.name ≠ "runtime.NumGoroutine" ∧ fn.ntmps = func.ntmps := by
    intro f fn hf
    obtain ⟨func, h1, h2⟩ := hp f fn hf
    unfold cFun at h2
    split at h2
    · cases h2
    · rename_i b hb
      split at h2
      · rename_i b' r hb' hr
        split at h2
        · rename_i hn
          simp only [Option.some.injEq] at h2
          subst h2
          exact ⟨func, b, h1, hb, hb', hr, hn, rfl⟩
        · cases h2
      · cases h2
  have dummy : ∀ {R' : List Value} {S1 : St} {e : Out} {c : Code} {ic : ICode}, cCode P nG Q c = some ic → ∀ {R S}, evCode C ic R S = some (e, R', S1) → Evo S S1 := by
    intro R' S1 e c ic hc R S h
    exact (code_sound (ρ0 := ⟨id, fun _ => 0, fun _ => 0⟩) (S0 := S) (w0 := default) hC hm c ic hc _ _ _ _ _ h).1
  refine ⟨?_, ?_, ?_, ?_⟩
  · intro f args S v S' q h
    obtain ⟨fn, e, R, S1, v1, h1, h2, h3, h4, h5⟩ := key f args S v S' q h
    obtain ⟨func, b, g1, g2, g3, g4, g5, g6⟩ := keyF f fn h1
    exact (leave_evo (dummy g3 h3) h5).1
  · intro f args S v S' q h hq
    obtain ⟨fn, e, R, S1, v1, h1, h2, h3, h4, h5⟩ := key f args S v S' q h
    obtain ⟨func, b, g1, g2, g3, g4, g5, g6⟩ := keyF f fn h1
    exact (leave_evo (dummy g3 h3) h5).2 hq
  · intro f args S v S' q h vs w
    obtain ⟨fn, e, R, S1, v1, h1, h2, h3, h4, h5⟩ := key f args S v S' q h
    obtain ⟨func, b, g1, g2, g3, g4, g5, g6⟩ := keyF f fn h1
    simp [callFunc, g1, g5, g2]
  · intro f args S v S' q h ρ w rep hargs
    obtain ⟨fn, e, R, S1, v1, h1, h2, h3, h4, h5⟩ := key f args S v S' q h
    obtain ⟨func, b, g1, g2, g3, g4, g5, g6⟩ := keyF f fn h1
    obtain ⟨ev, hrun⟩ := code_sound (ρ0 := ρ) (S0 := ⟨S.blks, S.blks.length, S.blks.length⟩) (w0 := w) hC hm b fn.body g3 _ _ _ _ _ h3
    refine calls_of_wp g1 g2 (hrun _ w ?_ _ ?_)
    · refine ⟨ρ, ?_, rfl, rep, ?_, Ext.refl _ _ _⟩
      · rw [← g6]
        simp [ren_undef]
      · intro u hu
        simp only [List.mem_append, List.mem_replicate] at hu
        rcases hu with hu | ⟨_, rfl⟩
        · exact hargs u hu
        · simp [undef, Clo, CloA, CloL]
    · intro a' w' hr
      obtain ⟨ρ1, ha, hd, rep1, hR, hx⟩ := hr
      obtain ⟨r1, r2⟩ := res_sound rep1 ha hR g4 h4
      obtain ⟨l1, l2, l3, l4⟩ := leave_ok rep ev rep1 hx r2 h5
      have : a'.defers = [] ∧ ∃ v2, (results func a'.tmps).run P w' = .ok v2 w' ∧ (∃ ρ', (Ending.returned v2) = .returned (ren ρ' v) ∧ Rep P nG ρ' S'.m w' ∧ Ext ρ S.m w ρ' S'.m w' ∧ Clo (fun r => (S'.m r).isSome = true) v) :=
        ⟨hd, _, r1, ρ1, by rw [l1], l2, l3, by rw [l1]; exact l4⟩
      rcases h2 with rfl | rfl <;> exact this

theorem calls_ok {prog : Nat → Option IFun} (hp : Stands P nG Q prog) (hm : P.follows .mixedOrders = true) : ∀ n, CallOK P nG (calls prog n)
  | 0 => by
    refine ⟨?_, ?_, ?_, ?_⟩ <;> intro f args S v S' q h <;> simp [calls] at h
  | n + 1 => evFun_ok hp hm (calls_ok hp hm n)

end
end Go.Proofs.YtepddcemoofmlaaGreat.AE
