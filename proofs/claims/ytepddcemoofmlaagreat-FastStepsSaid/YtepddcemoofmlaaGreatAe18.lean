/- A region whose order is open: the step. -/
import Derived.Test.YtepddcemoofmlaaGreatAe17
namespace Go.Proofs.YtepddcemoofmlaaGreat.AE
open Go

section
variable {P : Program} {nG : Nat} {Q : FuncId → Bool} {C : CallS} {ρ0 : Rho} {S0 : St} {w0 : World}

theorem put_relM {ρ ρ' : Rho} {R : List Value} {m m' : Nat → Option AObj} {a : Act} {w w' : World} {v : Value} (d : Option Tmp) (ha : a.tmps = (R.map (ren ρ)).toArray)
    (hR : ∀ v ∈ R, Clo (fun r => (m r).isSome = true) v) (hx : Ext ρ m w ρ' m' w') (hv : Clo (fun r => (m' r).isSome = true) v) :
    (a.put d (ren ρ' v)).tmps = ((put R d v).map (ren ρ')).toArray ∧ (a.put d (ren ρ' v)).defers = a.defers ∧ ∀ u ∈ put R d v, Clo (fun r => (m' r).isSome = true) u := by
  have e : R.map (ren ρ) = R.map (ren ρ') := (hx.renR hR).symm
  cases d with
  | none => exact ⟨by simp [Act.put, put, ha, e], rfl, fun u hu => hx.clo (hR u hu)⟩
  | some d =>
    refine ⟨?_, rfl, ?_⟩
    · simp [Act.put, put, ha, e, List.map_set]
    · intro u hu
      rcases List.mem_or_eq_of_mem_set hu with hu | hu
      · exact hx.clo (hR u hu)
      · rw [hu]; exact hv

theorem restrict_rep {ρ : Rho} {M m : Nat → Option AObj} {w : World} (rep : Rep P nG ρ M w) (hsub : ∀ b o, m b = some o → M b = some o)
    (hclo : ∀ b o, m b = some o → o.Clo (fun r => (m r).isSome = true)) (hg : ∀ g, g < nG → (m g).isSome = true) : Rep P nG ρ m w :=
  ⟨fun b o h => rep.size b o (hsub b o h), fun b o h => rep.obj b o (hsub b o h), fun b b' o o' h h' => rep.sep b b' o o' (hsub b o h) (hsub b' o' h'), hclo,
    fun g h => ⟨(rep.glob g h).1, (rep.glob g h).2.1, hg g h⟩⟩

/-- What lies beside stays as it was. -/
theorem frame_rep {ρ ρ' : Rho} {M m m' M' : Nat → Option AObj} {w w' : World} {N N' : Nat} (rep : Rep P nG ρ M w) (rep' : Rep P nG ρ' m' w') (hx : Ext ρ m w ρ' m' w')
    (hm : ∀ b o, m b = some o → b < N ∧ M b = some o) (hMN : ∀ b, b < N → M b = m b) (hNN : N ≤ N') (hm' : ∀ b o, m' b = some o → b < N') (hgap : ∀ b, N ≤ b → b < N' → M b = none)
    (hM1 : ∀ b, b < N' → M' b = m' b) (hM2 : ∀ b, N' ≤ b → M' b = M b) :
    ∃ ρ'', (∀ b, b < N' → Agree ρ' ρ'' b) ∧ Rep P nG ρ'' M' w' ∧ Ext ρ M w ρ'' M' w' := by
  let ρ'' : Rho := ⟨fun b => if b < N' then ρ'.blk b else ρ.blk b, fun b => if b < N' then ρ'.off b else ρ.off b, fun b => if b < N' then ρ'.cap b else ρ.cap b⟩
  have a1 : ∀ b, b < N' → Agree ρ' ρ'' b := fun b hb => by simp [Agree, ρ'', hb]
  have a2 : ∀ b, N' ≤ b → Agree ρ ρ'' b := by
    intro b hb
    have : ¬ b < N' := by omega
    simp [Agree, ρ'', this]
  have low : ∀ b, (M b).isSome = true → b < N' → b < N ∧ (m b).isSome = true := by
    intro b hb hlt
    rcases Nat.lt_or_ge b N with h | h
    · exact ⟨h, by rw [← hMN b h]; exact hb⟩
    · rw [hgap b h hlt] at hb; cases hb
  have a3 : ∀ b, (M b).isSome = true → Agree ρ ρ'' b := by
    intro b hb
    rcases Nat.lt_or_ge b N' with h | h
    · obtain ⟨_, h2⟩ := low b hb h
      obtain ⟨c1, c2, c3⟩ := hx.agree b h2
      obtain ⟨d1, d2, d3⟩ := a1 b h
      exact ⟨d1.trans c1, d2.trans c2, d3.trans c3⟩
    · exact a2 b h
  have hdom : ∀ r, (M r).isSome = true → (M' r).isSome = true := by
    intro r hr
    rcases Nat.lt_or_ge r N' with h | h
    · rw [hM1 r h]; exact hx.dom r (low r hr h).2
    · rw [hM2 r h]; exact hr
  have hdom' : ∀ r, (m' r).isSome = true → (M' r).isSome = true := by
    intro r hr
    obtain ⟨o, ho⟩ := Option.isSome_iff_exists.1 hr
    rw [hM1 r (hm' r o ho)]; exact hr
  refine ⟨ρ'', a1, ⟨?_, ?_, ?_, ?_, ?_⟩, ⟨hx.os, hx.tape, hx.output, hx.size, a3, ?_, ?_, hdom⟩⟩
  · intro b o hb
    rcases Nat.lt_or_ge b N' with h | h
    · rw [hM1 b h] at hb; rw [(a1 b h).1]; exact rep'.size b o hb
    · rw [hM2 b h] at hb; rw [(a2 b h).1]; exact Nat.lt_of_lt_of_le (rep.size b o hb) hx.size
  · intro b o hb
    rcases Nat.lt_or_ge b N' with h | h
    · rw [hM1 b h] at hb
      refine (rep'.obj b o hb).carry rfl (a1 b h) ((rep'.clo b o hb).mono fun r hr => ?_)
      obtain ⟨or, hor⟩ := Option.isSome_iff_exists.1 hr
      exact a1 r (hm' r or hor)
    · rw [hM2 b h] at hb
      by_cases hl : o.live = true
      · refine (rep.obj b o hb).carry (hx.frame _ (rep.size b o hb) fun b0 o0 h0 hown => ?_) (a2 b h) ((rep.clo b o hb).mono a3)
        have := hm b0 o0 h0
        exact rep.sep b0 b o0 o this.2 hb hown hl (by omega)
      · cases o <;> simp_all [AObj.live, RepObj]
  · intro b b' o o' hb hb' hown hlive hne
    rcases Nat.lt_or_ge b N' with h | h
    · rw [hM1 b h] at hb
      rcases Nat.lt_or_ge b' N' with h' | h'
      · rw [hM1 b' h'] at hb'
        rw [(a1 b h).1, (a1 b' h').1]; exact rep'.sep b b' o o' hb hb' hown hlive hne
      · rw [hM2 b' h'] at hb'
        rw [(a1 b h).1, (a2 b' h').1]
        rcases hx.orig b o hb (AObj.live_of_own hown) with h1 | ⟨b0, o0, h1, h2, h3, h4⟩
        · have := rep.size b' o' hb'; omega
        · rw [← h4]
          have hb0 := hm b0 o0 h1
          exact rep.sep b0 b' o0 o' hb0.2 hb' (h3 hown) hlive (by omega)
    · rw [hM2 b h] at hb
      rcases Nat.lt_or_ge b' N' with h' | h'
      · rw [hM1 b' h'] at hb'
        rw [(a2 b h).1, (a1 b' h').1]
        rcases hx.orig b' o' hb' hlive with h1 | ⟨b0, o0, h1, h2, h3, h4⟩
        · have := rep.size b o hb; omega
        · rw [← h4]
          have hb0 := hm b0 o0 h1
          exact rep.sep b b0 o o0 hb hb0.2 hown h2 (by omega)
      · rw [hM2 b' h'] at hb'
        rw [(a2 b h).1, (a2 b' h').1]; exact rep.sep b b' o o' hb hb' hown hlive hne
  · intro b o hb
    rcases Nat.lt_or_ge b N' with h | h
    · rw [hM1 b h] at hb; exact (rep'.clo b o hb).mono hdom'
    · rw [hM2 b h] at hb; exact (rep.clo b o hb).mono hdom
  · intro g hg
    obtain ⟨h1, h2, h3⟩ := rep'.glob g hg
    obtain ⟨o, ho⟩ := Option.isSome_iff_exists.1 h3
    obtain ⟨c1, c2, _⟩ := a1 g (hm' g o ho)
    exact ⟨c1.trans h1, c2.trans h2, hdom' g h3⟩
  · intro k hk hno
    exact hx.frame k hk fun b o hb hown => hno b o (hm b o hb).2 hown
  · intro b o hb hlive
    rcases Nat.lt_or_ge b N' with h | h
    · rw [hM1 b h] at hb
      rw [(a1 b h).1]
      rcases hx.orig b o hb hlive with h1 | ⟨b0, o0, h1, h2, h3, h4⟩
      · exact .inl h1
      · exact .inr ⟨b0, o0, (hm b0 o0 h1).2, h2, h3, h4⟩
    · rw [hM2 b h] at hb
      exact .inr ⟨b, o, hb, hlive, id, (a2 b h).1.symm⟩

variable {io : List IOper} {Rs : Nat → List Value} {Ss : Nat → St} {vs : Nat → Value} {Hs : Nat → List (Nat × St)} {X X' : Nat → Bool} {k : Nat} {ik : IOper}

theorem MX_none (ok : Ok P nG C io Rs Ss vs Hs) {j b : Nat} (hj : ¬ b < (Ss j).blks.length) (h : ∀ p, j ≤ p → X p = true → isA io Rs p = true → (Ss p).blks.length ≠ b) : MX io Rs Ss X j b = none := by
  cases hb : MX io Rs Ss X j b with
  | none => rfl
  | some o =>
    rcases MX_cases ok.hC ok.tr hb with ⟨h1, _⟩ | ⟨p, h1, h2, h3, h4, _⟩
    · exact absurd h1 hj
    · exact absurd h4 (h p h1 h2 h3)

set_option maxHeartbeats 1000000 in
theorem draw_step {ops : Array Oper} {x : Nat} {o : Oper} {a : Act} {w : World} {K : Act → World → Prop} {Q' : Exit → Act → World → Prop}
    (ok : Ok P nG C io Rs Ss vs Hs) (hk : io[k]? = some ik) (rd : Rdy io X k) (hX' : ∀ q, X' q = true ↔ (X q = true ∨ q = k))
    (ho : ops[x]? = some o) (hc : cOp P nG Q o.op = some ik.op) (hgu : cGuard ops o.guard = some ik.guard) (hdst : ik.dst = o.dst)
    (st : DState P nG ρ0 S0 w0 io Rs Ss vs X a w) (hK : ∀ a' w', DState P nG ρ0 S0 w0 io Rs Ss vs X' a' w' → K a' w') : wpOp P ops Q' x K a w := by
  obtain ⟨ρ, j, hj, hF, hG, ha, hd, rep, hR, hx⟩ := st
  have hkl := rd.lt
  have hg : ∀ g, g < nG → ρ.blk g = g ∧ ρ.off g = 0 := fun g h => ⟨(rep.glob g h).1, (rep.glob g h).2.1⟩
  have hag := agree_ivs ok hk rd
  have hgw := agree_guard ok hk rd
  have hcl := cop_clo hR (fun g h => (rep.glob g h).2.2) hc
  have hgl : ∀ p, p ≤ io.length → ∀ g, g < nG → ((Ss p).m g).isSome = true := by
    intro p hp g hg
    have h1 := ok.glob g hg
    have h2 := (evo_le ok.hC ok.tr (p := 0) (q := p) (by omega) hp).len
    show ((Ss p).blks[g]?).isSome = true
    rw [List.getElem?_eq_getElem (by omega)]; rfl
  have hlexv := cop_clo (ok.lexr k (by omega)) (hgl k (by omega)) hc
  have hXX : ∀ q, q ≠ k → X' q = X q := fun q hq => by
    have := hX' q
    cases h1 : X' q <;> cases h2 : X q <;> simp_all
  have hXk : X' k = true := (hX' k).2 (.inr rfl)
  -- behind a step that is no call and no write and makes no block
  have quiet : isC io k = false → isA io Rs k = false → ∀ u, u = vs k → Clo (fun r => (MX io Rs Ss X j r).isSome = true) u → K (a.put o.dst (ren ρ u)) w := by
    rintro hcC hcA u rfl hu
    obtain ⟨p1, p2, p3⟩ := put_relM o.dst ha hR (Ext.refl _ _ w) hu
    have hmx : MX io Rs Ss X' j = MX io Rs Ss X j := MX_congr ok.hC ok.tr fun p _ hp => hXX p (by rintro rfl; rw [hcA] at hp; cases hp)
    refine hK _ _ ⟨ρ, j, hj, ?_, ?_, ?_, p2.trans hd, by rw [hmx]; exact rep, ?_, by rw [hmx]; exact hx⟩
    · intro p hp hpc
      rw [hXX p (by rintro rfl; rw [hcC] at hpc; cases hpc)]
      exact hF p hp hpc
    · intro p hp hpa; exact (hX' p).2 (.inl (hG p hp hpa))
    · rw [regs_add hk rd hX', hdst]; exact p1
    · rw [regs_add hk rd hX', hdst, hmx]; exact p3
  unfold wpOp
  simp only [ho]
  cases hw : wantedI ik.guard (Rs k) with
  | false =>
    have hww : Region.wanted o (yielded ops a.tmps) = false := by rw [wanted_sound hgu ha, hgw, hw]
    rw [hww]
    simp only [Bool.false_eq_true, if_false]
    obtain ⟨hv, hS⟩ := ok.tr.no k ik hk hw
    have hA0 : isA io Rs k = false := by simp [isA, hk, hw]
    have cu : Clo (fun r => (MX io Rs Ss X j r).isSome = true) undef := by simp [undef, Clo, CloA, CloL]
    cases hcC : isC io k with
    | false =>
      have := quiet hcC hA0 undef hv.symm cu
      rw [ren_undef] at this
      exact this
    | true =>
      obtain ⟨r1, r2, r3, r4⟩ := rdy_C hk rd hcC hF (Rs := Rs)
      obtain ⟨p1, p2, p3⟩ := put_relM (v := undef) o.dst ha hR (Ext.refl _ _ w) cu
      rw [ren_undef] at p1 p2
      have hmx : MX io Rs Ss X' (k + 1) = MX io Rs Ss X j := by
        funext b
        by_cases hb : b < (Ss k).blks.length
        · rw [MX_lt (by rw [hS]; exact hb), hS, MX_span ok.hC ok.tr r1 (by omega) r2 (fun p h1 h2 h3 => r3 p h2 h3) hb]
        · cases hb1 : MX io Rs Ss X j b with
          | some ob =>
            rcases MX_cases ok.hC ok.tr hb1 with ⟨h1, _⟩ | ⟨p, h1, h2, h3, h4, h5⟩
            · have := (evo_le ok.hC ok.tr r1 (by omega)).len; omega
            · have hpk : k < p := by
                rcases Nat.lt_or_ge k p with h | h
                · exact h
                · have := (evo_le ok.hC ok.tr (p := p + 1) (q := k + 1) (by omega) (by omega)).len
                  have := (isA_len ok.hC ok.tr h3).2
                  rw [hS] at *; omega
              rw [← h4, MX_al ok.hC ok.tr (by omega) (by rw [hXX p (by omega)]; exact h2) h3, h4, h5]
          | none =>
            refine MX_none ok (by rw [hS]; exact hb) fun p h1 h2 h3 h4 => ?_
            rw [← h4, MX_al ok.hC ok.tr (by omega) (by rw [← hXX p (by omega)]; exact h2) h3] at hb1
            have := (isA_len ok.hC ok.tr h3).2
            rw [List.getElem?_eq_getElem (by omega)] at hb1
            cases hb1
      refine hK _ _ ⟨ρ, k + 1, by omega, ?_, ?_, ?_, p2.trans hd, by rw [hmx]; exact rep, ?_, by rw [hmx]; exact hx⟩
      · intro p hp hpc
        by_cases hpk : p = k
        · subst hpk; simp [hXk]
        · rw [hXX p hpk, hF p hp hpc]
          constructor
          · intro h; omega
          · intro h
            rcases Nat.lt_or_ge p j with h' | h'
            · exact h'
            · have := r2 p h' (by omega); rw [hpc] at this; cases this
      · intro p hp hpa
        have : p ≠ k := by rintro rfl; rw [hA0] at hpa; cases hpa
        rw [hXX p this]; exact r3 p (by omega) hpa
      · rw [regs_add hk rd hX', hdst, hv]; exact p1
      · rw [regs_add hk rd hX', hdst, hmx, hv]; exact p3
  | true =>
    have hww : Region.wanted o (yielded ops a.tmps) = true := by rw [wanted_sound hgu ha, hgw, hw]
    rw [if_pos hww]
    left
    obtain ⟨hev, _, _⟩ := ok.tr.yes k ik hk hw
    cases hkd : kd ik.op with
    | P =>
      have he := (evOp_P hkd hev).1
      rw [← pure_congr hag] at he
      unfold Oper.wp
      rw [pure_sound hc he ha hg w]
      exact quiet (by simp [isC, kdAt, hk, hkd]) (by simp [isA, hk, hkd]) _ rfl (clo_pure hcl he)
    | L =>
      have he := read_any ok hk rd hkd hw hj hF hlexv (by rw [← vals_congr hag]; exact hcl)
      rw [← read_congr hag] at he
      unfold Oper.wp
      rw [read_sound hc he rep ha]
      exact quiet (by simp [isC, kdAt, hk, hkd]) (by simp [isA, hk, hkd]) _ rfl (clo_read rep hcl he)
    | A =>
      obtain ⟨o', f, he, hv, hS⟩ := evOp_A hkd hev
      rw [← alloc_congr hag] at he
      have hAk : isA io Rs k = true := by simp [isA, hk, hkd, hw]
      have hjk : j ≤ k := by
        rcases Nat.lt_or_ge k j with h | h
        · have := hG k h hAk; rw [rd.notin] at this; cases this
        · exact h
      have hN : MX io Rs Ss X j (Ss k).blks.length = none := by
        refine MX_none ok (by have := (evo_le ok.hC ok.tr hjk (by omega)).len; omega) fun p h1 h2 h3 h4 => ?_
        have := isA_inj ok.hC ok.tr h3 hAk h4
        subst this
        rw [rd.notin] at h2; cases h2
      obtain ⟨obj, c, r1, r2, r3, r4⟩ := alloc_sound hc he rep ha hcl hN
      obtain ⟨q1, q2⟩ := push_rep rep hN r2 r3
      have hmx : MX io Rs Ss X' j = upM (MX io Rs Ss X j) (Ss k).blks.length o' := by
        funext b
        unfold upM
        split
        · rename_i hb
          rw [hb, MX_al ok.hC ok.tr hjk hXk hAk, hS]
          show ((Ss k).blks ++ [o'])[(Ss k).blks.length]? = _
          simp
        · rename_i hb
          cases hb1 : MX io Rs Ss X j b with
          | some ob =>
            rcases MX_cases ok.hC ok.tr hb1 with ⟨h1, h2⟩ | ⟨p, h1, h2, h3, h4, h5⟩
            · rw [MX_lt h1]; exact h2
            · rw [← h4, MX_al ok.hC ok.tr h1 ((hX' p).2 (.inl h2)) h3, h4, h5]
          | none =>
            by_cases hbj : b < (Ss j).blks.length
            · rw [MX_lt hbj] at hb1 ⊢; exact hb1
            · refine MX_none ok hbj fun p h1 h2 h3 h4 => ?_
              have hpk : p ≠ k := by rintro rfl; exact hb h4.symm
              rw [← h4, MX_al ok.hC ok.tr h1 (by rw [← hXX p hpk]; exact h2) h3] at hb1
              have := (isA_len ok.hC ok.tr h3).2
              rw [List.getElem?_eq_getElem (by omega)] at hb1
              cases hb1
      have hcv : Clo (fun r => (upM (MX io Rs Ss X j) (Ss k).blks.length o' r).isSome = true) (vs k) := by
        rw [hv]; exact r4 _ (by simp [upM])
      obtain ⟨p1, p2, p3⟩ := put_relM (v := vs k) o.dst ha hR q2 hcv
      unfold Oper.wp
      rw [r1, ← hv]
      refine hK _ _ ⟨_, j, hj, ?_, ?_, ?_, p2.trans hd, by rw [hmx]; exact q1, ?_, by rw [hmx]; exact hx.trans q2⟩
      · intro p hp hpc
        have : p ≠ k := by
          rintro rfl
          simp [isC, kdAt, hk, hkd] at hpc
        rw [hXX p this]; exact hF p hp hpc
      · intro p hp hpa; exact (hX' p).2 (.inl (hG p hp hpa))
      · rw [regs_add hk rd hX', hdst]; exact p1
      · rw [regs_add hk rd hX', hdst, hmx]; exact p3
    | _ =>
      have hcC : isC io k = true := by simp [isC, kdAt, hk, hkd]
      obtain ⟨r1, r2, r3, r4⟩ := rdy_C hk rd hcC hF (Rs := Rs)
      have hlow : ∀ b, b < (Ss k).blks.length → MX io Rs Ss X j b = (Ss k).m b := fun b hb => MX_span ok.hC ok.tr r1 (by omega) r2 (fun p h1 h2 h3 => r3 p h2 h3) hb
      have hsub : ∀ b ob, (Ss k).m b = some ob → b < (Ss k).blks.length ∧ MX io Rs Ss X j b = some ob := fun b ob hb => by
        have hl := lt_of_get (l := (Ss k).blks) hb
        exact ⟨hl, by rw [hlow b hl]; exact hb⟩
      have repk : Rep P nG ρ (Ss k).m w := restrict_rep rep (fun b ob hb => (hsub b ob hb).2) (fun b ob hb => ok.lexm k (by omega) b ob hb) (hgl k (by omega))
      have hev' : evOp C (regsX io vs X (Rs 0) io.length) (Ss k) ik.op = some (vs k, Ss (k + 1)) := by rw [op_congr hag]; exact hev
      have hlen := (step_evo ok.hC ok.tr hkl).len
      have later : ∀ b p, j ≤ p → X p = true → isA io Rs p = true → (Ss p).blks.length = b → (Ss k).blks.length ≤ b → k < p ∧ (Ss (k + 1)).blks.length ≤ b := by
        intro b p h1 h2 h3 h4 h5
        have hpk : k < p := by
          rcases Nat.lt_trichotomy k p with h | h | h
          · exact h
          · subst h; rw [rd.notin] at h2; cases h2
          · have := (evo_le ok.hC ok.tr (p := p + 1) (q := k) (by omega) (by omega)).len
            have := (isA_len ok.hC ok.tr h3).2
            omega
        have := (evo_le ok.hC ok.tr (p := k + 1) (q := p) (by omega) (by have := (isA_len ok.hC ok.tr h3).1; omega)).len
        exact ⟨hpk, by omega⟩
      have hgap : ∀ b, (Ss k).blks.length ≤ b → b < (Ss (k + 1)).blks.length → MX io Rs Ss X j b = none := by
        intro b h1 h2
        refine MX_none ok (by have := (evo_le ok.hC ok.tr r1 (by omega)).len; omega) fun p h3 h4 h5 h6 => ?_
        have := (later b p h3 h4 h5 h6 h1).2
        omega
      have hA0 : isA io Rs k = false := by simp [isA, hk, hkd]
      have hM2 : ∀ b, (Ss (k + 1)).blks.length ≤ b → MX io Rs Ss X' (k + 1) b = MX io Rs Ss X j b := by
        intro b hb
        cases hb1 : MX io Rs Ss X j b with
        | some ob =>
          rcases MX_cases ok.hC ok.tr hb1 with ⟨h1, _⟩ | ⟨p, h1, h2, h3, h4, h5⟩
          · have := (evo_le ok.hC ok.tr (p := j) (q := k + 1) (by omega) (by omega)).len; omega
          · have hpk := (later b p h1 h2 h3 h4 (by omega)).1
            rw [← h4, MX_al ok.hC ok.tr (by omega) ((hX' p).2 (.inl h2)) h3, h4, h5]
        | none =>
          refine MX_none ok (by omega) fun p h1 h2 h3 h4 => ?_
          rw [← h4, MX_al ok.hC ok.tr (by omega) (by rw [← hXX p (by omega)]; exact h2) h3] at hb1
          have := (isA_len ok.hC ok.tr h3).2
          rw [List.getElem?_eq_getElem (by omega)] at hb1
          cases hb1
      refine op_core ok.hC hc hev' ha repk (by rw [vals_congr hag]; exact hlexv) ?_
      intro ρ' w' s1 s2 s3
      obtain ⟨ρ'', f1, f2, f3⟩ := frame_rep rep s1 s2 hsub hlow hlen (fun b ob hb => lt_of_get (l := (Ss (k + 1)).blks) hb) hgap (fun b hb => MX_lt hb) hM2
      have hv'' : ren ρ'' (vs k) = ren ρ' (vs k) := ren_congr _ (s3.mono fun r hr => by
        obtain ⟨ob, hob⟩ := Option.isSome_iff_exists.1 hr
        exact f1 r (lt_of_get (l := (Ss (k + 1)).blks) hob))
      have hcv : Clo (fun r => (MX io Rs Ss X' (k + 1) r).isSome = true) (vs k) := s3.mono fun r hr => by
        obtain ⟨ob, hob⟩ := Option.isSome_iff_exists.1 hr
        rw [MX_lt (lt_of_get (l := (Ss (k + 1)).blks) hob)]; exact hr
      obtain ⟨p1, p2, p3⟩ := put_relM (v := vs k) o.dst ha hR f3 hcv
      rw [← hv'']
      refine hK _ _ ⟨ρ'', k + 1, by omega, ?_, ?_, ?_, p2.trans hd, f2, ?_, hx.trans f3⟩
      · intro p hp hpc
        by_cases hpk : p = k
        · subst hpk; simp [hXk]
        · rw [hXX p hpk, hF p hp hpc]
          constructor
          · intro h; omega
          · intro h
            rcases Nat.lt_or_ge p j with h' | h'
            · exact h'
            · have := r2 p h' (by omega); rw [hpc] at this; cases this
      · intro p hp hpa
        have : p ≠ k := by rintro rfl; rw [hA0] at hpa; cases hpa
        rw [hXX p this]; exact r3 p (by omega) hpa
      · rw [regs_add hk rd hX', hdst]; exact p1
      · rw [regs_add hk rd hX', hdst]; exact p3

end
end Go.Proofs.YtepddcemoofmlaaGreat.AE
