/- A region whose order is open: each operation that may come next keeps what is known. -/
import Derived.Test.YtepddcemoofmlaaGreatAe16
namespace Go.Proofs.YtepddcemoofmlaaGreat.AE
open Go

/-- Two places that may come in either order. -/
def Sep (io : List IOper) (i k : Nat) : Prop :=
  ∃ a b, io[i]? = some a ∧ io[k]? = some b ∧ apartI a b = true ∧ mayPart (kd a.op) (kd b.op) = true ∧ again io i k a b = true

/-- The operation at place k may come next, where those of X have come. -/
structure Rdy (io : List IOper) (X : Nat → Bool) (k : Nat) : Prop where
  lt : k < io.length
  notin : X k = false
  before : ∀ p, p < k → X p = true ∨ Sep io p k
  after : ∀ p, k < p → X p = true → Sep io k p

structure Ok (P : Program) (nG : Nat) (C : CallS) (io : List IOper) (Rs : Nat → List Value) (Ss : Nat → St) (vs : Nat → Value) (Hs : Nat → List (Nat × St)) : Prop where
  hC : CallOK P nG C
  tr : Trace C io Rs Ss vs Hs
  lexm : ∀ p, p ≤ io.length → ∀ (b : Nat) (o : AObj), (Ss p).blks[b]? = some o → AObj.Clo (fun r => ((Ss p).m r).isSome = true) o
  lexr : ∀ p, p ≤ io.length → ∀ v ∈ Rs p, Clo (fun r => ((Ss p).m r).isSome = true) v
  hist : Hs 0 = []
  glob : ∀ g, g < nG → g < (Ss 0).blks.length

/-- What is known where those of X have come. -/
def DState (P : Program) (nG : Nat) (ρ0 : Rho) (S0 : St) (w0 : World) (io : List IOper) (Rs : Nat → List Value) (Ss : Nat → St) (vs : Nat → Value) (X : Nat → Bool) (a : Act) (w : World) : Prop :=
  ∃ ρ j, j ≤ io.length ∧ (∀ p, p < io.length → isC io p = true → (X p = true ↔ p < j)) ∧ (∀ p, p < j → isA io Rs p = true → X p = true) ∧
    a.tmps = ((regsX io vs X (Rs 0) io.length).map (ren ρ)).toArray ∧ a.defers = [] ∧ Rep P nG ρ (MX io Rs Ss X j) w ∧
    (∀ v ∈ regsX io vs X (Rs 0) io.length, Clo (fun r => (MX io Rs Ss X j r).isSome = true) v) ∧ Ext ρ0 S0.m w0 ρ (MX io Rs Ss X j) w

section
variable {P : Program} {nG : Nat} {Q : FuncId → Bool} {C : CallS} {ρ0 : Rho} {S0 : St} {w0 : World}
variable {io : List IOper} {Rs : Nat → List Value} {Ss : Nat → St} {vs : Nat → Value} {Hs : Nat → List (Nat × St)} {X X' : Nat → Bool} {k : Nat} {ik : IOper}

theorem apart_spec {a b : IOper} (h : apartI a b = true) :
    (∀ d, a.dst = some d → d ∉ b.names) ∧ (∀ d, a.dst = some d → b.dst ≠ some d) ∧ (∀ d, b.dst = some d → d ∉ a.names) := by
  unfold apartI at h
  simp only [Bool.and_eq_true] at h
  refine ⟨fun d hd => ?_, fun d hd => ?_, fun d hd => ?_⟩
  · rw [hd] at h; simp at h; exact h.1.1
  · rw [hd] at h; simp at h; exact h.1.2
  · rw [hd] at h; simp at h; exact h.2

theorem names_agree (ok : Ok P nG C io Rs Ss vs Hs) (hk : io[k]? = some ik) (rd : Rdy io X k) {t : Nat} (ht : t ∈ ik.names) :
    (regsX io vs X (Rs 0) io.length)[t]? = (Rs k)[t]? := by
  have e1 : regsX io vs (fun q => decide (q < k)) (Rs 0) io.length = Rs k := by
    rw [regsX_stop (k := k) io.length (by have := rd.lt; omega) (fun q hq _ => by simp; omega)]
    exact regsX_lex ok.tr k (by have := rd.lt; omega) (fun q hq => by simp [hq])
  rw [← e1]
  refine regsX_agree io.length fun q i hq hi hd => ?_
  rcases Nat.lt_trichotomy q k with hlt | he | hlt
  · rcases rd.before q hlt with h | ⟨a, b, ha, hb, hap, _, _⟩
    · simp [h, hlt]
    · rw [hi] at ha; rw [hk] at hb
      simp only [Option.some.injEq] at ha hb
      subst ha hb
      exact absurd ht ((apart_spec hap).1 t hd)
  · subst he; simp [rd.notin]
  · cases hx : X q with
    | false => simp; omega
    | true =>
      obtain ⟨a, b, ha, hb, hap, _, _⟩ := rd.after q hlt hx
      rw [hi] at hb; rw [hk] at ha
      simp only [Option.some.injEq] at ha hb
      subst ha hb
      exact absurd ht ((apart_spec hap).2.2 t hd)

theorem agree_ivs (ok : Ok P nG C io Rs Ss vs Hs) (hk : io[k]? = some ik) (rd : Rdy io X k) : AgreeOn (regsX io vs X (Rs 0) io.length) (Rs k) ik.op := by
  refine agreeOn_of fun t ht => ?_
  rw [List.getD_eq_getElem?_getD, List.getD_eq_getElem?_getD, names_agree ok hk rd (by simp only [IOper.names, List.mem_append]; exact .inl ht)]

theorem agree_guard (ok : Ok P nG C io Rs Ss vs Hs) (hk : io[k]? = some ik) (rd : Rdy io X k) : wantedI ik.guard (regsX io vs X (Rs 0) io.length) = wantedI ik.guard (Rs k) := by
  unfold wantedI
  split
  · rfl
  · rename_i t w hg
    rw [names_agree ok hk rd (t := t) (by simp [IOper.names, hg])]

theorem regs_add (hk : io[k]? = some ik) (rd : Rdy io X k) (hX' : ∀ q, X' q = true ↔ (X q = true ∨ q = k)) :
    regsX io vs X' (Rs 0) io.length = put (regsX io vs X (Rs 0) io.length) ik.dst (vs k) := by
  refine regsX_add hk hX' (fun q i d hq hi hx hd => ?_) io.length rd.lt
  obtain ⟨a, b, ha, hb, hap, _, _⟩ := rd.after q hq hx
  rw [hi] at hb; rw [hk] at ha
  simp only [Option.some.injEq] at ha hb
  subst ha hb
  exact (apart_spec hap).2.1 d hd

/-- Where a call or a write may come next, no other one is left out ahead of it, no new block either. -/
theorem rdy_C {j : Nat} (hk : io[k]? = some ik) (rd : Rdy io X k) (hc : isC io k = true) (hF : ∀ p, p < io.length → isC io p = true → (X p = true ↔ p < j)) :
    j ≤ k ∧ (∀ p, j ≤ p → p < k → isC io p = false) ∧ (∀ p, p < k → isA io Rs p = true → X p = true) ∧ (∀ p, k < p → p < io.length → isC io p = true → X p = false) := by
  have hkk : kd ik.op = .N ∨ kd ik.op = .Z := by
    simp only [isC, kdAt, hk] at hc
    cases h : kd ik.op <;> simp_all
  have hpc : ∀ p, p < io.length → isC io p = true → ∀ a, io[p]? = some a → kd a.op = .N ∨ kd a.op = .Z := by
    intro p _ hp a ha
    simp only [isC, kdAt, ha] at hp
    cases h : kd a.op <;> simp_all
  refine ⟨?_, ?_, ?_, ?_⟩
  · have := (hF k rd.lt hc)
    rw [rd.notin] at this
    simp at this
    exact this
  · intro p hjp hpk
    cases hcp : isC io p with
    | false => rfl
    | true =>
      exfalso
      have hp : p < io.length := by have := rd.lt; omega
      have hx : X p = false := by
        have := hF p hp hcp
        cases h : X p <;> simp_all
        omega
      rcases rd.before p hpk with h | ⟨a, b, ha, hb, _, hm, _⟩
      · rw [hx] at h; cases h
      · rw [hk] at hb
        simp only [Option.some.injEq] at hb
        subst hb
        rcases hpc p hp hcp a ha with h1 | h1 <;> rcases hkk with h2 | h2 <;> rw [h1, h2] at hm <;> simp [mayPart] at hm
  · intro p hpk ha
    rcases rd.before p hpk with h | ⟨a, b, hia, hb, _, hm, _⟩
    · exact h
    · rw [hk] at hb
      simp only [Option.some.injEq] at hb
      subst hb
      have h1 : kd a.op = .A := by
        simp only [isA, hia, Bool.and_eq_true, decide_eq_true_eq] at ha; exact ha.1
      rcases hkk with h2 | h2 <;> rw [h1, h2] at hm <;> simp [mayPart] at hm
  · intro p hkp hp hcp
    cases hx : X p with
    | false => rfl
    | true =>
      exfalso
      obtain ⟨a, b, ha, hb, _, hm, _⟩ := rd.after p hkp hx
      rw [hk] at ha
      simp only [Option.some.injEq] at ha
      subst ha
      rcases hpc p hp hcp b hb with h1 | h1 <;> rcases hkk with h2 | h2 <;> rw [h1, h2] at hm <;> simp [mayPart] at hm

theorem hist_at (tr : Trace C io Rs Ss vs Hs) {c : Nat} {a : IOper} (hc : io[c]? = some a) (hw : wantedI a.guard (Rs c) = true) (hs : a.snap = true) :
    ∀ q, c < q → q ≤ io.length → stAt c (Hs q) = some (Ss c) := by
  intro q
  induction q with
  | zero => intro h; omega
  | succ q ih =>
    intro hcq hq
    have hi : io[q]? = some io[q] := List.getElem?_eq_getElem (by omega)
    rw [tr.hist q _ hi]
    by_cases hqc : q = c
    · subst hqc
      rw [hi] at hc
      simp only [Option.some.injEq] at hc
      subst hc
      simp [hw, hs, stAt]
    · have := ih (by omega) (by omega)
      split
      · simp only [stAt]; rw [if_neg hqc]; exact this
      · exact this

theorem regs_keep (tr : Trace C io Rs Ss vs Hs) {t p : Nat} : ∀ q, p ≤ q → q ≤ io.length → (∀ m i, p ≤ m → m < q → io[m]? = some i → i.dst ≠ some t) → (Rs q)[t]? = (Rs p)[t]? := by
  intro q
  induction q with
  | zero => intro h _ _; have : p = 0 := by omega
            subst this; rfl
  | succ q ih =>
    intro hpq hq hno
    by_cases h : p = q + 1
    · rw [h]
    · have hi : io[q]? = some io[q] := List.getElem?_eq_getElem (by omega)
      rw [tr.regs q _ hi, put_get (hno q _ (by omega) (by omega) hi)]
      exact ih (by omega) (by omega) fun m i h1 h2 => hno m i h1 (by omega)

/-- A reader's value, wherever it comes. -/
theorem read_any (ok : Ok P nG C io Rs Ss vs Hs) (hk : io[k]? = some ik) (rd : Rdy io X k) (hL : kd ik.op = .L) (hw : wantedI ik.guard (Rs k) = true)
    {j : Nat} (hj : j ≤ io.length) (hF : ∀ p, p < io.length → isC io p = true → (X p = true ↔ p < j)) (hlex : ∀ u ∈ ik.op.vals (Rs k), Clo (fun r => ((Ss k).m r).isSome = true) u)
    (hcl : ∀ u ∈ ik.op.vals (Rs k), Clo (fun r => (MX io Rs Ss X j r).isSome = true) u) :
    evRead (Rs k) (MX io Rs Ss X j) ik.op = some (vs k) := by
  have hkl := rd.lt
  obtain ⟨hv, hpre, _⟩ := ok.tr.yes k ik hk hw
  obtain ⟨hr, hstay⟩ := evOp_L hL hv
  cases hb : rdBlk (Rs k) ik.op with
  | none => rw [read_local (m := (Ss k).m) (fun b hb' => by rw [hb] at hb'; cases hb')]; exact hr
  | some b =>
    have hlt : b < (Ss k).blks.length := by
      have h1 : ((Ss k).blks[b]?).isSome = true := rdBlk_val hlex hb
      obtain ⟨o, ho⟩ := Option.isSome_iff_exists.1 h1
      exact lt_of_get ho
    have hmx : (MX io Rs Ss X j b).isSome = true := rdBlk_val hcl hb
    have loc : ∀ {m m' : Nat → Option AObj}, m' b = m b → evRead (Rs k) m' ik.op = evRead (Rs k) m ik.op := fun h =>
      read_local fun b' hb' => by rw [hb] at hb'; simp only [Option.some.injEq] at hb'; subst hb'; exact h
    -- a step without call or write ahead of which the block lies
    have still : ∀ c, c < io.length → isC io c = false → b < (Ss c).blks.length → (Ss (c + 1)).m b = (Ss c).m b := by
      intro c hc hcc hbl
      rcases step_still ok.tr hc hcc with ⟨_, h2⟩ | ⟨_, o, f, _, _, h4⟩
      · rw [h2]
      · rw [h4]; show ((Ss c).blks ++ [o])[b]? = _; rw [List.getElem?_append_left hbl]
    have kinds : ∀ c, isC io c = true → ∀ a, io[c]? = some a → kd a.op = .N ∨ kd a.op = .Z := by
      intro c hc a ha
      simp only [isC, kdAt, ha] at hc
      cases h : kd a.op <;> simp_all
    have down : ∀ d c, c + d = k → j ≤ c → b < (Ss c).blks.length → evRead (Rs k) (Ss c).m ik.op = some (vs k) := by
      intro d
      induction d with
      | zero => intro c hc _ _; simp only [Nat.add_zero] at hc; subst hc; exact hr
      | succ d ih =>
        intro c hc hjc hbl
        have hci : io[c]? = some io[c] := List.getElem?_eq_getElem (by omega)
        have hlen := (step_evo ok.hC ok.tr (p := c) (by omega)).len
        have ih' := ih (c + 1) (by omega) (by omega) (by omega)
        cases hcc : isC io c with
        | false => rw [← loc (still c (by omega) hcc hbl)]; exact ih'
        | true =>
          have hxc : X c = false := by
            have := hF c (by omega) hcc
            cases h : X c <;> simp_all
            omega
          cases hwc : wantedI io[c].guard (Rs c) with
          | false => rw [(ok.tr.no c _ hci hwc).2] at ih'; exact ih'
          | true =>
            rcases rd.before c (by omega) with h | ⟨x, y, hx, hy, _, hm, hag⟩
            · rw [hxc] at h; cases h
            · rw [hci] at hx; rw [hk] at hy
              simp only [Option.some.injEq] at hx hy
              subst hx hy
              rcases kinds c hcc _ hci with h1 | h1
              · have := evOp_N ok.hC h1 (ok.tr.yes c _ hci hwc).1 b hbl
                rw [← loc (m := (Ss c).m) (m' := (Ss (c + 1)).m) this]; exact ih'
              · simp only [again, h1, hL, Bool.and_eq_true] at hag
                have hst := hist_at ok.tr hci hwc hag.2 k (by omega) (by omega)
                have hp := List.all_eq_true.1 hpre c (by simpa using hag.1)
                simp only [hst] at hp
                split at hp
                · rename_i u hu
                  rw [← sameV_eq hp]; exact hu
                · cases hp
    have up : ∀ c, k ≤ c → c ≤ j → evRead (Rs k) (Ss c).m ik.op = some (vs k) := by
      intro c
      induction c with
      | zero => intro hc _; have : k = 0 := by omega
                subst this; exact hr
      | succ c ih =>
        intro hkc hcj
        by_cases hke : k = c + 1
        · rw [← hke]; exact hr
        · have ih' := ih (by omega) (by omega)
          by_cases hkc2 : k = c
          · subst hkc2; rw [hstay]; exact hr
          · have hbl : b < (Ss c).blks.length := Nat.lt_of_lt_of_le hlt (evo_le ok.hC ok.tr (p := k) (q := c) (by omega) (by omega)).len
            have hci : io[c]? = some io[c] := List.getElem?_eq_getElem (by omega)
            cases hcc : isC io c with
            | false => rw [loc (still c (by omega) hcc hbl)]; exact ih'
            | true =>
              have hxc : X c = true := (hF c (by omega) hcc).2 (by omega)
              cases hwc : wantedI io[c].guard (Rs c) with
              | false => rw [(ok.tr.no c _ hci hwc).2]; exact ih'
              | true =>
                obtain ⟨x, y, hx, hy, _, hm, hag⟩ := rd.after c (by omega) hxc
                rw [hk] at hx; rw [hci] at hy
                simp only [Option.some.injEq] at hx hy
                subst hx hy
                rcases kinds c hcc _ hci with h1 | h1
                · have := evOp_N ok.hC h1 (ok.tr.yes c _ hci hwc).1 b hbl
                  rw [loc (m := (Ss c).m) (m' := (Ss (c + 1)).m) this]; exact ih'
                · simp only [again, h1, hL, Bool.and_eq_true] at hag
                  obtain ⟨hag1, hag2⟩ := hag
                  have hp := List.all_eq_true.1 (ok.tr.yes c _ hci hwc).2.2 k (by simpa using hag1)
                  simp only [hk] at hp
                  unfold askAgain at hag2
                  rw [hk] at hag2
                  simp only [Bool.and_eq_true] at hag2
                  obtain ⟨hd, hall⟩ := hag2
                  cases hdst : ik.dst with
                  | none => rw [hdst] at hd; cases hd
                  | some d =>
                    rw [hdst] at hd
                    have hdn : d ∉ ik.names := by simpa using hd
                    have hno : ∀ m i, k < m → m ≤ c → io[m]? = some i → ∀ t, (t ∈ ik.names ∨ t = d) → i.dst ≠ some t := by
                      intro m i h1 h2 hi t ht he
                      have := List.all_eq_true.1 hall m (by simp; omega)
                      simp only [hi, he, Bool.or_eq_true, decide_eq_true_eq, Bool.and_eq_true, Bool.not_eq_true'] at this
                      rcases this with h | ⟨h3, h4⟩
                      · omega
                      · rcases ht with ht | ht
                        · simp at h3; exact h3 ht
                        · subst ht; simp [hdst] at h4
                    have hnames : ∀ t ∈ ik.names, (Rs (c + 1))[t]? = (Rs k)[t]? := by
                      intro t ht
                      rw [regs_keep ok.tr (p := k + 1) (c + 1) (by omega) (by omega) fun m i h1 h2 hi => hno m i (by omega) (by omega) hi t (.inl ht), ok.tr.regs k ik hk]
                      exact put_get (by rw [hdst]; rintro h; simp only [Option.some.injEq] at h; subst h; exact hdn ht)
                    have hag3 : AgreeOn (Rs (c + 1)) (Rs k) ik.op := agreeOn_of fun t ht => by
                      rw [List.getD_eq_getElem?_getD, List.getD_eq_getElem?_getD, hnames t (by simp only [IOper.names, List.mem_append]; exact .inl ht)]
                    have hgw : wantedI ik.guard (Rs (c + 1)) = true := by
                      rw [← hw]
                      unfold wantedI
                      split
                      · rfl
                      · rename_i t w' hg
                        rw [hnames t (by simp [IOper.names, hg])]
                    have hval : (Rs (c + 1))[d]? = (put (Rs k) ik.dst (vs k))[d]? := by
                      rw [regs_keep ok.tr (p := k + 1) (c + 1) (by omega) (by omega) fun m i h1 h2 hi => hno m i (by omega) (by omega) hi d (.inr rfl), ok.tr.regs k ik hk]
                    simp only [hgw, Bool.not_true, Bool.false_or, hdst] at hp
                    split at hp
                    · rename_i d' u hdd hu
                      simp only [Option.some.injEq] at hdd
                      subst hdd
                      rw [read_congr hag3] at hu
                      have hu2 := sameV_eq hp
                      rw [List.getD_eq_getElem?_getD, hval, hdst] at hu2 hp
                      simp only [put, List.getElem?_set, if_true] at hu2 hp
                      split at hu2
                      · simp only [Option.getD_some] at hu2
                        rw [← hu2]; exact hu
                      · rename_i hdl
                        rw [if_neg hdl] at hp
                        simp only [Option.getD_none, undef] at hp
                        cases u <;> simp [sameV] at hp
                    · cases hp
    rcases Nat.lt_or_ge k j with hkj | hjk
    · have h1 := up j (by omega) (Nat.le_refl _)
      have hbl : b < (Ss j).blks.length := Nat.lt_of_lt_of_le hlt (evo_le ok.hC ok.tr (p := k) (q := j) (by omega) hj).len
      rw [loc (m := (Ss j).m) (MX_lt hbl)]; exact h1
    · cases ho : MX io Rs Ss X j b with
      | none => rw [ho] at hmx; cases hmx
      | some o =>
        rcases MX_cases ok.hC ok.tr ho with ⟨h1, h2⟩ | ⟨p, h1, h2, h3, h4, h5⟩
        · rw [loc (m := (Ss j).m) (by rw [ho]; exact h2.symm)]
          exact down (k - j) j (by omega) (Nat.le_refl _) h1
        · have hpk : p < k := by
            rcases Nat.lt_or_ge p k with h | h
            · exact h
            · have := (evo_le ok.hC ok.tr (p := k) (q := p) h (by have := (isA_len ok.hC ok.tr h3).1; omega)).len
              omega
          have hpl := (isA_len ok.hC ok.tr h3).2
          rw [loc (m := (Ss (p + 1)).m) (by rw [ho]; exact h5.symm)]
          exact down (k - (p + 1)) (p + 1) (by omega) (by omega) (by omega)

end
end Go.Proofs.YtepddcemoofmlaaGreat.AE
