/- A region whose order is open: whatever order is drawn. -/
import Derived.Test.YtepddcemoofmlaaGreatAe18
namespace Go.Proofs.YtepddcemoofmlaaGreat.AE
open Go

section
variable {P : Program} {nG : Nat} {Q : FuncId → Bool} {C : CallS} {ρ0 : Rho} {S0 : St} {w0 : World}

theorem cOpers_get {ops : Array Oper} : ∀ {l : List Oper} {il : List IOper}, cOpers P nG Q ops l = some il →
    il.length = l.length ∧ ∀ (p : Nat) (o : Oper), l[p]? = some o → ∃ i : IOper, il[p]? = some i ∧ cOper P nG Q ops o = some i
  | [], il, h => by simp only [cOpers, Option.some.injEq] at h; subst h; simp
  | o :: l, il, h => by
    simp only [cOpers] at h
    split at h
    · rename_i x r hx hr
      simp only [Option.some.injEq] at h
      subst h
      obtain ⟨h1, h2⟩ := cOpers_get hr
      refine ⟨by simp [h1], fun p o' hp => ?_⟩
      cases p with
      | zero => simp only [List.getElem?_cons_zero, Option.some.injEq] at hp; subst hp; exact ⟨x, by simp, hx⟩
      | succ p => simp only [List.getElem?_cons_succ] at hp ⊢; exact h2 p o' hp
    · cases h

theorem filterMap_all {α β : Type} {f : α → Option β} : ∀ {l : List α}, (∀ x ∈ l, (f x).isSome = true) → (l.filterMap f).length = l.length ∧ ∀ (p : Nat) (x : α), l[p]? = some x → ∃ y : β, f x = some y ∧ (l.filterMap f)[p]? = some y
  | [], _ => by simp
  | x :: l, h => by
    obtain ⟨y, hy⟩ := Option.isSome_iff_exists.1 (h x (by simp))
    obtain ⟨h1, h2⟩ := filterMap_all (l := l) fun z hz => h z (by simp [hz])
    rw [List.filterMap_cons_some hy]
    refine ⟨by simp [h1], fun p z hp => ?_⟩
    cases p with
    | zero => simp only [List.getElem?_cons_zero, Option.some.injEq] at hp; subst hp; exact ⟨y, hy, by simp⟩
    | succ p => simp only [List.getElem?_cons_succ] at hp ⊢; exact h2 p z hp

theorem filterMap_full {α β : Type} {f : α → Option β} : ∀ {l : List α}, (l.filterMap f).length = l.length → ∀ x ∈ l, (f x).isSome = true
  | [], _ => by simp
  | x :: l, h => by
    cases hx : f x with
    | none =>
      rw [List.filterMap_cons_none hx] at h
      have := List.length_filterMap_le f l
      simp only [List.length_cons] at h
      omega
    | some y =>
      rw [List.filterMap_cons_some hx] at h
      simp only [List.length_cons, Nat.add_right_cancel_iff] at h
      intro z hz
      simp only [List.mem_cons] at hz
      rcases hz with rfl | hz
      · simp [hx]
      · exact filterMap_full h z hz

theorem looks_get (io : List IOper) (f : Nat → Option IOper) (h : ∀ (k : Nat) (i : IOper), io[k]? = some i → ∃ i' : IOper, f k = some i' ∧ i'.dst = i.dst ∧ i'.op = i.op ∧ i'.guard = i.guard) :
    ((List.range io.length).filterMap f).length = io.length ∧ ∀ (p : Nat) (i : IOper), io[p]? = some i → ∃ i' : IOper, ((List.range io.length).filterMap f)[p]? = some i' ∧ i'.dst = i.dst ∧ i'.op = i.op ∧ i'.guard = i.guard := by
  obtain ⟨h1, h2⟩ := filterMap_all (l := List.range io.length) (f := f) (by
    intro x hx
    have hlt : x < io.length := by simpa using hx
    obtain ⟨i', h', _⟩ := h x _ (List.getElem?_eq_getElem hlt)
    simp [h'])
  refine ⟨by simpa using h1, fun p i hp => ?_⟩
  have hlt : p < io.length := (List.getElem?_eq_some_iff.1 hp).1
  obtain ⟨y, hy, hy2⟩ := h2 p p (by simp [hlt])
  obtain ⟨i', h', h3⟩ := h p i hp
  rw [hy] at h'
  simp only [Option.some.injEq] at h'
  subst h'
  exact ⟨y, hy2, h3⟩

theorem withLooks_get (io : List IOper) (ord : List Nat) (ah : List (Nat × Nat)) :
    (withLooks io ord ah).length = io.length ∧ ∀ (p : Nat) (i : IOper), io[p]? = some i → ∃ i' : IOper, (withLooks io ord ah)[p]? = some i' ∧ i'.dst = i.dst ∧ i'.op = i.op ∧ i'.guard = i.guard := by
  unfold withLooks
  dsimp only
  refine looks_get io _ fun k i hk => ?_
  simp only [hk]
  exact ⟨_, rfl, rfl, rfl, rfl⟩

theorem edgesBack_spec {ops : Array Oper} : ∀ {l done : List Nat}, edgesBack ops l done = true → ∀ (p x : Nat), l[p]? = some x →
    ∃ o : Oper, ops[x]? = some o ∧ ∀ e ∈ o.after, Region.binds .any e = true → e.on ∈ done ∨ ∃ p', p' < p ∧ l[p']? = some e.on
  | [], done, _, p, x, hp => by simp at hp
  | i :: l, done, h, p, x, hp => by
    simp only [edgesBack, Bool.and_eq_true] at h
    obtain ⟨h1, h2⟩ := h
    cases p with
    | zero =>
      simp only [List.getElem?_cons_zero, Option.some.injEq] at hp
      subst hp
      cases ho : ops[i]? with
      | none => rw [ho] at h1; cases h1
      | some o =>
        rw [ho] at h1
        refine ⟨o, rfl, fun e he hb => .inl ?_⟩
        have := List.all_eq_true.1 h1 e (by simpa using he)
        simp only [hb, Bool.not_true, Bool.false_or] at this
        simpa using this
    | succ p =>
      simp only [List.getElem?_cons_succ] at hp
      obtain ⟨o, ho, hall⟩ := edgesBack_spec h2 p x hp
      refine ⟨o, ho, fun e he hb => ?_⟩
      rcases hall e he hb with h | ⟨p', hp', hl⟩
      · simp only [List.mem_append, List.mem_singleton] at h
        rcases h with h | h
        · exact .inl h
        · exact .inr ⟨0, by omega, by simp [h]⟩
      · exact .inr ⟨p' + 1, by omega, by simpa using hl⟩

theorem apartAll_spec {ops : Array Oper} {io : List IOper} {ord : List Nat} (h : apartAll io ord (aheads ops ord []) = true) {i k x y : Nat} (hik : i < k) (hx : ord[i]? = some x) (hy : ord[k]? = some y) :
    x ≠ y ∧ (Anc ops y x ∨ Sep io i k) := by
  unfold apartAll at h
  have hk : k < ord.length := (List.getElem?_eq_some_iff.1 hy).1
  have h1 := List.all_eq_true.1 (List.all_eq_true.1 h k (by simpa using hk)) i (by simpa using hik)
  simp only [hx, hy, Bool.and_eq_true, bne_iff_ne, ne_eq, Bool.or_eq_true] at h1
  refine ⟨h1.1, ?_⟩
  rcases h1.2 with h2 | h2
  · exact .inl (aheads_anc ops ord [] (fun j x hx => by simp [bitsOf] at hx) y x h2)
  · right
    split at h2
    · rename_i a b ha hb
      simp only [Bool.and_eq_true] at h2
      exact ⟨a, b, ha, hb, h2.1.1, h2.1.2, h2.2⟩
    · cases h2

theorem wp_some {o : Oper} {a : Act} {w : World} {K : Act → World → Prop} (h : o.wp P a w K (fun _ _ _ => False)) : ∃ a' w', K a' w' := by
  unfold Oper.wp at h
  generalize (execOp a.eval o).run P w = r at h
  cases r with
  | ok n w' =>
    cases n <;> simp only [Oper.upon] at h
    case value v => exact ⟨_, _, h⟩
    case skip => exact ⟨_, _, h⟩
    case defer d => exact ⟨_, _, h⟩
    case enter f args =>
      obtain ⟨e, w'', fr, hR, _⟩ := h []
      cases e with
      | returned v => exact ⟨_, _, hR⟩
      | panicked c => exact hR.elim
      | outgrown => obtain ⟨_, _, h⟩ := hR; exact h.elim
    case row r args =>
      obtain ⟨v, w'', hR, _⟩ := h default []
      exact ⟨_, _, hR⟩
  | halt x w' => cases x <;> simp only [Oper.upon] at h

/-- The places that have come. -/
def comeX (ord : List Nat) (listed : Array Bool) (p : Nat) : Bool := match ord[p]? with | some x => listed.getD x false | none => false

structure Order (P : Program) (nG : Nat) (Q : FuncId → Bool) (ops : Array Oper) (io : List IOper) (ord : List Nat) : Prop where
  len : io.length = ops.size
  olen : ord.length = ops.size
  mem : ∀ i, i < ops.size → i ∈ ord
  comp : ∀ (p x : Nat), ord[p]? = some x → ∃ (o : Oper) (i : IOper), ops[x]? = some o ∧ io[p]? = some i ∧ cOp P nG Q o.op = some i.op ∧ cGuard ops o.guard = some i.guard ∧ i.dst = o.dst
  back : edgesBack ops ord [] = true
  pair : ∀ (i k x y : Nat), i < k → ord[i]? = some x → ord[k]? = some y → x ≠ y ∧ (Anc ops y x ∨ Sep io i k)

theorem order_of {ops : Array Oper} {io0 io : List IOper} (h0 : cOpers P nG Q ops ops.toList = some io0) (h : inOrder ops io0 true = some io) : ∃ ord, Order P nG Q ops io ord := by
  obtain ⟨l0, g0⟩ := cOpers_get h0
  have l0' : io0.length = ops.size := by simpa using l0
  have comp0 : ∀ (x : Nat) (i : IOper), io0[x]? = some i → ∃ o : Oper, ops[x]? = some o ∧ cOp P nG Q o.op = some i.op ∧ cGuard ops o.guard = some i.guard ∧ i.dst = o.dst := by
    intro x i hi
    have hx : x < ops.toList.length := by rw [← l0]; exact (List.getElem?_eq_some_iff.1 hi).1
    obtain ⟨i', h1, h2⟩ := g0 x ops.toList[x] (List.getElem?_eq_getElem hx)
    rw [hi] at h1
    simp only [Option.some.injEq] at h1
    subst h1
    refine ⟨ops.toList[x], ?_, ?_⟩
    · simp
    · unfold cOper at h2
      split at h2
      · rename_i op g hop hgg
        simp only [Option.some.injEq] at h2
        rw [← h2]
        exact ⟨hop, hgg, rfl⟩
      · cases h2
  have fin : ∀ ord : List Nat, okDraw ops io ord = true → (∀ (p x : Nat), ord[p]? = some x → ∃ i i' : IOper, io0[x]? = some i ∧ io[p]? = some i' ∧ i'.dst = i.dst ∧ i'.op = i.op ∧ i'.guard = i.guard) → ∃ ord, Order P nG Q ops io ord := by
    intro ord hok hio
    unfold okDraw at hok
    simp only [Bool.and_eq_true, beq_iff_eq] at hok
    obtain ⟨⟨⟨⟨h1, h2⟩, h3⟩, h4⟩, h5⟩ := hok
    refine ⟨ord, h2, h1, ?_, ?_, h4, fun i k x y hik hx hy => apartAll_spec h5 hik hx hy⟩
    · intro i hi
      have := List.all_eq_true.1 h3 i (by simpa using hi)
      simpa using this
    · intro p x hp
      obtain ⟨i, i', a1, a2, a3, a4, a5⟩ := hio p x hp
      obtain ⟨o, b1, b2, b3, b4⟩ := comp0 x i a1
      exact ⟨o, i', b1, a2, by rw [a4]; exact b2, by rw [a5]; exact b3, by rw [a3]; exact b4⟩
  unfold inOrder at h
  simp only [Bool.not_true, Bool.false_eq_true, if_false] at h
  split at h
  · rename_i hok
    simp only [Option.some.injEq] at h
    subst h
    refine fin _ hok ?_
    intro p x hp
    have hpx : p < ops.size ∧ p = x := by
      obtain ⟨h1, h2⟩ := List.getElem?_eq_some_iff.1 hp
      simp at h1 h2
      exact ⟨h1, h2⟩
    obtain ⟨hlt, rfl⟩ := hpx
    have hi : io0[p]? = some io0[p] := List.getElem?_eq_getElem (by omega)
    obtain ⟨i', h1, h2⟩ := (withLooks_get io0 (List.range ops.size) (aheads ops (List.range ops.size) [])).2 p _ hi
    exact ⟨_, i', hi, h1, h2⟩
  · split at h
    · rename_i hok
      simp only [Option.some.injEq] at h
      subst h
      refine fin _ hok ?_
      have hlen : (((late ops io0 ops.size []).filterMap (io0[·]?))).length = (late ops io0 ops.size []).length := by
        unfold okDraw at hok
        simp only [Bool.and_eq_true, beq_iff_eq] at hok
        obtain ⟨⟨⟨⟨h1, h2⟩, _⟩, _⟩, _⟩ := hok
        rw [(withLooks_get _ _ _).1] at h2
        omega
      intro p x hp
      obtain ⟨y, hy1, hy2⟩ := (filterMap_all (filterMap_full hlen)).2 p x hp
      obtain ⟨i', h1, h2⟩ := (withLooks_get ((late ops io0 ops.size []).filterMap (io0[·]?)) (late ops io0 ops.size []) (aheads ops (late ops io0 ops.size []) [])).2 p _ hy2
      exact ⟨y, i', hy1, h1, h2⟩
    · cases h

theorem lex_some (hC : CallOK P nG C) {ops : Array Oper} {io : List IOper} {ord : List Nat} (od : Order P nG Q ops io ord)
    {Rs : Nat → List Value} {Ss : Nat → St} {vs : Nat → Value} {Hs : Nat → List (Nat × St)} (tr : Trace C io Rs Ss vs Hs) {a : Act} {w : World}
    (h : Rel P nG ρ0 S0 w0 (Rs 0) (Ss 0) a w) : ∀ p, p ≤ io.length → ∃ a w, Rel P nG ρ0 S0 w0 (Rs p) (Ss p) a w := by
  intro p
  induction p with
  | zero => intro _; exact ⟨a, w, h⟩
  | succ p ih =>
    intro hp
    obtain ⟨a1, w1, h1⟩ := ih (by omega)
    have hpo : p < ord.length := by rw [od.olen, ← od.len]; omega
    obtain ⟨o, i, ho, hi, hc, hgg, hd⟩ := od.comp p ord[p] (List.getElem?_eq_getElem hpo)
    rw [tr.regs p i hi]
    cases hw : wantedI i.guard (Rs p) with
    | true =>
      have := op_sound (K := fun a' w' => Rel P nG ρ0 S0 w0 (put (Rs p) o.dst (vs p)) (Ss (p + 1)) a' w') (Q' := fun _ _ _ => False) hC hc (tr.yes p i hi hw).1 h1 (fun _ _ h => h)
      rw [hd]
      exact wp_some this
    | false =>
      obtain ⟨hv, hS⟩ := tr.no p i hi hw
      rw [hv, hS]
      obtain ⟨ρ, ha, hde, rep, hR, hx⟩ := h1
      obtain ⟨p1, p2, p3⟩ := put_rel (v := undef) i.dst ha hR (Ext.refl _ _ w1) (by simp [undef, Clo, CloA, CloL])
      exact ⟨_, _, ρ, p1, p2.trans hde, rep, p3, hx⟩

theorem any_of {ops : Array Oper} {io : List IOper} {ord : List Nat} (od : Order P nG Q ops io ord) {Rs : Nat → List Value} {Ss : Nat → St} {vs : Nat → Value} {Hs : Nat → List (Nat × St)}
    (ok : Ok P nG C io Rs Ss vs Hs) {Q' : Exit → Act → World → Prop} (hQ : ∀ a w, DState P nG ρ0 S0 w0 io Rs Ss vs (fun _ => true) a w → Q' .normal a w) :
    ∀ (fuel : Nat) (U : List Nat) (listed : Array Bool) (a : Act) (w : World), listed.size = ops.size → U.length ≤ fuel → (∀ i, i < ops.size → listed.getD i true = false → i ∈ U) →
      Closed ops listed → DState P nG ρ0 S0 w0 io Rs Ss vs (comeX ord listed) a w → wpAny P .any ops Q' fuel listed a w := by
  have hend : ∀ (listed : Array Bool) (a : Act) (w : World), listed.size = ops.size → Region.ready .any ops listed = [] → DState P nG ρ0 S0 w0 io Rs Ss vs (comeX ord listed) a w → Q' .normal a w := by
    intro listed a w hsz hre st
    have hall : ∀ (p x : Nat), ord[p]? = some x → listed.getD x false = true := by
      intro p
      induction p using Nat.strongRecOn with
      | _ p ih =>
        intro x hp
        obtain ⟨o, ho, hb⟩ := edgesBack_spec od.back p x hp
        cases hl : listed.getD x false with
        | true => rfl
        | false =>
          exfalso
          have hxs : x < listed.size := by rw [hsz]; exact (Array.getElem?_eq_some_iff.1 ho).1
          have : x ∈ Region.ready .any ops listed := by
            refine mem_ready.2 ⟨?_, o, ho, fun e he hbe => ?_⟩
            · simp only [Array.getD, hxs, dif_pos] at hl ⊢; exact hl
            · rcases hb e he hbe with h | ⟨p', hp', hl'⟩
              · simp at h
              · exact ih p' hp' _ hl'
          rw [hre] at this
          simp at this
    have hX : ∀ p, p < io.length → comeX ord listed p = true := by
      intro p hp
      have hpo : p < ord.length := by rw [od.olen, ← od.len]; exact hp
      simp only [comeX, List.getElem?_eq_getElem hpo]
      exact hall p _ (List.getElem?_eq_getElem hpo)
    refine hQ a w ?_
    obtain ⟨ρ, j, hj, hF, hG, ha, hd, rep, hR, hx⟩ := st
    have e1 : regsX io vs (comeX ord listed) (Rs 0) io.length = regsX io vs (fun _ => true) (Rs 0) io.length := by
      apply List.ext_getElem?
      intro t
      exact regsX_agree io.length fun q i hq _ _ => hX q hq
    have e2 : MX io Rs Ss (comeX ord listed) j = MX io Rs Ss (fun _ => true) j := MX_congr ok.hC ok.tr fun p _ hp => hX p (isA_len ok.hC ok.tr hp).1
    rw [e1] at ha hR
    rw [e2] at rep hR hx
    exact ⟨ρ, j, hj, fun p hp hpc => by rw [← hF p hp hpc, hX p hp], fun _ _ _ => rfl, ha, hd, rep, hR, hx⟩
  intro fuel
  induction fuel with
  | zero =>
    intro U listed a w hsz hU hall hcl st
    have hU0 : U = [] := List.length_eq_zero_iff.1 (by omega)
    subst hU0
    have hre : Region.ready .any ops listed = [] := by
      apply List.eq_nil_iff_forall_not_mem.2
      intro i hi
      obtain ⟨h1, o, ho, _⟩ := mem_ready.1 hi
      have := hall i (Array.getElem?_eq_some_iff.1 ho).1 h1
      simp at this
    exact ⟨hre, hend listed a w hsz hre st⟩
  | succ fuel ih =>
    intro U listed a w hsz hU hall hcl st
    refine ⟨fun hre => hend listed a w hsz hre st, fun i hi => ?_⟩
    obtain ⟨hun, o, ho, hpre⟩ := mem_ready.1 hi
    have hio : i < ops.size := (Array.getElem?_eq_some_iff.1 ho).1
    obtain ⟨k, hk⟩ := List.mem_iff_getElem?.1 (od.mem i hio)
    obtain ⟨o', ik, ho', hik, hc, hgg, hd⟩ := od.comp k i hk
    rw [ho] at ho'
    simp only [Option.some.injEq] at ho'
    subst ho'
    have hunf : listed.getD i false = false := by
      have hxs : i < listed.size := by rw [hsz]; exact hio
      simp only [Array.getD, hxs, dif_pos] at hun ⊢; exact hun
    have hpre' : ∀ o2, ops[i]? = some o2 → ∀ e ∈ o2.after, Region.binds .any e = true → listed.getD e.on false = true := by
      intro o2 h2; rw [ho] at h2; simp only [Option.some.injEq] at h2; subst h2; exact hpre
    have rd : Rdy io (comeX ord listed) k := by
      refine ⟨?_, ?_, ?_, ?_⟩
      · rw [od.len, ← od.olen]; exact (List.getElem?_eq_some_iff.1 hk).1
      · simp only [comeX, hk]; exact hunf
      · intro p hp
        have hpl : p < ord.length := by have := (List.getElem?_eq_some_iff.1 hk).1; omega
        rcases (od.pair p k _ _ hp (List.getElem?_eq_getElem hpl) hk).2 with h | h
        · left
          simp only [comeX, List.getElem?_eq_getElem hpl]
          exact anc_of_ready hcl h hpre'
        · exact .inr h
      · intro p hp hx
        simp only [comeX] at hx
        split at hx
        · rename_i y hy
          rcases (od.pair k p _ _ hp hk hy).2 with h | h
          · have := hcl.anc h hx
            rw [hunf] at this; cases this
          · exact h
        · cases hx
    refine draw_step ok hik rd (X' := comeX ord (listed.setIfInBounds i true)) ?_ ho hc hgg hd st ?_
    · intro q
      simp only [comeX]
      cases hq : ord[q]? with
      | none =>
        simp only [false_or, Bool.false_eq_true, false_iff]
        rintro rfl
        rw [hk] at hq; cases hq
      | some y =>
        simp only
        by_cases hyi : i = y
        · subst hyi
          have hqk : q = k := by
            rcases Nat.lt_trichotomy q k with h | h | h
            · exact absurd rfl (od.pair q k _ _ h hq hk).1
            · exact h
            · exact absurd rfl (od.pair k q _ _ h hk hq).1
          have hxs : i < listed.size := by rw [hsz]; exact hio
          simp [hqk, hxs]
        · rw [getD_set_ne false hyi]
          constructor
          · exact .inl
          · rintro (h | rfl)
            · exact h
            · rw [hk] at hq; simp only [Option.some.injEq] at hq; exact absurd hq hyi
    · intro a' w' st'
      have hiU : i ∈ U := hall i hio hun
      refine ih (U.erase i) _ a' w' (by simpa using hsz) (by rw [List.length_erase_of_mem hiU]; omega) ?_ (hcl.set hpre') st'
      intro y hy hyl
      by_cases hyi : i = y
      · subst hyi
        have hxs : i < listed.size := by rw [hsz]; exact hio
        simp [Array.getD, hxs] at hyl
      · rw [getD_set_ne true hyi] at hyl
        exact (List.mem_erase_of_ne (Ne.symm hyi)).2 (hall y hy hyl)

end
end Go.Proofs.YtepddcemoofmlaaGreat.AE
