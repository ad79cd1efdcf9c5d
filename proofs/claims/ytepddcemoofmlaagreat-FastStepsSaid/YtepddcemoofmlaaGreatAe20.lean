/- A region whose order is open, as a whole; all code. -/
import Derived.Test.YtepddcemoofmlaaGreatAe19
import Derived.Scope
namespace Go.Proofs.YtepddcemoofmlaaGreat.AE
open Go

section
variable {P : Program} {nG : Nat} {Q : FuncId → Bool} {C : CallS} {ρ0 : Rho} {S0 : St} {w0 : World}

theorem drawn_rel {R : List Value} {S : St} {a : Act} {w : World} (h : Rel P nG ρ0 S0 w0 R S a w) : Rel P nG ρ0 S0 w0 R S a { w with drawn := w.drawn + 1 } := by
  obtain ⟨ρ, ha, hd, rep, hR, hx⟩ := h
  exact ⟨ρ, ha, hd, drawn_rep rep, hR, hx.trans drawn_ext⟩

theorem draw_sound (hC : CallOK P nG C) (hm : P.follows .mixedOrders = true) {ops : Array Oper} {io0 io : List IOper} {R R' : List Value} {S S' : St}
    (h0 : cOpers P nG Q ops ops.toList = some io0) (h : inOrder ops io0 true = some io) (he : evOps C io io 0 [] R S = some (R', S')) :
    Evo S S' ∧ ∀ (id : Nat) (a : Act) (w : World) (Q' : Exit → Act → World → Prop), Rel P nG ρ0 S0 w0 R S a w → (∀ a' w', Rel P nG ρ0 S0 w0 R' S' a' w' → Q' .normal a' w') → (Code.region id ops true).wp P Q' a w := by
  obtain ⟨Rs, Ss, vs, Hs, e1, e2, e3, e4, e5, ht⟩ := trace_of he
  have tr : Trace C io Rs Ss vs Hs :=
    ⟨fun p i hp hw => (ht p i hp).1 hw, fun p i hp hw => (ht p i hp).2.1 hw, fun p i hp => (ht p i hp).2.2.1, fun p i hp => by
      have := (ht p i hp).2.2.2; simpa using this⟩
  obtain ⟨ord, od⟩ := order_of (P := P) (nG := nG) (Q := Q) h0 h
  refine ⟨by rw [← e2, ← e5]; exact evo_le hC tr (Nat.zero_le _) (Nat.le_refl _), fun id a w Q' hrel hQ => ?_⟩
  have hrel' : Rel P nG ρ0 S0 w0 (Rs 0) (Ss 0) a { w with drawn := w.drawn + 1 } := by rw [e1, e2]; exact drawn_rel hrel
  have lex := lex_some hC od tr hrel'
  have ok : Ok P nG C io Rs Ss vs Hs := by
    refine ⟨hC, tr, ?_, ?_, e3, ?_⟩
    · intro p hp b o hb
      obtain ⟨_, _, ρ, _, _, rep, _, _⟩ := lex p hp
      exact rep.clo b o hb
    · intro p hp
      obtain ⟨_, _, ρ, _, _, rep, hR, _⟩ := lex p hp
      exact hR
    · intro g hg
      obtain ⟨_, _, ρ, _, _, rep, hR, _⟩ := lex 0 (Nat.zero_le _)
      have := (rep.glob g hg).2.2
      obtain ⟨o, ho⟩ := Option.isSome_iff_exists.1 this
      exact (List.getElem?_eq_some_iff.1 ho).1
  refine wp_region_any hm (any_of (S0 := S0) (w0 := w0) (ρ0 := ρ0) od ok ?_ ops.size (List.range ops.size) _ a _ (by simp) (by simp) (by intro i hi _; simpa using hi) ?_ ?_)
  · intro a' w' st
    obtain ⟨ρ, j, hj, hF, hG, ha, hd, rep, hR, hx⟩ := st
    have er : regsX io vs (fun _ => true) (Rs 0) io.length = Rs io.length := regsX_lex tr io.length (Nat.le_refl _) (fun _ _ => rfl)
    have em : MX io Rs Ss (fun _ => true) j = (Ss io.length).m := by
      funext b
      by_cases hb : b < (Ss io.length).blks.length
      · exact MX_span hC tr hj (Nat.le_refl _) (fun p hjp hp => by
          cases hc : isC io p with
          | false => rfl
          | true => have := (hF p hp hc).1 rfl; omega) (fun _ _ _ _ => rfl) hb
      · rw [show (Ss io.length).m b = none from List.getElem?_eq_none (by omega)]
        refine MX_none ok (fun h => hb (Nat.lt_of_lt_of_le h (evo_le hC tr hj (Nat.le_refl _)).len)) fun p hp _ ha' he' => ?_
        obtain ⟨p1, p2⟩ := isA_len hC tr ha'
        have := (evo_le hC tr (p := p + 1) (q := io.length) (by omega) (Nat.le_refl _)).len
        omega
    rw [er] at ha
    rw [em] at rep
    rw [er, em] at hR
    rw [em] at hx
    refine hQ a' w' ?_
    rw [← e4, ← e5]
    exact ⟨ρ, ha, hd, rep, hR, hx⟩
  · intro y o hy
    simp [Array.getD] at hy
  · obtain ⟨ρ, ha, hd, rep, hR, hx⟩ := hrel'
    have hX : comeX ord (Array.replicate ops.size false) = fun _ => false := by
      funext p
      unfold comeX
      split
      · simp [Array.getD]
      · rfl
    rw [hX]
    have er : regsX io vs (fun _ => false) (Rs 0) io.length = Rs 0 := regsX_stop (k := 0) io.length (Nat.zero_le _) (fun _ _ _ => rfl)
    have em : MX io Rs Ss (fun _ => false) 0 = (Ss 0).m := by
      funext b
      by_cases hb : b < (Ss 0).blks.length
      · exact MX_lt hb
      · rw [show (Ss 0).m b = none from List.getElem?_eq_none (by omega)]
        exact MX_none ok hb fun p _ hp => by cases hp
    refine ⟨ρ, 0, Nat.zero_le _, fun p _ _ => by simp, fun p hp => by omega, ?_, hd, ?_, ?_, ?_⟩
    · rw [er]; exact ha
    · rw [em]; exact rep
    · rw [er, em]; exact hR
    · rw [em]; exact hx

/-- What a code's way out says of the model's. -/
def outTo : Out → Exit
  | .norm => .normal
  | .ret => .ret
  | .exit id => .exit id

theorem outTo_then {K : Act → World → Prop} {Q' : Exit → Act → World → Prop} {e : Out} {a : Act} {w : World} (h : if e = .norm then K a w else Q' (outTo e) a w) : Exit.then K Q' (outTo e) a w := by
  cases e <;> simpa [Exit.then, outTo] using h

theorem wp_iter {c : Code} {f : List Value → St → Option (Out × List Value × St)}
    (hf : ∀ R S e R' S', f R S = some (e, R', S') → ∀ (a : Act) (w : World), Rel P nG ρ0 S0 w0 R S a w → ∀ Q' : Exit → Act → World → Prop, (∀ a' w', Rel P nG ρ0 S0 w0 R' S' a' w' → Q' (outTo e) a' w') → c.wp P Q' a w) :
    ∀ (n : Nat) (R : List Value) (S : St) (e : Out) (R' : List Value) (S' : St), iter f n R S = some (e, R', S') → ∀ (a : Act) (w : World), Rel P nG ρ0 S0 w0 R S a w → ∀ Q' : Exit → Act → World → Prop,
      (∀ a' w', Rel P nG ρ0 S0 w0 R' S' a' w' → Q' (outTo e) a' w') → e ≠ .norm ∧ ∀ (b : Frame) (k : List Item) (cs : List Frame),
      ∃ e a' w', Q' e a' w' ∧ Arrives P (lone (b.at a (.code c :: .inLoop c :: k)) cs w) b k cs e a' w' := by
  intro n
  induction n with
  | zero => intro R S e R' S' h; simp [iter] at h
  | succ n ih =>
    intro R S e R' S' h a w hrel Q' hQ
    simp only [iter] at h
    split at h
    · rename_i R1 S1 h1
      refine ⟨?_, ?_⟩
      · have hw := hf R S .norm R1 S1 h1 a w hrel (fun e a w => e = .normal ∧ Rel P nG ρ0 S0 w0 R1 S1 a w) (fun a' w' h => ⟨rfl, h⟩)
        obtain ⟨_, a1, w1, ⟨_, hr⟩, _⟩ := hw (default) [] []
        exact (ih R1 S1 e R' S' h a1 w1 hr Q' hQ).1
      · intro b k cs
        have hw := hf R S .norm R1 S1 h1 a w hrel (fun e a w => e = .normal ∧ Rel P nG ρ0 S0 w0 R1 S1 a w) (fun a' w' h => ⟨rfl, h⟩)
        obtain ⟨e1, a1, w1, ⟨he1, hr⟩, harr⟩ := hw b (.inLoop c :: k) cs
        subst he1
        obtain ⟨e2, a2, w2, hq, harr2⟩ := (ih R1 S1 e R' S' h a1 w1 hr Q' hQ).2 b k cs
        exact ⟨e2, a2, w2, hq, .of_steps (Steps.trans harr (.one step_inLoop)) harr2⟩
    · rename_i R1 S1 h1
      simp only [Option.some.injEq, Prod.mk.injEq] at h
      obtain ⟨rfl, rfl, rfl⟩ := h
      refine ⟨by simp, fun b k cs => ?_⟩
      have hw := hf R S .ret _ _ h1 a w hrel (fun e a w => e = .ret ∧ Q' .ret a w) (fun a' w' h => ⟨rfl, hQ a' w' h⟩)
      obtain ⟨e1, a1, w1, ⟨he1, hr⟩, harr⟩ := hw b (.inLoop c :: k) cs
      subst he1
      exact ⟨_, a1, w1, hr, .pass (x := .inLoop c) rfl (fun _ _ => .inl (by simp)) harr⟩
    · rename_i id R1 S1 h1
      simp only [Option.some.injEq, Prod.mk.injEq] at h
      obtain ⟨rfl, rfl, rfl⟩ := h
      refine ⟨by simp, fun b k cs => ?_⟩
      have hw := hf R S (.exit id) _ _ h1 a w hrel (fun e a w => e = .exit id ∧ Q' (.exit id) a w) (fun a' w' h => ⟨rfl, hQ a' w' h⟩)
      obtain ⟨e1, a1, w1, ⟨he1, hr⟩, harr⟩ := hw b (.inLoop c :: k) cs
      subst he1
      exact ⟨_, a1, w1, hr, .pass (x := .inLoop c) rfl (fun _ _ => .inl (by simp)) harr⟩
    · cases h

theorem evo_iter {f : List Value → St → Option (Out × List Value × St)} (hf : ∀ R S e R' S', f R S = some (e, R', S') → Evo S S') :
    ∀ (n : Nat) (R : List Value) (S : St) (e : Out) (R' : List Value) (S' : St), iter f n R S = some (e, R', S') → Evo S S' := by
  intro n
  induction n with
  | zero => intro R S e R' S' h; simp [iter] at h
  | succ n ih =>
    intro R S e R' S' h
    simp only [iter] at h
    split at h
    · rename_i R1 S1 h1
      exact (hf _ _ _ _ _ h1).trans (ih _ _ _ _ _ h)
    · rename_i R1 S1 h1
      simp only [Option.some.injEq, Prod.mk.injEq] at h
      obtain ⟨rfl, rfl, rfl⟩ := h
      exact hf _ _ _ _ _ h1
    · rename_i id R1 S1 h1
      simp only [Option.some.injEq, Prod.mk.injEq] at h
      obtain ⟨rfl, rfl, rfl⟩ := h
      exact hf _ _ _ _ _ h1
    · cases h

def CodeOK (P : Program) (nG : Nat) (C : CallS) (ρ0 : Rho) (S0 : St) (w0 : World) (c : Code) (ic : ICode) : Prop :=
  ∀ R S e R' S', evCode C ic R S = some (e, R', S') → Evo S S' ∧ ∀ (a : Act) (w : World), Rel P nG ρ0 S0 w0 R S a w → ∀ Q' : Exit → Act → World → Prop, (∀ a' w', Rel P nG ρ0 S0 w0 R' S' a' w' → Q' (outTo e) a' w') → c.wp P Q' a w

theorem code_sound (hC : CallOK P nG C) (hm : P.follows .mixedOrders = true) : ∀ (c : Code) (ic : ICode), cCode P nG Q c = some ic → CodeOK P nG C ρ0 S0 w0 c ic := by
  intro c
  induction c with
  | skip =>
    intro ic hc R S e R' S' h
    simp only [cCode, Option.some.injEq] at hc; subst hc
    simp only [evCode, Option.some.injEq, Prod.mk.injEq] at h
    obtain ⟨rfl, rfl, rfl⟩ := h
    exact ⟨Evo.refl _, fun a w hr Q' hQ => wp_skip (hQ a w hr)⟩
  | label l =>
    intro ic hc R S e R' S' h
    simp only [cCode, Option.some.injEq] at hc; subst hc
    simp only [evCode, Option.some.injEq, Prod.mk.injEq] at h
    obtain ⟨rfl, rfl, rfl⟩ := h
    exact ⟨Evo.refl _, fun a w hr Q' hQ => wp_label (hQ a w hr)⟩
  | exit id =>
    intro ic hc R S e R' S' h
    simp only [cCode, Option.some.injEq] at hc; subst hc
    simp only [evCode, Option.some.injEq, Prod.mk.injEq] at h
    obtain ⟨rfl, rfl, rfl⟩ := h
    exact ⟨Evo.refl _, fun a w hr Q' hQ => wp_exit (hQ a w hr)⟩
  | ret =>
    intro ic hc R S e R' S' h
    simp only [cCode, Option.some.injEq] at hc; subst hc
    simp only [evCode, Option.some.injEq, Prod.mk.injEq] at h
    obtain ⟨rfl, rfl, rfl⟩ := h
    exact ⟨Evo.refl _, fun a w hr Q' hQ => wp_ret (hQ a w hr)⟩
  | scope c ih =>
    intro ic hc R S e R' S' h
    simp only [cCode] at hc
    obtain ⟨h1, h2⟩ := ih ic hc R S e R' S' h
    exact ⟨h1, fun a w hr Q' hQ => wp_scope_straight (h2 a w hr _ (fun a' w' hr' => by cases e <;> exact hQ a' w' hr'))⟩
  | seq x y ih1 ih2 =>
    intro ic hc R S e R' S' h
    simp only [cCode] at hc
    split at hc
    · rename_i x' y' hx hy
      simp only [Option.some.injEq] at hc; subst hc
      simp only [evCode] at h
      split at h
      · rename_i R1 S1 hh
        obtain ⟨p1, p2⟩ := ih1 _ hx _ _ _ _ _ hh
        obtain ⟨q1, q2⟩ := ih2 _ hy _ _ _ _ _ h
        exact ⟨p1.trans q1, fun a w hr Q' hQ => wp_seq (p2 a w hr _ fun a' w' hr' => q2 a' w' hr' Q' hQ)⟩
      · rename_i R1 S1 hh
        simp only [Option.some.injEq, Prod.mk.injEq] at h
        obtain ⟨rfl, rfl, rfl⟩ := h
        obtain ⟨p1, p2⟩ := ih1 _ hx _ _ _ _ _ hh
        exact ⟨p1, fun a w hr Q' hQ => wp_seq (p2 a w hr _ fun a' w' hr' => hQ a' w' hr')⟩
      · rename_i id R1 S1 hh
        simp only [Option.some.injEq, Prod.mk.injEq] at h
        obtain ⟨rfl, rfl, rfl⟩ := h
        obtain ⟨p1, p2⟩ := ih1 _ hx _ _ _ _ _ hh
        exact ⟨p1, fun a w hr Q' hQ => wp_seq (p2 a w hr _ fun a' w' hr' => hQ a' w' hr')⟩
      · cases h
    · cases hc
  | cond c x y ih1 ih2 =>
    intro ic hc R S e R' S' h
    simp only [cCode] at hc
    split at hc
    · rename_i c' x' y' hcc hx hy
      simp only [Option.some.injEq] at hc; subst hc
      simp only [evCode] at h
      have hev : ∀ (a : Act) (w : World), Rel P nG ρ0 S0 w0 R S a w → ∀ t, c'.ev R = .bool t → a.eval c = .bool t := by
        intro a w hr t ht
        obtain ⟨ρ, ha, _, rep, _, _⟩ := hr
        rw [iv_sound ha (fun g h => ⟨(rep.glob g h).1, (rep.glob g h).2.1⟩) hcc, ht, ren_bool]
      split at h
      · rename_i hh
        obtain ⟨p1, p2⟩ := ih1 _ hx _ _ _ _ _ h
        exact ⟨p1, fun a w hr Q' hQ => wp_cond_true (hev a w hr _ hh) (p2 a w hr Q' hQ)⟩
      · rename_i hh
        obtain ⟨p1, p2⟩ := ih2 _ hy _ _ _ _ _ h
        exact ⟨p1, fun a w hr Q' hQ => wp_cond_false (hev a w hr _ hh) (p2 a w hr Q' hQ)⟩
      · cases h
    · cases hc
  | block id b ih =>
    intro ic hc R S e R' S' h
    simp only [cCode] at hc
    obtain ⟨b', hb, rfl⟩ := Option.map_eq_some_iff.1 hc
    simp only [evCode] at h
    split at h
    · rename_i id' R1 S1 hh
      obtain ⟨p1, p2⟩ := ih _ hb _ _ _ _ _ hh
      split at h
      · rename_i hid
        simp only [Option.some.injEq, Prod.mk.injEq] at h
        obtain ⟨rfl, rfl, rfl⟩ := h
        exact ⟨p1, fun a w hr Q' hQ => wp_block (p2 a w hr _ fun a' w' hr' => by simp only [outTo, Exit.inBlock, hid, if_true]; exact hQ a' w' hr')⟩
      · rename_i hid
        simp only [Option.some.injEq, Prod.mk.injEq] at h
        obtain ⟨rfl, rfl, rfl⟩ := h
        exact ⟨p1, fun a w hr Q' hQ => wp_block (p2 a w hr _ fun a' w' hr' => by simp only [outTo, Exit.inBlock, hid, if_false]; exact hQ a' w' hr')⟩
    · rename_i hno
      obtain ⟨p1, p2⟩ := ih _ hb _ _ _ _ _ h
      refine ⟨p1, fun a w hr Q' hQ => wp_block (p2 a w hr _ fun a' w' hr' => ?_)⟩
      cases e with
      | norm => exact hQ a' w' hr'
      | ret => exact hQ a' w' hr'
      | exit id' => exact absurd h (hno id' R' S')
  | loop b ih =>
    intro ic hc R S e R' S' h
    simp only [cCode] at hc
    obtain ⟨b', hb, rfl⟩ := Option.map_eq_some_iff.1 hc
    simp only [evCode] at h
    refine ⟨evo_iter (fun R S e R' S' hh => (ih _ hb _ _ _ _ _ hh).1) _ _ _ _ _ _ h, fun a w hr Q' hQ => ?_⟩
    intro fb k cs
    obtain ⟨e', a', w', hq, harr⟩ := (wp_iter (P := P) (c := b) (fun R S e R' S' hh => (ih _ hb _ _ _ _ _ hh).2) _ _ _ _ _ _ h a w hr Q' hQ).2 fb k cs
    exact ⟨e', a', w', hq, .of_steps (.one step_loop) harr⟩
  | region id ops draw =>
    intro ic hc R S e R' S' h
    simp only [cCode] at hc
    split at hc
    · rename_i io0 h0
      obtain ⟨io, hio, rfl⟩ := Option.map_eq_some_iff.1 hc
      simp only [evCode] at h
      split at h
      · rename_i R1 S1 hev
        simp only [Option.some.injEq, Prod.mk.injEq] at h
        obtain ⟨rfl, rfl, rfl⟩ := h
        cases draw with
        | true =>
          obtain ⟨p1, p2⟩ := draw_sound (ρ0 := ρ0) (S0 := S0) (w0 := w0) hC hm h0 hio hev
          exact ⟨p1, fun a w hr Q' hQ => p2 id a w Q' hr hQ⟩
        | false =>
          simp only [inOrder, Bool.not_false, if_true, Option.some.injEq] at hio
          subst hio
          obtain ⟨p1, p2⟩ := ops_sound (ρ0 := ρ0) (S0 := S0) (w0 := w0) hC h0 hev
          exact ⟨p1, fun a w hr Q' hQ => wp_region_list (p2 a w Q' hr hQ)⟩
      · cases h
    · cases hc
  | _ => intro ic hc; simp [cCode] at hc

end
end Go.Proofs.YtepddcemoofmlaaGreat.AE
