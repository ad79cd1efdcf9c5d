/- Rules by which a long evaluation is cut into short ones. -/
import Derived.Test.YtepddcemoofmlaaGreatAe22
namespace Go.Proofs.YtepddcemoofmlaaGreat.AE
open Go

section
variable {C : CallS} {R R0 R1 : List Value} {S S0 S1 : St} {a b c : ICode} {r : Option (Out × List Value × St)} {e : Out}

theorem t_seq (h1 : evCode C a R S = some (.norm, R1, S1)) (h2 : evCode C b R1 S1 = r) : evCode C (.seq a b) R S = r := by
  simp only [evCode, h1, h2]

theorem t_seq_out (h1 : evCode C a R S = some (e, R1, S1)) (he : e ≠ .norm) : evCode C (.seq a b) R S = some (e, R1, S1) := by
  cases e <;> simp_all [evCode]

theorem t_cond_t {x : IV} (hc : x.ev R = .bool true) (h : evCode C a R S = r) : evCode C (.cond x a b) R S = r := by
  simp only [evCode, hc, h]

theorem t_cond_f {x : IV} (hc : x.ev R = .bool false) (h : evCode C b R S = r) : evCode C (.cond x a b) R S = r := by
  simp only [evCode, hc, h]

theorem t_block_hit {id : Nat} (h : evCode C b R S = some (.exit id, R1, S1)) : evCode C (.block id b) R S = some (.norm, R1, S1) := by
  simp [evCode, h]

theorem t_block {id : Nat} (h : evCode C b R S = some (e, R1, S1)) (he : e ≠ .exit id) : evCode C (.block id b) R S = some (e, R1, S1) := by
  cases e <;> simp_all [evCode]

theorem iter_mono {f : List Value → St → Option (Out × List Value × St)} : ∀ {n m : Nat} {R : List Value} {S : St} {x : Out × List Value × St}, iter f n R S = some x → n ≤ m → iter f m R S = some x
  | 0, _, _, _, _, h, _ => by simp [iter] at h
  | n + 1, 0, _, _, _, _, hm => by omega
  | n + 1, m + 1, R, S, x, h, hm => by
    unfold iter at h ⊢
    cases hf : f R S with
    | none => rw [hf] at h; cases h
    | some y =>
      obtain ⟨o, R1, S1⟩ := y
      rw [hf] at h
      cases o with
      | norm => exact iter_mono h (by omega)
      | ret => exact h
      | exit id => exact h

/-- So many rounds of a loop. -/
def Goes (C : CallS) (b : ICode) (n : Nat) (R : List Value) (S : St) (r : Option (Out × List Value × St)) : Prop := iter (fun R S => evCode C b R S) n R S = r

theorem t_go {n : Nat} (h : evCode C b R S = some (.norm, R1, S1)) (h2 : Goes C b n R1 S1 r) : Goes C b (n + 1) R S r := by
  simp only [Goes, iter, h]; exact h2

theorem t_went {n : Nat} (h : evCode C b R S = some (e, R1, S1)) (he : e ≠ .norm) : Goes C b (n + 1) R S (some (e, R1, S1)) := by
  cases e <;> simp_all [Goes, iter]

theorem t_loop {n : Nat} {x : Out × List Value × St} (h : Goes C b n R S (some x)) (hn : n ≤ rounds) : evCode C (.loop b) R S = some x := by
  simp only [evCode]; exact iter_mono h hn

theorem t_region {l : List IOper} (h : evOps C l l 0 [] R S = some (R1, S1)) : evCode C (.region l) R S = some (.norm, R1, S1) := by
  simp only [evCode, h]

theorem t_ops_nil {al : List IOper} {p : Nat} {H : List (Nat × St)} : evOps C al [] p H R S = some (R, S) := rfl

theorem t_ops_skip {al l : List IOper} {o : IOper} {p : Nat} {H : List (Nat × St)} {x : Option (List Value × St)} (hw : wantedI o.guard R = false) (hR : put R o.dst undef = R1) (h : evOps C al l (p + 1) H R1 S = x) :
    evOps C al (o :: l) p H R S = x := by
  simp only [evOps, hw, Bool.false_eq_true, if_false, hR, h]

theorem t_ops_cons {al l : List IOper} {o : IOper} {p : Nat} {H H' : List (Nat × St)} {v : Value} {x : Option (List Value × St)} (hw : wantedI o.guard R = true) (hv : evOp C R S o.op = some (v, S1)) (hR : put R o.dst v = R1)
    (hpre : preOk o.pre o.op H R v = true) (hpost : postOk o.post al R1 S1 = true) (hH : (if o.snap then (p, S) :: H else H) = H') (h : evOps C al l (p + 1) H' R1 S1 = x) :
    evOps C al (o :: l) p H R S = x := by
  simp only [evOps, hw, if_true, hv, hR, hpre, hpost, Bool.and_self, hH, h]

theorem t_call {f : IV} {args : List IV} {q q' : Bool} {fid : FuncId} {first captured : Array Value} {vs : List Value} {v : Value} (hf : f.ev R = .func (.func fid) first captured)
    (hvs : first.toList ++ (args.map (IV.ev R) ++ captured.toList) = vs) (h : C fid vs S = some (v, S1, q')) (hq : (q && !q') = false) : evOp C R S (.call f args q) = some (v, S1) := by
  simp only [evOp, evCall, hf, hvs, h, hq, Bool.false_eq_true, if_false]

theorem t_fun {prog : Nat → Option IFun} {n f : Nat} {fn : IFun} {vs : List Value} {v : Value} {x : Value × St × Bool} (hf : prog f = some fn) (hb : fn.body = c) (hR : vs ++ List.replicate (fn.ntmps - vs.length) undef = R0)
    (hS : (⟨S.blks, S.blks.length, S.blks.length⟩ : St) = S0) (h : evCode (calls prog n) c R0 S0 = some (e, R1, S1)) (he : e = .norm ∨ e = .ret) (hr : evRes R1 S1 fn.res = some v) (hl : leave S S1 v = x) :
    calls prog (n + 1) f vs S = some x := by
  show evFun prog (calls prog n) f vs S = some x
  unfold evFun
  simp only [hf, hb, hR, hS, h]
  rcases he with rfl | rfl <;> simp only [hr, hl, Option.map_some]

end
/-- A chain of code as a list. -/
def flat : ICode → List ICode
  | .seq a b => flat a ++ flat b
  | c => [c]

def evL (C : CallS) : List ICode → List Value → St → Option (Out × List Value × St)
  | [], R, S => some (.norm, R, S)
  | c :: l, R, S => match evCode C c R S with
    | some (.norm, R', S') => evL C l R' S'
    | some (.ret, R', S') => some (.ret, R', S')
    | some (.exit id, R', S') => some (.exit id, R', S')
    | none => none

theorem evL_append (C : CallS) : ∀ (l l' : List ICode) (R : List Value) (S : St), evL C (l ++ l') R S = match evL C l R S with
    | some (.norm, R', S') => evL C l' R' S'
    | some (.ret, R', S') => some (.ret, R', S')
    | some (.exit id, R', S') => some (.exit id, R', S')
    | none => none
  | [], l', R, S => rfl
  | c :: l, l', R, S => by
    simp only [List.cons_append, evL]
    cases evCode C c R S with
    | none => rfl
    | some y =>
      obtain ⟨o, R1, S1⟩ := y
      cases o with
      | norm => exact evL_append C l l' R1 S1
      | ret => rfl
      | exit id => rfl

theorem evL_one (C : CallS) (c : ICode) (R : List Value) (S : St) : evL C [c] R S = evCode C c R S := by
  simp only [evL]
  cases evCode C c R S with
  | none => rfl
  | some y =>
    obtain ⟨o, R1, S1⟩ := y
    cases o <;> rfl

theorem evL_flat (C : CallS) : ∀ (c : ICode) (R : List Value) (S : St), evL C (flat c) R S = evCode C c R S
  | .seq a b, R, S => by
    simp only [flat, evL_append, evL_flat C a, evCode]
    cases evCode C a R S with
    | none => rfl
    | some y =>
      obtain ⟨o, R1, S1⟩ := y
      cases o with
      | norm => exact evL_flat C b R1 S1
      | ret => rfl
      | exit id => rfl
  | .skip, R, S => evL_one C _ R S
  | .region _, R, S => evL_one C _ R S
  | .cond _ _ _, R, S => evL_one C _ R S
  | .block _ _, R, S => evL_one C _ R S
  | .loop _, R, S => evL_one C _ R S
  | .exit _, R, S => evL_one C _ R S
  | .ret, R, S => evL_one C _ R S

theorem t_flat {C : CallS} {R : List Value} {S : St} {c : ICode} {l : List ICode} {r : Option (Out × List Value × St)} (hf : flat c = l) (h : evL C l R S = r) : evCode C c R S = r := by
  rw [← evL_flat, hf, h]

theorem t_one {C : CallS} {R : List Value} {S : St} {c : ICode} {r : Option (Out × List Value × St)} (h : evCode C c R S = r) : evL C [c] R S = r := by
  rw [evL_one, h]

theorem t_app {C : CallS} {R R1 : List Value} {S S1 : St} {l l' : List ICode} {r : Option (Out × List Value × St)} (h1 : evL C l R S = some (.norm, R1, S1)) (h2 : evL C l' R1 S1 = r) : evL C (l ++ l') R S = r := by
  rw [evL_append, h1]; exact h2

theorem t_app_out {C : CallS} {R R1 : List Value} {S S1 : St} {l l' : List ICode} {e : Out} (h1 : evL C l R S = some (e, R1, S1)) (he : e ≠ .norm) : evL C (l ++ l') R S = some (e, R1, S1) := by
  rw [evL_append, h1]
  cases e <;> simp_all

end Go.Proofs.YtepddcemoofmlaaGreat.AE
