/- More calls answered, nothing else: and the fast form at the leaves of a run that is cut. -/
import Derived.Test.YtepddcemoofmlaaGreatAe27
namespace Go.Proofs.YtepddcemoofmlaaGreat.AE
open Go

/-- C2 answers what C1 answers. -/
def Sub (C1 C2 : CallS) : Prop := ∀ f args S x, C1 f args S = some x → C2 f args S = some x

theorem evOp_mono {C1 C2 : CallS} (h : Sub C1 C2) {R : List Value} {S : St} {o : IOp} {x : Value × St} (he : evOp C1 R S o = some x) : evOp C2 R S o = some x := by
  cases o with
  | call f args q =>
    simp only [evOp, evCall] at he ⊢
    generalize f.ev R = fv at he ⊢
    cases fv with
    | func fn first captured =>
      cases fn with
      | func fid =>
        simp only at he ⊢
        cases hc : C1 fid (first.toList ++ (List.map (IV.ev R) args ++ captured.toList)) S with
        | none => rw [hc] at he; cases he
        | some y =>
          rw [hc] at he
          rw [h _ _ _ _ hc]
          exact he
      | _ => cases he
    | _ => cases he
  | _ => exact he

theorem evOps_mono {C1 C2 : CallS} (h : Sub C1 C2) {al : List IOper} : ∀ {l : List IOper} {p : Nat} {H : List (Nat × St)} {R : List Value} {S : St} {x : List Value × St}, evOps C1 al l p H R S = some x → evOps C2 al l p H R S = some x
  | [], _, _, _, _, _, he => he
  | o :: l, p, H, R, S, x, he => by
    simp only [evOps] at he ⊢
    by_cases hw : wantedI o.guard R = true
    · rw [if_pos hw] at he ⊢
      split at he
      · rename_i v S' hv
        simp only [evOp_mono h hv]
        split at he
        · rename_i hc
          rw [if_pos hc]
          exact evOps_mono h he
        · cases he
      · cases he
    · rw [if_neg hw] at he ⊢
      exact evOps_mono h he

theorem iter_sub {f g : List Value → St → Option (Out × List Value × St)} (h : ∀ R S x, f R S = some x → g R S = some x) : ∀ (n : Nat) {R : List Value} {S : St} {x : Out × List Value × St}, iter f n R S = some x → iter g n R S = some x
  | 0, _, _, _, he => by simp [iter] at he
  | n + 1, R, S, x, he => by
    unfold iter at he ⊢
    cases hf : f R S with
    | none => rw [hf] at he; cases he
    | some y =>
      obtain ⟨o, R1, S1⟩ := y
      rw [hf] at he
      rw [h _ _ _ hf]
      cases o with
      | norm => exact iter_sub h n he
      | ret => exact he
      | exit id => exact he

theorem evCode_mono {C1 C2 : CallS} (h : Sub C1 C2) : ∀ (c : ICode) {R : List Value} {S : St} {x : Out × List Value × St}, evCode C1 c R S = some x → evCode C2 c R S = some x := by
  intro c
  induction c with
  | skip => intro R S x he; exact he
  | exit id => intro R S x he; exact he
  | ret => intro R S x he; exact he
  | region l =>
    intro R S x he
    simp only [evCode] at he ⊢
    split at he
    · rename_i R' S' ho
      simp only [evOps_mono h ho]; exact he
    · cases he
  | seq a b iha ihb =>
    intro R S x he
    simp only [evCode] at he ⊢
    split at he
    · rename_i R' S' ho
      simp only [iha ho]; exact ihb he
    · rename_i R' S' ho
      simp only [iha ho]; exact he
    · rename_i id R' S' ho
      simp only [iha ho]; exact he
    · cases he
  | cond v a b iha ihb =>
    intro R S x he
    simp only [evCode] at he ⊢
    generalize v.ev R = vv at he ⊢
    cases vv with
    | bool t => cases t with
      | true => exact iha he
      | false => exact ihb he
    | _ => cases he
  | block id b ih =>
    intro R S x he
    simp only [evCode] at he ⊢
    cases hb : evCode C1 b R S with
    | none => rw [hb] at he; cases he
    | some y =>
      rw [hb] at he
      rw [ih hb]
      exact he
  | loop b ih =>
    intro R S x he
    simp only [evCode] at he ⊢
    exact iter_sub (fun R S x hh => ih hh) _ he

theorem evL_mono {C1 C2 : CallS} (h : Sub C1 C2) : ∀ (l : List ICode) {R : List Value} {S : St} {x : Out × List Value × St}, evL C1 l R S = some x → evL C2 l R S = some x
  | [], _, _, _, he => he
  | c :: l, R, S, x, he => by
    simp only [evL] at he ⊢
    cases hc : evCode C1 c R S with
    | none => rw [hc] at he; cases he
    | some y =>
      obtain ⟨o, R1, S1⟩ := y
      rw [hc] at he
      rw [evCode_mono h c hc]
      cases o with
      | norm => exact evL_mono h l he
      | ret => exact he
      | exit id => exact he

theorem evFun_mono {C1 C2 : CallS} (h : Sub C1 C2) {prog : Nat → Option IFun} : Sub (evFun prog C1) (evFun prog C2) := by
  intro f args S x he
  unfold evFun at he ⊢
  cases hf : prog f with
  | none => rw [hf] at he; cases he
  | some fn =>
    rw [hf] at he
    simp only at he ⊢
    cases hc : evCode C1 fn.body (args ++ List.replicate (fn.ntmps - args.length) undef) ⟨S.blks, S.blks.length, S.blks.length⟩ with
    | none => rw [hc] at he; cases he
    | some y =>
      rw [hc] at he
      rw [evCode_mono h _ hc]
      exact he

theorem fCalls_sub {t : Tree} : ∀ n, Sub (fCalls t.look n) (calls t.find n)
  | 0 => fun _ _ _ _ h => by cases h
  | n + 1 => fun f args S x h => by
    have e : fCalls t.look (n + 1) f args S = fFun t.look (fCalls t.look n) f args S := rfl
    rw [e] at h
    unfold fFun at h
    split at h
    · cases h
    · rename_i fn hf
      have h2 := fRun_ok (prog := t.find) (by rw [← look_eq]; exact hf) h
      exact evFun_mono (fCalls_sub n) f args S x h2

noncomputable def fL (C : CallS) (n : Nat) (l : List ICode) : FX :=
  List.rec (motive := fun _ => FX) (fun T S => .norm T S) (fun c _ k => kSeq (fCode C n c) k) l

theorem fL_ok {C : CallS} {n : Nat} : ∀ (l : List ICode) {T : Tr} {R : List Value} {S : St}, Like T R → R.length = n → FRok2 n (fL C n l T S) (evL C l R S)
  | [], T, R, S, h, hn => ⟨R, rfl, h, hn⟩
  | c :: l, T, R, S, h, hn => by
    have e : fL C n (c :: l) T S = FR.rec (motive := fun _ => FR) .no (fL C n l) .ret .exit (fCode C n c T S) := rfl
    rw [e]
    have ia := fCode_ok c (C := C) (S := S) h hn
    cases ha : fCode C n c T S with
    | no => trivial
    | norm T' S' =>
      rw [ha] at ia
      obtain ⟨R', h1, h2, h3⟩ := ia
      have := fL_ok l (S := S') (C := C) h2 h3
      show FRok2 n (fL C n l T' S') _
      simp only [evL, h1]; exact this
    | ret T' S' =>
      rw [ha] at ia
      obtain ⟨R', h1, h2, h3⟩ := ia
      exact ⟨R', by simp only [evL, h1], h2, h3⟩
    | exit id T' S' =>
      rw [ha] at ia
      obtain ⟨R', h1, h2, h3⟩ := ia
      exact ⟨R', by simp only [evL, h1], h2, h3⟩

noncomputable def fOut (n : Nat) (r : FR) : Option (Out × List Value × St) :=
  FR.rec (motive := fun _ => Option (Out × List Value × St)) none (fun T S => some (.norm, toL n T.get, S)) (fun T S => some (.ret, toL n T.get, S)) (fun id T S => some (.exit id, toL n T.get, S)) r

theorem fOut_ok {n : Nat} {r : FR} {x : Option (Out × List Value × St)} {y : Out × List Value × St} (h : FRok2 n r x) (hy : fOut n r = some y) : x = some y := by
  cases r with
  | no => cases hy
  | norm T S =>
    obtain ⟨R, h1, h2, h3⟩ := h
    have : some (Out.norm, toL n T.get, S) = some y := hy
    rw [like_toL h2 h3] at this
    rw [h1, this]
  | ret T S =>
    obtain ⟨R, h1, h2, h3⟩ := h
    have : some (Out.ret, toL n T.get, S) = some y := hy
    rw [like_toL h2 h3] at this
    rw [h1, this]
  | exit id T S =>
    obtain ⟨R, h1, h2, h3⟩ := h
    have : some (Out.exit id, toL n T.get, S) = some y := hy
    rw [like_toL h2 h3] at this
    rw [h1, this]

/-- A leaf: some pieces of code, in the fast form. -/
theorem t_leaf {t : Tree} {d n : Nat} {l : List ICode} {R : List Value} {S : St} {y : Out × List Value × St} (hn : R.length = n) (hb : Nat.blt n 1000000 = true)
    (h : fOut n (fL (fCalls t.look d) n l (Tr.start 0 R) S) = some y) : evL (calls t.find d) l R S = some y := by
  have hl : Like (Tr.start 0 R) R := by
    have := like_start (n := 0) (vs := R) (by simpa [hn] using hb)
    simpa using this
  exact evL_mono (fCalls_sub d) l (fOut_ok (fL_ok l hl hn) h)

theorem t_leafC {t : Tree} {d n : Nat} {c : ICode} {R : List Value} {S : St} {y : Out × List Value × St} (hn : R.length = n) (hb : Nat.blt n 1000000 = true)
    (h : fOut n (fL (fCalls t.look d) n [c] (Tr.start 0 R) S) = some y) : evCode (calls t.find d) c R S = some y := by
  rw [← evL_one]; exact t_leaf hn hb h

theorem t_call_fast {t : Tree} {d : Nat} {R : List Value} {S : St} {o : IOp} {x : Value × St} (h : evOp (fCalls t.look d) R S o = some x) : evOp (calls t.find d) R S o = some x := evOp_mono (fCalls_sub d) h

end Go.Proofs.YtepddcemoofmlaaGreat.AE
