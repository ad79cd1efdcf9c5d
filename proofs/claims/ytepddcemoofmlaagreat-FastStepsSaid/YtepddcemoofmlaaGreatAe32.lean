/- Rules for loops, and for a frame's values that are named by their numbers. -/
import Derived.Test.YtepddcemoofmlaaGreatAe31
import Derived.KernelRfl
import Derived.IntWalk
import Derived.Laws.Bits64
namespace Go.Proofs.YtepddcemoofmlaaGreat.AE
open Go

theorem W_ex : ∃ f : IntKind → Int → Int, ∀ k n, f k n = k.wrap n := ⟨_, fun _ _ => rfl⟩

/-- A number brought into its kind's range, as a name that nothing unfolds. -/
noncomputable def W : IntKind → Int → Int := Classical.choose W_ex

@[simp] theorem wrap_W (k : IntKind) (n : Int) : k.wrap n = W k n := (Classical.choose_spec W_ex k n).symm
theorem W_wrap (k : IntKind) (n : Int) : W k n = k.wrap n := Classical.choose_spec W_ex k n
theorem W_i64 {n : Int} (h : -9223372036854775808 ≤ n ∧ n ≤ 9223372036854775807) : W .i64 n = n := by rw [W_wrap]; exact IntWalk.i64_in n h
theorem W_u64 (n : Int) : W .u64 n = n % 18446744073709551616 := by rw [W_wrap]; exact IntKind.wrap_u64 n

/-- What a frame says of a temporary; a frame with another value there. -/
def rd (R : List Value) (n : Nat) : Value := R.getD n undef
def wr (R : List Value) (n : Nat) (v : Value) : List Value := R.set n v

@[simp] theorem wr_length {R : List Value} {n : Nat} {v : Value} : (wr R n v).length = R.length := by simp [wr]
@[simp] theorem rd_self {R : List Value} {n : Nat} {v : Value} (h : n < R.length) : rd (wr R n v) n = v := by
  simp [rd, wr, h]
@[simp] theorem rd_ne {R : List Value} {n m : Nat} {v : Value} (h : n ≠ m) : rd (wr R n v) m = rd R m := by
  simp [rd, wr, List.getElem?_set_ne h]

@[simp] theorem rd_zero {v : Value} {R : List Value} : rd (v :: R) 0 = v := (rfl)
@[simp] theorem rd_succ {v : Value} {R : List Value} {n : Nat} : rd (v :: R) (n + 1) = rd R n := (rfl)

@[simp] theorem ev_t {R : List Value} {n : Nat} : IV.ev R (.t n) = rd R n := (rfl)
@[simp] theorem ev_c {R : List Value} {v : Value} : IV.ev R (.c v) = v := (rfl)
@[simp] theorem ev_g {R : List Value} {b : Nat} : IV.ev R (.g b) = .pointer (some ⟨b, 0, none⟩) := (rfl)
@[simp] theorem put_some {R : List Value} {d : Nat} {v : Value} : put R (some d) v = wr R d v := (rfl)
@[simp] theorem put_none {R : List Value} {v : Value} : put R none v = R := (rfl)
@[simp] theorem wanted_none {R : List Value} : wantedI none R = true := (rfl)
@[simp] theorem getD_rd {R : List Value} {n : Nat} : R[n]?.getD undef = rd R n := by simp [rd]

@[simp] theorem res_tmp {R : List Value} {S : St} {t : Nat} : evRes1 R S (.tmp t) = some (rd R t) := (rfl)
/-- Is a guard's bit as it is wanted? -/
def isBit (v : Value) (w : Bool) : Bool := match v with
  | .bool b => b == w
  | _ => false

@[simp] theorem isBit_bool {b w : Bool} : isBit (.bool b) w = (b == w) := (rfl)

@[simp] theorem wanted_some {R : List Value} {t : Nat} {w : Bool} (h : t < R.length) : wantedI (some (t, w)) R = isBit (rd R t) w := by
  have : R[t]? = some (rd R t) := by simp [rd, h]
  simp only [wantedI, this, isBit]
  cases rd R t <;> rfl

/-- A run comes to something of which P says so. -/
def Leads (x : Res) (P : Out → List Value → St → Prop) : Prop := ∃ o R S, x = some (o, R, S) ∧ P o R S

@[simp] theorem leads_some {o : Out} {R : List Value} {S : St} {P : Out → List Value → St → Prop} : Leads (some (o, R, S)) P ↔ P o R S := by
  constructor
  · rintro ⟨o', R', S', h, k⟩
    simp only [Option.some.injEq, Prod.mk.injEq] at h
    obtain ⟨rfl, rfl, rfl⟩ := h
    exact k
  · exact fun h => ⟨_, _, _, rfl, h⟩

/-- A round: it goes on with less, or leaves. -/
def Round (I : Nat → List Value → St → Prop) (Q : Out → List Value → St → Prop) (k : Nat) (o : Out) (R : List Value) (S : St) : Prop :=
  match o with
  | .norm => ∃ k', k' < k ∧ I k' R S
  | .ret => Q .ret R S
  | .exit id => Q (.exit id) R S

@[simp] theorem round_norm {I : Nat → List Value → St → Prop} {Q : Out → List Value → St → Prop} {k : Nat} {R : List Value} {S : St} : Round I Q k .norm R S ↔ ∃ k', k' < k ∧ I k' R S := (Iff.rfl)
@[simp] theorem round_ret {I : Nat → List Value → St → Prop} {Q : Out → List Value → St → Prop} {k : Nat} {R : List Value} {S : St} : Round I Q k .ret R S ↔ Q .ret R S := (Iff.rfl)
@[simp] theorem round_exit {I : Nat → List Value → St → Prop} {Q : Out → List Value → St → Prop} {k id : Nat} {R : List Value} {S : St} : Round I Q k (.exit id) R S ↔ Q (.exit id) R S := (Iff.rfl)

theorem iter_goes {f : List Value → St → Res} {I : Nat → List Value → St → Prop} {Q : Out → List Value → St → Prop}
    (h : ∀ k R S, I k R S → Leads (f R S) (Round I Q k)) : ∀ n k R S, I k R S → k < n → Leads (iter f n R S) Q
  | 0, k, R, S, _, hk => absurd hk (Nat.not_lt_zero k)
  | n + 1, k, R, S, hI, hk => by
    obtain ⟨o, R', S', he, hr⟩ := h k R S hI
    cases o with
    | norm =>
      obtain ⟨k', hlt, hI'⟩ := hr
      simp only [iter, he]
      exact iter_goes h n k' R' S' hI' (by omega)
    | ret => simp only [iter, he, leads_some]; exact hr
    | exit id => simp only [iter, he, leads_some]; exact hr

/-- A loop of a function's. -/
theorem loop_goes {C : CallS} {b : ICode} {R : List Value} {S : St} (I : Nat → List Value → St → Prop) (Q : Out → List Value → St → Prop) (k : Nat) (hk : k < 1000000000000000000) (hI : I k R S)
    (h : ∀ k R S, I k R S → Leads (evCode C b R S) (Round I Q k)) : Leads (iter (fun R S => evCode C b R S) rounds R S) Q := iter_goes h rounds k R S hI hk

/-- The cells of a block. -/
def cellsOf : Option AObj → Option (List Value)
  | some (.cells _ c) => some c
  | some (.view c) => some c
  | _ => none
@[simp] theorem cellsOf_cells {e : TypeId} {c : List Value} : cellsOf (some (.cells e c)) = some c := (rfl)
@[simp] theorem cellsOf_view {c : List Value} : cellsOf (some (.view c)) = some c := (rfl)
theorem cellsAt_eq {m : Nat → Option AObj} {b : Nat} : cellsAt m b = cellsOf (m b) := by
  unfold cellsAt cellsOf
  cases m b with
  | none => rfl
  | some o => cases o <;> rfl

/-- A row of whole numbers in the heap, as a slice tells it. -/
def IsInts (m : Nat → Option AObj) (k : IntKind) (v : Value) (xs : List Int) : Prop :=
  ∃ p cp, v = .slice p xs.length cp ∧ ∀ (i : Nat) x, xs[i]? = some x → ∃ b off c, p = some ⟨b, off, none⟩ ∧ cellsOf (m b) = some c ∧ c[off + i]? = some (.int k x)
theorem isInts_map {m : Nat → Option AObj} {k : IntKind} {b cp n : Nat} {xs : List Int} (h : cellsOf (m b) = some (xs.map (Value.int k))) (hn : xs.length = n) : IsInts m k (.slice (some ⟨b, 0, none⟩) n cp) xs :=
  ⟨some ⟨b, 0, none⟩, cp, by rw [hn], fun i x hx => ⟨b, 0, _, rfl, h, by simp [hx]⟩⟩

end Go.Proofs.YtepddcemoofmlaaGreat.AE
