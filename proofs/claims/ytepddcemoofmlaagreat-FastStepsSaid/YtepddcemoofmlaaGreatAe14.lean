/- What an operation gives hangs on the temporaries that it names alone; on the block that it reads alone. -/
import Derived.Test.YtepddcemoofmlaaGreatAe13
namespace Go.Proofs.YtepddcemoofmlaaGreat.AE
set_option linter.unusedSimpArgs false
set_option linter.unusedVariables false
open Go

theorem iv_congr {R R' : List Value} {y : IV} (h : ∀ t ∈ y.ts, R.getD t undef = R'.getD t undef) : y.ev R = y.ev R' := by
  cases y with
  | t n => exact h n (by simp [IV.ts])
  | c v => rfl
  | g b => rfl

theorem ivs_congr {R R' : List Value} {l : List IV} (h : ∀ t ∈ l.flatMap IV.ts, R.getD t undef = R'.getD t undef) : l.map (IV.ev R) = l.map (IV.ev R') :=
  List.map_congr_left fun y hy => iv_congr fun t ht => h t (List.mem_flatMap.2 ⟨y, hy, ht⟩)

/-- All operands agree. -/
def AgreeOn (R R' : List Value) (io : IOp) : Prop := ∀ y ∈ io.ivs, y.ev R = y.ev R'

theorem agreeOn_of {R R' : List Value} {io : IOp} (h : ∀ t ∈ io.ivs.flatMap IV.ts, R.getD t undef = R'.getD t undef) : AgreeOn R R' io :=
  fun y hy => iv_congr fun t ht => h t (List.mem_flatMap.2 ⟨y, hy, ht⟩)

theorem AgreeOn.mapl {R R' : List Value} {io : IOp} (h : AgreeOn R R' io) {l : List IV} (hl : ∀ y ∈ l, y ∈ io.ivs) : l.map (IV.ev R) = l.map (IV.ev R') :=
  List.map_congr_left fun y hy => h y (hl y hy)

theorem AgreeOn.parts {R R' : List Value} {io : IOp} (h : AgreeOn R R' io) {ps : List (Nat × Nat × IV)} (hl : ∀ p ∈ ps, p.2.2 ∈ io.ivs) :
    (ps.map fun p => (p.1, p.2.1, p.2.2.ev R)) = ps.map fun p => (p.1, p.2.1, p.2.2.ev R') :=
  List.map_congr_left fun p hp => by rw [h p.2.2 (hl p hp)]

theorem vals_congr {R R' : List Value} {io : IOp} (h : AgreeOn R R' io) : io.vals R = io.vals R' := by
  cases io
  case build zs ps => simp only [IOp.vals]; congr 1; exact List.map_congr_left fun p hp => h p.2.2 (by simp only [IOp.ivs, List.mem_map]; exact ⟨p, hp, rfl⟩)
  case buildSlice e zs len ps => simp only [IOp.vals]; congr 1; exact List.map_congr_left fun p hp => h p.2.2 (by simp only [IOp.ivs, List.mem_map]; exact ⟨p, hp, rfl⟩)
  case mkFunc f x y => simp only [IOp.vals]; rw [h.mapl (l := x) (by simp [IOp.ivs]; exact fun y hy => .inl hy), h.mapl (l := y) (by simp [IOp.ivs]; exact fun y hy => .inr hy)]
  case call f args q => simp only [IOp.vals]; rw [h f (by simp [IOp.ivs]), h.mapl (l := args) (by simp [IOp.ivs]; exact fun y hy => .inr hy)]
  case minmax mx x xs => simp only [IOp.vals]; rw [h x (by simp [IOp.ivs]), h.mapl (l := xs) (by simp [IOp.ivs]; exact fun y hy => .inr hy)]
  all_goals simp only [IOp.vals]
  case mkSlice e z b l c => rw [h l (by simp [IOp.ivs]), h c (by simp [IOp.ivs])]
  all_goals (simp only [AgreeOn, IOp.ivs, List.mem_cons, List.not_mem_nil, or_false, forall_eq_or_imp, forall_eq, List.mem_append] at h; simp [h])

theorem pure_congr {R R' : List Value} {io : IOp} (h : AgreeOn R R' io) : evPure R io = evPure R' io := by
  cases io
  case build zs ps => simp only [evPure]; rw [h.parts (ps := ps) (fun p hp => by simp only [IOp.ivs, List.mem_map]; exact ⟨p, hp, rfl⟩)]
  case mkFunc f x y => simp only [evPure]; rw [h.mapl (l := x) (by simp [IOp.ivs]; exact fun y hy => .inl hy), h.mapl (l := y) (by simp [IOp.ivs]; exact fun y hy => .inr hy)]
  case minmax mx x xs => simp only [evPure]; rw [h x (by simp [IOp.ivs]), h.mapl (l := xs) (by simp [IOp.ivs]; exact fun y hy => .inr hy)]
  all_goals simp only [evPure]
  all_goals (simp only [AgreeOn, IOp.ivs, List.mem_cons, List.not_mem_nil, or_false, forall_eq_or_imp, forall_eq, List.mem_append] at h; simp [h])

theorem opt_congr {R R' : List Value} {z : Option IV} (h : ∀ y ∈ z.toList, y.ev R = y.ev R') : z.map (IV.ev R) = z.map (IV.ev R') := by
  cases z with
  | none => rfl
  | some y => simp [h y (by simp)]

theorem read_congr {R R' : List Value} {m : Nat → Option AObj} {io : IOp} (h : AgreeOn R R' io) : evRead R m io = evRead R' m io := by
  cases io
  case slice e x lo hi mx =>
    simp only [evRead]
    rw [h x (by simp [IOp.ivs]), opt_congr (z := lo) fun y hy => h y (by simp only [IOp.ivs, List.mem_cons, List.mem_append]; exact .inr (.inl hy)),
      opt_congr (z := hi) fun y hy => h y (by simp only [IOp.ivs, List.mem_cons, List.mem_append]; exact .inr (.inr (.inl hy))),
      opt_congr (z := mx) fun y hy => h y (by simp only [IOp.ivs, List.mem_cons, List.mem_append]; exact .inr (.inr (.inr hy)))]
  all_goals simp only [evRead]
  all_goals (simp only [AgreeOn, IOp.ivs, List.mem_cons, List.not_mem_nil, or_false, forall_eq_or_imp, forall_eq, List.mem_append] at h; simp [h])

theorem alloc_congr {R R' : List Value} {io : IOp} (h : AgreeOn R R' io) : evAlloc R io = evAlloc R' io := by
  cases io
  case buildSlice e zs len ps => simp only [evAlloc]; rw [h.parts (ps := ps) (fun p hp => by simp only [IOp.ivs, List.mem_map]; exact ⟨p, hp, rfl⟩)]
  all_goals simp only [evAlloc]
  all_goals (simp only [AgreeOn, IOp.ivs, List.mem_cons, List.not_mem_nil, or_false, forall_eq_or_imp, forall_eq, List.mem_append] at h; simp [h])

theorem write_congr {R R' : List Value} {S : St} {io : IOp} (h : AgreeOn R R' io) : evWrite R S io = evWrite R' S io := by
  cases io
  all_goals simp only [evWrite]
  all_goals (simp only [AgreeOn, IOp.ivs, List.mem_cons, List.not_mem_nil, or_false, forall_eq_or_imp, forall_eq, List.mem_append] at h; simp [h])

theorem op_congr {C : CallS} {R R' : List Value} {S : St} {io : IOp} (h : AgreeOn R R' io) : evOp C R S io = evOp C R' S io := by
  cases io
  case call f args q =>
    simp only [evOp, evCall]
    rw [h f (by simp [IOp.ivs]), h.mapl (l := args) (by simp [IOp.ivs]; exact fun y hy => .inr hy)]
  all_goals simp only [evOp]
  all_goals first
    | rw [pure_congr h]
    | rw [read_congr h]
    | rw [alloc_congr h]
    | rw [write_congr h]

/-- The block that a reader reads. -/
def rdBlk (R : List Value) : IOp → Option Nat
  | .load _ _ x => match x.ev R with
    | .pointer (some a) => some a.block
    | _ => none
  | .slice _ x _ _ _ => match x.ev R with
    | .slice (some a) _ _ => some a.block
    | _ => none
  | .lookup _ _ m _ => match m.ev R with
    | .map (some r) => some r
    | _ => none
  | .lenM x => match x.ev R with
    | .map (some r) => some r
    | _ => none
  | _ => none

theorem read_local {R : List Value} {m m' : Nat → Option AObj} {io : IOp} (h : ∀ b, rdBlk R io = some b → m' b = m b) : evRead R m' io = evRead R m io := by
  cases io <;> simp only [evRead]
  case load ag n x =>
    split
    · rename_i a hq
      have := h a.block (by simp [rdBlk, hq])
      simp [cellsAt, this]
    · rfl
  case slice e x lo hi mx =>
    unfold evSlice
    split
    · rename_i a len k l k' hh hq _ _ _
      have := h a.block (by simp [rdBlk, hq])
      simp [cutS, rowAt, this]
    · rename_i a len k' hh hq _ _ _
      have := h a.block (by simp [rdBlk, hq])
      simp [cutS, rowAt, this]
    · rfl
    · rfl
    · rfl
  case lookup z ok mp k =>
    split
    · rfl
    · rename_i r k' hq _
      have := h r (by simp [rdBlk, hq])
      simp [this]
    · rfl
  case lenM x =>
    split
    · rfl
    · rename_i r hq
      have := h r (by simp [rdBlk, hq])
      simp [this]
    · rfl

theorem rdBlk_val {R : List Value} {io : IOp} {D : Nat → Prop} {b : Nat} (hv : ∀ u ∈ io.vals R, Clo D u) (h : rdBlk R io = some b) : D b := by
  cases io <;> simp only [rdBlk, reduceCtorEq] at h
  case load ag n x =>
    have hx := hv (x.ev R) (by simp [IOp.vals])
    split at h
    · rename_i a hq; rw [hq] at hx; simp only [Clo] at hx; simp only [Option.some.injEq] at h; rw [← h]; exact hx.1
    · cases h
  case slice e x lo hi mx =>
    have hx := hv (x.ev R) (by simp [IOp.vals])
    split at h
    · rename_i a n c hq; rw [hq] at hx; simp only [Clo] at hx; simp only [Option.some.injEq] at h; rw [← h]; exact hx.1
    · cases h
  case lookup z ok mp k =>
    have hx := hv (mp.ev R) (by simp [IOp.vals])
    split at h
    · rename_i r hq; rw [hq] at hx; simp only [Clo] at hx; simp only [Option.some.injEq] at h; rw [← h]; exact hx
    · cases h
  case lenM x =>
    have hx := hv (x.ev R) (by simp [IOp.vals])
    split at h
    · rename_i r hq; rw [hq] at hx; simp only [Clo] at hx; simp only [Option.some.injEq] at h; rw [← h]; exact hx
    · cases h

theorem sameV_eq {u v : Value} : sameV u v = true → u = v := by
  refine Value.rec (motive_1 := fun u => ∀ v, sameV u v = true → u = v) (motive_2 := fun a => ∀ b, sameA a b = true → a = b)
    (motive_3 := fun l => ∀ k, sameL l k = true → l = k) ?_ ?_ ?_ ?_ ?_ ?_ ?_ ?_ ?_ ?_ ?_ ?_ ?_ ?_ ?_ ?_ ?_ ?_ u v
  case refine_14 => intro cs h v hv; cases v <;> simp [sameV] at hv; rw [h _ hv]
  case refine_16 => intro l h b hb; cases b; simp only [sameA] at hb; rw [h _ hb]
  case refine_17 => intro k hk; cases k <;> simp [sameL] at hk; rfl
  case refine_18 => intro x l h1 h2 k hk; cases k <;> simp [sameL] at hk; rw [h1 _ hk.1, h2 _ hk.2]
  all_goals (intros; rename_i v hv; cases v <;> simp_all [sameV])

end Go.Proofs.YtepddcemoofmlaaGreat.AE
