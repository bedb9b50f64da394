/- Regions whose order is open: what an operation looks at, and one order for all. Generic. -/
import Derived.Test.YtcpcngamfncpdaaAiN
set_option linter.unusedVariables false
namespace Go.Ai

def tmpsA : XA → List Nat
  | .t n => [n]
  | .c _ => []
def tmpsO : Option XA → List Nat
  | some x => tmpsA x
  | none => []
def tmpsL : List XA → List Nat
  | [] => []
  | x :: r => tmpsA x ++ tmpsL r
def tmpsP : List (Nat × Nat × XA) → List Nat
  | [] => []
  | (_, _, x) :: r => tmpsA x ++ tmpsP r
def XOp.tmps : XOp → List Nat
  | .mv x | .box x | .load1 x | .loadN _ x | .nilck x | .isnil _ _ x | .un _ x | .conv _ x | .faddr _ x | .field1 _ x | .fieldN _ _ x | .len _ x | .cap x | .b2s x | .s2b x | .mark x | .extract _ x => tmpsA x
  | .pick c a b => tmpsA c ++ (tmpsA a ++ tmpsA b)
  | .alloc _ | .lenK _ => []
  | .build _ ps | .bslice _ _ ps => tmpsP ps
  | .store _ a x | .bin _ a x | .beq _ a x | .eqs _ _ a x | .iaddr _ a x | .iaddrA _ _ a x | .idxA1 _ a x | .idxAN _ _ a x | .idxS a x | .append _ _ _ a x | .copy _ a x | .mkslice _ _ _ a x | .appz _ _ _ a x => tmpsA a ++ tmpsA x
  | .slice _ x lo hi mx | .sliceA _ _ x lo hi mx => tmpsA x ++ (tmpsO lo ++ (tmpsO hi ++ tmpsO mx))
  | .sliceS x lo hi => tmpsA x ++ (tmpsO lo ++ tmpsO hi)
  | .mm _ x xs => tmpsA x ++ tmpsL xs
  | .mkfunc _ f c => tmpsL f ++ tmpsL c
  | .call f as => tmpsA f ++ tmpsL as

/-- writes or makes memory, or calls -/
def XOp.eff : XOp → Bool
  | .box _ | .alloc _ | .bslice _ _ _ | .store _ _ _ | .append _ _ _ _ _ | .copy _ _ _ | .mkslice _ _ _ _ _ | .appz _ _ _ _ _ | .s2b _ | .mark _ | .call _ _ => true
  | _ => false
/-- reads memory -/
def XOp.reads : XOp → Bool
  | .load1 _ | .loadN _ _ | .b2s _ => true
  | _ => false

def Agree (ρ ρ' : Env) (l : List Nat) : Prop := ∀ t, t ∈ l → get ρ t = get ρ' t

theorem ev_congr {ρ ρ' : Env} {x : XA} (h : Agree ρ ρ' (tmpsA x)) : ev ρ x = ev ρ' x := by
  cases x with
  | t n => exact h n (by simp [tmpsA])
  | c v => rfl
theorem evs_congr {ρ ρ' : Env} : ∀ {l : List XA}, Agree ρ ρ' (tmpsL l) → evs ρ l = evs ρ' l
  | [], h => rfl
  | x :: r, h => by
    simp only [evs]
    rw [ev_congr (fun t ht => h t (by simp [tmpsL, ht])), evs_congr (l := r) (fun t ht => h t (by simp [tmpsL, ht]))]
theorem evParts_congr {ρ ρ' : Env} : ∀ {l : List (Nat × Nat × XA)}, Agree ρ ρ' (tmpsP l) → evParts ρ l = evParts ρ' l
  | [], h => rfl
  | (o, n, x) :: r, h => by
    simp only [evParts]
    rw [ev_congr (fun t ht => h t (by simp [tmpsP, ht])), evParts_congr (l := r) (fun t ht => h t (by simp [tmpsP, ht]))]
theorem bnd_congr {ρ ρ' : Env} {x : Option XA} (h : Agree ρ ρ' (tmpsO x)) (d top : Nat) : bnd ρ x d top = bnd ρ' x d top := by
  cases x with
  | none => rfl
  | some x => simp only [bnd]; rw [ev_congr h]

theorem Agree.left {ρ ρ' : Env} {a b : List Nat} (h : Agree ρ ρ' (a ++ b)) : Agree ρ ρ' a := fun t ht => h t (by simp [ht])
theorem Agree.right {ρ ρ' : Env} {a b : List Nat} (h : Agree ρ ρ' (a ++ b)) : Agree ρ ρ' b := fun t ht => h t (by simp [ht])

theorem xop_congr {ρ ρ' : Env} {x : XOp} (h : Agree ρ ρ' x.tmps) (hp : AHeap) : xop x ρ hp = xop x ρ' hp := by
  cases x <;> simp only [XOp.tmps] at h <;> simp only [xop]
  all_goals first
    | rfl
    | rw [ev_congr h]
    | rw [evParts_congr h]
    | rw [ev_congr h.left, ev_congr h.right.left, ev_congr h.right.right]
    | rw [ev_congr h.left, ev_congr h.right]
    | rw [ev_congr h.left, evs_congr h.right]
    | rw [evs_congr h.left, evs_congr h.right]
    | (simp only [ev_congr h.left, bnd_congr h.right.left, bnd_congr h.right.right])
    | (simp only [ev_congr h.left, bnd_congr h.right.left, bnd_congr h.right.right.left, bnd_congr h.right.right.right])

theorem xstep_congr {P : Program} {ρ ρ' : Env} {x : XOp} (h : Agree ρ ρ' x.tmps) {hp : AHeap} {K : Value → AHeap → Prop} (hs : xstep P x ρ hp K) : xstep P x ρ' hp K := by
  by_cases hc : ∃ f as, x = .call f as
  · obtain ⟨f, as, rfl⟩ := hc
    simp only [XOp.tmps] at h
    simp only [xstep] at hs ⊢
    rw [← ev_congr h.left, ← evs_congr h.right]; exact hs
  · have key : ∀ ρ, xstep P x ρ hp K ↔ ∃ v h', xop x ρ hp = some (v, h') ∧ K v h' := by
      intro ρ; cases x <;> first | exact Iff.rfl | exact absurd ⟨_, _, rfl⟩ hc
    rw [key] at hs ⊢
    rw [← xop_congr h]; exact hs

theorem xstep_pure {P : Program} {ρ : Env} {x : XOp} (he : x.eff = false) {hp : AHeap} {K : Value → AHeap → Prop} : xstep P x ρ hp K ↔ ∃ v h', xop x ρ hp = some (v, h') ∧ K v h' := by
  cases x <;> first | exact Iff.rfl | simp [XOp.eff] at he

/-- leaves the heap, and does not ask it -/
def Uni (F : AHeap → Option (Value × AHeap)) : Prop := ∃ o : Option Value, ∀ h, F h = o.map (·, h)
theorem Uni.bind {α : Type} {o : Option α} {f : α → AHeap → Option (Value × AHeap)} (hf : ∀ a, Uni (f a)) : Uni (fun h => o.bind fun a => f a h) := by
  cases o with
  | none => exact ⟨none, fun h => rfl⟩
  | some a => obtain ⟨o, ho⟩ := hf a; exact ⟨o, fun h => ho h⟩
theorem Uni.map (o : Option Value) : Uni (fun h => o.map (·, h)) := ⟨o, fun _ => rfl⟩
theorem Uni.map' {α : Type} (o : Option α) (g : α → Value) : Uni (fun h => o.map fun a => (g a, h)) := ⟨o.map g, fun _ => by simp [Function.comp_def]⟩
theorem Uni.some (v : Value) : Uni (fun h => some (v, h)) := ⟨Option.some v, fun _ => rfl⟩
theorem Uni.none : Uni (fun _ => none) := ⟨Option.none, fun _ => rfl⟩
theorem Uni.ite {c : Prop} [Decidable c] {f g : AHeap → Option (Value × AHeap)} (hf : Uni f) (hg : Uni g) : Uni (fun h => if c then f h else g h) := by
  by_cases hc : c
  · obtain ⟨o, ho⟩ := hf; exact ⟨o, fun h => by show (if c then f h else g h) = _; rw [if_pos hc]; exact ho h⟩
  · obtain ⟨o, ho⟩ := hg; exact ⟨o, fun h => by show (if c then f h else g h) = _; rw [if_neg hc]; exact ho h⟩

theorem xop_uni (ρ : Env) (x : XOp) (he : x.eff = false) (hr : x.reads = false) : Uni (xop x ρ) := by
  cases x
  case box | alloc | bslice | store | append | copy | mkslice | appz | s2b | mark | call => simp [XOp.eff] at he
  case load1 | loadN | b2s => simp [XOp.reads] at hr
  case mv x => exact Uni.map _
  case pick c a b => exact Uni.bind fun v => Uni.bind fun t => Uni.map _
  case build z ps => exact Uni.bind fun v => Uni.map' _ _
  case nilck x => exact Uni.bind fun v => Uni.map' _ _
  case bin op x y => exact Uni.bind fun v => Uni.bind fun t => Uni.map _
  case beq neg x y => exact Uni.bind fun v => Uni.bind fun t => Uni.bind fun u => Uni.map' _ _
  case isnil neg sl x => exact Uni.bind fun v => Uni.map' _ _
  case eqs neg offs x y => exact Uni.bind fun v => Uni.bind fun t => Uni.bind fun u => Uni.bind fun m => Uni.map' _ _
  case un op x => exact Uni.bind fun v => Uni.map _
  case conv k x => exact Uni.bind fun v => Uni.map' _ _
  case faddr off x => exact Uni.bind fun v => Uni.bind fun a => Uni.ite Uni.none (Uni.some _)
  case field1 off x => exact Uni.bind fun v => Uni.bind fun l => Uni.map _
  case fieldN off n x => exact Uni.bind fun v => Uni.bind fun l => Uni.ite (Uni.some _) Uni.none
  case iaddr size x i =>
    refine Uni.bind fun v => Uni.bind fun iv => Uni.bind fun i => ?_
    cases v with
    | slice q l c => cases q with
      | none => exact Uni.none
      | some a => exact Uni.ite (Uni.some _) Uni.none
    | _ => exact Uni.none
  case iaddrA len size x i => exact Uni.bind fun v => Uni.bind fun a => Uni.bind fun iv => Uni.bind fun i => Uni.ite (Uni.some _) Uni.none
  case idxA1 len x i => exact Uni.bind fun v => Uni.bind fun a => Uni.bind fun iv => Uni.bind fun i => Uni.ite (Uni.map _) Uni.none
  case idxAN len size x i => exact Uni.bind fun v => Uni.bind fun a => Uni.bind fun iv => Uni.bind fun i => Uni.ite (Uni.some _) Uni.none
  case idxS x i => exact Uni.bind fun v => Uni.bind fun a => Uni.bind fun iv => Uni.bind fun i => Uni.ite (Uni.map' _ _) Uni.none
  case slice size x lo hi mx =>
    refine Uni.bind fun v => ?_
    cases v with
    | slice q l c =>
      refine Uni.ite (Uni.ite ?_ ?_) ?_
      · refine Uni.bind fun m => Uni.bind fun hh => Uni.bind fun ll => ?_
        cases q with
        | none => exact Uni.none
        | some a => exact Uni.ite Uni.none (Uni.some _)
      · refine Uni.bind fun hh => Uni.bind fun ll => ?_
        cases q with
        | none => exact Uni.none
        | some a => exact Uni.ite Uni.none (Uni.some _)
      · refine Uni.bind fun m => Uni.bind fun hh => Uni.bind fun ll => Uni.ite Uni.none ?_
        cases q with
        | none => exact Uni.some _
        | some a => exact Uni.ite Uni.none (Uni.some _)
    | _ => exact Uni.none
  case sliceS x lo hi => exact Uni.bind fun v => Uni.bind fun a => Uni.bind fun iv => Uni.map' _ _
  case sliceA n size x lo hi mx => exact Uni.bind fun v => Uni.bind fun a => Uni.bind fun m => Uni.bind fun hh => Uni.bind fun ll => Uni.ite Uni.none (Uni.some _)
  case len sl x => exact Uni.bind fun v => Uni.map' _ _
  case lenK n => exact Uni.some _
  case cap x =>
    refine Uni.bind fun v => ?_
    cases v with
    | slice q l c => exact Uni.ite (Uni.some _) Uni.none
    | _ => exact Uni.none
  case mm mx x xs => exact Uni.bind fun v => Uni.bind fun vs => Uni.bind fun _ => Uni.map _
  case extract i x =>
    refine Uni.bind fun v => ?_
    cases v with
    | tuple c => exact Uni.map _
    | _ => exact Uni.none
  case mkfunc fn f c => exact Uni.bind fun fs => Uni.map' _ _

theorem xop_still {ρ : Env} {x : XOp} {h h' : AHeap} {v : Value} (he : x.eff = false) (hx : xop x ρ h = some (v, h')) : h' = h := by
  by_cases hr : x.reads = false
  · obtain ⟨o, ho⟩ := xop_uni ρ x he hr
    rw [ho] at hx
    obtain ⟨a, _, e⟩ := Option.map_eq_some_iff.1 hx
    exact (Prod.mk.inj e).2.symm
  · cases x <;> simp [XOp.reads] at hr
    case load1 a =>
      simp only [xop, Option.bind_eq_some_iff, Option.map_eq_some_iff, Prod.mk.injEq] at hx
      obtain ⟨_, _, _, _, _, _, _, e⟩ := hx; exact e.symm
    case loadN n a =>
      simp only [xop, Option.bind_eq_some_iff, Option.map_eq_some_iff, Prod.mk.injEq] at hx
      obtain ⟨_, _, _, _, _, _, _, e⟩ := hx; exact e.symm
    case b2s a =>
      simp only [xop, Option.bind_eq_some_iff] at hx
      obtain ⟨u, _, hx⟩ := hx
      split at hx
      · cases hx; rfl
      · simp only [Option.bind_eq_some_iff, Option.map_eq_some_iff, Prod.mk.injEq] at hx
        obtain ⟨_, _, _, _, _, e⟩ := hx; exact e.symm
      · cases hx

theorem xop_blind {ρ : Env} {x : XOp} {h h' h2 : AHeap} {v : Value} (he : x.eff = false) (hr : x.reads = false) (hx : xop x ρ h = some (v, h')) : xop x ρ h2 = some (v, h2) := by
  obtain ⟨o, ho⟩ := xop_uni ρ x he hr
  rw [ho] at hx ⊢
  obtain ⟨a, ha, e⟩ := Option.map_eq_some_iff.1 hx
  rw [ha]; cases e; rfl

end Go.Ai
