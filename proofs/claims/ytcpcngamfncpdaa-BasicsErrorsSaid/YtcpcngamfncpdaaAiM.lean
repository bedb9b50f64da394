/- Code of the small language, and that it agrees. Generic. -/
import Derived.Test.YtcpcngamfncpdaaAiL
set_option linter.unusedVariables false
namespace Go.Ai

/-- what stands behind a piece of code -/
def Post (N : Nat) (φ : Phi) (h : AHeap) (w : World) (Q : Exit → Env → AHeap → Prop) : Exit → Act → World → Prop :=
  fun e a w' => a.defers = [] ∧ a.tmps.size = N ∧ ∃ φ' ρ' h', Stp φ h w φ' h' w' ∧ ER φ' ρ' a.tmps ∧ Q e ρ' h'

def AWp (P : Program) (N : Nat) (c : Code) (Q : Exit → Env → AHeap → Prop) (ρ : Env) (h : AHeap) : Prop :=
  ∀ φ w (t : Array Value), HR φ h w → ER φ ρ t → t.size = N → c.wp P (Post N φ h w Q) ⟨t, []⟩ w

def trCall (o : Oper) : Option XOp :=
  match o.op with
  | .call { callee := .value f, args, argTypes := _ } => (trA f).bind fun f => (args.toList.mapM trA).map fun as => .call f as
  | _ => none

def isCall : XOp → Bool
  | .call _ _ => true
  | _ => false

def trX (P : Program) (o : Oper) : Option XOp :=
  match trCall o with
  | some x => some x
  | none => (trOp P o).bind fun x => if isCall x = true then none else some x

def dstOk (N : Nat) : Option Nat → Bool
  | none => true
  | some d => d < N

def trG (ops : Array Oper) : Option (Nat × Bool) → Option (Option (Nat × Bool))
  | none => some none
  | some (j, want) => ((ops[j]?).bind (·.dst)).map fun t => some (t, want)

def trOper (P : Program) (N : Nat) (ops : Array Oper) (o : Oper) : Option XOper :=
  (trX P o).bind fun x => (trG ops o.guard).bind fun g => if dstOk N o.dst = true then some { d := o.dst, g := g, op := x } else none

section
variable {P : Program} {N : Nat}

theorem guard_sound {φ : Phi} {ρ : Env} {t : Array Value} (he : ER φ ρ t) {ops : Array Oper} {o : Oper} {g : Option (Nat × Bool)} (hg : trG ops o.guard = some g) {b : Bool} (hv : guardv ρ g = some b) :
    Region.wanted o (yielded ops t) = b := by
  unfold Region.wanted
  cases hgd : o.guard with
  | none =>
    rw [hgd] at hg
    simp [trG] at hg; subst hg
    simp [guardv] at hv; subst hv; rfl
  | some p =>
    obtain ⟨j, want⟩ := p
    rw [hgd] at hg
    simp only [trG, Option.map_eq_some_iff] at hg
    obtain ⟨d, hd, rfl⟩ := hg
    simp only [guardv, Option.map_eq_some_iff] at hv
    obtain ⟨v, hv, rfl⟩ := hv
    obtain ⟨u, hu, hvu⟩ := he.e _ _ hv
    simp only [yielded, hd, Option.bind_some, hu]
    cases hvu <;> simp <;> rfl

theorem put_ok {φ : Phi} {ρ : Env} {t : Array Value} (he : ER φ ρ t) (ht : t.size = N) {d : Option Nat} (hd : dstOk N d = true) {v u : Value} (hv : VR φ v u) :
    ER φ (put d v ρ) (Act.put ⟨t, []⟩ d u).tmps ∧ (Act.put ⟨t, []⟩ d u).tmps.size = N ∧ (Act.put ⟨t, []⟩ d u).defers = [] := by
  refine ⟨ER.put he d (fun j hj => ?_) hv [], ?_, ?_⟩
  · subst hj; simp [dstOk] at hd; omega
  · cases d <;> simp [Act.put, ht]
  · cases d <;> rfl

/-- what an operation is asked, in one form -/
def xstep (P : Program) (x : XOp) (ρ : Env) (h : AHeap) (K : Value → AHeap → Prop) : Prop :=
  match x with
  | .call f args => ∃ fv vs g first cap, ev ρ f = some fv ∧ evs ρ args = some vs ∧ callee? fv = some (g, first, cap) ∧ Valid P g (first ++ vs ++ cap) h K
  | x => ∃ v h', xop x ρ h = some (v, h') ∧ K v h'

theorem xstep_mono {x : XOp} {ρ : Env} {h : AHeap} {K K' : Value → AHeap → Prop} (hs : xstep P x ρ h K) (hk : ∀ v h', K v h' → K' v h') : xstep P x ρ h K' := by
  unfold xstep at *
  split at hs
  · obtain ⟨fv, vs, g, first, cap, h1, h2, h3, h4⟩ := hs
    exact ⟨fv, vs, g, first, cap, h1, h2, h3, h4.mono hk⟩
  · obtain ⟨v, h', h1, h2⟩ := hs
    exact ⟨v, h', h1, hk _ _ h2⟩

/-- one operation that is carried out: from its triple to the machine -/
theorem step_sound {o : Oper} {x : XOp} (hx : trX P o = some x) {ρ : Env} {h : AHeap} {φ : Phi} {w : World} {t : Array Value} (hr : HR φ h w) (he : ER φ ρ t) {K : Value → AHeap → Prop}
    (hk : xstep P x ρ h K)
    {next : Act → World → Prop} {Q : Exit → Act → World → Prop}
    (hn : ∀ φ' h' v v' w', Stp φ h w φ' h' w' → VR φ' v v' → K v h' → next (Act.put ⟨t, []⟩ o.dst v') w') : o.wp P ⟨t, []⟩ w next Q := by
  unfold trX at hx
  unfold Oper.wp
  split at hx
  · rename_i y hc
    cases hx
    unfold trCall at hc
    split at hc
    · rename_i f args ts ho
      simp only [Option.bind_eq_some_iff, Option.map_eq_some_iff] at hc
      obtain ⟨f', hf, as, has, rfl⟩ := hc
      unfold xstep at hk
      simp only at hk
      obtain ⟨fv, vs, g, first, cap, h1, h2, h3, hv⟩ := hk
      have hfv := ev_sound (a := ⟨t, []⟩) he hf h1
      have hargs := trAs_sound (a := ⟨t, []⟩) he _ _ _ has h2
      unfold callee? at h3
      split at h3
      · rename_i g' fi ca
        simp only [Option.some.injEq, Prod.mk.injEq] at h3
        obtain ⟨rfl, rfl, rfl⟩ := h3
        obtain ⟨fi', ca', he', l1, l2⟩ : ∃ fi' ca' : Array Value, Act.eval ⟨t, []⟩ f = .func (.func g') fi' ca' ∧ LR φ fi.toList fi'.toList ∧ LR φ ca.toList ca'.toList := by
          generalize Act.eval ⟨t, []⟩ f = u at hfv
          cases hfv with
          | func fn a b c d => exact ⟨_, _, rfl, LR.ofArrays a b, LR.ofArrays c d⟩
        have hent := hv.1
        unfold entered at hent
        split at hent
        · rename_i fn hfn
          simp only [Bool.and_eq_true, bne_iff_ne, ne_eq, Option.isSome_iff_exists] at hent
          obtain ⟨⟨c, hc⟩, hname⟩ := hent
          have hcalls := hv.2 φ w (fi'.toList ++ args.toList.map (Act.eval ⟨t, []⟩) ++ ca'.toList) hr he.g ((l1.append hargs).append l2)
          have harr : (fi'.toList ++ args.toList.map (Act.eval ⟨t, []⟩) ++ ca'.toList).toArray = fi' ++ args.map (Act.eval ⟨t, []⟩) ++ ca' := by
            apply Array.ext'; simp
          rw [harr] at hcalls
          have hrun : (execOp (Act.eval ⟨t, []⟩) o).run P w = .ok (.enter g' (fi' ++ args.map (Act.eval ⟨t, []⟩) ++ ca')) w := by
            simp only [execOp, ho, resolve, Sem.run_bind, he', Deferred.ofValue, Sem.run_pure, Result.andThen_ok, invoke, callFunc, run_program, hfn]
            rw [if_neg (by simpa using hname), if_neg (by simp [hc])]
            rfl
          rw [hrun, Oper.upon_enter]
          refine hcalls.mono fun e w' ⟨φ', h', r, r', e1, e2, e3, e4⟩ => ?_
          subst e1
          exact hn φ' h' r r' w' e2 e3 e4
        · cases hent
      · cases h3
    · cases hc
  · rename_i hc
    simp only [Option.bind_eq_some_iff] at hx
    obtain ⟨y, hy, hx⟩ := hx
    split at hx
    · cases hx
    rename_i hnc
    cases hx
    have hs := trOp_sound hy
    have hk' : ∃ v h', xop x ρ h = some (v, h') ∧ K v h' := by
      unfold xstep at hk
      cases x <;> first | exact hk | simp [isCall] at hnc
    obtain ⟨v, h', h1, h2⟩ := hk'
    obtain ⟨φ', v', w', nx, r1, r2, r3, r4⟩ := hs ρ h v h' φ w ⟨t, []⟩ h1 hr he
    rw [r1]
    rcases r2 with rfl | ⟨rfl, rfl⟩
    · exact hn φ' h' v v' w' r3 r4 h2
    · exact hn φ' h' v undef w' r3 r4 h2

end
end Go.Ai
