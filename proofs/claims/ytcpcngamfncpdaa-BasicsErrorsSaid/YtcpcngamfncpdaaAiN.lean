/- Regions in the order of the text; code. Generic. -/
import Derived.Test.YtcpcngamfncpdaaAiM
set_option linter.unusedVariables false
namespace Go.Ai
section
variable {P : Program} {N : Nat}

theorem act_eq {a : Act} (h : a.defers = []) : a = ⟨a.tmps, []⟩ := by cases a; simp_all

theorem trOper_inv {ops : Array Oper} {o : Oper} {x : XOper} (h : trOper P N ops o = some x) : trX P o = some x.op ∧ trG ops o.guard = some x.g ∧ dstOk N o.dst = true ∧ x.d = o.dst ∧ x.st = [] := by
  simp only [trOper, Option.bind_eq_some_iff] at h
  obtain ⟨y, hy, g, hg, h⟩ := h
  split at h
  · rename_i hd; cases h; exact ⟨hy, hg, hd, rfl, rfl⟩
  · cases h

theorem xops_cons {K : Env → AHeap → Prop} {o : XOper} {r : List XOper} {ρ : Env} {h : AHeap} : xops P K (o :: r) ρ h ↔ ∃ t, guardv ρ o.g = some t ∧
    (t = true → xstep P o.op ρ h fun v h' => stab ρ h' o.st ∧ xops P K r (put o.d v ρ) h') ∧ (t = false → xops P K r (put o.d undef ρ) h) := by
  rcases o with ⟨d, g, op, st⟩
  cases op <;> exact Iff.rfl

theorem xops_sound {K : Env → AHeap → Prop} {ops : Array Oper} : ∀ (l : List Oper) (xs : List XOper), l.mapM (trOper P N ops) = some xs → ∀ ρ h φ w (t : Array Value) (Q : Exit → Act → World → Prop), xops P K xs ρ h → HR φ h w → ER φ ρ t → t.size = N →
    (∀ φ' ρ' h' (t' : Array Value) w', Stp φ h w φ' h' w' → ER φ' ρ' t' → t'.size = N → K ρ' h' → Q .normal ⟨t', []⟩ w') → wpList P ops Q l ⟨t, []⟩ w
  | [], xs, htr, ρ, h, φ, w, t, Q, hx, hr, he, ht, hQ => by
    simp at htr; subst htr
    exact hQ φ ρ h t w (Stp.refl hr) he ht hx
  | o :: l, xs, htr, ρ, h, φ, w, t, Q, hx, hr, he, ht, hQ => by
    simp only [List.mapM_cons, bind, Option.bind_eq_some_iff, pure, Option.some.injEq] at htr
    obtain ⟨x, hox, xs', hxs, rfl⟩ := htr
    obtain ⟨e1, e2, e3, e4, e5⟩ := trOper_inv hox
    obtain ⟨b, hg, h1, h2⟩ := xops_cons.1 hx
    have hw := guard_sound (t := t) he e2 hg
    unfold wpList
    cases b with
    | false =>
      rw [if_neg (by simp [hw])]
      obtain ⟨p1, p2, p3⟩ := put_ok he ht e3 (VR.undef φ)
      rw [act_eq p3]
      rw [e4] at h2
      exact xops_sound l xs' hxs _ h φ w _ Q (h2 rfl) hr p1 p2 hQ
    | true =>
      rw [if_pos hw]
      left
      refine step_sound e1 hr he (h1 rfl) fun φ' h' v v' w' s1 s2 s3 => ?_
      obtain ⟨p1, p2, p3⟩ := put_ok (he.mono s1.ext) ht e3 s2
      rw [act_eq p3]
      rw [e4] at s3
      exact xops_sound l xs' hxs _ h' φ' w' _ Q s3.2 s1.hr p1 p2 fun φ2 ρ2 h2 t2 w2 a b c d => hQ φ2 ρ2 h2 t2 w2 (s1.trans a) b c d

end
end Go.Ai
