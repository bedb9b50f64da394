/- The operations' laws, third part. Generic. -/
import Derived.Test.YtcpcngamfncpdaaAiD
set_option linter.unusedVariables false
namespace Go.Ai
section
variable {P : Program}

theorem semVal_run {α : Type} {s : Sem α} {v : α} (h : semVal s = some v) (w : World) : s.run P w = .ok v w := by
  cases s <;> simp [semVal] at h
  subst h; rfl

theorem abin_run {op : BinOp} {x y v : Value} (h : abin op x y = some v) (t : TypeId) (w : World) :
    (binOp op t x y).run P w = .ok v w ∧ flat v = true := by
  cases x with
  | int k a =>
    cases y with
    | int k' b =>
      have e : binOp op t (.int k a) (.int k' b) = binOp op 0 (.int k a) (.int k' b) := by cases op <;> rfl
      rw [e]
      refine ⟨semVal_run h w, ?_⟩
      cases op <;> simp only [abin, binOp] at h
      all_goals first
        | (split at h <;> first | (simp [semVal, stuck] at h; done) | skip)
        | skip
      all_goals first
        | (simp [Op.intArith, semVal, pure] at h; subst h; rfl)
        | (simp [Op.intBits, semVal, pure] at h; subst h; rfl)
        | (simp [Op.intCmp, semVal, pure] at h; subst h; rfl)
        | (unfold Op.intDiv at h; split at h <;> first | (simp [runtimePanic, semVal, bind, Sem.bind, program] at h; done) | (simp [semVal, pure] at h; subst h; rfl))
        | (unfold Op.shift at h; split at h <;> first | (simp [runtimePanic, semVal, bind, Sem.bind, program] at h; done) | (simp [semVal, pure] at h; subst h; rfl))
    | _ => simp [abin] at h
  | string a =>
    cases y with
    | string b =>
      have e : binOp op t (.string a) (.string b) = binOp op 0 (.string a) (.string b) := by cases op <;> rfl
      rw [e]
      refine ⟨semVal_run h w, ?_⟩
      cases op <;> simp only [abin, binOp, Op.stringOp, pure, stuck] at h
      all_goals first
        | (simp [semVal] at h; done)
        | (simp [semVal] at h; subst h; rfl)
        | (split at h <;> first | (simp [semVal, unsupported] at h; done) | (simp [semVal] at h; subst h; rfl))
      all_goals first
        | (subst h; rfl)
        | (by_cases hc : (9223372036854775807 : Int) < (a.size : Int) + (b.size : Int)
           · rw [if_pos hc] at h; simp [unsupported] at h
           · rw [if_neg hc] at h; simp at h; subst h; rfl)
    | _ => simp [abin] at h
  | _ => simp [abin] at h

theorem aun_run {op : UnOp} {x v : Value} (h : aun op x = some v) (w : World) : (Op.unary op x).run P w = .ok v w ∧ flat v = true := by
  cases x with
  | int k a =>
    refine ⟨semVal_run h w, ?_⟩
    cases op <;> simp [aun, Op.unary, Op.intArith, Op.intBits, semVal, pure, stuck] at h <;> subst h <;> rfl
  | bool a =>
    refine ⟨semVal_run h w, ?_⟩
    cases op <;> simp [aun, Op.unary, semVal, pure, stuck] at h <;> subst h <;> rfl
  | _ => simp [aun] at h

theorem abin_flat {op : BinOp} {x y v : Value} (h : abin op x y = some v) : flat x = true ∧ flat y = true := by
  cases x <;> cases y <;> simp_all [abin, flat]
theorem aun_flat {op : UnOp} {x v : Value} (h : aun op x = some v) : flat x = true := by
  cases x <;> simp_all [aun, flat]

theorem eqGuard_flat (op : BinOp) (t : TypeId) (x y : Operand) {a b : Value} (ha : flat a = true) (w : World) : (eqGuard op t x y a b).run P w = .ok () w := by
  cases op <;> simp [eqGuard] <;> cases a <;> simp [flat] at ha <;> rfl

theorem snd_bin {o : Oper} {op : BinOp} {t t' : TypeId} {x y : Operand} {x' y' : XA} (ho : o.op = .binOp op t x y t') (hx' : trA x = some x') (hy' : trA y = some y') : Snd P o (.bin op x' y') := by
  refine Snd.of_pure fun ρ h v h' φ w a hx hr he => ?_
  simp only [xop, Option.bind_eq_some_iff, Option.map_eq_some_iff, Prod.mk.injEq] at hx
  obtain ⟨xv, hxv, yv, hyv, r, hr', rfl, rfl⟩ := hx
  obtain ⟨f1, f2⟩ := abin_flat hr'
  have e1 := (ev_sound he hx' hxv).flat_eq f1
  have e2 := (ev_sound he hy' hyv).flat_eq f2
  obtain ⟨r1, r2⟩ := abin_run (P := P) hr' t w
  refine ⟨rfl, r, ?_, VR.of_flat φ r2⟩
  simp [execOp, ho, e1, e2, eqGuard_flat op t x y f1 w, r1]

theorem snd_un {o : Oper} {op : UnOp} {t : TypeId} {x : Operand} {x' : XA} (ho : o.op = .unOp op t x) (hx' : trA x = some x') : Snd P o (.un op x') := by
  refine Snd.of_pure fun ρ h v h' φ w a hx hr he => ?_
  simp only [xop, Option.bind_eq_some_iff, Option.map_eq_some_iff, Prod.mk.injEq] at hx
  obtain ⟨xv, hxv, r, hr', rfl, rfl⟩ := hx
  have e1 := (ev_sound he hx' hxv).flat_eq (aun_flat hr')
  obtain ⟨r1, r2⟩ := aun_run (P := P) hr' w
  exact ⟨rfl, r, by simp [execOp, ho, e1, r1], VR.of_flat φ r2⟩

theorem snd_beq {o : Oper} {neg : Bool} {t t' : TypeId} {x y : Operand} {x' y' : XA} (ho : o.op = .binOp (if neg then .neq else .eql) t x y t') (hx' : trA x = some x') (hy' : trA y = some y')
    (hd : P.underlying t = some .bool) : Snd P o (.beq neg x' y') := by
  refine Snd.of_pure fun ρ h v h' φ w a hx hr he => ?_
  simp only [xop, Option.bind_eq_some_iff, Option.map_eq_some_iff, Prod.mk.injEq] at hx
  obtain ⟨xv, hxv, yv, hyv, b1, h1, b2, h2, rfl, rfl⟩ := hx
  have e1 := ev_sound he hx' hxv
  have e2 := ev_sound he hy' hyv
  rw [bool?_inv h1] at e1; rw [bool?_inv h2] at e2
  refine ⟨rfl, .bool (if neg then b1 != b2 else b1 == b2), ?_, .bool _⟩
  cases neg
  · simp [execOp, ho, e1.bool_inv, e2.bool_inv, eqGuard, binOp, Op.equal, Op.maxDepth, run_equalIn_bool' w 9999 t b1 b2 hd]
  · simp [execOp, ho, e1.bool_inv, e2.bool_inv, eqGuard, binOp, Op.equal, Op.maxDepth, run_equalIn_bool' w 9999 t b1 b2 hd, bne]

end
end Go.Ai
