/- The operations' laws, fifth part. Generic. -/
import Derived.Test.YtcpcngamfncpdaaAiF
set_option linter.unusedVariables false
namespace Go.Ai
section
variable {P : Program}

theorem snd_lenL {o : Oper} {t e : TypeId} {x : Operand} {y : XA} (ho : o.op = .call { callee := .builtin .len, args := #[x], argTypes := #[t] }) (hy : trA x = some y)
    (hd : P.underlying t = some (.slice e)) : Snd P o (.len true y) := by
  refine Snd.of_pure fun ρ h v h' φ w a hx hr he => ?_
  simp only [xop, Option.bind_eq_some_iff, Option.map_eq_some_iff, Prod.mk.injEq, if_true] at hx
  obtain ⟨u, hu, n, hn, rfl, rfl⟩ := hx
  have hv := ev_sound he hy hu
  refine ⟨rfl, .int .i64 n, ?_, .int _ _⟩
  cases u <;> simp [lenL] at hn
  subst hn
  rename_i q0 n c0
  have : ∃ q c, a.eval x = .slice q n c := by
    generalize a.eval x = u at hv
    cases hv with
    | sliceNil => exact ⟨_, _, rfl⟩
    | slice _ _ => exact ⟨_, _, rfl⟩
  obtain ⟨q, c, hq⟩ := this
  simp [execOp, ho, resolve, invoke, builtin, Builtin.len_, hq, run_underlying hd, goInt]

theorem snd_lenS {o : Oper} {t : TypeId} {x : Operand} {y : XA} (ho : o.op = .call { callee := .builtin .len, args := #[x], argTypes := #[t] }) (hy : trA x = some y)
    (hd : P.underlying t = some .string) : Snd P o (.len false y) := by
  refine Snd.of_pure fun ρ h v h' φ w a hx hr he => ?_
  simp only [xop, Option.bind_eq_some_iff, Option.map_eq_some_iff, Prod.mk.injEq, Bool.false_eq_true, if_false] at hx
  obtain ⟨u, hu, n, hn, rfl, rfl⟩ := hx
  have hv := ev_sound he hy hu
  refine ⟨rfl, .int .i64 n, ?_, .int _ _⟩
  cases u <;> simp [lenS] at hn
  subst hn
  rename_i s
  have hq : a.eval x = .string s := hv.flat_eq rfl
  simp [execOp, ho, resolve, invoke, builtin, Builtin.len_, hq, run_underlying hd, goInt]

theorem snd_lenK {o : Oper} {t e : TypeId} {n : Nat} {x : Operand} (ho : o.op = .call { callee := .builtin .len, args := #[x], argTypes := #[t] } ∨ o.op = .call { callee := .builtin .cap, args := #[x], argTypes := #[t] })
    (hd : P.underlying t = some (.array n e)) : Snd P o (.lenK n) := by
  refine Snd.of_pure fun ρ h v h' φ w a hx hr he => ?_
  simp only [xop, Option.some.injEq, Prod.mk.injEq] at hx
  obtain ⟨rfl, rfl⟩ := hx
  refine ⟨rfl, .int .i64 n, ?_, .int _ _⟩
  rcases ho with ho | ho
  · simp [execOp, ho, resolve, invoke, builtin, Builtin.len_, run_underlying hd, goInt]
  · simp [execOp, ho, resolve, invoke, builtin, Builtin.cap_, run_underlying hd, goInt]

theorem snd_cap {o : Oper} {t e : TypeId} {x : Operand} {y : XA} (ho : o.op = .call { callee := .builtin .cap, args := #[x], argTypes := #[t] }) (hy : trA x = some y)
    (hd : P.underlying t = some (.slice e)) : Snd P o (.cap y) := by
  refine Snd.of_pure fun ρ h v h' φ w a hx hr he => ?_
  simp only [xop, Option.bind_eq_some_iff] at hx
  obtain ⟨u, hu, hx⟩ := hx
  have hv := ev_sound he hy hu
  split at hx
  · rename_i q l c
    split at hx
    · rename_i hc
      simp only [Option.some.injEq, Prod.mk.injEq] at hx
      obtain ⟨rfl, rfl⟩ := hx
      refine ⟨rfl, .int .i64 c, ?_, .int _ _⟩
      have : ∃ q l', a.eval x = .slice q l' c := by
        generalize a.eval x = u at hv
        cases hv with
        | sliceNil => exact ⟨_, _, rfl⟩
        | slice _ hc' =>
          rcases hc' with ⟨_, rfl⟩ | ⟨h1, _⟩
          · exact ⟨_, _, rfl⟩
          · omega
      obtain ⟨q, l', hq⟩ := this
      simp [execOp, ho, resolve, invoke, builtin, Builtin.cap_, hq, run_underlying hd, goInt]
    · cases hx
  · cases hx

theorem snd_extract {o : Oper} {i : Nat} {x : Operand} {y : XA} (ho : o.op = .extract x i) (hy : trA x = some y) : Snd P o (.extract i y) := by
  refine Snd.of_pure fun ρ h v h' φ w a hx hr he => ?_
  simp only [xop, Option.bind_eq_some_iff] at hx
  obtain ⟨u, hu, hx⟩ := hx
  have hv := ev_sound he hy hu
  split at hx
  · rename_i c
    simp only [Option.map_eq_some_iff, Prod.mk.injEq] at hx
    obtain ⟨r, hr', rfl, rfl⟩ := hx
    obtain ⟨c', hc', hL⟩ := hv.tuple_inv
    obtain ⟨b, hb, hvb⟩ := hL.get hr'
    refine ⟨rfl, b, ?_, hvb⟩
    have : c'[i]? = some b := by simpa using hb
    simp [execOp, ho, hc', Instr.extract, this]
  · cases hx

theorem trAs_sound {φ : Phi} {ρ : Env} {a : Act} (he : ER φ ρ a.tmps) : ∀ (os : List Operand) (xs : List XA) (vs : List Value), os.mapM trA = some xs → evs ρ xs = some vs → LR φ vs (os.map a.eval)
  | [], xs, vs, h1, h2 => by
    simp at h1; subst h1; simp [evs] at h2; subst h2; exact LR.nil φ
  | o :: os, xs, vs, h1, h2 => by
    simp only [List.mapM_cons, bind, Option.bind_eq_some_iff, pure, Option.some.injEq] at h1
    obtain ⟨x, hx, xs', hxs, rfl⟩ := h1
    simp only [evs, Option.bind_eq_some_iff, Option.map_eq_some_iff] at h2
    obtain ⟨v, hv, vs', hvs, rfl⟩ := h2
    exact LR.cons (ev_sound he hx hv) (trAs_sound he os xs' vs' hxs hvs)

theorem snd_mkfunc {o : Oper} {fn : Fn} {f c : Array Operand} {f' c' : List XA} (ho : o.op = .makeFunc fn f c) (hf : f.toList.mapM trA = some f') (hc : c.toList.mapM trA = some c') : Snd P o (.mkfunc fn f' c') := by
  refine Snd.of_pure fun ρ h v h' φ w a hx hr he => ?_
  simp only [xop, Option.bind_eq_some_iff, Option.map_eq_some_iff, Prod.mk.injEq] at hx
  obtain ⟨fs, hfs, cs, hcs, rfl, rfl⟩ := hx
  have l1 := trAs_sound he _ _ _ hf hfs
  have l2 := trAs_sound he _ _ _ hc hcs
  refine ⟨rfl, .func fn (f.map a.eval) (c.map a.eval), ?_, ?_⟩
  · simp [execOp, ho, Instr.makeFunc]
  · refine .func fn ?_ ?_ ?_ ?_
    · simpa using l1.1
    · intro i x y hx hy; exact l1.2 i x y (by simpa using hx) (by simpa using hy)
    · simpa using l2.1
    · intro i x y hx hy; exact l2.2 i x y (by simpa using hx) (by simpa using hy)

/-- max and min of numbers -/
theorem mm_fold (mx : Bool) : ∀ (vs : List Value) (v r : Value), vs.foldlM (fun (a b : Value) => match a, b with
      | .int k x, .int _ y => some (Value.int k (if mx then (if y > x then y else x) else (if y < x then y else x)))
      | _, _ => none) v = some r → flat v = true → (∀ w, (vs.foldlM (m := Sem) (if mx then Builtin.max2 else Builtin.min2) v).run P w = .ok r w) ∧ flat r = true ∧ vs.all flat = true
  | [], v, r, h, hf => by simp at h; subst h; exact ⟨fun w => rfl, hf, rfl⟩
  | u :: vs, v, r, h, hf => by
    simp only [List.foldlM_cons, bind, Option.bind_eq_some_iff] at h
    obtain ⟨x, hx, hrest⟩ := h
    split at hx
    · rename_i k a k' b
      cases hx
      obtain ⟨h1, h2, h3⟩ := mm_fold mx vs _ r hrest rfl
      refine ⟨fun w => ?_, h2, by simp [flat, h3]⟩
      simp only [List.foldlM_cons, Sem.run_bind]
      cases mx
      · simp only [Bool.false_eq_true, if_false] at h1 ⊢
        simp only [Builtin.min2, Sem.run_pure, Result.andThen_ok]
        exact h1 w
      · simp only [if_true] at h1 ⊢
        simp only [Builtin.max2, Sem.run_pure, Result.andThen_ok]
        exact h1 w
    · cases hx

theorem snd_mm {o : Oper} {mx : Bool} {x : Operand} {os : List Operand} {ts : Array TypeId} {y : XA} {ys : List XA} (ho : o.op = .call { callee := .builtin (if mx then .max else .min), args := (x :: os).toArray, argTypes := ts })
    (hy : trA x = some y) (hys : os.mapM trA = some ys) : Snd P o (.mm mx y ys) := by
  refine Snd.of_pure fun ρ h v h' φ w a hx hr he => ?_
  simp only [xop, Option.bind_eq_some_iff, Option.map_eq_some_iff, Prod.mk.injEq] at hx
  obtain ⟨u, hu, us, hus, n, hn, r, hf, rfl, rfl⟩ := hx
  obtain ⟨k, rfl⟩ := int?_inv hn
  obtain ⟨h1, h2, h3⟩ := mm_fold (P := P) mx us _ r hf rfl
  have e1 : a.eval x = .int k n := (ev_sound he hy hu).int_inv
  have e2 : os.map a.eval = us := (trAs_sound he _ _ _ hys hus).flat_eq h3
  refine ⟨rfl, r, ?_, VR.of_flat φ h2⟩
  cases mx
  · simp only [Bool.false_eq_true, if_false] at ho h1
    simp [execOp, ho, resolve, invoke, builtin, Builtin.min_, e1, e2, h1]
  · simp only [if_true] at ho h1
    simp [execOp, ho, resolve, invoke, builtin, Builtin.max_, e1, e2, h1]

end
end Go.Ai
