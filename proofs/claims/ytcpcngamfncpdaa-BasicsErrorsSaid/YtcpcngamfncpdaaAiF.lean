/- The operations' laws, fourth part. Generic. -/
import Derived.Test.YtcpcngamfncpdaaAiE
set_option linter.unusedVariables false
namespace Go.Ai
section
variable {P : Program}

theorem equalIn_nilp {t e : TypeId} (hd : P.underlying t = some (.pointer e)) (d : Nat) (x : Option Addr) (w : World) : (Op.equalIn (d + 1) t (.pointer x) (.pointer none)).run P w = .ok x.isNone w := by
  cases x <;> simp [Op.equalIn, run_underlying hd]
theorem equalIn_nils {t e : TypeId} (hd : P.underlying t = some (.slice e)) (d : Nat) (x : Option Addr) (l c : Nat) (w : World) : (Op.equalIn (d + 1) t (.slice x l c) (.slice none 0 0)).run P w = .ok x.isNone w := by
  cases x <;> simp [Op.equalIn, run_underlying hd]

theorem snd_isnilp {o : Oper} {neg : Bool} {t t' e : TypeId} {x : Operand} {x' : XA} (ho : o.op = .binOp (if neg then .neq else .eql) t x (.const (.pointer none)) t') (hx' : trA x = some x')
    (hd : P.underlying t = some (.pointer e)) : Snd P o (.isnil neg false x') := by
  refine Snd.of_pure fun ρ h v h' φ w a hx hr he => ?_
  simp only [xop, Option.bind_eq_some_iff, Option.map_eq_some_iff, Prod.mk.injEq] at hx
  obtain ⟨xv, hxv, b, hb, rfl, rfl⟩ := hx
  have hv := ev_sound he hx' hxv
  have hE : ∀ p : Option Addr, (Op.equal t (.pointer p) (.pointer none)).run P w = .ok p.isNone w := fun p => equalIn_nilp hd 9999 p w
  cases xv <;> simp [isNil?] at hb
  subst hb
  rename_i p
  have hu : ∃ q, a.eval x = .pointer q ∧ q.isNone = p.isNone := by
    generalize a.eval x = u at hv
    cases hv with
    | ptrNil => exact ⟨_, rfl, rfl⟩
    | ptr _ => exact ⟨_, rfl, rfl⟩
  obtain ⟨q, hq, hqn⟩ := hu
  refine ⟨rfl, _, ?_, .bool _⟩
  have hev : a.eval (.const (.pointer none)) = .pointer none := rfl
  cases neg
  · simp only [execOp, ho, hq, hev, eqGuard, binOp, Sem.run_bind, Bool.false_eq_true, if_false]
    cases q <;> simp [hE, ← hqn]
  · simp only [execOp, ho, hq, hev, eqGuard, binOp, Sem.run_bind, if_true]
    cases q <;> simp [hE, ← hqn]

theorem snd_isnils {o : Oper} {neg : Bool} {t t' e : TypeId} {x : Operand} {x' : XA} (ho : o.op = .binOp (if neg then .neq else .eql) t x (.const (.slice none 0 0)) t') (hx' : trA x = some x')
    (hd : P.underlying t = some (.slice e)) : Snd P o (.isnil neg true x') := by
  refine Snd.of_pure fun ρ h v h' φ w a hx hr he => ?_
  simp only [xop, Option.bind_eq_some_iff, Option.map_eq_some_iff, Prod.mk.injEq] at hx
  obtain ⟨xv, hxv, b, hb, rfl, rfl⟩ := hx
  have hv := ev_sound he hx' hxv
  have hE : ∀ (p : Option Addr) l c, (Op.equal t (.slice p l c) (.slice none 0 0)).run P w = .ok p.isNone w := fun p l c => equalIn_nils hd 9999 p l c w
  cases xv <;> simp [isNil?] at hb
  subst hb
  rename_i p l c
  have hu : ∃ q l' c', a.eval x = .slice q l' c' ∧ q.isNone = p.isNone := by
    generalize a.eval x = u at hv
    cases hv with
    | sliceNil => exact ⟨_, _, _, rfl, rfl⟩
    | slice _ _ => exact ⟨_, _, _, rfl, rfl⟩
  obtain ⟨q, l', c', hq, hqn⟩ := hu
  refine ⟨rfl, _, ?_, .bool _⟩
  have hev : a.eval (.const (.slice none 0 0)) = .slice none 0 0 := rfl
  cases neg
  · simp only [execOp, ho, hq, hev, eqGuard, binOp, Sem.run_bind, Bool.false_eq_true, if_false]
    cases q <;> simp [hE, ← hqn]
  · simp only [execOp, ho, hq, hev, eqGuard, binOp, Sem.run_bind, if_true]
    cases q <;> simp [hE, ← hqn]

theorem snd_conv {o : Oper} {s t : TypeId} {k : IntKind} {ds : TypeDesc} {x : Operand} {x' : XA} (ho : o.op = .convert s t x) (hx' : trA x = some x') (hs : P.underlying s = some ds) (hd : P.underlying t = some (.int k)) : Snd P o (.conv k x') := by
  refine Snd.of_pure fun ρ h v h' φ w a hx hr he => ?_
  simp only [xop, Option.bind_eq_some_iff, Option.map_eq_some_iff, Prod.mk.injEq] at hx
  obtain ⟨xv, hxv, n, hn, rfl, rfl⟩ := hx
  obtain ⟨k', rfl⟩ := int?_inv hn
  have hv := (ev_sound he hx' hxv).int_inv
  refine ⟨rfl, _, ?_, .int _ _⟩
  cases ds <;> simp [execOp, ho, hv, convert, run_underlying hs, run_underlying hd, Conv.intToInt]

theorem VR.agg_invL {φ : Phi} {l : List Value} {u : Value} (h : VR φ (.agg l.toArray) u) : ∃ l' : List Value, u = .agg l'.toArray ∧ LR φ l l' := by
  obtain ⟨c, rfl, hc⟩ := h.agg_inv
  exact ⟨c.toList, by simp, by simpa using hc⟩

theorem snd_field1 {o : Oper} {t : TypeId} {k : Nat} {x : Operand} {y : XA} {fs : Array Field} {f : Field} {d : TypeDesc} (ho : o.op = .field t x k) (hy : trA x = some y)
    (hd : P.underlying t = some (.struct fs)) (hf : fs[k]? = some f) (hfd : P.underlying f.type = some d) (hb : aggB d = false) : Snd P o (.field1 f.offset y) := by
  refine Snd.of_pure fun ρ h v h' φ w a hx hr he => ?_
  simp only [xop, Option.bind_eq_some_iff, Option.map_eq_some_iff, Prod.mk.injEq] at hx
  obtain ⟨u, hu, l, hl, r, hr', rfl, rfl⟩ := hx
  have hv := ev_sound he hy hu
  rw [agg?_inv hl] at hv
  obtain ⟨l', hl', hL⟩ := hv.agg_invL
  obtain ⟨b, hb', hvb⟩ := hL.get hr'
  refine ⟨rfl, b, ?_, hvb⟩
  simp [execOp, ho, hl', Instr.field, run_underlying hd, hf, part, run_agg hfd, hb, asAgg, hb']

theorem snd_fieldN {o : Oper} {t : TypeId} {k n : Nat} {x : Operand} {y : XA} {fs : Array Field} {f : Field} {d : TypeDesc} (ho : o.op = .field t x k) (hy : trA x = some y)
    (hd : P.underlying t = some (.struct fs)) (hf : fs[k]? = some f) (hfd : P.underlying f.type = some d) (hb : aggB d = true) (hn : szOf P f.type = some n) : Snd P o (.fieldN f.offset n y) := by
  refine Snd.of_pure fun ρ h v h' φ w a hx hr he => ?_
  simp only [xop, Option.bind_eq_some_iff] at hx
  obtain ⟨u, hu, l, hl, hx⟩ := hx
  split at hx
  · rename_i hc
    simp only [Option.some.injEq, Prod.mk.injEq] at hx
    obtain ⟨rfl, rfl⟩ := hx
    have hv := ev_sound he hy hu
    rw [agg?_inv hl] at hv
    obtain ⟨l', hl', hL⟩ := hv.agg_invL
    refine ⟨rfl, .agg ((l'.drop f.offset).take n).toArray, ?_, VR.aggL ((hL.drop _).take _)⟩
    simp [execOp, ho, hl', Instr.field, run_underlying hd, hf, part, run_agg hfd, hb, asAgg, run_size hn]
    try rw [List.extract_eq_take_drop]
    try (congr 1 <;> omega)
  · cases hx

theorem snd_iaddrA {o : Oper} {t e : TypeId} {x i : Operand} {y j : XA} {n len : Nat} (ho : o.op = .indexAddr t x i) (hy : trA x = some y) (hj : trA i = some j)
    (hd : P.underlying t = some (.array len e)) (hn : szOf P e = some n) : Snd P o (.iaddrA len n y j) := by
  refine Snd.of_pure fun ρ h v h' φ w a hx hr he => ?_
  simp only [xop, Option.bind_eq_some_iff] at hx
  obtain ⟨sv, hsv, ad, had, iv, hiv, iz, hiz, hx⟩ := hx
  obtain ⟨k, rfl⟩ := int?_inv hiz
  have hi := (ev_sound he hj hiv).int_inv
  have hs := ev_sound he hy hsv
  rw [addr?_inv had] at hs
  obtain ⟨b, hb', hp⟩ := hs.ptr_inv
  obtain ⟨_, B, s, m, h1, rfl⟩ := hp
  split at hx
  · rename_i hc
    obtain ⟨c1, c2, c3⟩ := hc
    simp only [Option.some.injEq, Prod.mk.injEq] at hx
    obtain ⟨rfl, rfl⟩ := hx
    refine ⟨rfl, .pointer (some ⟨B, s + (ad.off + iz.toNat * n), none⟩), ?_, .ptr ⟨rfl, B, s, m, h1, rfl⟩⟩
    simp only [execOp, ho, hb', hi, Instr.indexAt, asIntOf, Instr.sureAddr, Sem.run_bind, run_underlying hd, Result.andThen_ok, Sem.run_pure, run_size hn, c1, c2, and_self, if_true, Sem.run_ite]
    rw [Addr_add_lit _ _ rfl]
    simp [Nat.add_assoc]
  · cases hx

theorem snd_idxA1 {o : Oper} {t e : TypeId} {x i : Operand} {y j : XA} {len : Nat} {d : TypeDesc} (ho : o.op = .index t x i) (hy : trA x = some y) (hj : trA i = some j)
    (hd : P.underlying t = some (.array len e)) (hfd : P.underlying e = some d) (hb : aggB d = false) (hn : szOf P e = some 1) : Snd P o (.idxA1 len y j) := by
  refine Snd.of_pure fun ρ h v h' φ w a hx hr he => ?_
  simp only [xop, Option.bind_eq_some_iff] at hx
  obtain ⟨sv, hsv, l, hl, iv, hiv, iz, hiz, hx⟩ := hx
  obtain ⟨k, rfl⟩ := int?_inv hiz
  have hi := (ev_sound he hj hiv).int_inv
  have hs := ev_sound he hy hsv
  rw [agg?_inv hl] at hs
  obtain ⟨l', hl', hL⟩ := hs.agg_invL
  split at hx
  · rename_i hc
    obtain ⟨c1, c2⟩ := hc
    simp only [Option.map_eq_some_iff, Prod.mk.injEq] at hx
    obtain ⟨r, hr', rfl, rfl⟩ := hx
    obtain ⟨b, hb', hvb⟩ := hL.get hr'
    refine ⟨rfl, b, ?_, hvb⟩
    simp [execOp, ho, hl', hi, Instr.index, asIntOf, run_underlying hd, run_size hn, c1, c2, part, run_agg hfd, hb, hb']
  · cases hx

theorem snd_idxAN {o : Oper} {t e : TypeId} {x i : Operand} {y j : XA} {len n : Nat} {d : TypeDesc} (ho : o.op = .index t x i) (hy : trA x = some y) (hj : trA i = some j)
    (hd : P.underlying t = some (.array len e)) (hfd : P.underlying e = some d) (hb : aggB d = true) (hn : szOf P e = some n) : Snd P o (.idxAN len n y j) := by
  refine Snd.of_pure fun ρ h v h' φ w a hx hr he => ?_
  simp only [xop, Option.bind_eq_some_iff] at hx
  obtain ⟨sv, hsv, l, hl, iv, hiv, iz, hiz, hx⟩ := hx
  obtain ⟨k, rfl⟩ := int?_inv hiz
  have hi := (ev_sound he hj hiv).int_inv
  have hs := ev_sound he hy hsv
  rw [agg?_inv hl] at hs
  obtain ⟨l', hl', hL⟩ := hs.agg_invL
  split at hx
  · rename_i hc
    obtain ⟨c1, c2, c3⟩ := hc
    simp only [Option.some.injEq, Prod.mk.injEq] at hx
    obtain ⟨rfl, rfl⟩ := hx
    refine ⟨rfl, .agg ((l'.drop (iz.toNat * n)).take n).toArray, ?_, VR.aggL ((hL.drop _).take _)⟩
    simp [execOp, ho, hl', hi, Instr.index, asIntOf, run_underlying hd, run_size hn, c1, c2, part, run_agg hfd, hb]
    try rw [List.extract_eq_take_drop]
    try (congr 1 <;> omega)
  · cases hx

theorem snd_idxS {o : Oper} {t : TypeId} {x i : Operand} {y j : XA} (ho : o.op = .index t x i) (hy : trA x = some y) (hj : trA i = some j)
    (hd : P.underlying t = some .string) : Snd P o (.idxS y j) := by
  refine Snd.of_pure fun ρ h v h' φ w a hx hr he => ?_
  simp only [xop, Option.bind_eq_some_iff] at hx
  obtain ⟨sv, hsv, s, hs', iv, hiv, iz, hiz, hx⟩ := hx
  obtain ⟨k, rfl⟩ := int?_inv hiz
  have hi := (ev_sound he hj hiv).int_inv
  have hs := ev_sound he hy hsv
  rw [str?_inv hs'] at hs
  have hs2 : a.eval x = .string s := hs.flat_eq rfl
  split at hx
  · rename_i c1
    simp only [Option.map_eq_some_iff, Prod.mk.injEq] at hx
    obtain ⟨r, hr', rfl, rfl⟩ := hx
    refine ⟨rfl, .int .u8 r.toNat, ?_, .int _ _⟩
    simp [execOp, ho, hs2, hi, Instr.index, asIntOf, run_underlying hd, c1, hr']
  · cases hx

end
end Go.Ai
