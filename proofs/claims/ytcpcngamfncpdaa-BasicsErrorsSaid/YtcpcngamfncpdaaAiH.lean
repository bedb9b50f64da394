/- The operations' laws, sixth part: slicing, literals. Generic. -/
import Derived.Test.YtcpcngamfncpdaaAiG
set_option linter.unusedVariables false
namespace Go.Ai
section
variable {P : Program}

def trO : Option Operand → Option (Option XA)
  | none => some none
  | some x => (trA x).map some

/-- a bound agrees -/
theorem bnd_sound {φ : Phi} {ρ : Env} {a : Act} (he : ER φ ρ a.tmps) {o : Operand} {x : XA} {d top n : Nat} (ht : trA o = some x) (h : bnd ρ (some x) d top = some n) (code : BoundsCode) (w : World) :
    (Instr.sliceBound (a.eval o) top code).run P w = .ok n w ∧ n ≤ top := by
  simp only [bnd, Option.bind_eq_some_iff] at h
  obtain ⟨v, hv, i, hi, h⟩ := h
  split at h
  · rename_i hc
    cases h
    obtain ⟨k, rfl⟩ := int?_inv hi
    have e := (ev_sound he ht hv).int_inv
    refine ⟨?_, by omega⟩
    simp [Instr.sliceBound, e, asIntOf, hc]
  · cases h

theorem trO_none {o : Option Operand} (h : trO o = some none) : o = none := by
  cases o with
  | none => rfl
  | some x => simp [trO] at h
theorem trO_some {o : Option Operand} {x : XA} (h : trO o = some (some x)) : ∃ y, o = some y ∧ trA y = some x := by
  cases o with
  | none => simp [trO] at h
  | some y => simp [trO] at h; exact ⟨y, rfl, h⟩

/-- all three bounds -/
theorem bounds_sound {φ : Phi} {ρ : Env} {a : Act} (he : ER φ ρ a.tmps) {lo hi mx : Option Operand} {lo' hi' mx' : Option XA} (h1 : trO lo = some lo') (h2 : trO hi = some hi') (h3 : trO mx = some mx')
    {sl : Bool} {len cap m hh ll : Nat} (e3 : bnd ρ mx' cap cap = some m) (e2 : bnd ρ hi' len m = some hh) (e1 : bnd ρ lo' 0 hh = some ll) (hno : ¬ (mx'.isSome = true ∧ hi' = none)) (w : World) :
    (Instr.sliceBounds sl len cap (lo.map a.eval) (hi.map a.eval) (mx.map a.eval)).run P w = .ok (ll, hh, m) w ∧ (mx = none → m = cap) ∧ (hi = none → hh = len) ∧ ll ≤ hh ∨ (hh ≤ m) ∧ False := by
  left
  cases mx' with
  | none =>
    have hm := trO_none h3
    subst hm
    simp [bnd] at e3; subst e3
    cases hi' with
    | none =>
      have hq := trO_none h2
      subst hq
      simp [bnd] at e2; subst e2
      cases lo' with
      | none =>
        have hq := trO_none h1
        subst hq
        simp [bnd] at e1; subst e1
        simp [Instr.sliceBounds]
      | some x =>
        obtain ⟨y, rfl, hy⟩ := trO_some h1
        obtain ⟨r, hle⟩ := bnd_sound (P := P) he hy e1 .sliceB w
        simp [Instr.sliceBounds, r, hle]
    | some z =>
      obtain ⟨z', rfl, hz⟩ := trO_some h2
      cases lo' with
      | none =>
        have hq := trO_none h1
        subst hq
        simp [bnd] at e1; subst e1
        obtain ⟨r, hle⟩ := bnd_sound (P := P) he hz e2 (if sl then .sliceAcap else .sliceAlen) w
        simp [Instr.sliceBounds, r]
      | some x =>
        obtain ⟨y, rfl, hy⟩ := trO_some h1
        obtain ⟨r, hle⟩ := bnd_sound (P := P) he hy e1 .sliceB w
        obtain ⟨r2, hle2⟩ := bnd_sound (P := P) he hz e2 (if sl then .sliceAcap else .sliceAlen) w
        simp [Instr.sliceBounds, r, r2, hle]
  | some u =>
    obtain ⟨u', rfl, hu⟩ := trO_some h3
    obtain ⟨r3, hle3⟩ := bnd_sound (P := P) he hu e3 (if sl then .slice3Acap else .slice3Alen) w
    cases hi' with
    | none => exact absurd ⟨rfl, rfl⟩ hno
    | some z =>
      obtain ⟨z', rfl, hz⟩ := trO_some h2
      obtain ⟨r2, hle2⟩ := bnd_sound (P := P) he hz e2 .slice3B w
      cases lo' with
      | none =>
        have hq := trO_none h1
        subst hq
        simp [bnd] at e1; subst e1
        simp [Instr.sliceBounds, r2, r3]
      | some x =>
        obtain ⟨y, rfl, hy⟩ := trO_some h1
        obtain ⟨r, hle⟩ := bnd_sound (P := P) he hy e1 .slice3C w
        simp [Instr.sliceBounds, r, r2, r3, hle]

theorem bnd_le {ρ : Env} {x : Option XA} {d top n : Nat} (hd : d ≤ top) (h : bnd ρ x d top = some n) : n ≤ top := by
  cases x with
  | none => simp [bnd] at h; omega
  | some x =>
    simp only [bnd, Option.bind_eq_some_iff] at h
    obtain ⟨v, hv, i, hi, h⟩ := h
    split at h
    · cases h; omega
    · cases h
theorem bnd_top {ρ : Env} {x : XA} {d d' top top' n : Nat} (h : bnd ρ (some x) d top = some n) (ht : top ≤ top') : bnd ρ (some x) d' top' = some n := by
  simp only [bnd, Option.bind_eq_some_iff] at h ⊢
  obtain ⟨v, hv, i, hi, h⟩ := h
  refine ⟨v, hv, i, hi, ?_⟩
  split at h
  · rw [if_pos (by omega)]; exact h
  · cases h

theorem capR_known {φ : Phi} {a : Addr} {l x : Nat} (h : x < unk) : CapR φ a l x x := .inl ⟨h, rfl⟩

theorem cut_sound {φ : Phi} {ad b : Addr} {l c' m ll hh n : Nat} (hp : (l = 0 ∧ c' = 0) ∨ PR φ ad b) (hs : ad.spot = none) (h0 : l = 0 ∧ c' = 0 → hh - ll = 0) (h1 : l = 0 ∧ c' = 0 → m - ll = 0)
    (hc : CapR φ (if m = ll then ad else shiftA ad (ll * n)) (hh - ll) (m - ll) (m - ll)) :
    VR φ (.slice (some (if m = ll then ad else shiftA ad (ll * n))) (hh - ll) (m - ll)) (.slice (if m = ll then some b else (some b).map (·.add (ll * n))) (hh - ll) (m - ll)) := by
  by_cases hz : m = ll
  · rw [if_pos hz, if_pos hz]
    rw [if_pos hz] at hc
    refine .slice ?_ hc
    rcases hp with h | h
    · exact .inl ⟨h0 h, h1 h⟩
    · exact .inr h
  · rw [if_neg hz, if_neg hz]
    rw [if_neg hz] at hc
    refine .slice ?_ hc
    rcases hp with h | h
    · exact .inl ⟨h0 h, h1 h⟩
    · obtain ⟨_, B, s, mm, e1, rfl⟩ := h
      right
      show PR φ (shiftA ad (ll * n)) ((⟨B, s + ad.off, none⟩ : Addr).add (ll * n))
      rw [Addr_add_lit _ _ rfl]
      exact ⟨rfl, B, s, mm, e1, by simp [shiftA, Nat.add_assoc]⟩

theorem snd_slice {o : Oper} {t e : TypeId} {x : Operand} {lo hi mx : Option Operand} {y : XA} {lo' hi' mx' : Option XA} {n : Nat} (ho : o.op = .slice t x lo hi mx) (hy : trA x = some y)
    (h1 : trO lo = some lo') (h2 : trO hi = some hi') (h3 : trO mx = some mx') (hd : P.underlying t = some (.slice e)) (hn : szOf P e = some n) : Snd P o (.slice n y lo' hi' mx') := by
  refine Snd.of_pure fun ρ h v h' φ w a hx hr he => ?_
  simp only [xop, Option.bind_eq_some_iff] at hx
  obtain ⟨u, hu, hx⟩ := hx
  have hv := ev_sound he hy hu
  -- what the model does, once the bounds are known
  have model : ∀ (q : Option Addr) (l c ll hh m : Nat), a.eval x = .slice q l c → (Instr.sliceBounds true l c (lo.map a.eval) (hi.map a.eval) (mx.map a.eval)).run P w = .ok (ll, hh, m) w →
      (execOp a.eval o).run P w = .ok (.value (.slice (if m = ll then q else q.map (·.add (ll * n))) (hh - ll) (m - ll))) w := by
    intro q l c ll hh m hq hb
    simp [execOp, ho, Instr.sliceAt, Instr.slice, run_underlying hd, hq, hb, run_size hn]
  split at hx
  · rename_i q l c
    by_cases hc : unk ≤ c
    · rw [if_pos hc] at hx
      cases hv' : a.eval x <;> rw [hv'] at hv <;> cases hv
      · -- a nil slice of an unknown capacity: not told
        exfalso
        split at hx
        · simp only [Option.bind_eq_some_iff] at hx
          obtain ⟨_, _, _, _, _, _, hx⟩ := hx; cases hx
        · simp only [Option.bind_eq_some_iff] at hx
          obtain ⟨_, _, _, _, hx⟩ := hx; cases hx
      · rename_i c' ad b hp hcap
        have hcap' : l ≤ c' ∧ (c' = 0 ∨ ∃ B s m, φ ad.block = some (B, s, m) ∧ ad.off + c' * (c - unk) = m) := by
          rcases hcap with ⟨h0, _⟩ | ⟨_, h⟩
          · omega
          · exact h
        split at hx
        · -- s[lo:hi:max]
          rename_i hmx
          simp only [Option.bind_eq_some_iff] at hx
          obtain ⟨m, hm, hh, hhh, ll, hll, hx⟩ := hx
          split at hx
          · cases hx
          · rename_i hspot
            simp only [not_or, ne_eq, Decidable.not_not] at hspot
            simp only [Option.some.injEq, Prod.mk.injEq] at hx
            obtain ⟨rfl, rfl⟩ := hx
            cases mx' with
            | none => simp at hmx
            | some mz =>
              cases hi' with
              | none => exact absurd rfl hspot.2.1
              | some hz =>
                have em : bnd ρ (some mz) c' c' = some m := bnd_top hm hcap'.1
                have eh : bnd ρ (some hz) l m = some hh := bnd_top hhh (Nat.le_refl _)
                have hb := (bounds_sound (P := P) (sl := true) he h1 h2 h3 em eh hll (by simp) w).resolve_right (fun h => h.2)
                have lem : m ≤ l := bnd_le (Nat.zero_le _) hm
                have leh : hh ≤ m := bnd_le (Nat.zero_le _) hhh
                have lel : ll ≤ hh := bnd_le (Nat.zero_le _) hll
                have := hspot.2.2
                refine ⟨rfl, _, model _ _ _ _ _ _ hv' hb.1, ?_⟩
                exact cut_sound hp hspot.1 (by omega) (by intro _; omega) (capR_known (by omega))
        · -- s[lo:hi]
          rename_i hmx
          simp only [Option.bind_eq_some_iff] at hx
          obtain ⟨hh, hhh, ll, hll, hx⟩ := hx
          split at hx
          · cases hx
          · rename_i hspot
            simp only [not_or, ne_eq, Decidable.not_not] at hspot
            simp only [Option.some.injEq, Prod.mk.injEq] at hx
            obtain ⟨rfl, rfl⟩ := hx
            have hmn : mx' = none := by cases mx' with | none => rfl | some z => simp at hmx
            subst hmn
            have em : bnd ρ none c' c' = some c' := rfl
            have eh : bnd ρ hi' l c' = some hh := by
              cases hi' with
              | none => exact hhh
              | some z => exact bnd_top hhh hcap'.1
            have hb := (bounds_sound (P := P) (sl := true) he h1 h2 h3 em eh hll (by simp) w).resolve_right (fun h => h.2)
            have leh : hh ≤ l := bnd_le (Nat.le_refl _) hhh
            have lel : ll ≤ hh := bnd_le (Nat.zero_le _) hll
            refine ⟨rfl, _, model _ _ _ _ _ _ hv' hb.1, ?_⟩
            by_cases hz : c' = ll
            · rw [if_pos hz]
              exact .slice (.inl ⟨by omega, by omega⟩) (.inr ⟨hc, by omega, .inl (by omega)⟩)
            · rw [if_neg hz]
              have hp' : PR φ ad b := by rcases hp with ⟨_, h⟩ | h; · omega
                                         · exact h
              obtain ⟨_, B, s, mm, e1, rfl⟩ := hp'
              simp only [Option.map_some]
              rw [Addr_add_lit _ _ rfl]
              refine .slice (.inr ⟨rfl, B, s, mm, e1, by simp [shiftA, Nat.add_assoc]⟩) (.inr ⟨hc, by omega, .inr ⟨B, s, mm, e1, ?_⟩⟩)
              rcases hcap'.2 with h0 | ⟨B', s', m', e2, e3⟩
              · omega
              · rw [e1] at e2; cases e2
                have hcn : c - unk = n := by omega
                rw [hcn] at e3 ⊢
                have hcl : ll + (c' - ll) = c' := by omega
                have : c' * n = ll * n + (c' - ll) * n := by rw [← Nat.add_mul, hcl]
                simp only [shiftA]; omega
    · rw [if_neg hc] at hx
      simp only [Option.bind_eq_some_iff] at hx
      obtain ⟨m, hm, hh, hhh, ll, hll, hx⟩ := hx
      split at hx
      · cases hx
      · rename_i hno
        have hb := (bounds_sound (P := P) (sl := true) he h1 h2 h3 hm hhh hll hno w).resolve_right (fun h => h.2)
        have lem : m ≤ c := bnd_le (Nat.le_refl _) hm
        have lel : ll ≤ hh := bnd_le (Nat.zero_le _) hll
        cases hv' : a.eval x <;> rw [hv'] at hv <;> cases hv
        · simp only [Option.some.injEq, Prod.mk.injEq] at hx
          obtain ⟨rfl, rfl⟩ := hx
          refine ⟨rfl, _, model _ _ _ _ _ _ hv' hb.1, ?_⟩
          have : (if m = ll then (none : Option Addr) else (none : Option Addr).map (·.add (ll * n))) = none := by split <;> rfl
          rw [this]
          exact .sliceNil _ _
        · rename_i c' ad b hp hcap
          have hcc : c' = c := by
            rcases hcap with ⟨_, h⟩ | ⟨h, _⟩
            · exact h
            · exact absurd h hc
          subst hcc
          simp only at hx
          split at hx
          · cases hx
          · rename_i hspot
            simp only [ne_eq, Decidable.not_not] at hspot
            simp only [Option.some.injEq, Prod.mk.injEq] at hx
            obtain ⟨rfl, rfl⟩ := hx
            refine ⟨rfl, _, model _ _ _ _ _ _ hv' hb.1, ?_⟩
            have hmu : m - ll < unk := Nat.lt_of_le_of_lt (Nat.le_trans (Nat.sub_le _ _) lem) (Nat.lt_of_not_le hc)
            refine cut_sound hp hspot ?_ ?_ (capR_known hmu)
            · intro hl0
              have : hh ≤ m ∨ hh = l := by
                cases hi' with
                | none => right; simpa [bnd, eq_comm] using hhh
                | some z => left; exact bnd_le (d := 0) (Nat.zero_le _) (bnd_top hhh (Nat.le_refl _))
              omega
            · intro hl0; omega
  · cases hx

end
end Go.Ai
