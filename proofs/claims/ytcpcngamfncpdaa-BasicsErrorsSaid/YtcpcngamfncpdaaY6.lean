import Derived.Test.YtcpcngamfncpdaaY5
set_option linter.unusedVariables false
set_option linter.unusedSimpArgs false
namespace Go.Proofs.Ytcpcngamfncpdaa
open Go Go.Ai Go.Proofs

/-- behind Next, the first cell of the load still written over -/
def ErN (n : Nat) (u : UP) (lu ld : Value) (zs : List Int) (D : Nat) (ρ : Env) (h : AHeap) : Prop :=
  get ρ 0 = some ld ∧ get ρ 27 = some (.slice (some ⟨D, 0, none⟩) zs.length (unk + 1)) ∧ get ρ 29 = some (.int .i64 0) ∧ h[D]? = some (some ⟨true, bR zs⟩) ∧ n ≤ D ∧
  (∃ X V T e qv ov, get ρ 23 = some (.pointer (some ⟨X, 0, none⟩)) ∧ get ρ 3 = some (.pointer (some ⟨V, 0, none⟩)) ∧ get ρ 28 = some (.pointer (some ⟨T, 0, none⟩)) ∧ Frs e ∧ BAt h X e qv ov ∧ h[V]? = some (some ⟨true, u.cells lu⟩) ∧ ¬ foot X qv ov V ∧ n ≤ V ∧ (∀ B, foot X qv ov B → n ≤ B) ∧
    n ≤ T ∧ ∃ un lw, h[T]? = some (some ⟨true, UP.cells un lw⟩) ∧ LoadV h lw zs) ∧ ∀ C, C < n → h[C]? = some none
theorem one_next (zs : List Int) : (BE.one zs).next = ({ (BE.one zs).pull with again := (BE.one zs).pull.again - 1 }, (BE.one zs).pull.unit, 0) := by
  unfold BE.next; rw [if_neg (show ¬ (BE.one zs).st ≠ 0 from fun h => h rfl)]
theorem one_pull (zs : List Int) : (BE.one zs).pull = { BE.one zs with o := [zs], q := [], sent := 0, again := 1 } := by
  unfold BE.pull
  have h1 : aft (BE.one zs).sent 1 = 0 := by show aft 127 1 = 0; decide
  rw [if_pos ⟨rfl, by simp [BE.one], by simp [BE.one]⟩, h1]; rfl
theorem one_unit (zs : List Int) : (BE.one zs).pull.unit.load = zs := by
  rw [one_pull]; rfl
theorem one_frs (zs : List Int) : Frs { (BE.one zs).pull with again := (BE.one zs).pull.again - 1 } := by
  rw [one_pull]; exact ⟨rfl, rfl, rfl, rfl, rfl, rfl⟩
set_option maxHeartbeats 4000000 in
set_option maxRecDepth 20000 in
theorem errors_mid {n : Nat} {ρ : Env} {h : AHeap} {u : UP} {lu ld : Value} {zs : List Int} {X V A B D : Nat} (hbd : 2 ≤ zs.length ∧ zs.length ≤ 273) (r0 : get ρ 0 = some ld) (r23 : get ρ 23 = some (.pointer (some ⟨X, 0, none⟩))) (r3 : get ρ 3 = some (.pointer (some ⟨V, 0, none⟩))) (r27 : get ρ 27 = some (.slice (some ⟨D, 0, none⟩) zs.length (unk + 1)))
    (O : OneAt h X A B zs) (hV : h[V]? = some (some ⟨true, u.cells lu⟩)) (hD : h[D]? = some (some ⟨true, bR zs⟩)) (hVX : V ≠ X) (hVA : V ≠ A) (hDX : D ≠ X) (hDA : D ≠ A) (nX : n ≤ X) (nV : n ≤ V) (nA : n ≤ A) (nD : n ≤ D) (h0 : ∀ C, C < n → h[C]? = some none) (hnl : n ≤ h.length) :
    xcode Try.prog X25m (fun e ρ' h' => e = .normal ∧ ErN n u lu ld zs D ρ' h') ρ h := by
  have E := O.be hbd
  have hn := next2_ok E
  rw [one_next, one_unit] at hn
  have hne : zs ≠ [] := fun e => by subst e; simp at hbd
  have hft : ∀ C, foot X (.slice (some ⟨A, 0, none⟩) 1 (unk + 1)) (.slice none 0 0) C → C = X ∨ C = A := fun C hC => by
    rcases hC with h1 | h1 | h1
    · exact .inl h1
    · simp only [slB, Option.map_some, Option.some.injEq] at h1; exact .inr h1.symm
    · simp [slB] at h1
  simp only [X25m, sx, x_box, x_bslice, x_slice, x_append, x_appz, x_b2s, x_s2b, x_mark, xop, ev, evs, evParts, fillL, cellsL, Ai.get, Ai.put, stab, isNil?, if_false, if_true, addr?, int?, str?, agg?, bool?, shiftA, FnPost, xresL, xres1, tup, argEnv, ptr, Nat.reduceEqDiff, reduceIte, beq_self_eq_true, ne_eq, Nat.reduceAdd, Nat.reduceMul, Nat.reduceSub, abin_shl, abin_shr, load1V, loadV, storeV, cellsAt, getN, setN, allocV, lenL, lenS, bnd, oneC, Value.oneCell', Nat.reduceLeDiff, Nat.reduceLT, exists_eq_left', forall_const, reduceCtorEq, app_new, app_new0, List.append_assoc, Int.reduceToNat, Int.reduceLT, Int.reduceLE, Int.reduceEq, Int.reduceNe, Int.reduceBEq, IntKind.bits, bne_self_eq_false, Int.reducePow, r0, r23, r3, r27]
  refine xcall hn (by rfl) (by rfl) (by rfl) (by rfl) ?_
  rintro r g1 ⟨⟨lw, rfl, L1, L1v⟩, qv, ov, E1, F1, n1⟩
  have LV := L1v hne
  have hVn : ¬ foot X (.slice (some ⟨A, 0, none⟩) 1 (unk + 1)) (.slice none 0 0) V := fun hh => (hft V hh).elim hVX hVA
  have hDn : ¬ foot X (.slice (some ⟨A, 0, none⟩) 1 (unk + 1)) (.slice none 0 0) D := fun hh => (hft D hh).elim hDX hDA
  have hV1 := F1.get hV hVn
  have hD1 := F1.get hD hDn
  have hVl := lt_of_get hV
  have hF := F1.1
  have hC1 : ∀ C, C < n → g1[C]? = some none := fun C hC => by
    rw [F1.2 C (by omega) fun hh => by rcases hft C hh with e | e <;> omega]; exact h0 C hC
  have LV' := LV
  obtain ⟨B', rfl, -⟩ := LV'
  have F := one_frs zs
  generalize ({ (BE.one zs).pull with again := (BE.one zs).pull.again - 1 } : BE) = e at *
  generalize (BE.one zs).pull.unit = un at *
  have hvf : ¬ foot X qv ov V := fun hh => by
    rcases n1 V hh with h1 | h1
    · exact hVn h1
    · omega
  have hnf : ∀ C, foot X qv ov C → n ≤ C := fun C hC => by
    rcases n1 C hC with h1 | h1
    · rcases hft C h1 with e | e <;> omega
    · omega
  simp only [sx, x_box, x_bslice, x_slice, x_append, x_appz, x_b2s, x_s2b, x_mark, xop, ev, evs, evParts, fillL, cellsL, Ai.get, Ai.put, stab, isNil?, if_false, if_true, addr?, int?, str?, agg?, bool?, shiftA, FnPost, xresL, xres1, tup, argEnv, ptr, Nat.reduceEqDiff, reduceIte, beq_self_eq_true, ne_eq, Nat.reduceAdd, Nat.reduceMul, Nat.reduceSub, abin_shl, abin_shr, load1V, loadV, storeV, cellsAt, getN, setN, allocV, lenL, lenS, bnd, oneC, Value.oneCell', Nat.reduceLeDiff, Nat.reduceLT, exists_eq_left', forall_const, reduceCtorEq, app_new, app_new0, List.append_assoc, Int.reduceToNat, Int.reduceLT, Int.reduceLE, Int.reduceEq, Int.reduceNe, Int.reduceBEq, IntKind.bits, bne_self_eq_false, Int.reducePow, r0, r23, r3, r27, UP.cells]
  refine alloc_run fun g2 T K2 hT hTl _ => ?_
  have K3 := K2.set hTl (some ⟨true, UP.cells un (.slice (some ⟨B', 0, none⟩) zs.length zs.length)⟩)
  have T3 : (g2.set T (some ⟨true, UP.cells un (.slice (some ⟨B', 0, none⟩) zs.length zs.length)⟩))[T]? = some (some ⟨true, UP.cells un (.slice (some ⟨B', 0, none⟩) zs.length zs.length)⟩) := set_same hT _
  simp only [UP.cells] at K3 T3
  simp only [sx, x_box, x_alloc, x_bslice, x_slice, x_append, x_appz, x_b2s, x_s2b, x_mark, xop, ev, evs, evParts, fillL, cellsL, Ai.get, Ai.put, stab, isNil?, if_false, if_true, addr?, int?, str?, agg?, bool?, shiftA, FnPost, xresL, xres1, tup, argEnv, ptr, Nat.reduceEqDiff, reduceIte, beq_self_eq_true, ne_eq, Nat.reduceAdd, Nat.reduceMul, Nat.reduceSub, abin_shl, abin_shr, load1V, loadV, storeV, cellsAt, getN, setN, allocV, lenL, lenS, bnd, oneC, Value.oneCell', Nat.reduceLeDiff, Nat.reduceLT, exists_eq_left', forall_const, reduceCtorEq, app_new, app_new0, List.append_assoc, Int.reduceToNat, Int.reduceLT, Int.reduceLE, Int.reduceEq, Int.reduceNe, Int.reduceBEq, IntKind.bits, bne_self_eq_false, Int.reducePow, hT, set_here, r0, r23, r3, r27]
  refine ⟨r0, r27, rfl, K3.get hD1, nD, ⟨X, V, T, e, qv, ov, r23, r3, rfl, F, E1.kp K3, K3.get hV1, hvf, nV, hnf, by omega, un, _, T3, LV.frz K3.frz⟩, fun C hC => by rw [K3.2 C (by have := (List.getElem?_eq_some_iff.1 (hC1 C hC)).1; exact this)]; exact hC1 C hC⟩
end Go.Proofs.Ytcpcngamfncpdaa
