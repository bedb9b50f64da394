import Derived.Test.YtejgaeinkojgpaaU2
set_option linter.unusedVariables false
set_option linter.unusedSimpArgs false
namespace Go.Proofs.Ytejgaeinkojgpaa
open Go Go.Ai Go.Proofs

def EqnI (h0 : AHeap) (v w : Value) (a b : List Nat) (f : Nat) (ρ : Env) (h : AHeap) : Prop := ∃ i, i + f = a.length ∧ get ρ 13 = some (.int .i64 (i : Nat)) ∧ get ρ 12 = some (.int .i64 (a.length : Nat)) ∧ get ρ 0 = some v ∧ get ρ 1 = some w ∧ h = h0 ∧ a.take i = b.take i
def EqP (h : AHeap) (a b : List Nat) (r : Value) (h' : AHeap) : Prop := h' = h ∧ ∃ t, r = .bool t ∧ (t = true ↔ a = b)
/-- slices.Equal of bytes -/
theorem eqn_ok {h : AHeap} {v w : Value} {a b : List Nat} (V : ByE h v a) (W : ByE h w b) (ha : a.length ≤ 1000000) (hb : b.length ≤ 1000000) : Valid Try.prog 42 [v, w] h fun r h' => EqP h a b r h' := by
  refine v42 (by simp) ?_
  obtain ⟨q, c, rfl⟩ := V.shp
  obtain ⟨q', c', rfl⟩ := W.shp
  by_cases hl : a.length = b.length
  rotate_left
  · have hl' : ((a.length : Nat) : Int) ≠ (b.length : Nat) := by omega
    simp only [X42, sx, x_box, x_alloc, x_bslice, x_slice, x_append, x_appz, x_b2s, xop, ev, evs, evParts, fillL, cellsL, Ai.get, Ai.put, stab, isNil?, if_false, if_true, addr?, int?, str?, agg?, bool?, shiftA, FnPost, xresL, xres1, tup, argEnv, ptr, Nat.reduceEqDiff, reduceIte, beq_self_eq_true, ne_eq, Nat.reduceAdd, Nat.reduceMul, Nat.reduceSub, abin_shl, abin_shr, load1V, loadV, storeV, cellsAt, getN, setN, allocV, lenL, lenS, bnd, oneC, Value.oneCell', Nat.reduceLeDiff, Nat.reduceLT, exists_eq_left', forall_const, reduceCtorEq, app_new, app_new0, List.append_assoc, Int.reduceToNat, Int.reduceLT, Int.reduceLE, Int.reduceEq, Int.reduceNe, Int.reduceBEq, IntKind.bits, bne_self_eq_false, Int.reducePow, hl']
    exact ⟨rfl, _, rfl, Iff.intro (fun h => by cases h) (fun h => absurd (congrArg List.length h) hl)⟩
  have hl' : ¬ ((a.length : Nat) : Int) ≠ (b.length : Nat) := by omega
  simp only [X42, sx, x_box, x_alloc, x_bslice, x_slice, x_append, x_appz, x_b2s, xop, ev, evs, evParts, fillL, cellsL, Ai.get, Ai.put, stab, isNil?, if_false, if_true, addr?, int?, str?, agg?, bool?, shiftA, FnPost, xresL, xres1, tup, argEnv, ptr, Nat.reduceEqDiff, reduceIte, beq_self_eq_true, ne_eq, Nat.reduceAdd, Nat.reduceMul, Nat.reduceSub, abin_shl, abin_shr, load1V, loadV, storeV, cellsAt, getN, setN, allocV, lenL, lenS, bnd, oneC, Value.oneCell', Nat.reduceLeDiff, Nat.reduceLT, exists_eq_left', forall_const, reduceCtorEq, app_new, app_new0, List.append_assoc, Int.reduceToNat, Int.reduceLT, Int.reduceLE, Int.reduceEq, Int.reduceNe, Int.reduceBEq, IntKind.bits, bne_self_eq_false, Int.reducePow, hl']
  refine xcode_loop (EqnI h (.slice q a.length c) (.slice q' b.length c') a b) a.length ⟨0, by omega, rfl, rfl, rfl, rfl, rfl, by simp⟩ ?_
  rintro f ρ h1 ⟨i, hif, g13, g12, g0, g1, rfl, ht⟩
  by_cases hlt : i < a.length
  · have hlt' : (i : Int) < (a.length : Nat) := by omega
    have hlt2 : (i : Int) < (b.length : Nat) := by omega
    have hge : (0 : Int) ≤ i := by omega
    have hwi : IntKind.i64.wrap ((i : Int) + 1) = ((i + 1 : Nat) : Int) := by rw [i64_wrap] <;> omega
    have ea := List.getElem?_eq_getElem (l := a) (i := i) hlt
    have eb := List.getElem?_eq_getElem (l := b) (i := i) (by omega)
    generalize a[i]'hlt = x at ea
    generalize b[i]'(by omega) = y at eb
    obtain ⟨-, aa, o, rfl, a1, a2, a3⟩ := V.elem ea
    obtain ⟨-, ab, o', rfl, b1, b2, b3⟩ := W.elem eb
    have t1 : a.take (i + 1) = a.take i ++ [x] := by rw [List.take_add_one, ea]; rfl
    have t2 : b.take (i + 1) = b.take i ++ [y] := by rw [List.take_add_one, eb]; rfl
    by_cases hxy : x = y
    · subst hxy
      have hxx : ¬ ((x : Nat) : Int) ≠ (x : Nat) := fun h => h rfl
      simp only [sx, x_box, x_alloc, x_bslice, x_slice, x_append, x_appz, x_b2s, xop, ev, evs, evParts, fillL, cellsL, Ai.get, Ai.put, stab, isNil?, if_false, if_true, addr?, int?, str?, agg?, bool?, shiftA, FnPost, xresL, xres1, tup, argEnv, ptr, Nat.reduceEqDiff, reduceIte, beq_self_eq_true, ne_eq, Nat.reduceAdd, Nat.reduceMul, Nat.reduceSub, abin_shl, abin_shr, load1V, loadV, storeV, cellsAt, getN, setN, allocV, lenL, lenS, bnd, oneC, Value.oneCell', Nat.reduceLeDiff, Nat.reduceLT, exists_eq_left', forall_const, reduceCtorEq, app_new, app_new0, List.append_assoc, Int.reduceToNat, Int.reduceLT, Int.reduceLE, Int.reduceEq, Int.reduceNe, Int.reduceBEq, IntKind.bits, bne_self_eq_false, Int.reducePow, g13, g12, g0, g1, hlt', hlt2, hge, a1, a2, a3, b1, b2, b3, hxx, hwi, Nat.mul_one]
      exact ⟨f - 1, by omega, i + 1, by omega, rfl, g12, g0, g1, rfl, by rw [t1, t2, ht]⟩
    · have hxx : ((x : Nat) : Int) ≠ (y : Nat) := by omega
      simp only [sx, x_box, x_alloc, x_bslice, x_slice, x_append, x_appz, x_b2s, xop, ev, evs, evParts, fillL, cellsL, Ai.get, Ai.put, stab, isNil?, if_false, if_true, addr?, int?, str?, agg?, bool?, shiftA, FnPost, xresL, xres1, tup, argEnv, ptr, Nat.reduceEqDiff, reduceIte, beq_self_eq_true, ne_eq, Nat.reduceAdd, Nat.reduceMul, Nat.reduceSub, abin_shl, abin_shr, load1V, loadV, storeV, cellsAt, getN, setN, allocV, lenL, lenS, bnd, oneC, Value.oneCell', Nat.reduceLeDiff, Nat.reduceLT, exists_eq_left', forall_const, reduceCtorEq, app_new, app_new0, List.append_assoc, Int.reduceToNat, Int.reduceLT, Int.reduceLE, Int.reduceEq, Int.reduceNe, Int.reduceBEq, IntKind.bits, bne_self_eq_false, Int.reducePow, g13, g12, g0, g1, hlt', hlt2, hge, a1, a2, a3, b1, b2, b3, hxx, Nat.mul_one]
      refine ⟨rfl, _, rfl, Iff.intro (fun h => by cases h) (fun h => absurd ?_ hxy)⟩
      rw [h, eb] at ea; exact (Option.some.inj ea).symm
  · have hlt' : ¬ (i : Int) < (a.length : Nat) := by omega
    simp only [sx, x_box, x_alloc, x_bslice, x_slice, x_append, x_appz, x_b2s, xop, ev, evs, evParts, fillL, cellsL, Ai.get, Ai.put, stab, isNil?, if_false, if_true, addr?, int?, str?, agg?, bool?, shiftA, FnPost, xresL, xres1, tup, argEnv, ptr, Nat.reduceEqDiff, reduceIte, beq_self_eq_true, ne_eq, Nat.reduceAdd, Nat.reduceMul, Nat.reduceSub, abin_shl, abin_shr, load1V, loadV, storeV, cellsAt, getN, setN, allocV, lenL, lenS, bnd, oneC, Value.oneCell', Nat.reduceLeDiff, Nat.reduceLT, exists_eq_left', forall_const, reduceCtorEq, app_new, app_new0, List.append_assoc, Int.reduceToNat, Int.reduceLT, Int.reduceLE, Int.reduceEq, Int.reduceNe, Int.reduceBEq, IntKind.bits, bne_self_eq_false, Int.reducePow, g13, g12, g0, g1, hlt']
    refine ⟨rfl, _, rfl, Iff.intro (fun _ => ?_) (fun _ => rfl)⟩
    rw [List.take_of_length_le (by omega), List.take_of_length_le (by omega)] at ht; exact ht
/-- what Decode answers -/
def DecP (h : AHeap) (bs : List Nat) (r : Value) (h' : AHeap) : Prop := Kp h h' ∧
  (((¬ ∃ m, DecV bs m) ∧ r = .tuple #[.agg #[.int .u8 0, .int .u32 0, .int .i64 0, .slice none 0 0, .slice none 0 0], .int .i64 4]) ∨
   (∃ m mv ov, DecV bs m ∧ r = .tuple #[.agg (m.cells mv ov).toArray, .int .i64 0] ∧ BitsV h' mv m.mask ∧ BitsV h' ov m.on))
/-- bytes that can be cut -/
def ByS (h : AHeap) (v : Value) (bs : List Nat) : Prop := ByE h v bs ∧ ∃ q c, v = .slice q bs.length c ∧ (c < unk ∨ c = unk + 1) ∧ (bs.length ≤ c) ∧ (∀ a, q = some a → a.spot = none) ∧ (q = none → bs = [])
theorem ByS.kp {h h' : AHeap} {v : Value} {bs : List Nat} (V : ByS h v bs) (K : Kp h h') : ByS h' v bs := ⟨V.1.kp K, V.2⟩
theorem ByS.behind {h : AHeap} {v : Value} {bs : List Nat} (V : ByS h v bs) {j : Nat} (hj : j ≤ bs.length) (hb : 0 < bs.length) : ∃ sl', (∀ (g : AHeap) (ρ : Env) (x lo : XA), ev ρ x = some v → ev ρ lo = some (.int .i64 (j : Int)) → xop (.slice 1 x (some lo) none none) ρ g = some (sl', g)) ∧ ByE h sl' (bs.drop j) := by
  obtain ⟨V, q, c, rfl, hc, hlc, hs, hq⟩ := V
  cases q with
  | none => rw [hq rfl] at hb; simp at hb
  | some a =>
    have ha := hs a rfl
    have hj' : (j : Int) ≤ (bs.length : Nat) := by omega
    have hj0 : (0 : Int) ≤ (j : Nat) := by omega
    have el : ∀ (i x : Nat), (bs.drop j)[i]? = some x → x < 256 ∧ ∃ a' o, some (⟨a.block, a.off + j, none⟩ : Addr) = some a' ∧ a'.spot = none ∧ h[a'.block]? = some (some o) ∧ o.cells[a'.off + i]? = some (.int .u8 (x : Int)) := fun i x hx => by
      rw [List.getElem?_drop] at hx
      obtain ⟨h1, a', o, e, h2, h3, h4⟩ := V.elem hx
      cases e
      exact ⟨h1, _, o, rfl, rfl, h3, by rw [Nat.add_assoc]; exact h4⟩
    rcases hc with hc | rfl
    · have hu : ¬ unk ≤ c := by omega
      by_cases hz : c = j
      · subst hz
        refine ⟨.slice (some a) (bs.length - c) (c - c), fun g ρ x lo hx hlo => ?_, ?_⟩
        · simp [xop, hx, hlo, bnd, int?, hu, hj', hj0, hj, ha, shiftA]
        · have : bs.drop c = [] := List.drop_eq_nil_of_le hlc
          rw [this]
          have e0 : bs.length - c = 0 := by omega
          exact ⟨_, _, by rw [e0]; rfl, fun i x hx => by simp at hx⟩
      · refine ⟨.slice (some ⟨a.block, a.off + j, none⟩) (bs.length - j) (c - j), fun g ρ x lo hx hlo => ?_, ?_⟩
        · simp [xop, hx, hlo, bnd, int?, hu, hj', hj0, hj, ha, shiftA, hz]
        · exact ⟨_, _, by rw [List.length_drop], el⟩
    · have hu : unk ≤ unk + 1 := by omega
      refine ⟨.slice (some ⟨a.block, a.off + j, none⟩) (bs.length - j) (unk + 1), fun g ρ x lo hx hlo => ?_, ?_⟩
      · simp [xop, hx, hlo, bnd, int?, hu, hj', hj0, hj, ha, shiftA]
      · exact ⟨_, _, by rw [List.length_drop], el⟩
theorem or32 {a b : Nat} (ha : a < 2 ^ 32) (hb : b < 2 ^ 32) : abin .or (.int .u32 (a : Int)) (.int .u32 (b : Int)) = some (.int .u32 ((a ||| b : Nat) : Int)) := by
  rw [abin_or]
  have e : (BitVec.ofInt IntKind.u32.bits (a : Int) ||| BitVec.ofInt IntKind.u32.bits (b : Int)).toNat = a ||| b := by
    rw [BitVec.toNat_or, BitVec.toNat_ofInt, BitVec.toNat_ofInt]
    have h8 : (2 ^ IntKind.u32.bits : Nat) = 4294967296 := rfl
    rw [h8]
    have h1 : ((a : Int) % ((4294967296 : Nat) : Int)).toNat = a := by omega
    have h2 : ((b : Int) % ((4294967296 : Nat) : Int)).toNat = b := by omega
    rw [h1, h2]
  rw [e]
  have := Nat.or_lt_two_pow (n := 32) ha hb
  have hw : IntKind.u32.wrap ((a ||| b : Nat) : Int) = ((a ||| b : Nat) : Int) := by
    have : IntKind.u32.wrap ((a ||| b : Nat) : Int) = ((a ||| b : Nat) : Int) % 4294967296 := by unfold IntKind.wrap; simp [IntKind.bits, IntKind.signed]
    omega
  rw [hw]
theorem shl32 {x k : Nat} (hk : k ≤ 32) (hx : x * 2 ^ k < 2 ^ 32) : abin .shl (.int .u32 (x : Int)) (.int .u64 (k : Nat)) = some (.int .u32 ((x * 2 ^ k : Nat) : Int)) := by
  rw [abin_shl, if_neg (by omega)]
  have h1 : min ((k : Nat) : Int).toNat IntKind.u32.bits = k := by rw [Int.toNat_natCast]; exact Nat.min_eq_left hk
  have h3 : (2 : Int) ^ k = ((2 ^ k : Nat) : Int) := by rw [Int.natCast_pow]; rfl
  rw [h1, h3, ← Int.natCast_mul]
  have hw : IntKind.u32.wrap ((x * 2 ^ k : Nat) : Int) = ((x * 2 ^ k : Nat) : Int) := by
    have : IntKind.u32.wrap ((x * 2 ^ k : Nat) : Int) = ((x * 2 ^ k : Nat) : Int) % 4294967296 := by unfold IntKind.wrap; simp [IntKind.bits, IntKind.signed]
    omega
  rw [hw]
theorem or_add {a b k : Nat} (h : a < 2 ^ k) : a ||| b * 2 ^ k = a + b * 2 ^ k := by
  rw [Nat.or_comm, Nat.mul_comm, ← Nat.two_pow_add_eq_or_of_lt h b, Nat.add_comm]
end Go.Proofs.Ytejgaeinkojgpaa
