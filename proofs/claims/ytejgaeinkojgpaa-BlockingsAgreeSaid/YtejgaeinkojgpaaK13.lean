import Derived.Test.YtejgaeinkojgpaaK12
set_option linter.unusedVariables false
set_option linter.unusedSimpArgs false
namespace Go.Proofs.Ytejgaeinkojgpaa
open Go Go.Ai Go.Proofs

/-- bytes, as natural numbers -/
def bN (l : List Nat) : List Value := l.map fun n : Nat => Value.int .u8 (n : Int)
theorem bN_len (l : List Nat) : (bN l).length = l.length := by simp [bN]
theorem bN_app (a b : List Nat) : bN (a ++ b) = bN a ++ bN b := by simp [bN]
theorem bN_get {l : List Nat} {i n : Nat} (h : l[i]? = some n) : (bN l)[i]? = some (.int .u8 (n : Int)) := by simp [bN, h]
theorem bN_set (l : List Nat) (i n : Nat) : (bN l).set i (.int .u8 (n : Int)) = bN (l.set i n) := by simp [bN, List.map_set]
theorem bN_one (l : List Nat) : (bN l).all oneC = true := by
  rw [List.all_eq_true]; intro v hv
  obtain ⟨z, _, rfl⟩ := List.mem_map.1 hv
  rfl
theorem bN_zero (n : Nat) : List.replicate n (Value.int .u8 0) = bN (List.replicate n 0) := by simp [bN]
theorem u8_in {n : Int} (h0 : 0 ≤ n) (h1 : n < 256) : IntKind.u8.wrap n = n := by
  unfold IntKind.wrap; simp [IntKind.bits, IntKind.signed]; omega
theorem or8 {a b : Nat} (ha : a < 256) (hb : b < 256) : abin .or (.int .u8 (a : Int)) (.int .u8 (b : Int)) = some (.int .u8 ((a ||| b : Nat) : Int)) := by
  rw [abin_or]
  have e : (BitVec.ofInt IntKind.u8.bits (a : Int) ||| BitVec.ofInt IntKind.u8.bits (b : Int)).toNat = a ||| b := by
    rw [BitVec.toNat_or, BitVec.toNat_ofInt, BitVec.toNat_ofInt]
    have h8 : (2 ^ IntKind.u8.bits : Nat) = 256 := rfl
    rw [h8]
    have h1 : ((a : Int) % ((256 : Nat) : Int)).toNat = a := by omega
    have h2 : ((b : Int) % ((256 : Nat) : Int)).toNat = b := by omega
    rw [h1, h2]
  rw [e]
  have := Nat.or_lt_two_pow (n := 8) ha hb
  rw [u8_in (by omega) (by omega)]
def pkS (l : List Nat) (i : Nat) (b : Bool) : List Nat := if b then l.set (i / 8) ((l[i / 8]?.getD 0) ||| 2 ^ (i % 8)) else l
def pkF : List Bool → Nat → List Nat → List Nat
  | [], _, l => l
  | b :: bs, i, l => pkF bs (i + 1) (pkS l i b)
def packB (bs : List Bool) : List Nat := pkF bs 0 (List.replicate ((bs.length + 7) / 8) 0)
theorem pkS_len (l : List Nat) (i : Nat) (b : Bool) : (pkS l i b).length = l.length := by unfold pkS; split <;> simp
theorem pow8 (i : Nat) : 2 ^ (i % 8) < 256 := by
  have : i % 8 < 8 := Nat.mod_lt _ (by decide)
  exact Nat.lt_of_lt_of_le (Nat.pow_lt_pow_right (by decide) this) (by decide)
theorem pkS_lt {l : List Nat} (h : ∀ x ∈ l, x < 256) (i : Nat) (b : Bool) : ∀ x ∈ pkS l i b, x < 256 := by
  unfold pkS; split
  · intro x hx
    rcases List.mem_or_eq_of_mem_set hx with hx | rfl
    · exact h x hx
    · refine Nat.or_lt_two_pow (n := 8) ?_ (pow8 i)
      cases e : l[i / 8]? with
      | none => decide
      | some y => exact h y (List.mem_of_getElem? e)
  · exact h
theorem shl8 (i : Nat) : abin .shl (.int .u8 1) (.int .i64 ((i % 8 : Nat) : Int)) = some (.int .u8 ((2 ^ (i % 8) : Nat) : Int)) := by
  have h8 : i % 8 < 8 := Nat.mod_lt _ (by decide)
  rw [abin_shl, if_neg (by omega)]
  have h1 : min ((i % 8 : Nat) : Int).toNat IntKind.u8.bits = i % 8 := by
    rw [Int.toNat_natCast]; exact Nat.min_eq_left (Nat.le_of_lt h8)
  rw [h1, Int.one_mul]
  have h2 := pow8 i
  have h3 : (2 : Int) ^ (i % 8) = ((2 ^ (i % 8) : Nat) : Int) := by rw [Int.natCast_pow]; rfl
  rw [h3]
  generalize 2 ^ (i % 8) = N at h2 ⊢
  rw [u8_in (by omega) (by omega)]
def PkI (h0 : AHeap) (A n : Nat) (q : Option Addr) (c : Nat) (bits : List Bool) (m : Nat) (rows : List Value) (f : Nat) (ρ : Env) (h : AHeap) : Prop := ∃ i l, i + f = bits.length ∧ get ρ 18 = some (.int .i64 (i : Nat)) ∧ get ρ 17 = some (.int .i64 (bits.length : Nat)) ∧ get ρ 16 = some (.slice q bits.length c) ∧ get ρ 0 = some (.slice (some ⟨A, 0, none⟩) (n + m) (unk + 1)) ∧ get ρ 5 = some (.int .i64 (n : Nat)) ∧
  h[A]? = some (some ⟨true, rows ++ bN l⟩) ∧ l.length = m ∧ (∀ x ∈ l, x < 256) ∧ pkF (bits.drop i) i l = packB bits ∧ Fr (· = A) h0 h
/-- what pack leaves -/
def PackP (h : AHeap) (v : Value) (n m : Nat) (rows : List Value) (r : Value) (h' : AHeap) : Prop := (∃ A, r = .slice (some ⟨A, 0, none⟩) (n + m) (unk + 1) ∧ h'[A]? = some (some ⟨true, rows⟩) ∧ rows.length = n + m ∧ h.length ≤ A) ∧ h.length ≤ h'.length ∧ ∀ B, B < h.length → slB v ≠ some B → h'[B]? = h[B]?
set_option maxHeartbeats 4000000 in
theorem pack_ok {h : AHeap} {v w : Value} {n : Nat} {rows : List Value} {bits : List Bool} (R : RetN 1 h v n rows) (B : BitsV h w bits) (hne : bits ≠ []) (hb : bits.length ≤ 1000) (hn : n ≤ 1000) : Valid Try.prog 39 [v, w] h fun r h' => PackP h v n ((bits.length + 7) / 8) (rows ++ bN (packB bits)) r h' := by
  refine v39 (by simp) ?_
  obtain ⟨q, c, rfl⟩ := B.shape
  obtain ⟨va, vc, rfl⟩ := R.shp
  have hbl : 0 < bits.length := by cases bits with | nil => exact absurd rfl hne | cons => simp
  have w1 : IntKind.i64.wrap ((bits.length : Int) + 7) = ((bits.length + 7 : Nat) : Int) := by rw [i64_wrap] <;> omega
  have n8 : ¬ (8 : Int) = 0 := by decide
  have w2 : IntKind.i64.wrap ((((bits.length + 7 : Nat) : Int)).tdiv 8) = (((bits.length + 7) / 8 : Nat) : Int) := by
    rw [Int.tdiv_eq_ediv_of_nonneg (by omega), i64_wrap (by omega) (by omega)]; omega
  simp only [X39, abin_quo, n8, sx, x_box, x_alloc, x_bslice, x_slice, x_append, x_b2s, xop, ev, evs, evParts, fillL, cellsL, Ai.get, Ai.put, stab, isNil?, if_false, if_true, addr?, int?, str?, agg?, bool?, shiftA, FnPost, xresL, xres1, tup, argEnv, ptr, Nat.reduceEqDiff, reduceIte, beq_self_eq_true, ne_eq, Nat.reduceAdd, Nat.reduceMul, Nat.reduceSub, abin_shl, abin_shr, load1V, loadV, storeV, cellsAt, getN, setN, allocV, lenL, lenS, bnd, oneC, Value.oneCell', Nat.reduceLeDiff, Nat.reduceLT, exists_eq_left', forall_const, reduceCtorEq, app_new, app_new0, List.append_assoc, Int.reduceToNat, Int.reduceLT, Int.reduceLE, Int.reduceEq, Int.reduceNe, Int.reduceBEq, IntKind.bits, bne_self_eq_false, Int.reducePow, w1, w2]
  refine appz_run rfl (by rfl) (by rfl) R (by omega) (by omega) (by omega) fun h1 A hA hg hl1 hfr => ?_
  have hrl : rows.length = n := by have := R.1; omega
  rw [bN_zero] at hg
  have B1 : BitsV h1 (.slice q bits.length c) bits := B.frz fun X cs hX => by
    rw [hfr X (lt_of_get hX) (fun e => by obtain ⟨cs', h2⟩ := R.own e; rw [h2] at hX; cases hX)]; exact hX
  have hAl := lt_of_get hg
  simp only [sx, x_box, x_alloc, x_bslice, x_slice, x_append, x_appz, x_b2s, xop, ev, evs, evParts, fillL, cellsL, Ai.get, Ai.put, stab, isNil?, if_false, if_true, addr?, int?, str?, agg?, bool?, shiftA, FnPost, xresL, xres1, tup, argEnv, ptr, Nat.reduceEqDiff, reduceIte, beq_self_eq_true, ne_eq, Nat.reduceAdd, Nat.reduceMul, Nat.reduceSub, abin_shl, abin_shr, load1V, loadV, storeV, cellsAt, getN, setN, allocV, lenL, lenS, bnd, oneC, Value.oneCell', Nat.reduceLeDiff, Nat.reduceLT, exists_eq_left', forall_const, reduceCtorEq, app_new, app_new0, List.append_assoc, Int.reduceToNat, Int.reduceLT, Int.reduceLE, Int.reduceEq, Int.reduceNe, Int.reduceBEq, IntKind.bits, bne_self_eq_false, Int.reducePow]
  refine xloop_cut (fun ρ h' => get ρ 0 = some (.slice (some ⟨A, 0, none⟩) (n + (bits.length + 7) / 8) (unk + 1)) ∧ h'[A]? = some (some ⟨true, rows ++ bN (packB bits)⟩) ∧ (packB bits).length = (bits.length + 7) / 8 ∧ Fr (· = A) h1 h') ?_ ?_
  · refine xcode_loop (PkI h1 A n q c bits ((bits.length + 7) / 8) rows) bits.length ⟨0, List.replicate ((bits.length + 7) / 8) 0, by omega, rfl, rfl, rfl, rfl, rfl, hg, by simp, fun x hx => by rw [(List.mem_replicate.1 hx).2]; decide, by simp [packB], Fr.refl _ _⟩ ?_
    rintro f ρ h2 ⟨i, l, hif, g18, g17, g16, g0, g5, hA2, hll, hlt8, hpk, F⟩
    by_cases hlt : i < bits.length
    · have hlt' : (i : Int) < bits.length := by omega
      have hge : (0 : Int) ≤ i := by omega
      have hwi : IntKind.i64.wrap ((i : Int) + 1) = ((i + 1 : Nat) : Int) := by rw [i64_wrap] <;> omega
      have eb := List.getElem?_eq_getElem hlt
      have hdr : bits.drop i = bits[i] :: bits.drop (i + 1) := List.drop_eq_getElem_cons hlt
      generalize bits[i] = b at eb hdr
      rw [hdr] at hpk
      have B2 : BitsV h2 (.slice q bits.length c) bits := B1.frz (F.frz fun X cs hX e => by subst hX; rw [hg] at e; cases e)
      obtain ⟨-, a, cs, rfl, a1, a2, a3⟩ := B2.elem eb
      cases b
      · simp only [sx, x_box, x_alloc, x_bslice, x_slice, x_append, x_appz, x_b2s, xop, ev, evs, evParts, fillL, cellsL, Ai.get, Ai.put, stab, isNil?, if_false, if_true, addr?, int?, str?, agg?, bool?, shiftA, FnPost, xresL, xres1, tup, argEnv, ptr, Nat.reduceEqDiff, reduceIte, beq_self_eq_true, ne_eq, Nat.reduceAdd, Nat.reduceMul, Nat.reduceSub, abin_shl, abin_shr, load1V, loadV, storeV, cellsAt, getN, setN, allocV, lenL, lenS, bnd, oneC, Value.oneCell', Nat.reduceLeDiff, Nat.reduceLT, exists_eq_left', forall_const, reduceCtorEq, app_new, app_new0, List.append_assoc, Int.reduceToNat, Int.reduceLT, Int.reduceLE, Int.reduceEq, Int.reduceNe, Int.reduceBEq, IntKind.bits, bne_self_eq_false, Int.reducePow, g18, g17, g16, g0, g5, hlt', hge, a1, a2, a3, Nat.mul_one, hwi]
        exact ⟨f - 1, by omega, i + 1, l, by omega, rfl, g17, g16, g0, g5, hA2, hll, hlt8, hpk, F⟩
      · have hq : IntKind.i64.wrap ((i : Int).tdiv 8) = ((i / 8 : Nat) : Int) := by
          rw [Int.tdiv_eq_ediv_of_nonneg (by omega), i64_wrap (by omega) (by omega)]; omega
        have hs : IntKind.i64.wrap ((n : Int) + ((i / 8 : Nat) : Int)) = ((n + i / 8 : Nat) : Int) := by rw [i64_wrap] <;> omega
        have hr : ((i : Int)).tmod 8 = ((i % 8 : Nat) : Int) := by rw [Int.tmod_eq_emod_of_nonneg (by omega)]; omega
        have h0 : (0 : Int) ≤ ((n + i / 8 : Nat) : Int) := by omega
        have h1' : ((n + i / 8 : Nat) : Int) < ((n + (bits.length + 7) / 8 : Nat) : Int) := by omega
        have ey := List.getElem?_eq_getElem (l := l) (i := i / 8) (by omega)
        have hy8 := hlt8 (l[i / 8]'(by omega)) (List.getElem_mem _)
        generalize l[i / 8]'(by omega) = y at ey hy8
        have cy : (rows ++ bN l)[n + i / 8]? = some (.int .u8 (y : Int)) := by
          rw [List.getElem?_append_right (by omega), show n + i / 8 - rows.length = i / 8 by omega]; exact bN_get ey
        have ho := or8 hy8 (pow8 i)
        have hle : n + i / 8 + 1 ≤ (rows ++ bN l).length := by rw [List.length_append, bN_len]; omega
        have hset : (rows ++ bN l).set (n + i / 8) (.int .u8 ((y ||| 2 ^ (i % 8) : Nat) : Int)) = rows ++ bN (pkS l i true) := by
          rw [List.set_append_right _ _ (by omega), show n + i / 8 - rows.length = i / 8 by omega, bN_set]
          unfold pkS; rw [if_pos rfl, ey]; rfl
        have hpl := pkS_len l i true
        have hplt := pkS_lt hlt8 i true
        have hle2 : n + i / 8 + 1 ≤ rows.length + (bN l).length := by rw [bN_len]; omega
        have hpk' : pkF (bits.drop (i + 1)) (i + 1) (pkS l i true) = packB bits := hpk
        generalize pkS l i true = l2 at *
        generalize hR : rows ++ bN l = RR at *
        have h1'' : ((n + i / 8 : Nat) : Int) < (n : Int) + (((bits.length + 7) / 8 : Nat) : Int) := by omega
        simp only [abin_quo, abin_rem, n8, sx, x_box, x_alloc, x_bslice, x_slice, x_append, x_appz, x_b2s, xop, ev, evs, evParts, fillL, cellsL, Ai.get, Ai.put, stab, isNil?, if_false, if_true, addr?, int?, str?, agg?, bool?, shiftA, FnPost, xresL, xres1, tup, argEnv, ptr, Nat.reduceEqDiff, reduceIte, beq_self_eq_true, ne_eq, Nat.reduceAdd, Nat.reduceMul, Nat.reduceSub, abin_shr, load1V, loadV, storeV, cellsAt, getN, setN, allocV, lenL, lenS, bnd, oneC, Value.oneCell', Nat.reduceLeDiff, Nat.reduceLT, exists_eq_left', forall_const, reduceCtorEq, app_new, app_new0, List.append_assoc, Int.reduceToNat, Int.reduceLT, Int.reduceLE, Int.reduceEq, Int.reduceNe, Int.reduceBEq, IntKind.bits, bne_self_eq_false, Int.reducePow, g18, g17, g16, g0, g5, hlt', hge, a1, a2, a3, Nat.mul_one, hwi, hq, hs, hr, shl8, h0, h1', h1'', hA2, cy, ho, hle, hset]
        refine ⟨f - 1, by omega, i + 1, l2, by omega, rfl, g17, g16, g0, g5, set_same hA2 _, by omega, hplt, hpk', F.trans (Fr.set (S := fun x => x = A) _ rfl) fun B h => .inl h⟩
    · have hlt' : ¬ (i : Int) < bits.length := by omega
      simp only [sx, x_box, x_alloc, x_bslice, x_slice, x_append, x_appz, x_b2s, xop, ev, evs, evParts, fillL, cellsL, Ai.get, Ai.put, stab, isNil?, if_false, if_true, addr?, int?, str?, agg?, bool?, shiftA, FnPost, xresL, xres1, tup, argEnv, ptr, Nat.reduceEqDiff, reduceIte, beq_self_eq_true, ne_eq, Nat.reduceAdd, Nat.reduceMul, Nat.reduceSub, abin_shl, abin_shr, load1V, loadV, storeV, cellsAt, getN, setN, allocV, lenL, lenS, bnd, oneC, Value.oneCell', Nat.reduceLeDiff, Nat.reduceLT, exists_eq_left', forall_const, reduceCtorEq, app_new, app_new0, List.append_assoc, Int.reduceToNat, Int.reduceLT, Int.reduceLE, Int.reduceEq, Int.reduceNe, Int.reduceBEq, IntKind.bits, bne_self_eq_false, Int.reducePow, g18, g17, g16, g0, g5, hlt']
      rw [List.drop_eq_nil_of_le (by omega)] at hpk
      have hpk' : l = packB bits := hpk
      subst hpk'
      exact ⟨hA2, hll, F⟩
  · rintro ρ h2 ⟨g0, hA2, hpl, F⟩
    simp only [sx, x_box, x_alloc, x_bslice, x_slice, x_append, x_appz, x_b2s, xop, ev, evs, evParts, fillL, cellsL, Ai.get, Ai.put, stab, isNil?, if_false, if_true, addr?, int?, str?, agg?, bool?, shiftA, FnPost, xresL, xres1, tup, argEnv, ptr, Nat.reduceEqDiff, reduceIte, beq_self_eq_true, ne_eq, Nat.reduceAdd, Nat.reduceMul, Nat.reduceSub, abin_shl, abin_shr, load1V, loadV, storeV, cellsAt, getN, setN, allocV, lenL, lenS, bnd, oneC, Value.oneCell', Nat.reduceLeDiff, Nat.reduceLT, exists_eq_left', forall_const, reduceCtorEq, app_new, app_new0, List.append_assoc, Int.reduceToNat, Int.reduceLT, Int.reduceLE, Int.reduceEq, Int.reduceNe, Int.reduceBEq, IntKind.bits, bne_self_eq_false, Int.reducePow, g0]
    have hFl := F.1
    refine ⟨⟨A, rfl, hA2, by rw [List.length_append, bN_len]; omega, hA⟩, by omega, fun X hX hn => ?_⟩
    rw [F.2 X (by omega) (show X ≠ A by omega), hfr X hX hn]
end Go.Proofs.Ytejgaeinkojgpaa
