import Derived.Test.YtejgaeinkojgpaaU1
import Derived.Test.YtejgaeinkojgpaaK11
set_option linter.unusedVariables false
set_option linter.unusedSimpArgs false
namespace Go.Proofs.Ytejgaeinkojgpaa
open Go Go.Ai Go.Proofs

/-- bytes in view -/
def ByE (h : AHeap) (v : Value) (bs : List Nat) : Prop := ∃ q c, v = .slice q bs.length c ∧ ∀ (i x : Nat), bs[i]? = some x → x < 256 ∧ ∃ a o, q = some a ∧ a.spot = none ∧ h[a.block]? = some (some o) ∧ o.cells[a.off + i]? = some (.int .u8 (x : Int))
theorem ByE.kp {h h' : AHeap} {v : Value} {bs : List Nat} (V : ByE h v bs) (K : Kp h h') : ByE h' v bs := by
  obtain ⟨q, c, e, f⟩ := V
  refine ⟨q, c, e, fun i x hx => ?_⟩
  obtain ⟨h1, a, o, h2, h3, h4, h5⟩ := f i x hx
  exact ⟨h1, a, o, h2, h3, K.get h4, h5⟩
theorem ByE.elem {h : AHeap} {q : Option Addr} {n c : Nat} {bs : List Nat} (V : ByE h (.slice q n c) bs) {i x : Nat} (hx : bs[i]? = some x) : x < 256 ∧ ∃ a o, q = some a ∧ a.spot = none ∧ h[a.block]? = some (some o) ∧ o.cells[a.off + i]? = some (.int .u8 (x : Int)) := by
  obtain ⟨q', c', e, f⟩ := V
  cases e
  exact f i x hx
theorem ByE.shp {h : AHeap} {v : Value} {bs : List Nat} (V : ByE h v bs) : ∃ q c, v = .slice q bs.length c := by
  obtain ⟨q, c, e, -⟩ := V; exact ⟨q, c, e⟩
theorem ByE.own {h : AHeap} {A c : Nat} {bs : List Nat} {w : Bool} (hA : h[A]? = some (some ⟨w, bN bs⟩)) (hb : ∀ x ∈ bs, x < 256) : ByE h (.slice (some ⟨A, 0, none⟩) bs.length c) bs :=
  ⟨_, _, rfl, fun i x hx => ⟨hb x (List.mem_of_getElem? hx), _, _, rfl, rfl, hA, by rw [Nat.zero_add]; exact bN_get hx⟩⟩
theorem shr8 (x i : Nat) : abin .shr (.int .u8 (x : Int)) (.int .i64 ((i % 8 : Nat) : Int)) = some (.int .u8 ((x / 2 ^ (i % 8) : Nat) : Int)) := by
  have h8 : i % 8 < 8 := Nat.mod_lt _ (by decide)
  rw [abin_shr, if_neg (by omega)]
  have h1 : min ((i % 8 : Nat) : Int).toNat IntKind.u8.bits = i % 8 := by
    rw [Int.toNat_natCast]; exact Nat.min_eq_left (Nat.le_of_lt h8)
  rw [h1, Int.fdiv_eq_ediv_of_nonneg _ (Int.le_of_lt (Int.pow_pos (by decide)))]
  have h3 : (2 : Int) ^ (i % 8) = ((2 ^ (i % 8) : Nat) : Int) := by rw [Int.natCast_pow]; rfl
  rw [h3, Int.natCast_ediv]
theorem and81 {y : Nat} (h : y < 256) : abin .and (.int .u8 (y : Int)) (.int .u8 1) = some (.int .u8 ((y % 2 : Nat) : Int)) := by
  rw [abin_and]
  have e : (BitVec.ofInt IntKind.u8.bits (y : Int) &&& BitVec.ofInt IntKind.u8.bits 1).toNat = y % 2 := by
    rw [BitVec.toNat_and, BitVec.toNat_ofInt, BitVec.toNat_ofInt]
    have h8 : (2 ^ IntKind.u8.bits : Nat) = 256 := rfl
    rw [h8]
    have h1 : ((y : Int) % ((256 : Nat) : Int)).toNat = y := by omega
    have h2 : ((1 : Int) % ((256 : Nat) : Int)).toNat = 1 := by decide
    rw [h1, h2, Nat.and_one_is_mod]
  rw [e, u8_in (by omega) (by omega)]
def UpI (h0 : AHeap) (S n : Nat) (v : Value) (bs : List Nat) (f : Nat) (ρ : Env) (h : AHeap) : Prop := ∃ i zs, i + f = n ∧ get ρ 11 = some (.int .i64 (i : Nat)) ∧ get ρ 10 = some (.int .i64 (n : Nat)) ∧ get ρ 5 = some (.slice (some ⟨S, 0, none⟩) n n) ∧ get ρ 0 = some v ∧ Kp h0 h ∧ h[S]? = some (some ⟨true, bB zs⟩) ∧ zs.length = n ∧ zs.take i = (unp bs n).take i
set_option maxHeartbeats 4000000 in
theorem unpack_ok {h : AHeap} {v : Value} {bs : List Nat} {n : Nat} (V : ByE h v bs) (hn : n ≤ 8 * bs.length) (hn2 : n ≤ 1000) : Valid Try.prog 41 [v, .int .i64 (n : Nat)] h fun r h' => Kp h h' ∧ BitsV h' r (unp bs n) ∧ ∃ q, r = .slice q n n := by
  refine Valid.freezeA ?_
  refine v41 (by simp) ?_
  have c5 : (0 : Int) ≤ (n : Nat) := by omega
  have c6 : ((n : Nat) : Int) * 1 ≤ 140737488355328 := by omega
  have c7 : ((n : Nat) : Int) ≤ 9223372036854775807 := by omega
  have hz : (List.replicate n [Value.bool false]).flatten = bB (List.replicate n false) := by
    unfold bB; simp
  simp only [X41, sx, x_box, x_alloc, x_bslice, x_slice, x_append, x_appz, x_b2s, xop, ev, evs, evParts, fillL, cellsL, Ai.get, Ai.put, stab, isNil?, if_false, if_true, addr?, int?, str?, agg?, bool?, shiftA, FnPost, xresL, xres1, tup, argEnv, ptr, Nat.reduceEqDiff, reduceIte, beq_self_eq_true, ne_eq, Nat.reduceAdd, Nat.reduceMul, Nat.reduceSub, abin_shl, abin_shr, load1V, loadV, storeV, cellsAt, getN, setN, allocV, lenL, lenS, bnd, oneC, Value.oneCell', Nat.reduceLeDiff, Nat.reduceLT, exists_eq_left', forall_const, reduceCtorEq, app_new, app_new0, List.append_assoc, Int.reduceToNat, Int.reduceLT, Int.reduceLE, Int.reduceEq, Int.reduceNe, Int.reduceBEq, IntKind.bits, bne_self_eq_false, Int.reducePow, c5, c6, c7, Int.le_refl, hz]
  have K1 : Kp h (h ++ [some ⟨true, bB (List.replicate n false)⟩]) := Kp.app _ _
  have hS : (h ++ [some ⟨true, bB (List.replicate n false)⟩])[h.length]? = some (some ⟨true, bB (List.replicate n false)⟩) := app_new0
  generalize h ++ [some ⟨true, bB (List.replicate n false)⟩] = h1 at *
  refine xcode_loop (UpI h h.length n v bs) n ⟨0, _, by omega, rfl, rfl, rfl, rfl, K1, hS, by simp, by simp⟩ ?_
  clear K1 hS h1 hz
  rintro f ρ h1 ⟨i, zs, hif, g11, g10, g5, g0, K, hS, hzl, htk⟩
  obtain ⟨q, c, rfl⟩ := V.shp
  by_cases hlt : i < n
  · have hlt' : (i : Int) < (n : Nat) := by omega
    have hge : (0 : Int) ≤ i := by omega
    have hwi : IntKind.i64.wrap ((i : Int) + 1) = ((i + 1 : Nat) : Int) := by rw [i64_wrap] <;> omega
    have n8 : ¬ (8 : Int) = 0 := by decide
    have hq : IntKind.i64.wrap ((i : Int).tdiv 8) = ((i / 8 : Nat) : Int) := by
      rw [Int.tdiv_eq_ediv_of_nonneg (by omega), i64_wrap (by omega) (by omega)]; omega
    have hr : ((i : Int)).tmod 8 = ((i % 8 : Nat) : Int) := by rw [Int.tmod_eq_emod_of_nonneg (by omega)]; omega
    have ex := List.getElem?_eq_getElem (l := bs) (i := i / 8) (by omega)
    have ug := unp_get bs hlt
    rw [ex, Option.getD_some] at ug
    generalize bs[i / 8]'(by omega) = x at ex ug
    obtain ⟨x8, a, o, rfl, a1, a2, a3⟩ := (V.kp K).elem ex
    have hd0 : (0 : Int) ≤ ((i / 8 : Nat) : Int) := by omega
    have hd1 : ((i / 8 : Nat) : Int) < (bs.length : Nat) := by omega
    have hle : i + 1 ≤ (bB zs).length := by rw [bB_len]; omega
    have y8 : x / 2 ^ (i % 8) < 256 := Nat.lt_of_le_of_lt (Nat.div_le_self _ _) x8
    have tb := Nat.testBit_eq_decide_div_mod_eq (x := x) (i := i % 8)
    rw [tb] at ug
    have an := and81 y8
    have hsr := shr8 x i
    have hb : ∃ b : Bool, (decide (x / 2 ^ (i % 8) % 2 = 1) = b) ∧ ((((x / 2 ^ (i % 8) % 2 : Nat) : Int) = 1) ↔ b = true) := ⟨_, rfl, by rw [decide_eq_true_iff]; omega⟩
    obtain ⟨b, hb1, hb2⟩ := hb
    rw [hb1] at ug
    generalize x / 2 ^ (i % 8) = y at *
    have fin : ∀ g : AHeap, g = h1.set h.length (some ⟨true, bB (zs.set i b)⟩) → Kp h g ∧ g[h.length]? = some (some ⟨true, bB (zs.set i b)⟩) ∧ (zs.set i b).length = n ∧ (zs.set i b).take (i + 1) = (unp bs n).take (i + 1) := by
      rintro g rfl
      refine ⟨K.set (Nat.le_refl _) _, set_same hS _, by simpa using hzl, ?_⟩
      have e1 : (zs.set i b)[i]? = some b := List.getElem?_set_self (by omega)
      rw [List.take_add_one, List.take_add_one, e1, ug, List.take_set_of_le (Nat.le_refl _), htk]
    cases b
    · have hne : ¬ (((y % 2 : Nat) : Int) = 1) := fun h => by have := hb2.1 h; cases this
      simp only [abin_quo, abin_rem, n8, sx, x_box, x_alloc, x_bslice, x_slice, x_append, x_appz, x_b2s, xop, ev, evs, evParts, fillL, cellsL, Ai.get, Ai.put, stab, isNil?, if_false, if_true, addr?, int?, str?, agg?, bool?, shiftA, FnPost, xresL, xres1, tup, argEnv, ptr, Nat.reduceEqDiff, reduceIte, beq_self_eq_true, ne_eq, Nat.reduceAdd, Nat.reduceMul, Nat.reduceSub, abin_shl, load1V, loadV, storeV, cellsAt, getN, setN, allocV, lenL, lenS, bnd, oneC, Value.oneCell', Nat.reduceLeDiff, Nat.reduceLT, exists_eq_left', forall_const, reduceCtorEq, app_new, app_new0, List.append_assoc, Int.reduceToNat, Int.reduceLT, Int.reduceLE, Int.reduceEq, Int.reduceNe, Int.reduceBEq, IntKind.bits, bne_self_eq_false, Int.reducePow, g11, g10, g5, g0, hlt', hge, hq, hr, hd0, hd1, a1, a2, a3, hsr, an, hne, hS, hle, Nat.mul_one, Nat.zero_add, bB_set, hwi]
      obtain ⟨f1, f2, f3, f4⟩ := fin _ rfl
      exact ⟨f - 1, by omega, i + 1, _, by omega, rfl, g10, g5, g0, f1, f2, f3, f4⟩
    · have hne : (((y % 2 : Nat) : Int) = 1) := hb2.2 rfl
      simp only [abin_quo, abin_rem, n8, sx, x_box, x_alloc, x_bslice, x_slice, x_append, x_appz, x_b2s, xop, ev, evs, evParts, fillL, cellsL, Ai.get, Ai.put, stab, isNil?, if_false, if_true, addr?, int?, str?, agg?, bool?, shiftA, FnPost, xresL, xres1, tup, argEnv, ptr, Nat.reduceEqDiff, reduceIte, beq_self_eq_true, ne_eq, Nat.reduceAdd, Nat.reduceMul, Nat.reduceSub, abin_shl, load1V, loadV, storeV, cellsAt, getN, setN, allocV, lenL, lenS, bnd, oneC, Value.oneCell', Nat.reduceLeDiff, Nat.reduceLT, exists_eq_left', forall_const, reduceCtorEq, app_new, app_new0, List.append_assoc, Int.reduceToNat, Int.reduceLT, Int.reduceLE, Int.reduceEq, Int.reduceNe, Int.reduceBEq, IntKind.bits, bne_self_eq_false, Int.reducePow, g11, g10, g5, g0, hlt', hge, hq, hr, hd0, hd1, a1, a2, a3, hsr, an, hne, hS, hle, Nat.mul_one, Nat.zero_add, bB_set, hwi]
      obtain ⟨f1, f2, f3, f4⟩ := fin _ rfl
      exact ⟨f - 1, by omega, i + 1, _, by omega, rfl, g10, g5, g0, f1, f2, f3, f4⟩
  · have hlt' : ¬ (i : Int) < (n : Nat) := by omega
    simp only [sx, x_box, x_alloc, x_bslice, x_slice, x_append, x_appz, x_b2s, xop, ev, evs, evParts, fillL, cellsL, Ai.get, Ai.put, stab, isNil?, if_false, if_true, addr?, int?, str?, agg?, bool?, shiftA, FnPost, xresL, xres1, tup, argEnv, ptr, Nat.reduceEqDiff, reduceIte, beq_self_eq_true, ne_eq, Nat.reduceAdd, Nat.reduceMul, Nat.reduceSub, abin_shl, abin_shr, load1V, loadV, storeV, cellsAt, getN, setN, allocV, lenL, lenS, bnd, oneC, Value.oneCell', Nat.reduceLeDiff, Nat.reduceLT, exists_eq_left', forall_const, reduceCtorEq, app_new, app_new0, List.append_assoc, Int.reduceToNat, Int.reduceLT, Int.reduceLE, Int.reduceEq, Int.reduceNe, Int.reduceBEq, IntKind.bits, bne_self_eq_false, Int.reducePow, g11, g10, g5, hlt']
    have e : zs = unp bs n := by
      rw [List.take_of_length_le (by omega), List.take_of_length_le (by rw [unp_len]; omega)] at htk; exact htk
    subst e
    have hl := unp_len bs n
    refine ⟨h.length, frzAt_kp K (Nat.le_refl _), ⟨some ⟨h.length, 0, none⟩, n, by rw [hl], .inr ⟨_, _, rfl, rfl, by rw [frzAt_own hS]; exact List.getElem?_set_self (lt_of_get hS), by rw [hl]; exact getN_all _ _ (by rw [bB_len, hl])⟩⟩, _, rfl⟩
end Go.Proofs.Ytejgaeinkojgpaa
