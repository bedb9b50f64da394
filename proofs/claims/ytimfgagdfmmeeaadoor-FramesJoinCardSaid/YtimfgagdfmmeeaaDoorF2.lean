import Derived.Test.YtimfgagdfmmeeaaDoorF1
set_option linter.unusedVariables false
set_option linter.unusedSimpArgs false
namespace Go.Proofs.YtimfgagdfmmeeaaDoor
open Go Go.Ai Go.Proofs

/-- bit k of a number; its lowest bits; the number of a list of bits -/
def bitN (v k : Nat) : Int := ((v / 2 ^ k % 2 : Nat) : Int)
def digs (v w : Nat) : List Int := (List.range w).map (bitN v)
def valN : List Int → Nat
  | [] => 0
  | z :: zs => z.toNat + 2 * valN zs
theorem digs_len (v w : Nat) : (digs v w).length = w := by simp [digs]
theorem digs_get {v w k : Nat} (h : k < w) : (digs v w)[k]'(by rw [digs_len]; exact h) = bitN v k := by simp [digs]
theorem bitN_bit (v k : Nat) : bitN v k = 0 ∨ bitN v k = 1 := by unfold bitN; omega
theorem digs_bit (v w : Nat) : ∀ z ∈ digs v w, z = 0 ∨ z = 1 := by
  intro z hz
  simp only [digs, List.mem_map] at hz
  obtain ⟨k, _, rfl⟩ := hz
  exact bitN_bit v k
theorem digs_succ (v w : Nat) : digs v (w + 1) = bitN v 0 :: digs (v / 2) w := by
  simp only [digs, List.range_succ_eq_map, List.map_cons, List.map_map]
  congr 1
  apply List.map_congr_left
  intro k _
  simp only [Function.comp, bitN, Nat.pow_succ', Nat.div_div_eq_div_mul]
theorem valN_digs : ∀ (w v : Nat), valN (digs v w) = v % 2 ^ w
  | 0, v => by simp [digs, valN, Nat.mod_one]
  | w + 1, v => by
    rw [digs_succ, valN, valN_digs w]
    simp only [bitN, Nat.pow_zero, Nat.div_one, Int.toNat_natCast]
    rw [Nat.pow_succ', Nat.mod_mul]
theorem valN_lt : ∀ {zs : List Int}, (∀ z ∈ zs, z = 0 ∨ z = 1) → valN zs < 2 ^ zs.length
  | [], _ => by simp [valN]
  | z :: zs, h => by
    have := valN_lt (zs := zs) fun z hz => h z (by simp [hz])
    have := h z (by simp)
    simp only [valN, List.length_cons, Nat.pow_succ]; omega
theorem digs_valN : ∀ {zs : List Int}, (∀ z ∈ zs, z = 0 ∨ z = 1) → digs (valN zs) zs.length = zs
  | [], _ => rfl
  | z :: zs, h => by
    have ih := digs_valN (zs := zs) fun z hz => h z (by simp [hz])
    have hz := h z (by simp)
    rw [List.length_cons, digs_succ]
    have e1 : bitN (valN (z :: zs)) 0 = z := by simp only [bitN, valN, Nat.pow_zero, Nat.div_one]; omega
    have e2 : valN (z :: zs) / 2 = valN zs := by simp only [valN]; omega
    rw [e1, e2, ih]
theorem valN_app : ∀ (a b : List Int), valN (a ++ b) = valN a + 2 ^ a.length * valN b
  | [], b => by simp [valN]
  | z :: a, b => by
    simp only [List.cons_append, valN, valN_app a b, List.length_cons, Nat.pow_succ, Nat.mul_add]
    have : 2 ^ a.length * 2 * valN b = 2 * (2 ^ a.length * valN b) := by rw [Nat.mul_comm (2 ^ a.length) 2, Nat.mul_assoc]
    omega
theorem take_snoc {α : Type} {zs : List α} {i : Nat} {z : α} (h : zs[i]? = some z) : zs.take (i + 1) = zs.take i ++ [z] := by rw [List.take_add_one, h]; rfl

theorem u64_wrap {n : Int} (h0 : 0 ≤ n) (h1 : n < 18446744073709551616) : IntKind.u64.wrap n = n := by
  show IntKind.wrap .u64 n = n
  unfold IntKind.wrap; simp [IntKind.bits, IntKind.signed]; omega
theorem u8_wrap {n : Int} (h0 : 0 ≤ n) (h1 : n < 256) : IntKind.u8.wrap n = n := by
  unfold IntKind.wrap; simp [IntKind.bits, IntKind.signed]; omega
theorem abin_shr64 (v k : Nat) (hk : k < 64) : abin .shr (.int .u64 (v : Int)) (.int .i64 (k : Int)) = some (.int .u64 ((v / 2 ^ k : Nat) : Int)) := by
  rw [abin_shr, if_neg (by omega)]
  congr 2
  rw [Int.toNat_natCast, show IntKind.u64.bits = 64 from rfl, Nat.min_eq_left (by omega)]
  rw [show ((2 : Int) ^ k) = ((2 ^ k : Nat) : Int) by simp, Int.natCast_ediv, Int.fdiv_eq_ediv_of_nonneg _ (Int.natCast_nonneg _)]
theorem and1_64 (x : Nat) : abin .and (.int .u64 (x : Int)) (.int .u64 1) = some (.int .u64 ((x % 2 : Nat) : Int)) := by
  rw [abin_and]
  congr 2
  have e : (BitVec.ofInt IntKind.u64.bits (x : Int) &&& BitVec.ofInt IntKind.u64.bits 1).toNat = x % 2 := by
    show (BitVec.ofInt 64 (x : Int) &&& BitVec.ofInt 64 1).toNat = x % 2
    rw [BitVec.toNat_and]
    have h1 : (BitVec.ofInt 64 1).toNat = 2 ^ 1 - 1 := rfl
    have h2 : (BitVec.ofInt 64 (x : Int)).toNat = x % 2 ^ 64 := by simp [BitVec.toNat_ofInt]
    rw [h1, h2, Nat.and_two_pow_sub_one_eq_mod]; omega
  rw [e]
  exact u64_wrap (by omega) (by omega)
theorem abin_shl64 (v k : Nat) (hk : k < 64) (hv : v * 2 ^ k < 2 ^ 64) : abin .shl (.int .u64 (v : Int)) (.int .i64 (k : Int)) = some (.int .u64 ((v * 2 ^ k : Nat) : Int)) := by
  rw [abin_shl, if_neg (by omega)]
  congr 2
  rw [Int.toNat_natCast, show IntKind.u64.bits = 64 from rfl, Nat.min_eq_left (by omega)]
  rw [show ((v : Int) * (2 : Int) ^ k) = ((v * 2 ^ k : Nat) : Int) by simp]
  exact u64_wrap (by omega) (by have : (2 : Nat) ^ 64 = 18446744073709551616 := rfl; omega)
theorem abin_or64 (v z k : Nat) (hv : v < 2 ^ k) (hz : z * 2 ^ k < 2 ^ 64) (hv2 : v < 2 ^ 64) : abin .or (.int .u64 (v : Int)) (.int .u64 ((z * 2 ^ k : Nat) : Int)) = some (.int .u64 ((v + 2 ^ k * z : Nat) : Int)) := by
  rw [abin_or]
  congr 2
  have h2 : ∀ x : Nat, (BitVec.ofInt 64 (x : Int)).toNat = x % 2 ^ 64 := fun x => by simp [BitVec.toNat_ofInt]
  have e : (BitVec.ofInt IntKind.u64.bits (v : Int) ||| BitVec.ofInt IntKind.u64.bits ((z * 2 ^ k : Nat) : Int)).toNat = v + 2 ^ k * z := by
    show (BitVec.ofInt 64 (v : Int) ||| BitVec.ofInt 64 ((z * 2 ^ k : Nat) : Int)).toNat = _
    rw [BitVec.toNat_or, h2, h2, Nat.mod_eq_of_lt hv2, Nat.mod_eq_of_lt hz, Nat.or_comm, Nat.mul_comm z, ← Nat.two_pow_add_eq_or_of_lt hv, Nat.add_comm]
  rw [e]
  have hlt : v + 2 ^ k * z < 2 ^ 64 := by
    rw [← e]; exact BitVec.isLt _
  exact u64_wrap (by omega) (by have : (2 : Nat) ^ 64 = 18446744073709551616 := rfl; omega)

theorem digits_ok {h : AHeap} {v w : Nat} (hw : w ≤ 64) : Valid Tryd.prog 48 [.int .u64 (v : Int), .int .i64 (w : Int)] h fun r h' => r = .slice (some ⟨h.length, 0, none⟩) w w ∧ h' = h ++ [some ⟨true, bR (digs v w)⟩] := by
  refine v48 (by simp) ?_
  have h1 : (w : Int) * 1 ≤ 140737488355328 := by omega
  have h2 : (w : Int) ≤ 9223372036854775807 := by omega
  have h3 : (0 : Int) ≤ w := by omega
  have hL := digs_len v w
  simp only [X48, sx, x_box, x_alloc, x_bslice, x_slice, x_append, x_appz, x_b2s, x_s2b, x_mark, xop, ev, evs, evParts, fillL, cellsL, Ai.get, Ai.put, stab, isNil?, if_false, if_true, addr?, int?, str?, agg?, bool?, shiftA, FnPost, xresL, xres1, tup, argEnv, ptr, Nat.reduceEqDiff, reduceIte, beq_self_eq_true, ne_eq, Nat.reduceAdd, Nat.reduceMul, Nat.reduceSub, abin_shl, abin_shr, load1V, loadV, storeV, cellsAt, getN, setN, allocV, lenL, lenS, bnd, oneC, Value.oneCell', Nat.reduceLeDiff, Nat.reduceLT, exists_eq_left', forall_const, reduceCtorEq, app_new, app_new0, List.append_assoc, Int.reduceToNat, Int.reduceLT, Int.reduceLE, Int.reduceEq, Int.reduceNe, Int.reduceBEq, IntKind.bits, bne_self_eq_false, Int.reducePow, h1, h2, h3, Int.le_refl, zeros_bR]
  refine xcode_loop (fun m ρ h' => ∃ i, i + m = w ∧ get ρ 10 = some (.int .i64 (i : Nat)) ∧ get ρ 9 = some (.int .i64 (w : Nat)) ∧ get ρ 0 = some (.int .u64 (v : Nat)) ∧ get ρ 5 = some (.slice (some ⟨h.length, 0, none⟩) w w) ∧ h' = h ++ [some ⟨true, bR (filled (digs v w) i w)⟩]) w
    ⟨0, by simp, rfl, rfl, rfl, rfl, by rw [filled_zero]⟩ ?_
  rintro m ρ h' ⟨i, him, g10, g9, g0, g5, rfl⟩
  by_cases hlt : i < w
  · have hlt' : (i : Int) < w := by omega
    have hge : (0 : Int) ≤ i := by omega
    have hwi : IntKind.i64.wrap ((i : Int) + 1) = ((i + 1 : Nat) : Int) := by rw [i64_wrap] <;> omega
    have hle : i + 1 ≤ (bR (filled (digs v w) i w)).length := by rw [bR_len, filled_len (by omega) hL]; omega
    have hc : IntKind.u8.wrap ((v / 2 ^ i % 2 : Nat) : Int) = ((v / 2 ^ i % 2 : Nat) : Int) := u8_wrap (by omega) (by omega)
    simp only [sx, x_box, x_alloc, x_bslice, x_slice, x_append, x_appz, x_b2s, x_s2b, x_mark, xop, ev, evs, evParts, fillL, cellsL, Ai.get, Ai.put, stab, isNil?, if_false, if_true, addr?, int?, str?, agg?, bool?, shiftA, FnPost, xresL, xres1, tup, argEnv, ptr, Nat.reduceEqDiff, reduceIte, beq_self_eq_true, ne_eq, Nat.reduceAdd, Nat.reduceMul, Nat.reduceSub, abin_shl, load1V, loadV, storeV, cellsAt, getN, setN, allocV, lenL, lenS, bnd, oneC, Value.oneCell', Nat.reduceLeDiff, Nat.reduceLT, exists_eq_left', forall_const, reduceCtorEq, app_new, app_new0, List.append_assoc, Int.reduceToNat, Int.reduceLT, Int.reduceLE, Int.reduceEq, Int.reduceNe, Int.reduceBEq, IntKind.bits, bne_self_eq_false, Int.reducePow, g10, g9, g0, g5, hlt', hge, abin_shr64 v i (by omega), and1_64, hc, Nat.mul_one, hle, bR_set, hwi]
    refine ⟨m - 1, by omega, i + 1, by omega, rfl, ?_⟩
    rw [← filled_set hlt hL, digs_get hlt]; rfl
  · have hlt' : ¬ (i : Int) < w := by omega
    have : i = w := by omega
    subst this
    simp only [sx, x_box, x_alloc, x_bslice, x_slice, x_append, x_appz, x_b2s, x_s2b, x_mark, xop, ev, evs, evParts, fillL, cellsL, Ai.get, Ai.put, stab, isNil?, if_false, if_true, addr?, int?, str?, agg?, bool?, shiftA, FnPost, xresL, xres1, tup, argEnv, ptr, Nat.reduceEqDiff, reduceIte, beq_self_eq_true, ne_eq, Nat.reduceAdd, Nat.reduceMul, Nat.reduceSub, abin_shl, abin_shr, load1V, loadV, storeV, cellsAt, getN, setN, allocV, lenL, lenS, bnd, oneC, Value.oneCell', Nat.reduceLeDiff, Nat.reduceLT, exists_eq_left', forall_const, reduceCtorEq, app_new, app_new0, List.append_assoc, Int.reduceToNat, Int.reduceLT, Int.reduceLE, Int.reduceEq, Int.reduceNe, Int.reduceBEq, IntKind.bits, bne_self_eq_false, Int.reducePow, g10, g9, g0, g5, hlt', filled_all hL]

theorem value_ok {h : AHeap} {q : Option Addr} {n c : Nat} {zs : List Int} (hf : firstV 1 h n (.slice q n c) = some (bR zs)) (hn : n ≤ 64) (hb : ∀ z ∈ zs, z = 0 ∨ z = 1) : Valid Tryd.prog 56 [.slice q n c] h fun r h' => r = .int .u64 ((valN zs : Nat) : Int) ∧ h' = h := by
  refine v56 (by simp) ?_
  have hzl := firstV_len hf
  rw [bR_len, Nat.mul_one] at hzl
  simp only [X56, sx, x_box, x_alloc, x_bslice, x_slice, x_append, x_appz, x_b2s, x_s2b, x_mark, xop, ev, evs, evParts, fillL, cellsL, Ai.get, Ai.put, stab, isNil?, if_false, if_true, addr?, int?, str?, agg?, bool?, shiftA, FnPost, xresL, xres1, tup, argEnv, ptr, Nat.reduceEqDiff, reduceIte, beq_self_eq_true, ne_eq, Nat.reduceAdd, Nat.reduceMul, Nat.reduceSub, abin_shl, abin_shr, load1V, loadV, storeV, cellsAt, getN, setN, allocV, lenL, lenS, bnd, oneC, Value.oneCell', Nat.reduceLeDiff, Nat.reduceLT, exists_eq_left', forall_const, reduceCtorEq, app_new, app_new0, List.append_assoc, Int.reduceToNat, Int.reduceLT, Int.reduceLE, Int.reduceEq, Int.reduceNe, Int.reduceBEq, IntKind.bits, bne_self_eq_false, Int.reducePow]
  refine xcode_loop (fun m ρ h' => ∃ i, i + m = n ∧ get ρ 8 = some (.int .i64 (i : Nat)) ∧ get ρ 7 = some (.int .i64 (n : Nat)) ∧ get ρ 6 = some (.slice q n c) ∧ get ρ 3 = some (.int .u64 ((valN (zs.take i) : Nat) : Int)) ∧ h' = h) n ⟨0, by simp, rfl, rfl, rfl, rfl, rfl⟩ ?_
  rintro m ρ h' ⟨i, him, g8, g7, g6, g3, rfl⟩
  by_cases hlt : i < n
  · have hlt' : (i : Int) < n := by omega
    have hge : (0 : Int) ≤ i := by omega
    have hwi : IntKind.i64.wrap ((i : Int) + 1) = ((i + 1 : Nat) : Int) := by rw [i64_wrap] <;> omega
    obtain ⟨a, o, z, rfl, a1, a2, a3, a4⟩ := elemB hf hlt
    have hz := hb z (List.mem_of_getElem? a4)
    obtain ⟨z, rfl⟩ : ∃ m : Nat, z = m := ⟨z.toNat, by omega⟩
    have hz1 : z ≤ 1 := by omega
    have hzw : IntKind.u64.wrap (z : Int) = (z : Int) := u64_wrap (by omega) (by omega)
    have htl : (zs.take i).length = i := by simp; omega
    have hlt2 := valN_lt (zs := zs.take i) fun z hz => hb z (List.mem_of_mem_take hz)
    rw [htl] at hlt2
    have h64 : 2 ^ i ≤ 2 ^ 63 := Nat.pow_le_pow_right (by omega) (by omega)
    have hzk : z * 2 ^ i < 2 ^ 64 := by
      have : z * 2 ^ i ≤ 1 * 2 ^ i := Nat.mul_le_mul_right _ hz1
      have : (2 : Nat) ^ 63 < 2 ^ 64 := by decide
      omega
    have hv2 : valN (zs.take i) < 2 ^ 64 := by
      have : (2 : Nat) ^ 63 < 2 ^ 64 := by decide
      omega
    simp only [sx, x_box, x_alloc, x_bslice, x_slice, x_append, x_appz, x_b2s, x_s2b, x_mark, xop, ev, evs, evParts, fillL, cellsL, Ai.get, Ai.put, stab, isNil?, if_false, if_true, addr?, int?, str?, agg?, bool?, shiftA, FnPost, xresL, xres1, tup, argEnv, ptr, Nat.reduceEqDiff, reduceIte, beq_self_eq_true, ne_eq, Nat.reduceAdd, Nat.reduceMul, Nat.reduceSub, abin_shr, load1V, loadV, storeV, cellsAt, getN, setN, allocV, lenL, lenS, bnd, oneC, Value.oneCell', Nat.reduceLeDiff, Nat.reduceLT, exists_eq_left', forall_const, reduceCtorEq, app_new, app_new0, List.append_assoc, Int.reduceToNat, Int.reduceLT, Int.reduceLE, Int.reduceEq, Int.reduceNe, Int.reduceBEq, IntKind.bits, bne_self_eq_false, Int.reducePow, g8, g7, g6, g3, hlt', hge, a1, a2, a3, Nat.mul_one, hzw, abin_shl64 z i (by omega) hzk, abin_or64 (valN (zs.take i)) z i hlt2 hzk hv2, hwi]
    refine ⟨m - 1, by omega, i + 1, by omega, rfl, ?_⟩
    rw [take_snoc a4, valN_app, htl]
    simp [valN]
  · have hlt' : ¬ (i : Int) < n := by omega
    have hin : zs.take i = zs := by rw [show i = zs.length by omega, List.take_length]
    rw [hin] at g3
    simp only [sx, x_box, x_alloc, x_bslice, x_slice, x_append, x_appz, x_b2s, x_s2b, x_mark, xop, ev, evs, evParts, fillL, cellsL, Ai.get, Ai.put, stab, isNil?, if_false, if_true, addr?, int?, str?, agg?, bool?, shiftA, FnPost, xresL, xres1, tup, argEnv, ptr, Nat.reduceEqDiff, reduceIte, beq_self_eq_true, ne_eq, Nat.reduceAdd, Nat.reduceMul, Nat.reduceSub, abin_shl, abin_shr, load1V, loadV, storeV, cellsAt, getN, setN, allocV, lenL, lenS, bnd, oneC, Value.oneCell', Nat.reduceLeDiff, Nat.reduceLT, exists_eq_left', forall_const, reduceCtorEq, app_new, app_new0, List.append_assoc, Int.reduceToNat, Int.reduceLT, Int.reduceLE, Int.reduceEq, Int.reduceNe, Int.reduceBEq, IntKind.bits, bne_self_eq_false, Int.reducePow, g8, g7, g6, g3, hlt']

theorem bit_ok {h : AHeap} {v k : Nat} (hv : v < 2 ^ 64) (hk : k ≤ 1048576) : Valid Tryd.prog 46 [.int .u64 (v : Int), .int .i64 (k : Int)] h fun r h' => r = .int .u8 (bitN v k) ∧ h' = h := by
  refine v46 (by simp) ?_
  simp only [X46, sx, x_box, x_alloc, x_bslice, x_slice, x_append, x_appz, x_b2s, x_s2b, x_mark, xop, ev, evs, evParts, fillL, cellsL, Ai.get, Ai.put, stab, isNil?, if_false, if_true, addr?, int?, str?, agg?, bool?, shiftA, FnPost, xresL, xres1, tup, argEnv, ptr, Nat.reduceEqDiff, reduceIte, beq_self_eq_true, ne_eq, Nat.reduceAdd, Nat.reduceMul, Nat.reduceSub, abin_shl, abin_shr, load1V, loadV, storeV, cellsAt, getN, setN, allocV, lenL, lenS, bnd, oneC, Value.oneCell', Nat.reduceLeDiff, Nat.reduceLT, exists_eq_left', forall_const, reduceCtorEq, app_new, app_new0, List.append_assoc, Int.reduceToNat, Int.reduceLT, Int.reduceLE, Int.reduceEq, Int.reduceNe, Int.reduceBEq, IntKind.bits, bne_self_eq_false, Int.reducePow]
  refine xcode_loop (fun m ρ h' => ∃ i, i + m = k ∧ get ρ 5 = some (.int .i64 (i : Nat)) ∧ get ρ 1 = some (.int .i64 (k : Nat)) ∧ get ρ 0 = some (.int .u64 ((v / 2 ^ i : Nat) : Int)) ∧ h' = h) k ⟨0, by simp, rfl, rfl, by simp [Ai.get], rfl⟩ ?_
  rintro m ρ h' ⟨i, him, g5, g1, g0, rfl⟩
  have h2 : ¬ (2 : Int) = 0 := by decide
  by_cases hlt : i < k
  · have hlt' : (i : Int) < k := by omega
    have hwi : IntKind.i64.wrap ((i : Int) + 1) = ((i + 1 : Nat) : Int) := by rw [i64_wrap] <;> omega
    have hq : IntKind.u64.wrap (((v / 2 ^ i : Nat) : Int).tdiv 2) = ((v / 2 ^ (i + 1) : Nat) : Int) := by
      have e : ((v / 2 ^ i : Nat) : Int).tdiv 2 = ((v / 2 ^ i / 2 : Nat) : Int) := by rw [Int.tdiv_eq_ediv_of_nonneg (Int.natCast_nonneg _)]; omega
      have e2 : v / 2 ^ i / 2 = v / 2 ^ (i + 1) := by rw [Nat.div_div_eq_div_mul, Nat.pow_succ]
      rw [e, e2]
      have h1 := Nat.div_le_self v (2 ^ (i + 1))
      have h3 : (2 : Nat) ^ 64 = 18446744073709551616 := rfl
      exact u64_wrap (Int.natCast_nonneg _) (by omega)
    simp only [sx, x_box, x_alloc, x_bslice, x_slice, x_append, x_appz, x_b2s, x_s2b, x_mark, xop, ev, evs, evParts, fillL, cellsL, Ai.get, Ai.put, stab, isNil?, if_false, if_true, addr?, int?, str?, agg?, bool?, shiftA, FnPost, xresL, xres1, tup, argEnv, ptr, Nat.reduceEqDiff, reduceIte, beq_self_eq_true, ne_eq, Nat.reduceAdd, Nat.reduceMul, Nat.reduceSub, abin_shl, abin_shr, load1V, loadV, storeV, cellsAt, getN, setN, allocV, lenL, lenS, bnd, oneC, Value.oneCell', Nat.reduceLeDiff, Nat.reduceLT, exists_eq_left', forall_const, reduceCtorEq, app_new, app_new0, List.append_assoc, Int.reduceToNat, Int.reduceLT, Int.reduceLE, Int.reduceEq, Int.reduceNe, Int.reduceBEq, IntKind.bits, bne_self_eq_false, Int.reducePow, g5, g1, g0, hlt', h2, hq, hwi]
    exact ⟨m - 1, by omega, i + 1, by omega, rfl, rfl⟩
  · have hlt' : ¬ (i : Int) < k := by omega
    have : i = k := by omega
    subst this
    have hr : IntKind.u8.wrap (((v / 2 ^ i : Nat) : Int).tmod 2) = bitN v i := by
      have e : ((v / 2 ^ i : Nat) : Int).tmod 2 = ((v / 2 ^ i % 2 : Nat) : Int) := by rw [Int.tmod_eq_emod_of_nonneg (Int.natCast_nonneg _)]; omega
      rw [e]
      exact u8_wrap (by omega) (by omega)
    simp only [sx, x_box, x_alloc, x_bslice, x_slice, x_append, x_appz, x_b2s, x_s2b, x_mark, xop, ev, evs, evParts, fillL, cellsL, Ai.get, Ai.put, stab, isNil?, if_false, if_true, addr?, int?, str?, agg?, bool?, shiftA, FnPost, xresL, xres1, tup, argEnv, ptr, Nat.reduceEqDiff, reduceIte, beq_self_eq_true, ne_eq, Nat.reduceAdd, Nat.reduceMul, Nat.reduceSub, abin_shl, abin_shr, load1V, loadV, storeV, cellsAt, getN, setN, allocV, lenL, lenS, bnd, oneC, Value.oneCell', Nat.reduceLeDiff, Nat.reduceLT, exists_eq_left', forall_const, reduceCtorEq, app_new, app_new0, List.append_assoc, Int.reduceToNat, Int.reduceLT, Int.reduceLE, Int.reduceEq, Int.reduceNe, Int.reduceBEq, IntKind.bits, bne_self_eq_false, Int.reducePow, g5, g1, g0, hlt', h2, hr]

theorem rvalue_ok {h : AHeap} {q : Option Addr} {n c : Nat} {zs : List Int} (hf : firstV 1 h n (.slice q n c) = some (bR zs)) (hn : n ≤ 64) (hb : ∀ z ∈ zs, z = 0 ∨ z = 1) : Valid Tryd.prog 49 [.slice q n c] h fun r h' => r = .int .u64 ((valN zs : Nat) : Int) ∧ h' = h := by
  refine v49 (by simp) ?_
  have hzl := firstV_len hf
  rw [bR_len, Nat.mul_one] at hzl
  have hw0 : IntKind.i64.wrap ((n : Int) - 1) = (n : Int) - 1 := i64_wrap (by omega) (by omega)
  simp only [X49, sx, x_box, x_alloc, x_bslice, x_slice, x_append, x_appz, x_b2s, x_s2b, x_mark, xop, ev, evs, evParts, fillL, cellsL, Ai.get, Ai.put, stab, isNil?, if_false, if_true, addr?, int?, str?, agg?, bool?, shiftA, FnPost, xresL, xres1, tup, argEnv, ptr, Nat.reduceEqDiff, reduceIte, beq_self_eq_true, ne_eq, Nat.reduceAdd, Nat.reduceMul, Nat.reduceSub, abin_shl, abin_shr, load1V, loadV, storeV, cellsAt, getN, setN, allocV, lenL, lenS, bnd, oneC, Value.oneCell', Nat.reduceLeDiff, Nat.reduceLT, exists_eq_left', forall_const, reduceCtorEq, app_new, app_new0, List.append_assoc, Int.reduceToNat, Int.reduceLT, Int.reduceLE, Int.reduceEq, Int.reduceNe, Int.reduceBEq, IntKind.bits, bne_self_eq_false, Int.reducePow, hw0]
  refine xcode_loop (fun m ρ h' => m ≤ n ∧ get ρ 4 = some (.int .i64 ((m : Int) - 1)) ∧ get ρ 0 = some (.slice q n c) ∧ get ρ 3 = some (.int .u64 ((valN (zs.drop m) : Nat) : Int)) ∧ h' = h) n ⟨by omega, rfl, rfl, by rw [List.drop_of_length_le (by omega)]; rfl, rfl⟩ ?_
  rintro i ρ h' ⟨hin, g4, g0, g3, rfl⟩
  cases i with
  | succ i =>
    have hge : (0 : Int) ≤ ((i + 1 : Nat) : Int) - 1 := by omega
    have hlt' : (((i + 1 : Nat) : Int) - 1) < n := by omega
    have e : ((i + 1 : Nat) : Int) - 1 = (i : Nat) := by omega
    obtain ⟨a, o, z, rfl, a1, a2, a3, a4⟩ := elemB hf (show i < n by omega)
    have hz := hb z (List.mem_of_getElem? a4)
    obtain ⟨z, rfl⟩ : ∃ m : Nat, z = m := ⟨z.toNat, by omega⟩
    have hzw : IntKind.u64.wrap (z : Int) = (z : Int) := u64_wrap (by omega) (by omega)
    have hd : zs.drop i = (z : Int) :: zs.drop (i + 1) := by
      have hi : i < zs.length := by omega
      rw [List.drop_eq_getElem_cons hi]
      congr 1
      exact (List.getElem?_eq_some_iff.1 a4).2
    have hlt2 := valN_lt (zs := zs.drop i) fun z hz => hb z (List.mem_of_mem_drop hz)
    have hv : valN (zs.drop i) = z + 2 * valN (zs.drop (i + 1)) := by rw [hd]; simp [valN]
    have h64 : valN (zs.drop i) < 2 ^ 64 := Nat.lt_of_lt_of_le hlt2 (Nat.pow_le_pow_right (by omega) (by simp; omega))
    have h64' : (2 : Nat) ^ 64 = 18446744073709551616 := rfl
    have hm : IntKind.u64.wrap (2 * ((valN (zs.drop (i + 1)) : Nat) : Int)) = ((2 * valN (zs.drop (i + 1)) : Nat) : Int) := by rw [u64_wrap] <;> omega
    have ha : IntKind.u64.wrap (((2 * valN (zs.drop (i + 1)) : Nat) : Int) + (z : Int)) = ((valN (zs.drop i) : Nat) : Int) := by rw [u64_wrap] <;> omega
    have hwi : IntKind.i64.wrap ((i : Int) - 1) = (i : Int) - 1 := i64_wrap (by omega) (by omega)
    have hge2 : (0 : Int) ≤ i := by omega
    have hlt3 : (i : Int) < n := by omega
    rw [e] at g4
    simp only [sx, x_box, x_alloc, x_bslice, x_slice, x_append, x_appz, x_b2s, x_s2b, x_mark, xop, ev, evs, evParts, fillL, cellsL, Ai.get, Ai.put, stab, isNil?, if_false, if_true, addr?, int?, str?, agg?, bool?, shiftA, FnPost, xresL, xres1, tup, argEnv, ptr, Nat.reduceEqDiff, reduceIte, beq_self_eq_true, ne_eq, Nat.reduceAdd, Nat.reduceMul, Nat.reduceSub, abin_shl, abin_shr, load1V, loadV, storeV, cellsAt, getN, setN, allocV, lenL, lenS, bnd, oneC, Value.oneCell', Nat.reduceLeDiff, Nat.reduceLT, exists_eq_left', forall_const, reduceCtorEq, app_new, app_new0, List.append_assoc, Int.reduceToNat, Int.reduceLT, Int.reduceLE, Int.reduceEq, Int.reduceNe, Int.reduceBEq, IntKind.bits, bne_self_eq_false, Int.reducePow, g4, g0, g3, hge2, hlt3, a1, a2, a3, Nat.mul_one, hzw, hm, ha, hwi]
    exact ⟨i, by omega, by omega, rfl, rfl⟩
  | zero =>
    have hge : ¬ (0 : Int) ≤ 0 - 1 := by decide
    rw [List.drop_zero] at g3
    simp only [sx, x_box, x_alloc, x_bslice, x_slice, x_append, x_appz, x_b2s, x_s2b, x_mark, xop, ev, evs, evParts, fillL, cellsL, Ai.get, Ai.put, stab, isNil?, if_false, if_true, addr?, int?, str?, agg?, bool?, shiftA, FnPost, xresL, xres1, tup, argEnv, ptr, Nat.reduceEqDiff, reduceIte, beq_self_eq_true, ne_eq, Nat.reduceAdd, Nat.reduceMul, Nat.reduceSub, abin_shl, abin_shr, load1V, loadV, storeV, cellsAt, getN, setN, allocV, lenL, lenS, bnd, oneC, Value.oneCell', Nat.reduceLeDiff, Nat.reduceLT, exists_eq_left', forall_const, reduceCtorEq, app_new, app_new0, List.append_assoc, Int.reduceToNat, Int.reduceLT, Int.reduceLE, Int.reduceEq, Int.reduceNe, Int.reduceBEq, IntKind.bits, bne_self_eq_false, Int.reducePow, g4, g0, g3, hge]
end Go.Proofs.YtimfgagdfmmeeaaDoor
