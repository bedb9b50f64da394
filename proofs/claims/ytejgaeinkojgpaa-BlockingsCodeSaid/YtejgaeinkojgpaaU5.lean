import Derived.Test.YtejgaeinkojgpaaU4
import Derived.Test.YtejgaeinkojgpaaV1
import Derived.Test.YtejgaeinkojgpaaK16
set_option linter.unusedVariables false
set_option linter.unusedSimpArgs false
namespace Go.Proofs.Ytejgaeinkojgpaa
open Go Go.Ai Go.Proofs

theorem bytesFoldN : ∀ (l : List Nat) (b : ByteArray), ∃ s : ByteArray, (bN l).foldlM (fun (s : ByteArray) v => match v with | .int .u8 n => some (s.push (UInt8.ofNat n.toNat)) | _ => none) b = some s
  | [], b => ⟨b, rfl⟩
  | z :: l, b => by
    obtain ⟨s, h1⟩ := bytesFoldN l (b.push (UInt8.ofNat z))
    exact ⟨s, by simpa [bN, List.foldlM_cons] using h1⟩
theorem bytes_strN (l : List Nat) : ∃ s : ByteArray, bytesOf (bN l) = some s := by
  cases l with
  | nil => exact ⟨ByteArray.empty, rfl⟩
  | cons z l =>
    obtain ⟨s, h1⟩ := bytesFoldN (z :: l) ByteArray.empty
    exact ⟨s, h1⟩
theorem b2s_runN {ρ : Env} {h : AHeap} {x : XA} {qs : Option Addr} {m cs : Nat} {l : List Nat} {str : ByteArray} (hx : ev ρ x = some (.slice qs m cs)) (hf : firstV 1 h m (.slice qs m cs) = some (bN l)) (hb : bytesOf (bN l) = some str) : xop (.b2s x) ρ h = some (.string str, h) := by
  cases qs with
  | none =>
    simp only [firstV] at hf
    split at hf
    · have hz : [] = bN l := Option.some.inj hf
      have : bytesOf [] = some ByteArray.empty := rfl
      rw [← hz, this] at hb
      cases hb
      simp [xop, hx]
    · cases hf
  | some a =>
    simp only [firstV] at hf
    simp only [xop, hx, Option.bind_some]
    by_cases h0 : m = 0
    · rw [if_pos h0] at hf ⊢
      cases hz : bN l with
      | nil => rw [hz] at hb; simp [hb]
      | cons y ys => rw [hz] at hf; cases hf
    · rw [if_neg h0] at hf ⊢
      split at hf
      · cases hf
      · rename_i hsp
        simp only [loadV, if_neg hsp]
        rw [Nat.mul_one] at hf
        rw [hf]
        simp [hb]

/-- the long stream -/
def sL (N : Nat) (bad : Bool) : List Int := if bad then (List.replicate N (0 : Int)).set 0 9 else List.replicate N 0
theorem ByS.own {h : AHeap} {A c : Nat} {bs : List Nat} {w : Bool} (hA : h[A]? = some (some ⟨w, bN bs⟩)) (hb : ∀ x ∈ bs, x < 256) (hc : c < unk ∨ c = unk + 1) (hl : bs.length ≤ c) : ByS h (.slice (some ⟨A, 0, none⟩) bs.length c) bs :=
  ⟨ByE.own hA hb, _, _, rfl, hc, hl, fun a e => by cases e; rfl, fun e => by cases e⟩
theorem slice_hi {ρ : Env} {h : AHeap} {x hi : XA} {A n k : Nat} (hx : ev ρ x = some (.slice (some ⟨A, 0, none⟩) n n)) (hh : ev ρ hi = some (.int .i64 (k : Nat))) (hk : k ≤ n) (hn : n < unk) (h0 : 0 < n) : xop (.slice 1 x none (some hi) none) ρ h = some (.slice (some ⟨A, 0, none⟩) k n, h) := by
  have hu : ¬ unk ≤ n := by omega
  have hn0 : ¬ n = 0 := by omega
  have hk' : (k : Int) ≤ (n : Nat) := by omega
  have hk0 : (0 : Int) ≤ (k : Nat) := by omega
  simp [xop, hx, hh, bnd, int?, hu, hk, hk', hk0, shiftA, hn0]
def zM : Ms := ⟨0, 0, 0, [], []⟩
theorem zM_mv (h : AHeap) : MV h (.agg #[.int .u8 0, .int .u32 0, .int .i64 0, .slice none 0 0, .slice none 0 0]) zM := ⟨.slice none 0 0, .slice none 0 0, rfl, BitsV.nil _, BitsV.nil _⟩
/-- what Encode answered -/
def EnS (g : AHeap) (m : Ms) (e : Int) (x : Value) (h : AHeap) : Prop := Kp g h ∧ ((¬ m.Ok ∧ e = 1 ∧ x = .slice none 0 0) ∨ (m.Ok ∧ e = 0 ∧ ∃ A, x = .slice (some ⟨A, 0, none⟩) (enc m).length (enc m).length ∧ h[A]? = some (some ⟨true, bN (enc m)⟩) ∧ g.length ≤ A))
theorem EncP.sum {g : AHeap} {m : Ms} {r : Value} {h : AHeap} (P : EncP g m r h) : ∃ e x, r = .tuple #[x, .int .i64 e] ∧ EnS g m e x h := by
  rcases P with ⟨h1, rfl, K⟩ | ⟨h1, A, rfl, h2, K, h3⟩
  · exact ⟨1, _, rfl, K, .inl ⟨h1, rfl, rfl⟩⟩
  · exact ⟨0, _, rfl, K, .inr ⟨h1, rfl, A, rfl, h2, h3⟩⟩
/-- the first answer is judged -/
def CdM (g : AHeap) (b : Value) (R : Nat) (x : Value) (e : Int) (j : Nat) (ρ : Env) (h : AHeap) : Prop := get ρ 1 = some b ∧ get ρ 2 = some (.pointer (some ⟨R, 0, none⟩)) ∧ get ρ 5 = some x ∧ get ρ 6 = some (.int .i64 e) ∧ get ρ j = some (.bool false) ∧ h = g
def CdT (g : AHeap) (b : Value) (ρ : Env) (h : AHeap) : Prop := get ρ 1 = some b ∧ Kp g h
set_option maxHeartbeats 16000000 in
set_option maxRecDepth 20000 in
theorem code_law {h : AHeap} {m : Ms} {mv ov b : Value} {bs : List Nat} (M : BitsV h mv m.mask) (O : BitsV h ov m.on) (hm : m.mask.length ≤ 9223372036854775807) (ho : m.on.length ≤ 9223372036854775807) (hs0 : 0 ≤ m.serial) (hs1 : m.serial ≤ 4294967295) (V : ByS h b bs) (hbl : bs.length ≤ 9223372036854775807) (hbf : firstV 1 h bs.length b = some (bN bs)) :
    Valid Try.prog 8 [.agg (m.cells mv ov).toArray, b] h fun r h' => r = .bool true := by
  refine v8 (by simp) ?_
  obtain ⟨mq, mc, rfl⟩ := M.shape
  obtain ⟨oq, oc, rfl⟩ := O.shape
  obtain ⟨bq, bc, rfl⟩ := V.1.shp
  simp only [X8, Ms.cells, sx, x_alloc, x_bslice, x_slice, x_append, x_appz, x_b2s, xop, ev, evs, evParts, fillL, cellsL, Ai.get, Ai.put, stab, isNil?, if_false, if_true, addr?, int?, str?, agg?, bool?, shiftA, FnPost, xresL, xres1, tup, argEnv, ptr, Nat.reduceEqDiff, reduceIte, beq_self_eq_true, ne_eq, Nat.reduceAdd, Nat.reduceMul, Nat.reduceSub, abin_shl, abin_shr, load1V, loadV, storeV, cellsAt, getN, setN, allocV, lenL, lenS, bnd, oneC, Value.oneCell', Nat.reduceLeDiff, Nat.reduceLT, exists_eq_left', forall_const, reduceCtorEq, app_new, app_new0, List.append_assoc, Int.reduceToNat, Int.reduceLT, Int.reduceLE, Int.reduceEq, Int.reduceNe, Int.reduceBEq, IntKind.bits, bne_self_eq_false, Int.reducePow]
  refine box_run rfl fun g1 R K1 hR hRl _ => ⟨trivial, ?_⟩
  simp only [cellsL] at hR
  have hl5 : ∀ a b c d e : Value, getN [a, b, c, d, e] 0 5 = some [a, b, c, d, e] := fun a b c d e => rfl
  by_cases h1 : 60 < m.mask.length
  · have h1' : (60 : Int) < (m.mask.length : Nat) := by omega
    simp only [sx, x_box, x_alloc, x_bslice, x_slice, x_append, x_appz, x_b2s, xop, ev, evs, evParts, fillL, cellsL, Ai.get, Ai.put, stab, isNil?, if_false, if_true, addr?, int?, str?, agg?, bool?, shiftA, FnPost, xresL, xres1, tup, argEnv, ptr, Nat.reduceEqDiff, reduceIte, beq_self_eq_true, ne_eq, Nat.reduceAdd, Nat.reduceMul, Nat.reduceSub, abin_shl, abin_shr, load1V, loadV, storeV, cellsAt, setN, allocV, lenL, lenS, bnd, oneC, Value.oneCell', Nat.reduceLeDiff, Nat.reduceLT, exists_eq_left', forall_const, reduceCtorEq, app_new, app_new0, List.append_assoc, Int.reduceToNat, Int.reduceLT, Int.reduceLE, Int.reduceEq, Int.reduceNe, Int.reduceBEq, IntKind.bits, bne_self_eq_false, Int.reducePow, hR, hl5, h1']
    refine xcall (lives_ok _) (by rfl) (by rfl) (by rfl) (by rfl) ?_
    rintro r h' rfl
    simp only [sx, x_box, x_alloc, x_bslice, x_slice, x_append, x_appz, x_b2s, xop, ev, evs, evParts, fillL, cellsL, Ai.get, Ai.put, stab, isNil?, if_false, if_true, addr?, int?, str?, agg?, bool?, shiftA, FnPost, xresL, xres1, tup, argEnv, ptr, Nat.reduceEqDiff, reduceIte, beq_self_eq_true, ne_eq, Nat.reduceAdd, Nat.reduceMul, Nat.reduceSub, abin_shl, abin_shr, load1V, loadV, storeV, cellsAt, getN, setN, allocV, lenL, lenS, bnd, oneC, Value.oneCell', Nat.reduceLeDiff, Nat.reduceLT, exists_eq_left', forall_const, reduceCtorEq, app_new, app_new0, List.append_assoc, Int.reduceToNat, Int.reduceLT, Int.reduceLE, Int.reduceEq, Int.reduceNe, Int.reduceBEq, IntKind.bits, bne_self_eq_false, Int.reducePow]
  have h1' : ¬ (60 : Int) < (m.mask.length : Nat) := by omega
  by_cases h2 : 60 < m.on.length
  · have h2' : (60 : Int) < (m.on.length : Nat) := by omega
    simp only [sx, x_box, x_alloc, x_bslice, x_slice, x_append, x_appz, x_b2s, xop, ev, evs, evParts, fillL, cellsL, Ai.get, Ai.put, stab, isNil?, if_false, if_true, addr?, int?, str?, agg?, bool?, shiftA, FnPost, xresL, xres1, tup, argEnv, ptr, Nat.reduceEqDiff, reduceIte, beq_self_eq_true, ne_eq, Nat.reduceAdd, Nat.reduceMul, Nat.reduceSub, abin_shl, abin_shr, load1V, loadV, storeV, cellsAt, setN, allocV, lenL, lenS, bnd, oneC, Value.oneCell', Nat.reduceLeDiff, Nat.reduceLT, exists_eq_left', forall_const, reduceCtorEq, app_new, app_new0, List.append_assoc, Int.reduceToNat, Int.reduceLT, Int.reduceLE, Int.reduceEq, Int.reduceNe, Int.reduceBEq, IntKind.bits, bne_self_eq_false, Int.reducePow, hR, hl5, h1', h2']
    refine xcall (lives_ok _) (by rfl) (by rfl) (by rfl) (by rfl) ?_
    rintro r h' rfl
    simp only [sx, x_box, x_alloc, x_bslice, x_slice, x_append, x_appz, x_b2s, xop, ev, evs, evParts, fillL, cellsL, Ai.get, Ai.put, stab, isNil?, if_false, if_true, addr?, int?, str?, agg?, bool?, shiftA, FnPost, xresL, xres1, tup, argEnv, ptr, Nat.reduceEqDiff, reduceIte, beq_self_eq_true, ne_eq, Nat.reduceAdd, Nat.reduceMul, Nat.reduceSub, abin_shl, abin_shr, load1V, loadV, storeV, cellsAt, getN, setN, allocV, lenL, lenS, bnd, oneC, Value.oneCell', Nat.reduceLeDiff, Nat.reduceLT, exists_eq_left', forall_const, reduceCtorEq, app_new, app_new0, List.append_assoc, Int.reduceToNat, Int.reduceLT, Int.reduceLE, Int.reduceEq, Int.reduceNe, Int.reduceBEq, IntKind.bits, bne_self_eq_false, Int.reducePow]
  have h2' : ¬ (60 : Int) < (m.on.length : Nat) := by omega
  by_cases h3 : 40 < bs.length
  · have h3' : (40 : Int) < (bs.length : Nat) := by omega
    simp only [sx, x_box, x_alloc, x_bslice, x_slice, x_append, x_appz, x_b2s, xop, ev, evs, evParts, fillL, cellsL, Ai.get, Ai.put, stab, isNil?, if_false, if_true, addr?, int?, str?, agg?, bool?, shiftA, FnPost, xresL, xres1, tup, argEnv, ptr, Nat.reduceEqDiff, reduceIte, beq_self_eq_true, ne_eq, Nat.reduceAdd, Nat.reduceMul, Nat.reduceSub, abin_shl, abin_shr, load1V, loadV, storeV, cellsAt, setN, allocV, lenL, lenS, bnd, oneC, Value.oneCell', Nat.reduceLeDiff, Nat.reduceLT, exists_eq_left', forall_const, reduceCtorEq, app_new, app_new0, List.append_assoc, Int.reduceToNat, Int.reduceLT, Int.reduceLE, Int.reduceEq, Int.reduceNe, Int.reduceBEq, IntKind.bits, bne_self_eq_false, Int.reducePow, hR, hl5, h1', h2', h3']
    refine xcall (lives_ok _) (by rfl) (by rfl) (by rfl) (by rfl) ?_
    rintro r h' rfl
    simp only [sx, x_box, x_alloc, x_bslice, x_slice, x_append, x_appz, x_b2s, xop, ev, evs, evParts, fillL, cellsL, Ai.get, Ai.put, stab, isNil?, if_false, if_true, addr?, int?, str?, agg?, bool?, shiftA, FnPost, xresL, xres1, tup, argEnv, ptr, Nat.reduceEqDiff, reduceIte, beq_self_eq_true, ne_eq, Nat.reduceAdd, Nat.reduceMul, Nat.reduceSub, abin_shl, abin_shr, load1V, loadV, storeV, cellsAt, getN, setN, allocV, lenL, lenS, bnd, oneC, Value.oneCell', Nat.reduceLeDiff, Nat.reduceLT, exists_eq_left', forall_const, reduceCtorEq, app_new, app_new0, List.append_assoc, Int.reduceToNat, Int.reduceLT, Int.reduceLE, Int.reduceEq, Int.reduceNe, Int.reduceBEq, IntKind.bits, bne_self_eq_false, Int.reducePow]
  have h3' : ¬ (40 : Int) < (bs.length : Nat) := by omega
  simp only [sx, x_box, x_alloc, x_bslice, x_slice, x_append, x_appz, x_b2s, xop, ev, evs, evParts, fillL, cellsL, Ai.get, Ai.put, stab, isNil?, if_false, if_true, addr?, int?, str?, agg?, bool?, shiftA, FnPost, xresL, xres1, tup, argEnv, ptr, Nat.reduceEqDiff, reduceIte, beq_self_eq_true, ne_eq, Nat.reduceAdd, Nat.reduceMul, Nat.reduceSub, abin_shl, abin_shr, load1V, loadV, storeV, cellsAt, setN, allocV, lenL, lenS, bnd, oneC, Value.oneCell', Nat.reduceLeDiff, Nat.reduceLT, exists_eq_left', forall_const, reduceCtorEq, app_new, app_new0, List.append_assoc, Int.reduceToNat, Int.reduceLT, Int.reduceLE, Int.reduceEq, Int.reduceNe, Int.reduceBEq, IntKind.bits, bne_self_eq_false, Int.reducePow, hR, hl5, h1', h2', h3']
  have M1 := M.frz K1.frz
  have O1 := O.frz K1.frz
  have V1 := V.kp K1
  have f1 := K1.first hbf
  refine xcall (encode_ok (m := m) ⟨_, _, rfl, M1, O1⟩ hm) (by rfl) (by rfl) (by rfl) (by rfl) ?_
  intro r g2 hP
  obtain ⟨e, x, rfl, K2, hE⟩ := hP.sum
  have hR2 := K2.get hR
  have M2 := M1.frz K2.frz
  have O2 := O1.frz K2.frz
  have V2 := V1.kp K2
  have f2 := K2.first f1
  clear M1 O1 V1 f1 hR V M O hbf hP K1 K2
  simp only [sx, x_box, x_alloc, x_bslice, x_slice, x_append, x_appz, x_b2s, xop, ev, evs, evParts, fillL, cellsL, Ai.get, Ai.put, stab, isNil?, if_false, if_true, addr?, int?, str?, agg?, bool?, shiftA, FnPost, xresL, xres1, tup, argEnv, ptr, Nat.reduceEqDiff, reduceIte, beq_self_eq_true, ne_eq, Nat.reduceAdd, Nat.reduceMul, Nat.reduceSub, abin_shl, abin_shr, load1V, loadV, storeV, cellsAt, setN, allocV, lenL, lenS, bnd, oneC, Value.oneCell', Nat.reduceLeDiff, Nat.reduceLT, exists_eq_left', forall_const, reduceCtorEq, app_new, app_new0, List.append_assoc, Int.reduceToNat, Int.reduceLT, Int.reduceLE, Int.reduceEq, Int.reduceNe, Int.reduceBEq, IntKind.bits, bne_self_eq_false, Int.reducePow, hR2, hl5]
  refine xcall (lvalid_ok (m := m) ⟨_, _, rfl, M2, O2⟩ hm) (by rfl) (by rfl) (by rfl) (by rfl) ?_
  rintro r g3 ⟨K3, vb, rfl, hvb⟩
  have hE3 : (¬ m.Ok ∧ e = 1 ∧ x = .slice none 0 0 ∧ vb = false) ∨ (m.Ok ∧ e = 0 ∧ vb = true ∧ ∃ A, x = .slice (some ⟨A, 0, none⟩) (enc m).length (enc m).length ∧ g3[A]? = some (some ⟨true, bN (enc m)⟩)) := by
    rcases hE with ⟨h1, h2, h3⟩ | ⟨h1, h2, A, h3, h4, -⟩
    · refine .inl ⟨h1, h2, h3, ?_⟩
      cases vb
      · rfl
      · exact absurd (hvb.1 rfl) h1
    · exact .inr ⟨h1, h2, hvb.2 h1, A, h3, K3.get h4⟩
  have hR3 := K3.get hR2
  have M3 := M2.frz K3.frz
  have O3 := O2.frz K3.frz
  have V3 := V2.kp K3
  have f3 := K3.first f2
  clear M2 O2 V2 f2 hR2 K3 hvb hE
  have e00 : ¬ (0 : Int) ≠ 0 := by decide
  have e10 : (1 : Int) ≠ 0 := by decide
  have e11 : ¬ (1 : Int) ≠ 1 := by decide
  have e10' : ¬ (1 : Int) = 0 := by decide
  have b11 : ((true : Bool) != true) = false := rfl
  have b00 : ((false : Bool) != false) = false := rfl
  have l0 : ¬ ((0 : Nat) : Int) ≠ 0 := by decide
  have en5 : m.Ok → 5 ≤ (enc m).length ∧ (enc m).length ≤ 100 := fun ok => by
    rw [enc_len ok]; split
    · omega
    · omega
  simp only [sx, x_box, x_alloc, x_bslice, x_slice, x_append, x_appz, x_b2s, xop, ev, evs, evParts, fillL, cellsL, Ai.get, Ai.put, stab, isNil?, if_false, if_true, addr?, int?, str?, agg?, bool?, shiftA, FnPost, xresL, xres1, tup, argEnv, ptr, Nat.reduceEqDiff, reduceIte, beq_self_eq_true, ne_eq, Nat.reduceAdd, Nat.reduceMul, Nat.reduceSub, abin_shl, abin_shr, load1V, loadV, storeV, cellsAt, getN, setN, allocV, lenL, lenS, bnd, oneC, Value.oneCell', Nat.reduceLeDiff, Nat.reduceLT, exists_eq_left', forall_const, reduceCtorEq, app_new, app_new0, List.append_assoc, Int.reduceToNat, Int.reduceLT, Int.reduceLE, Int.reduceEq, Int.reduceNe, Int.reduceBEq, IntKind.bits, bne_self_eq_false, Int.reducePow]
  refine xgrd_cut (CdM g3 (.slice bq bs.length bc) R x e 55) ?_ ?_
  · rcases hE3 with ⟨h1, rfl, rfl, rfl⟩ | ⟨h1, rfl, rfl, A, rfl, h4⟩
    · simp only [sx, x_box, x_alloc, x_bslice, x_slice, x_append, x_appz, x_b2s, xop, ev, evs, evParts, fillL, cellsL, Ai.get, Ai.put, stab, isNil?, if_false, if_true, addr?, int?, str?, agg?, bool?, shiftA, FnPost, xresL, xres1, tup, argEnv, ptr, Nat.reduceEqDiff, reduceIte, beq_self_eq_true, ne_eq, Nat.reduceAdd, Nat.reduceMul, Nat.reduceSub, abin_shl, abin_shr, load1V, loadV, storeV, cellsAt, getN, setN, allocV, lenL, lenS, bnd, oneC, Value.oneCell', Nat.reduceLeDiff, Nat.reduceLT, exists_eq_left', forall_const, reduceCtorEq, app_new, app_new0, List.append_assoc, Int.reduceToNat, Int.reduceLT, Int.reduceLE, Int.reduceEq, Int.reduceNe, Int.reduceBEq, IntKind.bits, bne_self_eq_false, Int.reducePow, e10, e11, e10', b00, l0]
      exact ⟨rfl, rfl, rfl, rfl, rfl, rfl⟩
    · simp only [sx, x_box, x_alloc, x_bslice, x_slice, x_append, x_appz, x_b2s, xop, ev, evs, evParts, fillL, cellsL, Ai.get, Ai.put, stab, isNil?, if_false, if_true, addr?, int?, str?, agg?, bool?, shiftA, FnPost, xresL, xres1, tup, argEnv, ptr, Nat.reduceEqDiff, reduceIte, beq_self_eq_true, ne_eq, Nat.reduceAdd, Nat.reduceMul, Nat.reduceSub, abin_shl, abin_shr, load1V, loadV, storeV, cellsAt, getN, setN, allocV, lenL, lenS, bnd, oneC, Value.oneCell', Nat.reduceLeDiff, Nat.reduceLT, exists_eq_left', forall_const, reduceCtorEq, app_new, app_new0, List.append_assoc, Int.reduceToNat, Int.reduceLT, Int.reduceLE, Int.reduceEq, Int.reduceNe, Int.reduceBEq, IntKind.bits, bne_self_eq_false, Int.reducePow, e00, b11]
      exact ⟨rfl, rfl, rfl, rfl, rfl, rfl⟩
  rintro ρ g4 ⟨r1, r2, r5, r6, r55, e4⟩
  subst e4
  simp only [sx, x_box, x_alloc, x_bslice, x_slice, x_append, x_appz, x_b2s, xop, ev, evs, evParts, fillL, cellsL, Ai.get, Ai.put, stab, isNil?, if_false, if_true, addr?, int?, str?, agg?, bool?, shiftA, FnPost, xresL, xres1, tup, argEnv, ptr, Nat.reduceEqDiff, reduceIte, beq_self_eq_true, ne_eq, Nat.reduceAdd, Nat.reduceMul, Nat.reduceSub, abin_shl, abin_shr, load1V, loadV, storeV, cellsAt, getN, setN, allocV, lenL, lenS, bnd, oneC, Value.oneCell', Nat.reduceLeDiff, Nat.reduceLT, exists_eq_left', forall_const, reduceCtorEq, app_new, app_new0, List.append_assoc, Int.reduceToNat, Int.reduceLT, Int.reduceLE, Int.reduceEq, Int.reduceNe, Int.reduceBEq, IntKind.bits, bne_self_eq_false, Int.reducePow, r55, r6]
  refine xgrd_cut (CdM g4 (.slice bq bs.length bc) R x e 62) ?_ ?_
  · rcases hE3 with ⟨h1, rfl, rfl, rfl⟩ | ⟨h1, rfl, rfl, A, rfl, h4⟩
    · simp only [sx, x_box, x_alloc, x_bslice, x_slice, x_append, x_appz, x_b2s, xop, ev, evs, evParts, fillL, cellsL, Ai.get, Ai.put, stab, isNil?, if_false, if_true, addr?, int?, str?, agg?, bool?, shiftA, FnPost, xresL, xres1, tup, argEnv, ptr, Nat.reduceEqDiff, reduceIte, beq_self_eq_true, ne_eq, Nat.reduceAdd, Nat.reduceMul, Nat.reduceSub, abin_shl, abin_shr, load1V, loadV, storeV, cellsAt, getN, setN, allocV, lenL, lenS, bnd, oneC, Value.oneCell', Nat.reduceLeDiff, Nat.reduceLT, exists_eq_left', forall_const, reduceCtorEq, app_new, app_new0, List.append_assoc, Int.reduceToNat, Int.reduceLT, Int.reduceLE, Int.reduceEq, Int.reduceNe, Int.reduceBEq, IntKind.bits, bne_self_eq_false, Int.reducePow, e10']
      exact ⟨r1, r2, r5, r6, rfl, rfl⟩
    · have hne : ¬ ((enc m).length : Int) = 0 := by have := (en5 h1).1; omega
      simp only [sx, x_box, x_alloc, x_bslice, x_slice, x_append, x_appz, x_b2s, xop, ev, evs, evParts, fillL, cellsL, Ai.get, Ai.put, stab, isNil?, if_false, if_true, addr?, int?, str?, agg?, bool?, shiftA, FnPost, xresL, xres1, tup, argEnv, ptr, Nat.reduceEqDiff, reduceIte, beq_self_eq_true, ne_eq, Nat.reduceAdd, Nat.reduceMul, Nat.reduceSub, abin_shl, abin_shr, load1V, loadV, storeV, cellsAt, getN, setN, allocV, lenL, lenS, bnd, oneC, Value.oneCell', Nat.reduceLeDiff, Nat.reduceLT, exists_eq_left', forall_const, reduceCtorEq, app_new, app_new0, List.append_assoc, Int.reduceToNat, Int.reduceLT, Int.reduceLE, Int.reduceEq, Int.reduceNe, Int.reduceBEq, IntKind.bits, bne_self_eq_false, Int.reducePow, r5, hne]
      exact ⟨r1, r2, r5, r6, rfl, rfl⟩
  clear r1 r2 r5 r6 r55
  rintro ρ g5 ⟨r1, r2, r5, r6, r62, e4⟩
  subst e4
  simp only [sx, x_box, x_alloc, x_bslice, x_slice, x_append, x_appz, x_b2s, xop, ev, evs, evParts, fillL, cellsL, Ai.get, Ai.put, stab, isNil?, if_false, if_true, addr?, int?, str?, agg?, bool?, shiftA, FnPost, xresL, xres1, tup, argEnv, ptr, Nat.reduceEqDiff, reduceIte, beq_self_eq_true, ne_eq, Nat.reduceAdd, Nat.reduceMul, Nat.reduceSub, abin_shl, abin_shr, load1V, loadV, storeV, cellsAt, getN, setN, allocV, lenL, lenS, bnd, oneC, Value.oneCell', Nat.reduceLeDiff, Nat.reduceLT, exists_eq_left', forall_const, reduceCtorEq, app_new, app_new0, List.append_assoc, Int.reduceToNat, Int.reduceLT, Int.reduceLE, Int.reduceEq, Int.reduceNe, Int.reduceBEq, IntKind.bits, bne_self_eq_false, Int.reducePow, r62, r6]
  refine xcond_cut (CdT g5 (.slice bq bs.length bc)) ?_ ?_
  · rcases hE3 with ⟨h1, rfl, rfl, rfl⟩ | ⟨hok, rfl, rfl, A, rfl, hA⟩
    · simp only [sx, x_box, x_alloc, x_bslice, x_slice, x_append, x_appz, x_b2s, xop, ev, evs, evParts, fillL, cellsL, Ai.get, Ai.put, stab, isNil?, if_false, if_true, addr?, int?, str?, agg?, bool?, shiftA, FnPost, xresL, xres1, tup, argEnv, ptr, Nat.reduceEqDiff, reduceIte, beq_self_eq_true, ne_eq, Nat.reduceAdd, Nat.reduceMul, Nat.reduceSub, abin_shl, abin_shr, load1V, loadV, storeV, cellsAt, getN, setN, allocV, lenL, lenS, bnd, oneC, Value.oneCell', Nat.reduceLeDiff, Nat.reduceLT, exists_eq_left', forall_const, reduceCtorEq, app_new, app_new0, List.append_assoc, Int.reduceToNat, Int.reduceLT, Int.reduceLE, Int.reduceEq, Int.reduceNe, Int.reduceBEq, IntKind.bits, bne_self_eq_false, Int.reducePow, e10']
      exact ⟨r1, Kp.refl _⟩
    obtain ⟨L5, L100⟩ := en5 hok
    have hLu : (enc m).length < unk := by unfold unk; omega
    have hmem := enc_lt m
    simp only [sx, x_box, x_alloc, x_bslice, x_slice, x_append, x_appz, x_b2s, xop, ev, evs, evParts, fillL, cellsL, Ai.get, Ai.put, stab, isNil?, if_false, if_true, addr?, int?, str?, agg?, bool?, shiftA, FnPost, xresL, xres1, tup, argEnv, ptr, Nat.reduceEqDiff, reduceIte, beq_self_eq_true, ne_eq, Nat.reduceAdd, Nat.reduceMul, Nat.reduceSub, abin_shl, abin_shr, load1V, loadV, storeV, cellsAt, getN, setN, allocV, lenL, lenS, bnd, oneC, Value.oneCell', Nat.reduceLeDiff, Nat.reduceLT, exists_eq_left', forall_const, reduceCtorEq, app_new, app_new0, List.append_assoc, Int.reduceToNat, Int.reduceLT, Int.reduceLE, Int.reduceEq, Int.reduceNe, Int.reduceBEq, IntKind.bits, bne_self_eq_false, Int.reducePow, r5]
    refine xcall (decode_ok (ByS.own hA hmem (.inl hLu) (Nat.le_refl _)) (by omega)) (by rfl) (by rfl) (by rfl) (by rfl) ?_
    rintro r g6 ⟨K6, ⟨hno, -⟩ | ⟨m', mv', ov', hd, rfl, M6, O6⟩⟩
    · exact absurd ⟨m, dec_enc hok hs0 hs1, hok, rfl⟩ hno
    obtain rfl := hd.own hok hs0 hs1
    obtain ⟨mq', mc', rfl⟩ := M6.shape
    obtain ⟨oq', oc', rfl⟩ := O6.shape
    have hA6 := K6.get hA
    have hR6 := K6.get hR3
    simp only [sx, x_box, x_alloc, x_bslice, x_slice, x_appz, x_b2s, xop, ev, evs, evParts, fillL, cellsL, Ai.get, Ai.put, stab, isNil?, if_false, if_true, addr?, int?, str?, agg?, bool?, shiftA, FnPost, xresL, xres1, tup, argEnv, ptr, Nat.reduceEqDiff, reduceIte, beq_self_eq_true, ne_eq, Nat.reduceAdd, Nat.reduceMul, Nat.reduceSub, abin_shl, abin_shr, load1V, loadV, storeV, cellsAt, setN, allocV, lenL, lenS, bnd, oneC, Value.oneCell', Nat.reduceLeDiff, Nat.reduceLT, exists_eq_left', forall_const, reduceCtorEq, app_new, app_new0, List.append_assoc, Int.reduceToNat, Int.reduceLT, Int.reduceLE, Int.reduceEq, Int.reduceNe, Int.reduceBEq, IntKind.bits, bne_self_eq_false, Int.reducePow, Ms.cells, hl5, r5]
    have K7 := Kp.app g6 [some (AObj.mk true [Value.int IntKind.u8 m'.kind, .int .u32 m'.serial, .int .i64 m'.first, .slice mq' m'.mask.length mc', .slice oq' m'.on.length oc'])]
    have h7 := app_one g6 (some (AObj.mk true [Value.int IntKind.u8 m'.kind, .int .u32 m'.serial, .int .i64 m'.first, .slice mq' m'.mask.length mc', .slice oq' m'.on.length oc']))
    have M7 := M6.frz K7.frz
    have O7 := O6.frz K7.frz
    have hA7 := K7.get hA6
    have hR7 := K7.get hR6
    have M7b := (M3.frz K6.frz).frz K7.frz
    have O7b := (O3.frz K6.frz).frz K7.frz
    have K07 := K6.trans K7
    generalize g6 ++ [some (AObj.mk true [Value.int IntKind.u8 m'.kind, .int .u32 m'.serial, .int .i64 m'.first, .slice mq' m'.mask.length mc', .slice oq' m'.on.length oc'])] = g7 at *
    generalize g6.length = P7 at *
    clear hA6 hR6 M6 O6 K7 K6 hR3 M3 O3 hA
    have nfl : firstV 1 g7 (enc m').length (.slice (some ⟨A, 0, none⟩) (enc m').length (enc m').length) = some (bN (enc m')) := by
      have hn0 : ¬ (enc m').length = 0 := by omega
      simp only [firstV, if_neg hn0, cellsAt, hA7, Nat.mul_one]
      simpa using getN_all _ _ (bN_len (enc m')).symm
    refine append_run (k := 1) (by_ := 1) (n := 0) (m := (enc m').length) (rows := []) (news := bN (enc m')) (sl := .slice none 0 0) (xv := .slice (some ⟨A, 0, none⟩) (enc m').length (enc m').length) rfl (by decide) rfl rfl rfl nfl (by rw [bN_len, Nat.mul_one]) (bN_one _) (RetN.nil 1 _).toO (by omega) (by omega) (fun h0 => by omega) (fun _ g8 A8 hA8 hg8 hl8 hf8 => ?_)
    have K8 : Kp g7 g8 := ⟨by omega, fun B hB => hf8 B hB (by simp [slB])⟩
    have hg8' : g8[A8]? = some (some ⟨true, bN (enc m')⟩) := by simpa using hg8
    have h7' := K8.get h7
    simp only [sx, x_box, x_alloc, x_bslice, x_slice, x_appz, x_b2s, xop, ev, evs, evParts, fillL, cellsL, Ai.get, Ai.put, stab, isNil?, if_false, if_true, addr?, int?, str?, agg?, bool?, shiftA, FnPost, xresL, xres1, tup, argEnv, ptr, Nat.reduceEqDiff, reduceIte, beq_self_eq_true, ne_eq, Nat.reduceAdd, Nat.reduceMul, Nat.reduceSub, abin_shl, abin_shr, load1V, loadV, storeV, cellsAt, setN, allocV, lenL, lenS, bnd, oneC, Value.oneCell', Nat.reduceLeDiff, Nat.reduceLT, exists_eq_left', forall_const, reduceCtorEq, app_new, app_new0, List.append_assoc, Int.reduceToNat, Int.reduceLT, Int.reduceLE, Int.reduceEq, Int.reduceNe, Int.reduceBEq, IntKind.bits, bne_self_eq_false, Int.reducePow]
    have Kb := Kp.app g8 [some (AObj.mk true [Value.int IntKind.u8 0])]
    have hx1 := app_one g8 (some (AObj.mk true [Value.int IntKind.u8 0]))
    have hg9 := Kb.get hg8'
    have hlb : (g8 ++ [some (AObj.mk true [Value.int IntKind.u8 0])]).length = g8.length + 1 := by simp
    have K79 := K8.trans Kb
    have h8lt := lt_of_get hg8'
    generalize g8 ++ [some (AObj.mk true [Value.int IntKind.u8 0])] = g9 at *
    have hf1 : firstV 1 g9 1 (.slice (some ⟨g8.length, 0, none⟩) 1 1) = some [.int .u8 0] := by simp [firstV, cellsAt, hx1, getN]
    have e0L : 0 + (enc m').length = (enc m').length := by omega
    have R9 : RetO 1 g9 (.slice (some ⟨A8, 0, none⟩) (enc m').length (unk + 1)) (enc m').length (bN (enc m')) := by
      exact (RetN.all hg9 (by rw [bN_len, Nat.mul_one])).toO
    refine append_run (k := 1) (by_ := 1) (n := (enc m').length) (m := 1) (rows := bN (enc m')) (news := [.int .u8 0]) (sl := .slice (some ⟨A8, 0, none⟩) (enc m').length (unk + 1)) (xv := .slice (some ⟨g8.length, 0, none⟩) 1 1) rfl (by decide) rfl rfl rfl hf1 rfl rfl R9 (by omega) (by omega) (fun h0 => by omega) (fun _ g10 A10 hA10 hg10 hl10 hf10 => ?_)
    have keep : ∀ {B : Nat} {y : Option AObj}, g7[B]? = some y → g10[B]? = some y := fun {B y} hB => by
      have hlt := lt_of_get hB
      have := K79.1
      rw [hf10 B (by omega) (by simp only [slB, ne_eq, Option.some.injEq]; omega)]
      exact K79.get hB
    have K710 : Kp g7 g10 := ⟨by have := K79.1; omega, fun B hB => by
      rw [hf10 B (by have := K79.1; omega) (by simp only [slB, ne_eq, Option.some.injEq]; omega)]; exact K79.2 B hB⟩
    clear K79 Kb K8 hx1 hg9 hlb R9 hf1 hf10 hg8 hg8' h7' hf8 nfl
    have hg10' : g10[A10]? = some (some ⟨true, bN (enc m' ++ [0])⟩) := by rw [hg10, bN_app]; rfl
    have el1 : (enc m').length + 1 = (enc m' ++ [0]).length := by simp
    have hmem1 : ∀ y ∈ enc m' ++ [0], y < 256 := fun y hy => by
      rcases List.mem_append.1 hy with hy | hy
      · exact hmem y hy
      · have : y = 0 := by simpa using hy
        omega
    have bsl1 : ByS g10 (.slice (some ⟨A10, 0, none⟩) ((enc m').length + 1) (unk + 1)) (enc m' ++ [0]) := by
      rw [el1]; exact ByS.own hg10' hmem1 (.inr rfl) (by rw [← el1]; unfold unk; omega)
    simp only [sx, x_box, x_alloc, x_bslice, x_slice, x_appz, x_b2s, xop, ev, evs, evParts, fillL, cellsL, Ai.get, Ai.put, stab, isNil?, if_false, if_true, addr?, int?, str?, agg?, bool?, shiftA, FnPost, xresL, xres1, tup, argEnv, ptr, Nat.reduceEqDiff, reduceIte, beq_self_eq_true, ne_eq, Nat.reduceAdd, Nat.reduceMul, Nat.reduceSub, abin_shl, abin_shr, load1V, loadV, storeV, cellsAt, setN, allocV, lenL, lenS, bnd, oneC, Value.oneCell', Nat.reduceLeDiff, Nat.reduceLT, exists_eq_left', forall_const, reduceCtorEq, app_new, app_new0, List.append_assoc, Int.reduceToNat, Int.reduceLT, Int.reduceLE, Int.reduceEq, Int.reduceNe, Int.reduceBEq, IntKind.bits, bne_self_eq_false, Int.reducePow]
    refine xcall (decode_ok bsl1 (by rw [← el1]; omega)) (by rfl) (by rfl) (by rfl) (by rfl) ?_
    rintro r g11 ⟨K11, ⟨-, rfl⟩ | ⟨m2, -, -, hd2, -⟩⟩
    rotate_left
    · exact (hd2.more hok).elim
    have Kc := Kp.app g11 [some (AObj.mk true [Value.int IntKind.u8 0, .int .u32 0, .int .i64 0, .slice none 0 0, .slice none 0 0])]
    have K712 := (K710.trans K11).trans Kc
    have wl1 : IntKind.i64.wrap (((enc m').length : Int) - 1) = (((enc m').length - 1 : Nat) : Int) := by rw [i64_wrap] <;> omega
    simp only [sx, x_box, x_alloc, x_bslice, x_append, x_appz, x_b2s, xop, ev, evs, evParts, fillL, cellsL, Ai.get, Ai.put, stab, isNil?, if_false, if_true, addr?, int?, str?, agg?, bool?, shiftA, FnPost, xresL, xres1, tup, argEnv, ptr, Nat.reduceEqDiff, reduceIte, beq_self_eq_true, ne_eq, Nat.reduceAdd, Nat.reduceMul, Nat.reduceSub, abin_shl, abin_shr, load1V, loadV, storeV, cellsAt, setN, allocV, lenL, lenS, bnd, oneC, Value.oneCell', Nat.reduceLeDiff, Nat.reduceLT, exists_eq_left', forall_const, reduceCtorEq, app_new, app_new0, List.append_assoc, Int.reduceToNat, Int.reduceLT, Int.reduceLE, Int.reduceEq, Int.reduceNe, Int.reduceBEq, IntKind.bits, bne_self_eq_false, Int.reducePow, hl5, r5, wl1]
    generalize g11 ++ [some (AObj.mk true [Value.int IntKind.u8 0, .int .u32 0, .int .i64 0, .slice none 0 0, .slice none 0 0])] = g12 at *
    generalize g11.length = P12 at *
    clear K710 K11 Kc keep
    rw [x_slice, slice_hi (n := (enc m').length) (k := (enc m').length - 1) (by rfl) (by rfl) (by omega) hLu (by omega)]
    simp only [sx, x_box, x_alloc, x_bslice, x_append, x_appz, x_b2s, xop, ev, evs, evParts, fillL, cellsL, Ai.get, Ai.put, stab, isNil?, if_false, if_true, addr?, int?, str?, agg?, bool?, shiftA, FnPost, xresL, xres1, tup, argEnv, ptr, Nat.reduceEqDiff, reduceIte, beq_self_eq_true, ne_eq, Nat.reduceAdd, Nat.reduceMul, Nat.reduceSub, abin_shl, abin_shr, load1V, loadV, storeV, cellsAt, setN, allocV, lenL, lenS, bnd, oneC, Value.oneCell', Nat.reduceLeDiff, Nat.reduceLT, exists_eq_left', forall_const, reduceCtorEq, app_new, app_new0, List.append_assoc, Int.reduceToNat, Int.reduceLT, Int.reduceLE, Int.reduceEq, Int.reduceNe, Int.reduceBEq, IntKind.bits, bne_self_eq_false, Int.reducePow]
    have hA12 := K712.get hA7
    have bslt : ByS g12 (.slice (some ⟨A, 0, none⟩) ((enc m').length - 1) (enc m').length) ((enc m').take ((enc m').length - 1)) := by
      have el2 : (enc m').length - 1 = ((enc m').take ((enc m').length - 1)).length := by simp
      refine ⟨⟨_, _, by rw [← el2], fun i y hy => ?_⟩, _, _, by rw [← el2], .inl hLu, by rw [← el2]; omega, fun a e => by cases e; rfl, fun e => by cases e⟩
      have hi := (List.getElem?_eq_some_iff.1 hy).1
      rw [← el2] at hi
      rw [List.getElem?_take, if_pos hi] at hy
      exact ⟨hmem y (List.mem_of_getElem? hy), _, _, rfl, rfl, hA12, by rw [Nat.zero_add]; exact bN_get hy⟩
    refine xcall (decode_ok bslt (by simp; omega)) (by rfl) (by rfl) (by rfl) (by rfl) ?_
    rintro r g13 ⟨K13, ⟨-, rfl⟩ | ⟨m2, -, -, hd2, -⟩⟩
    rotate_left
    · exact (hd2.less hok).elim
    have Kc := Kp.app g13 [some (AObj.mk true [Value.int IntKind.u8 0, .int .u32 0, .int .i64 0, .slice none 0 0, .slice none 0 0])]
    have K714 := (K712.trans K13).trans Kc
    have h14 := K714.get h7
    have hR14 := K714.get hR7
    have M14 := M7.frz K714.frz
    have O14 := O7.frz K714.frz
    have M14b := M7b.frz K714.frz
    have O14b := O7b.frz K714.frz
    have ne44 : ¬ (4 : Int) ≠ 4 := by decide
    have hcap : ¬ ((enc m').length : Int) ≠ ((enc m').length : Nat) := fun h => h rfl
    simp only [sx, x_box, x_alloc, x_bslice, x_slice, x_append, x_appz, x_b2s, xop, ev, evs, evParts, fillL, cellsL, Ai.get, Ai.put, stab, isNil?, if_false, if_true, addr?, int?, str?, agg?, bool?, shiftA, FnPost, xresL, xres1, tup, argEnv, ptr, Nat.reduceEqDiff, reduceIte, beq_self_eq_true, ne_eq, Nat.reduceAdd, Nat.reduceMul, Nat.reduceSub, abin_shl, abin_shr, load1V, loadV, storeV, cellsAt, setN, allocV, lenL, lenS, bnd, oneC, Value.oneCell', Nat.reduceLeDiff, Nat.reduceLT, exists_eq_left', forall_const, reduceCtorEq, app_new, app_new0, List.append_assoc, Int.reduceToNat, Int.reduceLT, Int.reduceLE, Int.reduceEq, Int.reduceNe, Int.reduceBEq, IntKind.bits, bne_self_eq_false, Int.reducePow, hl5, r5, r2, e00, h14, hR14]
    refine xcall (same_ok (a := m') (b := m') ⟨_, _, rfl, M14, O14⟩ ⟨_, _, rfl, M14b, O14b⟩ (by omega) (by omega) (by omega) (by omega)) (by rfl) (by rfl) (by rfl) (by rfl) ?_
    rintro r g15 ⟨K15, tt, rfl, htt⟩
    obtain rfl : tt = true := htt.2 rfl
    simp only [sx, x_box, x_alloc, x_bslice, x_slice, x_append, x_appz, x_b2s, xop, ev, evs, evParts, fillL, cellsL, Ai.get, Ai.put, stab, isNil?, if_false, if_true, addr?, int?, str?, agg?, bool?, shiftA, FnPost, xresL, xres1, tup, argEnv, ptr, Nat.reduceEqDiff, reduceIte, beq_self_eq_true, ne_eq, Nat.reduceAdd, Nat.reduceMul, Nat.reduceSub, abin_shl, abin_shr, load1V, loadV, storeV, cellsAt, getN, setN, allocV, lenL, lenS, bnd, oneC, Value.oneCell', Nat.reduceLeDiff, Nat.reduceLT, exists_eq_left', forall_const, reduceCtorEq, app_new, app_new0, List.append_assoc, Int.reduceToNat, Int.reduceLT, Int.reduceLE, Int.reduceEq, Int.reduceNe, Int.reduceBEq, IntKind.bits, bne_self_eq_false, Int.reducePow, r5, ne44, hLu, hcap]
    exact ⟨r1, (K07.trans K714).trans K15⟩
  · clear r1 r2 r5 r6 r62 M3 O3 hR3 hE3
    rintro ρ g6 ⟨r1, K6⟩
    have V6 := V3.kp K6
    have f6 := K6.first f3
    have e40 : (4 : Int) ≠ 0 := by decide
    simp only [sx, x_box, x_alloc, x_bslice, x_slice, x_append, x_appz, x_b2s, xop, ev, evs, evParts, fillL, cellsL, Ai.get, Ai.put, stab, isNil?, if_false, if_true, addr?, int?, str?, agg?, bool?, shiftA, FnPost, xresL, xres1, tup, argEnv, ptr, Nat.reduceEqDiff, reduceIte, beq_self_eq_true, ne_eq, Nat.reduceAdd, Nat.reduceMul, Nat.reduceSub, abin_shl, abin_shr, load1V, loadV, storeV, cellsAt, getN, setN, allocV, lenL, lenS, bnd, oneC, Value.oneCell', Nat.reduceLeDiff, Nat.reduceLT, exists_eq_left', forall_const, reduceCtorEq, app_new, app_new0, List.append_assoc, Int.reduceToNat, Int.reduceLT, Int.reduceLE, Int.reduceEq, Int.reduceNe, Int.reduceBEq, IntKind.bits, bne_self_eq_false, Int.reducePow, r1]
    refine xcall (decode_ok V6 (by omega)) (by rfl) (by rfl) (by rfl) (by rfl) ?_
    rintro r g7 ⟨K7, ⟨hno, rfl⟩ | ⟨m2, mv2, ov2, hd2, rfl, M7, O7⟩⟩
    · simp only [sx, x_box, x_alloc, x_bslice, x_slice, x_append, x_appz, x_b2s, xop, ev, evs, evParts, fillL, cellsL, Ai.get, Ai.put, stab, isNil?, if_false, if_true, addr?, int?, str?, agg?, bool?, shiftA, FnPost, xresL, xres1, tup, argEnv, ptr, Nat.reduceEqDiff, reduceIte, beq_self_eq_true, ne_eq, Nat.reduceAdd, Nat.reduceMul, Nat.reduceSub, abin_shl, abin_shr, load1V, loadV, storeV, cellsAt, getN, setN, allocV, lenL, lenS, bnd, oneC, Value.oneCell', Nat.reduceLeDiff, Nat.reduceLT, exists_eq_left', forall_const, reduceCtorEq, app_new, app_new0, List.append_assoc, Int.reduceToNat, Int.reduceLT, Int.reduceLE, Int.reduceEq, Int.reduceNe, Int.reduceBEq, IntKind.bits, bne_self_eq_false, Int.reducePow, e40]
      refine xcall (same_ok (a := zM) (b := zM) (zM_mv _) (zM_mv _) (show 0 ≤ 1000000 by decide) (show 0 ≤ 1000000 by decide) (show 0 ≤ 1000000 by decide) (show 0 ≤ 1000000 by decide)) (by rfl) (by rfl) (by rfl) (by rfl) ?_
      rintro r g8 ⟨K8, tt, rfl, htt⟩
      obtain rfl : tt = true := htt.2 rfl
      simp only [sx, x_box, x_alloc, x_bslice, x_slice, x_append, x_appz, x_b2s, xop, ev, evs, evParts, fillL, cellsL, Ai.get, Ai.put, stab, isNil?, if_false, if_true, addr?, int?, str?, agg?, bool?, shiftA, FnPost, xresL, xres1, tup, argEnv, ptr, Nat.reduceEqDiff, reduceIte, beq_self_eq_true, ne_eq, Nat.reduceAdd, Nat.reduceMul, Nat.reduceSub, abin_shl, abin_shr, load1V, loadV, storeV, cellsAt, getN, setN, allocV, lenL, lenS, bnd, oneC, Value.oneCell', Nat.reduceLeDiff, Nat.reduceLT, exists_eq_left', forall_const, reduceCtorEq, app_new, app_new0, List.append_assoc, Int.reduceToNat, Int.reduceLT, Int.reduceLE, Int.reduceEq, Int.reduceNe, Int.reduceBEq, IntKind.bits, bne_self_eq_false, Int.reducePow]
      refine xcall (lives_ok _) (by rfl) (by rfl) (by rfl) (by rfl) ?_
      rintro r g9 rfl
      simp only [sx, x_box, x_alloc, x_bslice, x_slice, x_append, x_appz, x_b2s, xop, ev, evs, evParts, fillL, cellsL, Ai.get, Ai.put, stab, isNil?, if_false, if_true, addr?, int?, str?, agg?, bool?, shiftA, FnPost, xresL, xres1, tup, argEnv, ptr, Nat.reduceEqDiff, reduceIte, beq_self_eq_true, ne_eq, Nat.reduceAdd, Nat.reduceMul, Nat.reduceSub, abin_shl, abin_shr, load1V, loadV, storeV, cellsAt, getN, setN, allocV, lenL, lenS, bnd, oneC, Value.oneCell', Nat.reduceLeDiff, Nat.reduceLT, exists_eq_left', forall_const, reduceCtorEq, app_new, app_new0, List.append_assoc, Int.reduceToNat, Int.reduceLT, Int.reduceLE, Int.reduceEq, Int.reduceNe, Int.reduceBEq, IntKind.bits, bne_self_eq_false, Int.reducePow]
    · obtain ⟨mq2, mc2, rfl⟩ := M7.shape
      obtain ⟨oq2, oc2, rfl⟩ := O7.shape
      have f7 := K7.first f6
      have Kc := Kp.app g7 [some (AObj.mk true [Value.int IntKind.u8 m2.kind, .int .u32 m2.serial, .int .i64 m2.first, .slice mq2 m2.mask.length mc2, .slice oq2 m2.on.length oc2])]
      have hm2 : m2.mask.length ≤ 9223372036854775807 := by
        obtain ⟨-, -, -, ⟨-, -, h⟩ | ⟨-, -, h, -⟩⟩ := hd2.2.1 <;> omega
      simp only [sx, x_box, x_alloc, x_bslice, x_slice, x_append, x_appz, x_b2s, xop, ev, evs, evParts, fillL, cellsL, Ai.get, Ai.put, stab, isNil?, if_false, if_true, addr?, int?, str?, agg?, bool?, shiftA, FnPost, xresL, xres1, tup, argEnv, ptr, Nat.reduceEqDiff, reduceIte, beq_self_eq_true, ne_eq, Nat.reduceAdd, Nat.reduceMul, Nat.reduceSub, abin_shl, abin_shr, load1V, loadV, storeV, cellsAt, setN, allocV, lenL, lenS, bnd, oneC, Value.oneCell', Nat.reduceLeDiff, Nat.reduceLT, exists_eq_left', forall_const, reduceCtorEq, app_new, app_new0, List.append_assoc, Int.reduceToNat, Int.reduceLT, Int.reduceLE, Int.reduceEq, Int.reduceNe, Int.reduceBEq, IntKind.bits, bne_self_eq_false, Int.reducePow, Ms.cells, hl5, e00]
      refine xcall (encode_ok (m := m2) ⟨_, _, rfl, M7.frz Kc.frz, O7.frz Kc.frz⟩ hm2) (by rfl) (by rfl) (by rfl) (by rfl) ?_
      rintro r g8 (⟨hno, -⟩ | ⟨-, A, rfl, hA, K8, -⟩)
      · exact absurd hd2.2.1 hno
      rw [hd2.2.2] at hA
      rw [hd2.2.2]
      have f8 := K8.first (Kc.first f7)
      have nfl : firstV 1 g8 bs.length (.slice (some ⟨A, 0, none⟩) bs.length bs.length) = some (bN bs) := by
        by_cases hn0 : bs.length = 0
        · have : bs = [] := List.eq_nil_of_length_eq_zero hn0
          subst this; rfl
        · simp only [firstV, if_neg hn0, cellsAt, hA, Nat.mul_one]
          simpa using getN_all _ _ (bN_len bs).symm
      obtain ⟨str, hstr⟩ := bytes_strN bs
      simp only [sx, x_box, x_alloc, x_bslice, x_slice, x_append, x_appz, xop, ev, evs, evParts, fillL, cellsL, Ai.get, Ai.put, stab, isNil?, if_false, if_true, addr?, int?, str?, agg?, bool?, shiftA, FnPost, xresL, xres1, tup, argEnv, ptr, Nat.reduceEqDiff, reduceIte, beq_self_eq_true, ne_eq, Nat.reduceAdd, Nat.reduceMul, Nat.reduceSub, abin_shl, abin_shr, load1V, loadV, storeV, cellsAt, getN, setN, allocV, lenL, lenS, bnd, oneC, Value.oneCell', Nat.reduceLeDiff, Nat.reduceLT, exists_eq_left', forall_const, reduceCtorEq, app_new, app_new0, List.append_assoc, Int.reduceToNat, Int.reduceLT, Int.reduceLE, Int.reduceEq, Int.reduceNe, Int.reduceBEq, IntKind.bits, bne_self_eq_false, Int.reducePow, r1]
      rw [x_b2s, b2s_runN (by rfl) nfl hstr]
      simp only [sx, x_box, x_alloc, x_bslice, x_slice, x_append, x_appz, xop, ev, evs, evParts, fillL, cellsL, Ai.get, Ai.put, stab, isNil?, if_false, if_true, addr?, int?, str?, agg?, bool?, shiftA, FnPost, xresL, xres1, tup, argEnv, ptr, Nat.reduceEqDiff, reduceIte, beq_self_eq_true, ne_eq, Nat.reduceAdd, Nat.reduceMul, Nat.reduceSub, abin_shl, abin_shr, load1V, loadV, storeV, cellsAt, getN, setN, allocV, lenL, lenS, bnd, oneC, Value.oneCell', Nat.reduceLeDiff, Nat.reduceLT, exists_eq_left', forall_const, reduceCtorEq, app_new, app_new0, List.append_assoc, Int.reduceToNat, Int.reduceLT, Int.reduceLE, Int.reduceEq, Int.reduceNe, Int.reduceBEq, IntKind.bits, bne_self_eq_false, Int.reducePow, r1]
      rw [x_b2s, b2s_runN (by rfl) f8 hstr]
      have hst : (str.toList == str.toList) = true := by simp
      simp only [sx, x_box, x_alloc, x_bslice, x_slice, x_append, x_appz, x_b2s, xop, ev, evs, evParts, fillL, cellsL, Ai.get, Ai.put, stab, isNil?, if_false, if_true, addr?, int?, str?, agg?, bool?, shiftA, FnPost, xresL, xres1, tup, argEnv, ptr, Nat.reduceEqDiff, reduceIte, beq_self_eq_true, ne_eq, Nat.reduceAdd, Nat.reduceMul, Nat.reduceSub, abin_shl, abin_shr, load1V, loadV, storeV, cellsAt, getN, setN, allocV, lenL, lenS, bnd, oneC, Value.oneCell', Nat.reduceLeDiff, Nat.reduceLT, exists_eq_left', forall_const, reduceCtorEq, app_new, app_new0, List.append_assoc, Int.reduceToNat, Int.reduceLT, Int.reduceLE, Int.reduceEq, Int.reduceNe, Int.reduceBEq, IntKind.bits, bne_self_eq_false, Int.reducePow, hst]
      refine xcall (lives_ok _) (by rfl) (by rfl) (by rfl) (by rfl) ?_
      rintro r g9 rfl
      simp only [sx, x_box, x_alloc, x_bslice, x_slice, x_append, x_appz, x_b2s, xop, ev, evs, evParts, fillL, cellsL, Ai.get, Ai.put, stab, isNil?, if_false, if_true, addr?, int?, str?, agg?, bool?, shiftA, FnPost, xresL, xres1, tup, argEnv, ptr, Nat.reduceEqDiff, reduceIte, beq_self_eq_true, ne_eq, Nat.reduceAdd, Nat.reduceMul, Nat.reduceSub, abin_shl, abin_shr, load1V, loadV, storeV, cellsAt, getN, setN, allocV, lenL, lenS, bnd, oneC, Value.oneCell', Nat.reduceLeDiff, Nat.reduceLT, exists_eq_left', forall_const, reduceCtorEq, app_new, app_new0, List.append_assoc, Int.reduceToNat, Int.reduceLT, Int.reduceLE, Int.reduceEq, Int.reduceNe, Int.reduceBEq, IntKind.bits, bne_self_eq_false, Int.reducePow]
end Go.Proofs.Ytejgaeinkojgpaa
