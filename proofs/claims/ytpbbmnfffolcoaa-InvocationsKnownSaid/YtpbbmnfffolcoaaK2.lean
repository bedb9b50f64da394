import Derived.Test.YtpbbmnfffolcoaaK1
set_option linter.unusedVariables false
set_option linter.unusedSimpArgs false
namespace Go.Proofs.Ytpbbmnfffolcoaa
open Go Go.Ai Go.Proofs

theorem u8_mod (n : Nat) : IntKind.u8.wrap (n : Int) = ((n % 256 : Nat) : Int) := by
  rw [IntKind.wrap_u8]; omega
theorem getN_app {l t r : List Value} {o n : Nat} (h : getN l o n = some r) : getN (l ++ t) o n = some r := by
  obtain ⟨h1, h2⟩ := (getN_eq _ _ _ _).1 h
  refine (getN_eq _ _ _ _).2 ⟨?_, ?_⟩
  · simp only [List.length_append]; split at h1 <;> split <;> omega
  · by_cases hn : n = 0
    · subst hn; rw [h2]; simp
    · rw [if_neg hn] at h1
      rw [h2, List.drop_append_of_le_length (by omega), List.take_append_of_le_length (by rw [List.length_drop]; omega)]
theorem KnA.keep {h0 h h' : AHeap} {sl : Value} {n : Nat} {rows : List Value} (k : KnA h0 h sl n rows) (K : Kp h h') : KnA h0 h' sl n rows :=
  ⟨k.kp.trans K, k.ret.keep fun X x hX hx => K.get hx, k.ow.keep fun X hX => K.2 X (k.ow.lt hX), k.far, fun j hj => by
    obtain ⟨a, X, h1, h2, h3, h4, h5⟩ := k.act j hj
    exact ⟨a, X, h1, h2, h3, K.get h4, h5⟩⟩
def acK (k i : Nat) : Ac := ⟨k % 256, k / 3 % 256, k / 7 % 256, k / 11 % 256, [i % 256]⟩
theorem acK_ok (k i : Nat) : (acK k i).Ok := ⟨Nat.mod_lt _ (by decide), Nat.mod_lt _ (by decide), Nat.mod_lt _ (by decide), Nat.mod_lt _ (by decide), fun n hn => by
  rw [show (acK k i).val = [i % 256] from rfl, List.mem_singleton] at hn
  rw [hn]; exact Nat.mod_lt _ (by decide)⟩
def KoI (h0 : AHeap) (m : Nat) (ρ : Env) (h : AHeap) : Prop := ∃ n k : Nat, n + m = 30 ∧ get ρ 2 = some (.int .i64 (n : Nat)) ∧ get ρ 1 = some (.int .i64 (k : Nat)) ∧ k < 100003 ∧ Kp h0 h
def KoE (h0 : AHeap) (ρ : Env) (h : AHeap) : Prop := Kp h0 h
def KiI (h0 : AHeap) (n : Nat) (m : Nat) (ρ : Env) (h : AHeap) : Prop := ∃ (i k : Nat) (sl : Value) (rows : List Value), i + m = 60 ∧ get ρ 4 = some (.int .i64 (i : Nat)) ∧ get ρ 3 = some sl ∧ get ρ 2 = some (.int .i64 (n : Nat)) ∧ get ρ 1 = some (.int .i64 (k : Nat)) ∧ k < 100003 ∧ KnA h0 h sl i rows
def KiE (h0 : AHeap) (n : Nat) (ρ : Env) (h : AHeap) : Prop := ∃ (k : Nat) (sl : Value) (rows : List Value), get ρ 3 = some sl ∧ get ρ 2 = some (.int .i64 (n : Nat)) ∧ get ρ 1 = some (.int .i64 (k : Nat)) ∧ k < 100003 ∧ KnA h0 h sl 60 rows
def KaI (h0 : AHeap) (B : Nat) (m : Nat) (ρ : Env) (h : AHeap) : Prop := ∃ (i : Nat) (dv : Value), i + m = 128 ∧ get ρ 6 = some (.int .i64 (i : Nat)) ∧ get ρ 5 = some (.pointer (some ⟨B, 0, none⟩)) ∧ KB h0 h B (bA i) dv
def KaE (h0 : AHeap) (B : Nat) (ρ : Env) (h : AHeap) : Prop := ∃ dv : Value, get ρ 5 = some (.pointer (some ⟨B, 0, none⟩)) ∧ KB h0 h B (bA 128) dv
/-- the book, the bytes and the component -/
structure KS (h0 h : AHeap) (B D T : Nat) (t n : Nat) (dv : Value) : Prop where
  k : KB h0 h B (bP t) dv
  d : ∃ w, h[D]? = some (some ⟨w, bN (List.replicate n 0)⟩)
  tt : h[T]? = some (some ⟨true, [.int .u8 3, .int .i64 4, .int .i64 0, .int .i64 1, .int .u8 0, .slice (some ⟨D, 0, none⟩) n n]⟩)
  nd : ¬ ftB B dv D
  nt : ¬ ftB B dv T
  ne : T ≠ D
  ld : h0.length ≤ D
  lt : h0.length ≤ T
theorem KS.keep {h0 h h' : AHeap} {B D T t n : Nat} {dv : Value} (s : KS h0 h B D T t n dv) (K : Kp h h') : KS h0 h' B D T t n dv :=
  ⟨s.k.keep K, s.d.imp fun w e => K.get e, K.get s.tt, s.nd, s.nt, s.ne, s.ld, s.lt⟩
/-- the part is heard -/
theorem KS.hear {h0 h : AHeap} {B D T t n : Nat} {dv : Value} (s : KS h0 h B D T t n dv) (ht : t ≤ 65536) (hn : n ≤ 2000) :
    Valid Try.prog 17 [.pointer (some ⟨B, 0, none⟩), .agg #[.int .u8 3, .int .i64 4, .int .i64 0, .int .i64 1, .int .u8 0, .slice (some ⟨D, 0, none⟩) n n]] h fun r h' => ∃ dv', KB h0 h' B ((bP t).heard (mP n)).1 dv' ∧ (∃ w, h'[D]? = some (some ⟨w, bN (List.replicate n 0)⟩)) ∧ ¬ ftB B dv' D ∧ h'[T]? = some (some ⟨true, [.int .u8 3, .int .i64 4, .int .i64 0, .int .i64 1, .int .u8 0, .slice (some ⟨D, 0, none⟩) n n]⟩) ∧ ¬ ftB B dv' T ∧ r = match ((bP t).heard (mP n)).2 with
    | none => .tuple #[zC, .bool false, .int .i64 0]
    | some p => .tuple #[.agg #[.int .u8 5, .int .i64 4, .int .i64 0, .int .i64 0, .int .u8 p, .slice none 0 0], .bool true, .int .i64 0] := by
  obtain ⟨w, hD⟩ := s.d
  have hvl : (mP n).val.length = n := by show (List.replicate n 0).length = n; rw [List.length_replicate]
  have key : Valid Try.prog 17 [.pointer (some ⟨B, 0, none⟩), .agg #[.int .u8 3, .int .i64 4, .int .i64 0, .int .i64 1, .int .u8 0, .slice (some ⟨D, 0, none⟩) n n]] (h.set D (some ⟨false, bN (List.replicate n 0)⟩)) fun r h' => ∃ dv', KB h0 h' B ((bP t).heard (mP n)).1 dv' ∧ (∃ w, h'[D]? = some (some ⟨w, bN (List.replicate n 0)⟩)) ∧ ¬ ftB B dv' D ∧ h'[T]? = some (some ⟨true, [.int .u8 3, .int .i64 4, .int .i64 0, .int .i64 1, .int .u8 0, .slice (some ⟨D, 0, none⟩) n n]⟩) ∧ ¬ ftB B dv' T ∧ r = match ((bP t).heard (mP n)).2 with
    | none => .tuple #[zC, .bool false, .int .i64 0]
    | some p => .tuple #[.agg #[.int .u8 5, .int .i64 4, .int .i64 0, .int .i64 0, .int .u8 p, .slice none 0 0], .bool true, .int .i64 0] := by
    have hDs : (h.set D (some ⟨false, bN (List.replicate n 0)⟩))[D]? = some (some ⟨false, bN (List.replicate n 0)⟩) := List.getElem?_set_self (lt_of_get hD)
    have hTs : (h.set D (some ⟨false, bN (List.replicate n 0)⟩))[T]? = _ := (set_ne s.ne.symm _).trans s.tt
    have z : Frz h (h.set D (some ⟨false, bN (List.replicate n 0)⟩)) := fun X cs hX => by
      by_cases e : D = X
      · subst e
        rw [hD] at hX; cases hX
        exact hDs
      · rw [set_ne e]; exact hX
    obtain ⟨rs, A⟩ := s.k.bk
    have A2 := A.keep z fun X hX => set_ne (fun e => s.nd (by rw [e]; exact hX)) _
    have k2 : KB h0 (h.set D (some ⟨false, bN (List.replicate n 0)⟩)) B (bP t) dv := ⟨s.k.kp.set s.ld _, ⟨rs, A2⟩, s.k.far⟩
    have V : BytesV (h.set D (some ⟨false, bN (List.replicate n 0)⟩)) (.slice (some ⟨D, 0, none⟩) n n) (mP n).val := ⟨some ⟨D, 0, none⟩, n, by rw [hvl], .inr ⟨_, _, rfl, rfl, hDs, getN_all _ _ (by rw [bN_len, hvl, List.length_replicate])⟩⟩
    refine (hear_ok (m := mP n) A2 ⟨_, rfl, V⟩ (bP_pb ht) (by show 1 ≤ 1000000; decide)).mono ?_
    rintro r h' P
    rcases P with ⟨p1, -⟩ | ⟨-, p2, -⟩ | ⟨-, -, -, W, hr⟩
    · omega
    · rcases p2 with p2 | p2
      · exact absurd (mP_ok n) p2
      · exact absurd (show (3 : Int) = 1 from p2) (by decide)
    obtain ⟨dv', k', kt⟩ := k2.book W
    exact ⟨dv', k', ⟨_, (kt D _ hDs s.nd).1⟩, (kt D _ hDs s.nd).2, (kt T _ hTs s.nt).1, (kt T _ hTs s.nt).2, hr⟩
  cases w with
  | true => exact Valid.pre hD key
  | false =>
    have : h.set D (some ⟨false, bN (List.replicate n 0)⟩) = h := by
      obtain ⟨hl, e⟩ := List.getElem?_eq_some_iff.1 hD
      rw [← e]; exact List.set_getElem_self hl
    rw [this] at key; exact key
/-- other bytes are put into it -/
theorem KS.again {h0 h : AHeap} {B D T t n : Nat} {dv : Value} (s : KS h0 h B D T t n dv) (n' : Nat) : KS h0 ((h ++ [some (AObj.mk true (bN (List.replicate n' 0)))]).set T (some ⟨true, [.int .u8 3, .int .i64 4, .int .i64 0, .int .i64 1, .int .u8 0, .slice (some ⟨h.length, 0, none⟩) n' n']⟩)) B h.length T t n' dv := by
  have K := Kp.app h [some (AObj.mk true (bN (List.replicate n' 0)))]
  have hD := app_one h (some (AObj.mk true (bN (List.replicate n' 0))))
  have k1 := s.k.keep K
  have hT := K.get s.tt
  have hTl := lt_of_get s.tt
  obtain ⟨rs, A⟩ := k1.bk
  refine ⟨⟨k1.kp.set s.lt _, ⟨rs, A.keep (fun X cs hX => by rw [set_ne (fun e => by subst e; rw [hT] at hX; cases hX)]; exact hX) fun X hX => set_ne (fun e => s.nt (by rw [e]; exact hX)) _⟩, k1.far⟩, ⟨true, (set_ne (by omega) _).trans hD⟩, List.getElem?_set_self (lt_of_get hT), fun e => by have := s.k.lt e; omega, s.nt, by omega, s.k.kp.1, s.lt⟩
def KhI (h0 : AHeap) (B D T : Nat) (m : Nat) (ρ : Env) (h : AHeap) : Prop := ∃ (t : Nat) (dv : Value), t + m = 32 ∧ get ρ 15 = some (.int .i64 (t : Nat)) ∧ get ρ 5 = some (.pointer (some ⟨B, 0, none⟩)) ∧ get ρ 14 = some (.pointer (some ⟨T, 0, none⟩)) ∧ KS h0 h B D T (2000 * t) 2000 dv
def KhE (h0 : AHeap) (B D T : Nat) (ρ : Env) (h : AHeap) : Prop := ∃ dv : Value, get ρ 5 = some (.pointer (some ⟨B, 0, none⟩)) ∧ get ρ 14 = some (.pointer (some ⟨T, 0, none⟩)) ∧ KS h0 h B D T 64000 2000 dv
set_option maxHeartbeats 16000000 in
set_option maxRecDepth 20000 in
theorem known_ok {h : AHeap} : Valid Try.prog 6 [] h fun r h' => r = .bool true := by
  refine v6 (by simp) ?_
  simp only [X6, sx, x_box, x_alloc, x_bslice, x_slice, x_append, x_appz, x_b2s, x_s2b, x_mark, xop, ev, evs, evParts, fillL, cellsL, Ai.get, Ai.put, stab, isNil?, if_false, if_true, addr?, int?, str?, agg?, bool?, shiftA, FnPost, xresL, xres1, tup, argEnv, ptr, Nat.reduceEqDiff, reduceIte, beq_self_eq_true, ne_eq, Nat.reduceAdd, Nat.reduceMul, Nat.reduceSub, abin_shl, abin_shr, load1V, loadV, storeV, cellsAt, getN, setN, allocV, lenL, lenS, bnd, oneC, Value.oneCell', Nat.reduceLeDiff, Nat.reduceLT, exists_eq_left', forall_const, reduceCtorEq, app_new, app_new0, List.append_assoc, Int.reduceToNat, Int.reduceLT, Int.reduceLE, Int.reduceEq, Int.reduceNe, Int.reduceBEq, IntKind.bits, bne_self_eq_false, Int.reducePow]
  refine xloop_cut (KoE h) ?_ ?_
  · refine xcode_loop (KoI h) 30 ⟨0, 1, by omega, rfl, rfl, by decide, Kp.refl _⟩ ?_
    rintro m ρ g ⟨n, k, hnm, r2, r1, hk, K⟩
    by_cases hn : n < 30
    rotate_left
    · have hn' : ¬ (n : Int) < 30 := by omega
      simp only [sx, x_box, x_alloc, x_bslice, x_slice, x_append, x_appz, x_b2s, x_s2b, x_mark, xop, ev, evs, evParts, fillL, cellsL, Ai.get, Ai.put, stab, isNil?, if_false, if_true, addr?, int?, str?, agg?, bool?, shiftA, FnPost, xresL, xres1, tup, argEnv, ptr, Nat.reduceEqDiff, reduceIte, beq_self_eq_true, ne_eq, Nat.reduceAdd, Nat.reduceMul, Nat.reduceSub, abin_shl, abin_shr, load1V, loadV, storeV, cellsAt, getN, setN, allocV, lenL, lenS, bnd, oneC, Value.oneCell', Nat.reduceLeDiff, Nat.reduceLT, exists_eq_left', forall_const, reduceCtorEq, app_new, app_new0, List.append_assoc, Int.reduceToNat, Int.reduceLT, Int.reduceLE, Int.reduceEq, Int.reduceNe, Int.reduceBEq, IntKind.bits, bne_self_eq_false, Int.reducePow, r2, hn']
      exact K
    have hn' : (n : Int) < 30 := by omega
    simp only [sx, x_box, x_alloc, x_bslice, x_slice, x_append, x_appz, x_b2s, x_s2b, x_mark, xop, ev, evs, evParts, fillL, cellsL, Ai.get, Ai.put, stab, isNil?, if_false, if_true, addr?, int?, str?, agg?, bool?, shiftA, FnPost, xresL, xres1, tup, argEnv, ptr, Nat.reduceEqDiff, reduceIte, beq_self_eq_true, ne_eq, Nat.reduceAdd, Nat.reduceMul, Nat.reduceSub, abin_shl, abin_shr, load1V, loadV, storeV, cellsAt, getN, setN, allocV, lenL, lenS, bnd, oneC, Value.oneCell', Nat.reduceLeDiff, Nat.reduceLT, exists_eq_left', forall_const, reduceCtorEq, app_new, app_new0, List.append_assoc, Int.reduceToNat, Int.reduceLT, Int.reduceLE, Int.reduceEq, Int.reduceNe, Int.reduceBEq, IntKind.bits, bne_self_eq_false, Int.reducePow, r2, hn']
    refine xloop_cut (KiE h n) ?_ ?_
    · refine xcode_loop (KiI h n) 60 ⟨0, k, .slice none 0 0, [], by omega, rfl, rfl, r2, r1, hk, ⟨K, ⟨rfl, .inl ⟨rfl, rfl⟩⟩, (fun X hX => by cases hX), (fun X hX => by cases hX), fun j hj => by omega⟩⟩ ?_
      clear r2 r1 hk K k ρ g
      rintro m' ρ g ⟨i, k, sl, rows, him, r4, r3, r2, r1, hk, A⟩
      by_cases hi : i < 60
      rotate_left
      · have hi' : ¬ (i : Int) < 60 := by omega
        have : i = 60 := by omega
        subst this
        simp only [sx, x_box, x_alloc, x_bslice, x_slice, x_append, x_appz, x_b2s, x_s2b, x_mark, xop, ev, evs, evParts, fillL, cellsL, Ai.get, Ai.put, stab, isNil?, if_false, if_true, addr?, int?, str?, agg?, bool?, shiftA, FnPost, xresL, xres1, tup, argEnv, ptr, Nat.reduceEqDiff, reduceIte, beq_self_eq_true, ne_eq, Nat.reduceAdd, Nat.reduceMul, Nat.reduceSub, abin_shl, abin_shr, load1V, loadV, storeV, cellsAt, getN, setN, allocV, lenL, lenS, bnd, oneC, Value.oneCell', Nat.reduceLeDiff, Nat.reduceLT, exists_eq_left', forall_const, reduceCtorEq, app_new, app_new0, List.append_assoc, Int.reduceToNat, Int.reduceLT, Int.reduceLE, Int.reduceEq, Int.reduceNe, Int.reduceBEq, IntKind.bits, bne_self_eq_false, Int.reducePow, r4, hi']
        exact ⟨k, sl, rows, r3, r2, r1, hk, A⟩
      have hi' : (i : Int) < 60 := by omega
      have q3 : IntKind.i64.wrap ((k : Int).tdiv 3) = ((k / 3 : Nat) : Int) := by rw [Int.tdiv_eq_ediv_of_nonneg (by omega), i64_wrap] <;> omega
      have q7 : IntKind.i64.wrap ((k : Int).tdiv 7) = ((k / 7 : Nat) : Int) := by rw [Int.tdiv_eq_ediv_of_nonneg (by omega), i64_wrap] <;> omega
      have q11 : IntKind.i64.wrap ((k : Int).tdiv 11) = ((k / 11 : Nat) : Int) := by rw [Int.tdiv_eq_ediv_of_nonneg (by omega), i64_wrap] <;> omega
      have w1 : IntKind.i64.wrap ((k : Int) * 31) = ((k * 31 : Nat) : Int) := by rw [i64_wrap] <;> omega
      have w2 : IntKind.i64.wrap (7 * (i : Int)) = ((7 * i : Nat) : Int) := by rw [i64_wrap] <;> omega
      have w3 : IntKind.i64.wrap (((k * 31 : Nat) : Int) + ((7 * i : Nat) : Int)) = ((k * 31 + 7 * i : Nat) : Int) := by rw [i64_wrap] <;> omega
      have w4 : IntKind.i64.wrap (((k * 31 + 7 * i : Nat) : Int) + 11) = ((k * 31 + 7 * i + 11 : Nat) : Int) := by rw [i64_wrap] <;> omega
      have w5 : ((k * 31 + 7 * i + 11 : Nat) : Int).tmod 100003 = (((k * 31 + 7 * i + 11) % 100003 : Nat) : Int) := by rw [Int.tmod_eq_emod_of_nonneg (by omega)]; omega
      have wi : IntKind.i64.wrap ((i : Int) + 1) = ((i + 1 : Nat) : Int) := by rw [i64_wrap] <;> omega
      obtain ⟨qs, cs, rfl, -⟩ := A.ret.shape
      simp only [sx, x_box, x_alloc, x_slice, x_appz, x_b2s, x_s2b, x_mark, xop, ev, evs, evParts, fillL, cellsL, Ai.get, Ai.put, stab, isNil?, if_false, if_true, addr?, int?, str?, agg?, bool?, shiftA, FnPost, xresL, xres1, tup, argEnv, ptr, Nat.reduceEqDiff, reduceIte, beq_self_eq_true, ne_eq, Nat.reduceAdd, Nat.reduceMul, Nat.reduceSub, abin_shl, abin_shr, load1V, loadV, storeV, cellsAt, getN, setN, allocV, lenL, lenS, bnd, oneC, Value.oneCell', Nat.reduceLeDiff, Nat.reduceLT, exists_eq_left', forall_const, reduceCtorEq, app_new, app_new0, List.append_assoc, Int.reduceToNat, Int.reduceLT, Int.reduceLE, Int.reduceEq, Int.reduceNe, Int.reduceBEq, IntKind.bits, bne_self_eq_false, Int.reducePow, r4, r3, r2, r1, hi', q3, q7, q11, u8_mod]
      refine bslice_run (v := .int .u8 ((i % 256 : Nat) : Int)) rfl rfl fun g1 X K1 hX hXl hg1 => ⟨trivial, ?_⟩
      simp only [sx, x_box, x_alloc, x_slice, x_appz, x_b2s, x_s2b, x_mark, xop, ev, evs, evParts, fillL, cellsL, Ai.get, Ai.put, stab, isNil?, if_false, if_true, addr?, int?, str?, agg?, bool?, shiftA, FnPost, xresL, xres1, tup, argEnv, ptr, Nat.reduceEqDiff, reduceIte, beq_self_eq_true, ne_eq, Nat.reduceAdd, Nat.reduceMul, Nat.reduceSub, abin_shl, abin_shr, load1V, loadV, storeV, cellsAt, getN, setN, allocV, lenL, lenS, bnd, oneC, Value.oneCell', Nat.reduceLeDiff, Nat.reduceLT, exists_eq_left', forall_const, reduceCtorEq, app_new, app_new0, List.append_assoc, Int.reduceToNat, Int.reduceLT, Int.reduceLE, Int.reduceEq, Int.reduceNe, Int.reduceBEq, IntKind.bits, bne_self_eq_false, Int.reducePow]
      refine bs5_run rfl fun g2 Y K2 hY hYl => ⟨trivial, ?_⟩
      have A2 := A.keep (K1.trans K2)
      have hX2 := K2.get hX
      have hXn := lt_of_get hX
      have hY2 := lt_of_get hY
      have hXo : ∀ Z, slB (.slice qs i cs) = some Z → Z < g.length := fun Z hZ => A.ow.lt hZ
      have hf : firstV 5 g2 1 (.slice (some ⟨Y, 0, none⟩) 1 1) = some ((acK k i).cells (.slice (some ⟨X, 0, none⟩) 1 1)) := by
        simp only [firstV]
        rw [if_neg (by decide), if_neg (by simp)]
        simp only [cellsAt, hY, Option.bind_some]; rfl
      refine mappK_run (k := 5) (by_ := 32) (g0 := h) (n := i) (m := 1) (rows := rows) (news := (acK k i).cells (.slice (some ⟨X, 0, none⟩) 1 1)) (sl := .slice qs i cs) (xv := .slice (some ⟨Y, 0, none⟩) 1 1) rfl (by decide) A2.kp A2.far rfl rfl rfl hf rfl rfl A2.ret A2.ow (by omega) (by omega) fun g5 sl' K5 n5 Rt O5 k5 nn5 => ⟨trivial, ?_⟩
      simp only [sx, x_box, x_alloc, x_slice, x_appz, x_b2s, x_s2b, x_mark, xop, ev, evs, evParts, fillL, cellsL, Ai.get, Ai.put, stab, isNil?, if_false, if_true, addr?, int?, str?, agg?, bool?, shiftA, FnPost, xresL, xres1, tup, argEnv, ptr, Nat.reduceEqDiff, reduceIte, beq_self_eq_true, ne_eq, Nat.reduceAdd, Nat.reduceMul, Nat.reduceSub, abin_shl, abin_shr, load1V, loadV, storeV, cellsAt, getN, setN, allocV, lenL, lenS, bnd, oneC, Value.oneCell', Nat.reduceLeDiff, Nat.reduceLT, exists_eq_left', forall_const, reduceCtorEq, app_new, app_new0, List.append_assoc, Int.reduceToNat, Int.reduceLT, Int.reduceLE, Int.reduceEq, Int.reduceNe, Int.reduceBEq, IntKind.bits, bne_self_eq_false, Int.reducePow, r1, r4, w1, w2, w3, w4, w5, wi]
      have hlk : (k * 31 + 7 * i + 11) % 100003 < 100003 := Nat.mod_lt _ (by decide)
      refine ⟨m' - 1, by omega, i + 1, (k * 31 + 7 * i + 11) % 100003, sl', _, by omega, rfl, rfl, r2, rfl, hlk, ⟨K5, Rt, O5, n5, fun j hj => ?_⟩⟩
      by_cases hji : j < i
      · obtain ⟨a, Z, oa, hv, hg, hZ, hne⟩ := A2.act j hji
        have hZ1 : Z < g.length := by
          obtain ⟨a', Z', -, -, hg', hZ', -⟩ := A.act j hji
          rw [hg] at hg'
          have e := Option.some.inj hg'
          simp only [Ac.cells, List.cons.injEq, Value.slice.injEq, Option.some.injEq, Addr.mk.injEq] at e
          rw [e.2.2.2.2.1.1.1]; exact lt_of_get hZ'
        refine ⟨a, Z, oa, hv, getN_app hg, k5 Z _ hne hZ, fun e => ?_⟩
        rcases nn5 Z e with h1 | h1
        · exact hne h1
        · have := K1.1; have := K2.1; omega
      · have : j = i := by omega
        subst this
        have hXs : slB (.slice qs j cs) ≠ some X := fun e => by have := hXo X e; omega
        refine ⟨acK k j, X, acK_ok k j, rfl, ?_, k5 X _ hXs hX2, fun e => ?_⟩
        · have hl : rows.length = j * 5 := A.ret.1
          refine (getN_eq _ _ _ _).2 ⟨?_, ?_⟩
          · simp only [List.length_append, hl]
            show _ ≤ j * 5 + 5
            simp
          · rw [← hl, List.drop_left]; rfl
        · rcases nn5 X e with h1 | h1
          · exact hXs h1
          · have := K2.1; omega
    · clear r2 r1 hk K k ρ g
      rintro ρ g ⟨k, sl, rows, r3, r2, r1, hk, A⟩
      obtain ⟨qs, cs, rfl, W⟩ := A.acts
      simp only [sx, x_box, x_alloc, x_bslice, x_slice, x_append, x_appz, x_b2s, x_s2b, x_mark, xop, ev, evs, evParts, fillL, cellsL, Ai.get, Ai.put, stab, isNil?, if_false, if_true, addr?, int?, str?, agg?, bool?, shiftA, FnPost, xresL, xres1, tup, argEnv, ptr, Nat.reduceEqDiff, reduceIte, beq_self_eq_true, ne_eq, Nat.reduceAdd, Nat.reduceMul, Nat.reduceSub, abin_shl, abin_shr, load1V, loadV, storeV, cellsAt, getN, setN, allocV, lenL, lenS, bnd, oneC, Value.oneCell', Nat.reduceLeDiff, Nat.reduceLT, exists_eq_left', forall_const, reduceCtorEq, app_new, app_new0, List.append_assoc, Int.reduceToNat, Int.reduceLT, Int.reduceLE, Int.reduceEq, Int.reduceNe, Int.reduceBEq, IntKind.bits, bne_self_eq_false, Int.reducePow, r3]
      refine xcall (acts_ok (by decide) W) (by rfl) (by rfl) (by rfl) (by rfl) ?_
      rintro r g2 ⟨rfl, K2⟩
      obtain ⟨q2, c2, e2, W2⟩ := (A.keep K2).acts
      rw [Value.slice.injEq] at e2
      obtain ⟨rfl, -, rfl⟩ := e2
      simp only [sx, x_box, x_alloc, x_bslice, x_slice, x_append, x_appz, x_b2s, x_s2b, x_mark, xop, ev, evs, evParts, fillL, cellsL, Ai.get, Ai.put, stab, isNil?, if_false, if_true, addr?, int?, str?, agg?, bool?, shiftA, FnPost, xresL, xres1, tup, argEnv, ptr, Nat.reduceEqDiff, reduceIte, beq_self_eq_true, ne_eq, Nat.reduceAdd, Nat.reduceMul, Nat.reduceSub, abin_shl, abin_shr, load1V, loadV, storeV, cellsAt, getN, setN, allocV, lenL, lenS, bnd, oneC, Value.oneCell', Nat.reduceLeDiff, Nat.reduceLT, exists_eq_left', forall_const, reduceCtorEq, app_new, app_new0, List.append_assoc, Int.reduceToNat, Int.reduceLT, Int.reduceLE, Int.reduceEq, Int.reduceNe, Int.reduceBEq, IntKind.bits, bne_self_eq_false, Int.reducePow, r3]
      refine xcall (once_ok (by decide) W2) (by rfl) (by rfl) (by rfl) (by rfl) ?_
      rintro r g3 ⟨rfl, K3⟩
      have wn : IntKind.i64.wrap ((n : Int) + 1) = ((n + 1 : Nat) : Int) := by rw [i64_wrap] <;> omega
      simp only [sx, x_box, x_alloc, x_bslice, x_slice, x_append, x_appz, x_b2s, x_s2b, x_mark, xop, ev, evs, evParts, fillL, cellsL, Ai.get, Ai.put, stab, isNil?, if_false, if_true, addr?, int?, str?, agg?, bool?, shiftA, FnPost, xresL, xres1, tup, argEnv, ptr, Nat.reduceEqDiff, reduceIte, beq_self_eq_true, ne_eq, Nat.reduceAdd, Nat.reduceMul, Nat.reduceSub, abin_shl, abin_shr, load1V, loadV, storeV, cellsAt, getN, setN, allocV, lenL, lenS, bnd, oneC, Value.oneCell', Nat.reduceLeDiff, Nat.reduceLT, exists_eq_left', forall_const, reduceCtorEq, app_new, app_new0, List.append_assoc, Int.reduceToNat, Int.reduceLT, Int.reduceLE, Int.reduceEq, Int.reduceNe, Int.reduceBEq, IntKind.bits, bne_self_eq_false, Int.reducePow, r2, wn]
      exact ⟨m - 1, by omega, n + 1, k, by omega, rfl, r1, hk, A.kp.trans (K2.trans K3)⟩
  intro ρ g K
  replace K : Kp h g := K
  simp only [sx, x_box, x_alloc, x_bslice, x_slice, x_append, x_appz, x_b2s, x_s2b, x_mark, xop, ev, evs, evParts, fillL, cellsL, Ai.get, Ai.put, stab, isNil?, if_false, if_true, addr?, int?, str?, agg?, bool?, shiftA, FnPost, xresL, xres1, tup, argEnv, ptr, Nat.reduceEqDiff, reduceIte, beq_self_eq_true, ne_eq, Nat.reduceAdd, Nat.reduceMul, Nat.reduceSub, abin_shl, abin_shr, load1V, loadV, storeV, cellsAt, getN, setN, allocV, lenL, lenS, bnd, oneC, Value.oneCell', Nat.reduceLeDiff, Nat.reduceLT, exists_eq_left', forall_const, reduceCtorEq, app_new, app_new0, List.append_assoc, Int.reduceToNat, Int.reduceLT, Int.reduceLE, Int.reduceEq, Int.reduceNe, Int.reduceBEq, IntKind.bits, bne_self_eq_false, Int.reducePow]
  refine xcall new_ok (by rfl) (by rfl) (by rfl) (by rfl) ?_
  rintro r g2 ⟨B, rfl, A, K2, hBl⟩
  have k0 : KB h g2 B (bA 0) (.slice none 0 0) := ⟨K.trans K2, ⟨_, A⟩, fun X hX => by
    rcases hX with rfl | hX
    · exact Nat.le_trans K.1 hBl
    · cases hX⟩
  simp only [sx, x_box, x_alloc, x_bslice, x_slice, x_append, x_appz, x_b2s, x_s2b, x_mark, xop, ev, evs, evParts, fillL, cellsL, Ai.get, Ai.put, stab, isNil?, if_false, if_true, addr?, int?, str?, agg?, bool?, shiftA, FnPost, xresL, xres1, tup, argEnv, ptr, Nat.reduceEqDiff, reduceIte, beq_self_eq_true, ne_eq, Nat.reduceAdd, Nat.reduceMul, Nat.reduceSub, abin_shl, abin_shr, load1V, loadV, storeV, cellsAt, getN, setN, allocV, lenL, lenS, bnd, oneC, Value.oneCell', Nat.reduceLeDiff, Nat.reduceLT, exists_eq_left', forall_const, reduceCtorEq, app_new, app_new0, List.append_assoc, Int.reduceToNat, Int.reduceLT, Int.reduceLE, Int.reduceEq, Int.reduceNe, Int.reduceBEq, IntKind.bits, bne_self_eq_false, Int.reducePow]
  refine xloop_cut (KaE h B) ?_ ?_
  · refine xcode_loop (KaI h B) 128 ⟨0, _, by omega, rfl, rfl, k0⟩ ?_
    clear k0 A K2 hBl K g2 g ρ
    rintro m ρ g ⟨i, dv, him, r6, r5, k⟩
    by_cases hi : i < 128
    · have hi' : (i : Int) < 128 := by omega
      have wi : IntKind.i64.wrap ((i : Int) + 1) = ((i + 1 : Nat) : Int) := by rw [i64_wrap] <;> omega
      obtain ⟨rs, A⟩ := k.bk
      simp only [sx, x_box, x_alloc, x_bslice, x_slice, x_append, x_appz, x_b2s, x_s2b, x_mark, xop, ev, evs, evParts, fillL, cellsL, Ai.get, Ai.put, stab, isNil?, if_false, if_true, addr?, int?, str?, agg?, bool?, shiftA, FnPost, xresL, xres1, tup, argEnv, ptr, Nat.reduceEqDiff, reduceIte, beq_self_eq_true, ne_eq, Nat.reduceAdd, Nat.reduceMul, Nat.reduceSub, abin_shl, abin_shr, load1V, loadV, storeV, cellsAt, getN, setN, allocV, lenL, lenS, bnd, oneC, Value.oneCell', Nat.reduceLeDiff, Nat.reduceLT, exists_eq_left', forall_const, reduceCtorEq, app_new, app_new0, List.append_assoc, Int.reduceToNat, Int.reduceLT, Int.reduceLE, Int.reduceEq, Int.reduceNe, Int.reduceBEq, IntKind.bits, bne_self_eq_false, Int.reducePow, r6, r5, hi']
      refine xcall (ask_ok (op := 1) (cl := 3) (wt := 5) A) (by rfl) (by rfl) (by rfl) (by rfl) ?_
      rintro r g3 P
      rcases P with ⟨p1, -⟩ | ⟨-, p2, -⟩ | ⟨-, -, W3, hr⟩
      · exact absurd p1 (by unfold bad; decide)
      · exact absurd p2 (by decide)
      rw [bA_ask hi] at W3 hr
      simp only at W3 hr
      subst hr
      obtain ⟨dv', k', -⟩ := k.book W3
      simp only [sx, x_box, x_alloc, x_bslice, x_slice, x_append, x_appz, x_b2s, x_s2b, x_mark, xop, ev, evs, evParts, fillL, cellsL, Ai.get, Ai.put, stab, isNil?, if_false, if_true, addr?, int?, str?, agg?, bool?, shiftA, FnPost, xresL, xres1, tup, argEnv, ptr, Nat.reduceEqDiff, reduceIte, beq_self_eq_true, ne_eq, Nat.reduceAdd, Nat.reduceMul, Nat.reduceSub, abin_shl, abin_shr, load1V, loadV, storeV, cellsAt, getN, setN, allocV, lenL, lenS, bnd, oneC, Value.oneCell', Nat.reduceLeDiff, Nat.reduceLT, exists_eq_left', forall_const, reduceCtorEq, app_new, app_new0, List.append_assoc, Int.reduceToNat, Int.reduceLT, Int.reduceLE, Int.reduceEq, Int.reduceNe, Int.reduceBEq, IntKind.bits, bne_self_eq_false, Int.reducePow, r6, wi]
      exact ⟨m - 1, by omega, i + 1, dv', by omega, rfl, r5, k'⟩
    · have hi' : ¬ (i : Int) < 128 := by omega
      have : i = 128 := by omega
      subst this
      simp only [sx, x_box, x_alloc, x_bslice, x_slice, x_append, x_appz, x_b2s, x_s2b, x_mark, xop, ev, evs, evParts, fillL, cellsL, Ai.get, Ai.put, stab, isNil?, if_false, if_true, addr?, int?, str?, agg?, bool?, shiftA, FnPost, xresL, xres1, tup, argEnv, ptr, Nat.reduceEqDiff, reduceIte, beq_self_eq_true, ne_eq, Nat.reduceAdd, Nat.reduceMul, Nat.reduceSub, abin_shl, abin_shr, load1V, loadV, storeV, cellsAt, getN, setN, allocV, lenL, lenS, bnd, oneC, Value.oneCell', Nat.reduceLeDiff, Nat.reduceLT, exists_eq_left', forall_const, reduceCtorEq, app_new, app_new0, List.append_assoc, Int.reduceToNat, Int.reduceLT, Int.reduceLE, Int.reduceEq, Int.reduceNe, Int.reduceBEq, IntKind.bits, bne_self_eq_false, Int.reducePow, r6, hi']
      exact ⟨dv, r5, k⟩
  clear k0 A K2 hBl K g2 g ρ
  rintro ρ g ⟨dv, r5, k⟩
  obtain ⟨rs, A⟩ := k.bk
  simp only [sx, x_box, x_alloc, x_bslice, x_slice, x_append, x_appz, x_b2s, x_s2b, x_mark, xop, ev, evs, evParts, fillL, cellsL, Ai.get, Ai.put, stab, isNil?, if_false, if_true, addr?, int?, str?, agg?, bool?, shiftA, FnPost, xresL, xres1, tup, argEnv, ptr, Nat.reduceEqDiff, reduceIte, beq_self_eq_true, ne_eq, Nat.reduceAdd, Nat.reduceMul, Nat.reduceSub, abin_shl, abin_shr, load1V, loadV, storeV, cellsAt, getN, setN, allocV, lenL, lenS, bnd, oneC, Value.oneCell', Nat.reduceLeDiff, Nat.reduceLT, exists_eq_left', forall_const, reduceCtorEq, app_new, app_new0, List.append_assoc, Int.reduceToNat, Int.reduceLT, Int.reduceLE, Int.reduceEq, Int.reduceNe, Int.reduceBEq, IntKind.bits, bne_self_eq_false, Int.reducePow, r5]
  refine xcall (ask_ok (op := 1) (cl := 1) (wt := 5) A) (by rfl) (by rfl) (by rfl) (by rfl) ?_
  rintro r g2 P
  rcases P with ⟨p1, -⟩ | ⟨-, p2, -⟩ | ⟨-, -, W, hr⟩
  · exact absurd p1 (by unfold bad; decide)
  · exact absurd p2 (by decide)
  rw [bA_full] at W hr
  simp only at W hr
  subst hr
  obtain ⟨dv2, k2, -⟩ := k.book W
  obtain ⟨rs2, A2⟩ := k2.bk
  simp only [sx, x_box, x_alloc, x_bslice, x_slice, x_append, x_appz, x_b2s, x_s2b, x_mark, xop, ev, evs, evParts, fillL, cellsL, Ai.get, Ai.put, stab, isNil?, if_false, if_true, addr?, int?, str?, agg?, bool?, shiftA, FnPost, xresL, xres1, tup, argEnv, ptr, Nat.reduceEqDiff, reduceIte, beq_self_eq_true, ne_eq, Nat.reduceAdd, Nat.reduceMul, Nat.reduceSub, abin_shl, abin_shr, load1V, loadV, storeV, cellsAt, getN, setN, allocV, lenL, lenS, bnd, oneC, Value.oneCell', Nat.reduceLeDiff, Nat.reduceLT, exists_eq_left', forall_const, reduceCtorEq, app_new, app_new0, List.append_assoc, Int.reduceToNat, Int.reduceLT, Int.reduceLE, Int.reduceEq, Int.reduceNe, Int.reduceBEq, IntKind.bits, bne_self_eq_false, Int.reducePow, r5]
  refine xcall (cancel_ok (id := 9) A2 (by show 0 ≤ 1000000; decide)) (by rfl) (by rfl) (by rfl) (by rfl) ?_
  rintro r g3 ⟨rfl, W⟩
  rw [bA_cancel] at W
  rw [bA_isO, if_pos rfl]
  obtain ⟨dv3, k3, -⟩ := k2.book W
  obtain ⟨rs3, A3⟩ := k3.bk
  simp only [sx, x_box, x_alloc, x_bslice, x_slice, x_append, x_appz, x_b2s, x_s2b, x_mark, xop, ev, evs, evParts, fillL, cellsL, Ai.get, Ai.put, stab, isNil?, if_false, if_true, addr?, int?, str?, agg?, bool?, shiftA, FnPost, xresL, xres1, tup, argEnv, ptr, Nat.reduceEqDiff, reduceIte, beq_self_eq_true, ne_eq, Nat.reduceAdd, Nat.reduceMul, Nat.reduceSub, abin_shl, abin_shr, load1V, loadV, storeV, cellsAt, getN, setN, allocV, lenL, lenS, bnd, oneC, Value.oneCell', Nat.reduceLeDiff, Nat.reduceLT, exists_eq_left', forall_const, reduceCtorEq, app_new, app_new0, List.append_assoc, Int.reduceToNat, Int.reduceLT, Int.reduceLE, Int.reduceEq, Int.reduceNe, Int.reduceBEq, IntKind.bits, bne_self_eq_false, Int.reducePow, r5]
  refine xcall (ask_ok (op := 1) (cl := 1) (wt := 5) A3) (by rfl) (by rfl) (by rfl) (by rfl) ?_
  rintro r g4 P
  rcases P with ⟨p1, -⟩ | ⟨-, p2, -⟩ | ⟨-, -, W, hr⟩
  · exact absurd p1 (by unfold bad; decide)
  · exact absurd p2 (by decide)
  rw [bC_ask] at W hr
  simp only at W hr
  subst hr
  obtain ⟨dv4, k4, -⟩ := k3.book W
  obtain ⟨rs4, A4⟩ := k4.bk
  simp only [sx, x_box, x_alloc, x_bslice, x_slice, x_append, x_appz, x_b2s, x_s2b, x_mark, xop, ev, evs, evParts, fillL, cellsL, Ai.get, Ai.put, stab, isNil?, if_false, if_true, addr?, int?, str?, agg?, bool?, shiftA, FnPost, xresL, xres1, tup, argEnv, ptr, Nat.reduceEqDiff, reduceIte, beq_self_eq_true, ne_eq, Nat.reduceAdd, Nat.reduceMul, Nat.reduceSub, abin_shl, abin_shr, load1V, loadV, storeV, cellsAt, getN, setN, allocV, lenL, lenS, bnd, oneC, Value.oneCell', Nat.reduceLeDiff, Nat.reduceLT, exists_eq_left', forall_const, reduceCtorEq, app_new, app_new0, List.append_assoc, Int.reduceToNat, Int.reduceLT, Int.reduceLE, Int.reduceEq, Int.reduceNe, Int.reduceBEq, IntKind.bits, bne_self_eq_false, Int.reducePow, r5]
  refine xcall (open_ok A4) (by rfl) (by rfl) (by rfl) (by rfl) ?_
  rintro r g5 ⟨rfl, e0⟩
  subst e0
  rw [bF_cnt]
  have m1 : (2000 : Int) * 1 ≤ 140737488355328 := by decide
  simp only [sx, x_box, x_bslice, x_slice, x_append, x_appz, x_b2s, x_s2b, x_mark, xop, ev, evs, evParts, fillL, cellsL, Ai.get, Ai.put, stab, isNil?, if_false, if_true, addr?, int?, str?, agg?, bool?, shiftA, FnPost, xresL, xres1, tup, argEnv, ptr, Nat.reduceEqDiff, reduceIte, beq_self_eq_true, ne_eq, Nat.reduceAdd, Nat.reduceMul, Nat.reduceSub, abin_shl, abin_shr, load1V, loadV, storeV, cellsAt, getN, setN, allocV, lenL, lenS, bnd, oneC, Value.oneCell', Nat.reduceLeDiff, Nat.reduceLT, exists_eq_left', forall_const, reduceCtorEq, app_new, app_new0, List.append_assoc, Int.reduceToNat, Int.reduceLT, Int.reduceLE, Int.reduceEq, Int.reduceNe, Int.reduceBEq, IntKind.bits, bne_self_eq_false, Int.reducePow, r5, m1, zeros]
  have KD := Kp.app g5 [some (AObj.mk true (bN (List.replicate 2000 0)))]
  have hD := app_one g5 (some (AObj.mk true (bN (List.replicate 2000 0))))
  have hlD : (g5 ++ [some (AObj.mk true (bN (List.replicate 2000 0)))]).length = g5.length + 1 := by simp
  rw [← bP_zero] at k4
  have k6 := k4.keep KD
  have hDf : ¬ ftB B dv4 g5.length := fun e => by have := k4.lt e; omega
  have hDl : h.length ≤ g5.length := k4.kp.1
  generalize g5 ++ [some (AObj.mk true (bN (List.replicate 2000 0)))] = g6 at *
  generalize g5.length = D at *
  refine alloc_run fun g7 T K7 hT hTl hg7 => ⟨trivial, ?_⟩
  have hTs : ∀ y : Option AObj, (g7.set T y)[T]? = some y := fun y => List.getElem?_set_self (lt_of_get hT)
  have K8 := fun y : Option AObj => K7.set hTl y
  have S0 : KS h (g7.set T (some ⟨true, [.int .u8 3, .int .i64 4, .int .i64 0, .int .i64 1, .int .u8 0, .slice (some ⟨D, 0, none⟩) 2000 2000]⟩)) B D T (2000 * 0) 2000 dv4 :=
    ⟨k6.keep (K8 _), ⟨true, (K8 _).get hD⟩, hTs _, hDf, fun e => by have := k6.lt e; omega, by omega, hDl, by omega⟩
  simp only [sx, x_box, x_bslice, x_slice, x_append, x_appz, x_b2s, x_s2b, x_mark, xop, ev, evs, evParts, fillL, cellsL, Ai.get, Ai.put, stab, isNil?, if_false, if_true, addr?, int?, str?, agg?, bool?, shiftA, FnPost, xresL, xres1, tup, argEnv, ptr, Nat.reduceEqDiff, reduceIte, beq_self_eq_true, ne_eq, Nat.reduceAdd, Nat.reduceMul, Nat.reduceSub, abin_shl, abin_shr, load1V, loadV, storeV, cellsAt, getN, setN, allocV, lenL, lenS, bnd, oneC, Value.oneCell', Nat.reduceLeDiff, Nat.reduceLT, exists_eq_left', forall_const, reduceCtorEq, app_new, app_new0, List.append_assoc, Int.reduceToNat, Int.reduceLT, Int.reduceLE, Int.reduceEq, Int.reduceNe, Int.reduceBEq, IntKind.bits, bne_self_eq_false, Int.reducePow, hT, r5]
  clear KD hD hlD k4 k6 hDf hDl hTs K8 K7 hT hTl hg7 A4 A3 A2 A k3 k2 k W
  generalize g7.set T (some (AObj.mk true [Value.int .u8 3, .int .i64 4, .int .i64 0, .int .i64 1, .int .u8 0, .slice (some ⟨D, 0, none⟩) 2000 2000])) = g8 at *
  refine xloop_cut (KhE h B D T) ?_ ?_
  · refine xcode_loop (KhI h B D T) 32 ⟨0, dv4, by omega, rfl, r5, rfl, S0⟩ ?_
    clear S0 r5 m1 ρ g8
    rintro m ρ g ⟨t, dv, htm, r15, r5, r14, S⟩
    by_cases ht : t < 32
    · have ht' : (t : Int) < 32 := by omega
      have wt : IntKind.i64.wrap ((t : Int) + 1) = ((t + 1 : Nat) : Int) := by rw [i64_wrap] <;> omega
      have hT := S.tt
      simp only [sx, x_box, x_bslice, x_slice, x_append, x_appz, x_b2s, x_s2b, x_mark, xop, ev, evs, evParts, fillL, cellsL, Ai.get, Ai.put, stab, isNil?, if_false, if_true, addr?, int?, str?, agg?, bool?, shiftA, FnPost, xresL, xres1, tup, argEnv, ptr, Nat.reduceEqDiff, reduceIte, beq_self_eq_true, ne_eq, Nat.reduceAdd, Nat.reduceMul, Nat.reduceSub, abin_shl, abin_shr, load1V, loadV, storeV, cellsAt, getN, setN, allocV, lenL, lenS, bnd, oneC, Value.oneCell', Nat.reduceLeDiff, Nat.reduceLT, exists_eq_left', forall_const, reduceCtorEq, app_new, app_new0, List.append_assoc, Int.reduceToNat, Int.reduceLT, Int.reduceLE, Int.reduceEq, Int.reduceNe, Int.reduceBEq, IntKind.bits, bne_self_eq_false, Int.reducePow, r15, r5, r14, ht', hT]
      refine xcall (S.hear (by omega) (by decide)) (by rfl) (by rfl) (by rfl) (by rfl) ?_
      rintro r g3 ⟨dv', k', d', nd', tt', nt', hr⟩
      rw [bP_hear (by omega)] at k' hr
      simp only at k' hr
      subst hr
      unfold zC
      simp only [sx, x_box, x_bslice, x_slice, x_append, x_appz, x_b2s, x_s2b, x_mark, xop, ev, evs, evParts, fillL, cellsL, Ai.get, Ai.put, stab, isNil?, if_false, if_true, addr?, int?, str?, agg?, bool?, shiftA, FnPost, xresL, xres1, tup, argEnv, ptr, Nat.reduceEqDiff, reduceIte, beq_self_eq_true, ne_eq, Nat.reduceAdd, Nat.reduceMul, Nat.reduceSub, abin_shl, abin_shr, load1V, loadV, storeV, cellsAt, getN, setN, allocV, lenL, lenS, bnd, oneC, Value.oneCell', Nat.reduceLeDiff, Nat.reduceLT, exists_eq_left', forall_const, reduceCtorEq, app_new, app_new0, List.append_assoc, Int.reduceToNat, Int.reduceLT, Int.reduceLE, Int.reduceEq, Int.reduceNe, Int.reduceBEq, IntKind.bits, bne_self_eq_false, Int.reducePow]
      refine alloc_run fun g4 X K4 hX hXl hg4 => ⟨trivial, ?_⟩
      have S1 : KS h g3 B D T (2000 * (t + 1)) 2000 dv' := ⟨by rw [Nat.mul_add]; exact k', d', tt', nd', nt', S.ne, S.ld, S.lt⟩
      simp only [sx, x_box, x_bslice, x_slice, x_append, x_appz, x_b2s, x_s2b, x_mark, xop, ev, evs, evParts, fillL, cellsL, Ai.get, Ai.put, stab, isNil?, if_false, if_true, addr?, int?, str?, agg?, bool?, shiftA, FnPost, xresL, xres1, tup, argEnv, ptr, Nat.reduceEqDiff, reduceIte, beq_self_eq_true, ne_eq, Nat.reduceAdd, Nat.reduceMul, Nat.reduceSub, abin_shl, abin_shr, load1V, loadV, storeV, cellsAt, getN, setN, allocV, lenL, lenS, bnd, oneC, Value.oneCell', Nat.reduceLeDiff, Nat.reduceLT, exists_eq_left', forall_const, reduceCtorEq, app_new, app_new0, List.append_assoc, Int.reduceToNat, Int.reduceLT, Int.reduceLE, Int.reduceEq, Int.reduceNe, Int.reduceBEq, IntKind.bits, bne_self_eq_false, Int.reducePow, hX, r15, wt]
      exact ⟨m - 1, by omega, t + 1, dv', by omega, rfl, r5, r14, S1.keep (K4.set hXl _)⟩
    · have ht' : ¬ (t : Int) < 32 := by omega
      have : t = 32 := by omega
      subst this
      simp only [sx, x_box, x_alloc, x_bslice, x_slice, x_append, x_appz, x_b2s, x_s2b, x_mark, xop, ev, evs, evParts, fillL, cellsL, Ai.get, Ai.put, stab, isNil?, if_false, if_true, addr?, int?, str?, agg?, bool?, shiftA, FnPost, xresL, xres1, tup, argEnv, ptr, Nat.reduceEqDiff, reduceIte, beq_self_eq_true, ne_eq, Nat.reduceAdd, Nat.reduceMul, Nat.reduceSub, abin_shl, abin_shr, load1V, loadV, storeV, cellsAt, getN, setN, allocV, lenL, lenS, bnd, oneC, Value.oneCell', Nat.reduceLeDiff, Nat.reduceLT, exists_eq_left', forall_const, reduceCtorEq, app_new, app_new0, List.append_assoc, Int.reduceToNat, Int.reduceLT, Int.reduceLE, Int.reduceEq, Int.reduceNe, Int.reduceBEq, IntKind.bits, bne_self_eq_false, Int.reducePow, r15, ht']
      exact ⟨dv, r5, r14, S⟩
  clear S0 r5 m1 ρ g8
  rintro ρ g ⟨dv, r5, r14, S⟩
  have m2 : (1536 : Int) * 1 ≤ 140737488355328 := by decide
  have hT := S.tt
  have S1 := S.again 1536
  have hTa := (Kp.app g [some (AObj.mk true (bN (List.replicate 1536 0)))]).get hT
  have hT1 := S1.tt
  simp only [sx, x_box, x_bslice, x_slice, x_append, x_appz, x_b2s, x_s2b, x_mark, xop, ev, evs, evParts, fillL, cellsL, Ai.get, Ai.put, stab, isNil?, if_false, if_true, addr?, int?, str?, agg?, bool?, shiftA, FnPost, xresL, xres1, tup, argEnv, ptr, Nat.reduceEqDiff, reduceIte, beq_self_eq_true, ne_eq, Nat.reduceAdd, Nat.reduceMul, Nat.reduceSub, abin_shl, abin_shr, load1V, loadV, storeV, cellsAt, getN, setN, allocV, lenL, lenS, bnd, oneC, Value.oneCell', Nat.reduceLeDiff, Nat.reduceLT, exists_eq_left', forall_const, reduceCtorEq, app_new, app_new0, List.append_assoc, Int.reduceToNat, Int.reduceLT, Int.reduceLE, Int.reduceEq, Int.reduceNe, Int.reduceBEq, IntKind.bits, bne_self_eq_false, Int.reducePow, r5, r14, m2, zeros, hTa, hT1]
  clear hTa hT1 hT S m2
  generalize (g ++ [some (AObj.mk true (bN (List.replicate 1536 0)))]).set T (some (AObj.mk true [.int .u8 3, .int .i64 4, .int .i64 0, .int .i64 1, .int .u8 0, .slice (some ⟨g.length, 0, none⟩) 1536 1536])) = g1 at *
  generalize g.length = D1 at *
  refine xcall (S1.hear (by decide) (by decide)) (by rfl) (by rfl) (by rfl) (by rfl) ?_
  rintro r g3 ⟨dv', k', d', nd', tt', nt', hr⟩
  rw [bP_hear (by decide)] at k' hr
  simp only at k' hr
  subst hr
  unfold zC
  simp only [sx, x_box, x_bslice, x_slice, x_append, x_appz, x_b2s, x_s2b, x_mark, xop, ev, evs, evParts, fillL, cellsL, Ai.get, Ai.put, stab, isNil?, if_false, if_true, addr?, int?, str?, agg?, bool?, shiftA, FnPost, xresL, xres1, tup, argEnv, ptr, Nat.reduceEqDiff, reduceIte, beq_self_eq_true, ne_eq, Nat.reduceAdd, Nat.reduceMul, Nat.reduceSub, abin_shl, abin_shr, load1V, loadV, storeV, cellsAt, getN, setN, allocV, lenL, lenS, bnd, oneC, Value.oneCell', Nat.reduceLeDiff, Nat.reduceLT, exists_eq_left', forall_const, reduceCtorEq, app_new, app_new0, List.append_assoc, Int.reduceToNat, Int.reduceLT, Int.reduceLE, Int.reduceEq, Int.reduceNe, Int.reduceBEq, IntKind.bits, bne_self_eq_false, Int.reducePow]
  refine alloc_run fun g4 X K4 hX hXl hg4 => ⟨trivial, ?_⟩
  have S2 : KS h g3 B D1 T 65536 1536 dv' := ⟨k', d', tt', nd', nt', S1.ne, S1.ld, S1.lt⟩
  have S3 := S2.keep (K4.set hXl (some ⟨true, [.int .u8 0, .int .i64 0, .int .i64 0, .int .i64 0, .int .u8 0, .slice none 0 0]⟩))
  have m3 : (1 : Int) * 1 ≤ 140737488355328 := by decide
  have S4 := S3.again 1
  have hTa := (Kp.app (g4.set X (some ⟨true, [.int .u8 0, .int .i64 0, .int .i64 0, .int .i64 0, .int .u8 0, .slice none 0 0]⟩)) [some (AObj.mk true (bN (List.replicate 1 0)))]).get S3.tt
  rw [List.length_set] at S4
  have hT1 := S4.tt
  simp only [sx, x_box, x_bslice, x_slice, x_append, x_appz, x_b2s, x_s2b, x_mark, xop, ev, evs, evParts, fillL, cellsL, Ai.get, Ai.put, stab, isNil?, if_false, if_true, addr?, int?, str?, agg?, bool?, shiftA, FnPost, xresL, xres1, tup, argEnv, ptr, Nat.reduceEqDiff, reduceIte, beq_self_eq_true, ne_eq, Nat.reduceAdd, Nat.reduceMul, Nat.reduceSub, abin_shl, abin_shr, load1V, loadV, storeV, cellsAt, getN, setN, allocV, lenL, lenS, bnd, oneC, Value.oneCell', Nat.reduceLeDiff, Nat.reduceLT, exists_eq_left', forall_const, reduceCtorEq, app_new, app_new0, List.append_assoc, Int.reduceToNat, Int.reduceLT, Int.reduceLE, Int.reduceEq, Int.reduceNe, Int.reduceBEq, IntKind.bits, bne_self_eq_false, Int.reducePow, hX, r5, r14, m3, zeros, hTa, hT1]
  clear S2 hX hXl hg4 k' d' nd' tt' nt' hTa hT1 S3 S1 m3
  generalize (g4.set X (some (AObj.mk true [.int .u8 0, .int .i64 0, .int .i64 0, .int .i64 0, .int .u8 0, .slice none 0 0])) ++ [some (AObj.mk true (bN (List.replicate 1 0)))]).set T (some (AObj.mk true [.int .u8 3, .int .i64 4, .int .i64 0, .int .i64 1, .int .u8 0, .slice (some ⟨g4.length, 0, none⟩) 1 1])) = g5 at *
  generalize g4.length = D2 at *
  refine xcall (S4.hear (by decide) (by decide)) (by rfl) (by rfl) (by rfl) (by rfl) ?_
  rintro r g6 ⟨dv6, k6, -, -, -, -, hr⟩
  rw [bP_over (by decide)] at k6 hr
  simp only at k6 hr
  subst hr
  simp only [sx, x_box, x_bslice, x_slice, x_append, x_appz, x_b2s, x_s2b, x_mark, xop, ev, evs, evParts, fillL, cellsL, Ai.get, Ai.put, stab, isNil?, if_false, if_true, addr?, int?, str?, agg?, bool?, shiftA, FnPost, xresL, xres1, tup, argEnv, ptr, Nat.reduceEqDiff, reduceIte, beq_self_eq_true, ne_eq, Nat.reduceAdd, Nat.reduceMul, Nat.reduceSub, abin_shl, abin_shr, load1V, loadV, storeV, cellsAt, getN, setN, allocV, lenL, lenS, bnd, oneC, Value.oneCell', Nat.reduceLeDiff, Nat.reduceLT, exists_eq_left', forall_const, reduceCtorEq, app_new, app_new0, List.append_assoc, Int.reduceToNat, Int.reduceLT, Int.reduceLE, Int.reduceEq, Int.reduceNe, Int.reduceBEq, IntKind.bits, bne_self_eq_false, Int.reducePow]
  refine alloc_run fun g7 Y K7 hY hYl hg7 => ⟨trivial, ?_⟩
  have hYs : ∀ x : Option AObj, (g7.set Y x)[Y]? = some x := fun x => List.getElem?_set_self (lt_of_get hY)
  have k8 := k6.keep (K7.set hYl (some ⟨true, [.int .u8 5, .int .i64 4, .int .i64 0, .int .i64 0, .int .u8 7, .slice none 0 0]⟩))
  have hY8 := hYs (some ⟨true, [.int .u8 5, .int .i64 4, .int .i64 0, .int .i64 0, .int .u8 7, .slice none 0 0]⟩)
  simp only [sx, x_box, x_bslice, x_slice, x_append, x_appz, x_b2s, x_s2b, x_mark, xop, ev, evs, evParts, fillL, cellsL, Ai.get, Ai.put, stab, isNil?, if_false, if_true, addr?, int?, str?, agg?, bool?, shiftA, FnPost, xresL, xres1, tup, argEnv, ptr, Nat.reduceEqDiff, reduceIte, beq_self_eq_true, ne_eq, Nat.reduceAdd, Nat.reduceMul, Nat.reduceSub, abin_shl, abin_shr, load1V, loadV, storeV, cellsAt, getN, setN, allocV, lenL, lenS, bnd, oneC, Value.oneCell', Nat.reduceLeDiff, Nat.reduceLT, exists_eq_left', forall_const, reduceCtorEq, app_new, app_new0, List.append_assoc, Int.reduceToNat, Int.reduceLT, Int.reduceLE, Int.reduceEq, Int.reduceNe, Int.reduceBEq, IntKind.bits, bne_self_eq_false, Int.reducePow, hY, r5]
  have hYf : ¬ ftB B dv6 Y := fun e => by have := k6.lt e; omega
  clear S4 k6 K7 hY hYl hg7 hYs
  generalize g7.set Y (some (AObj.mk true [.int .u8 5, .int .i64 4, .int .i64 0, .int .i64 0, .int .u8 7, .slice none 0 0])) = g8 at *
  obtain ⟨rs8, A8⟩ := k8.bk
  refine xcall (ends_ok A8 (by show 2 < 1000000; decide)) (by rfl) (by rfl) (by rfl) (by rfl) ?_
  rintro r g9 ⟨hL, B2, hl9, hk9, hsr⟩
  have hes : ((bP 65536).over 4 3 7 []).es = [⟨9, 5, 0, []⟩, ⟨4, 3, 7, []⟩] := rfl
  rw [hes] at hL
  obtain ⟨X9, off, w9, cs9, v9, rfl, hX9, hg9, -⟩ := hL.get (k := 1) rfl
  obtain ⟨c0, c1, -, -⟩ := getN4 hg9
  have c0' : cs9[off + 4]? = some (.int .i64 4) := c0
  have c1' : cs9[off + 4 + 1]? = some (.int .u8 3) := c1
  have hY9 : g9[Y]? = _ := (hk9 Y fun e => hYf (.inl e)).trans hY8
  simp only [sx, x_box, x_alloc, x_bslice, x_slice, x_append, x_appz, x_b2s, x_s2b, x_mark, xop, ev, evs, evParts, fillL, cellsL, Ai.get, Ai.put, stab, isNil?, if_false, if_true, addr?, int?, str?, agg?, bool?, shiftA, FnPost, xresL, xres1, tup, argEnv, ptr, Nat.reduceEqDiff, reduceIte, beq_self_eq_true, ne_eq, Nat.reduceAdd, Nat.reduceMul, Nat.reduceSub, abin_shl, abin_shr, load1V, loadV, storeV, cellsAt, getN, setN, allocV, lenL, lenS, bnd, oneC, Value.oneCell', Nat.reduceLeDiff, Nat.reduceLT, exists_eq_left', forall_const, reduceCtorEq, app_new, app_new0, List.append_assoc, Int.reduceToNat, Int.reduceLT, Int.reduceLE, Int.reduceEq, Int.reduceNe, Int.reduceBEq, IntKind.bits, bne_self_eq_false, Int.reducePow, hY9, hX9, c0', c1', List.length_cons, List.length_nil]
  refine xcall (lives_ok _) (by rfl) (by rfl) (by rfl) (by rfl) ?_
  rintro r g10 ⟨rfl, rfl⟩
  simp only [sx, x_box, x_alloc, x_bslice, x_slice, x_append, x_appz, x_b2s, x_s2b, x_mark, xop, ev, evs, evParts, fillL, cellsL, Ai.get, Ai.put, stab, isNil?, if_false, if_true, addr?, int?, str?, agg?, bool?, shiftA, FnPost, xresL, xres1, tup, argEnv, ptr, Nat.reduceEqDiff, reduceIte, beq_self_eq_true, ne_eq, Nat.reduceAdd, Nat.reduceMul, Nat.reduceSub, abin_shl, abin_shr, load1V, loadV, storeV, cellsAt, getN, setN, allocV, lenL, lenS, bnd, oneC, Value.oneCell', Nat.reduceLeDiff, Nat.reduceLT, exists_eq_left', forall_const, reduceCtorEq, app_new, app_new0, List.append_assoc, Int.reduceToNat, Int.reduceLT, Int.reduceLE, Int.reduceEq, Int.reduceNe, Int.reduceBEq, IntKind.bits, bne_self_eq_false, Int.reducePow]
def knownSh : List (Bool × List Cl) := []
theorem known_sh {h : AHeap} {vs : List Value} (hs : SmallArgs h knownSh vs) : Valid Try.prog 6 vs h fun r _ => r = .bool true := by
  obtain rfl := hs.nil_inv
  exact known_ok
end Go.Proofs.Ytpbbmnfffolcoaa
