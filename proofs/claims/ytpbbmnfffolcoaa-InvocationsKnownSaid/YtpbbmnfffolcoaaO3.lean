import Derived.Test.YtpbbmnfffolcoaaO2
import Derived.Test.YtpbbmnfffolcoaaDB
set_option linter.unusedVariables false
set_option linter.unusedSimpArgs false
namespace Go.Proofs.Ytpbbmnfffolcoaa
open Go Go.Ai Go.Proofs

/-- the registers of the loop -/
structure OR (ρ : Env) (q : Option Addr) (n c i R O L H : Nat) : Prop where
  r0 : get ρ 0 = some (.slice q n c)
  r3 : get ρ 3 = some (.pointer (some ⟨R, 0, none⟩))
  r4 : get ρ 4 = some (.slice (some ⟨O, 0, none⟩) 128 128)
  r5 : get ρ 5 = some (.slice (some ⟨L, 0, none⟩) 128 128)
  r6 : get ρ 6 = some (.slice (some ⟨H, 0, none⟩) 128 128)
  r7 : get ρ 7 = some (.int .i64 (i : Nat))
/-- bounds -/
structure Lo (F : List Int) (S : List ByteArray) (b : Bk) (i : Nat) : Prop where
  f : ∀ x ∈ F, -(i : Int) ≤ x ∧ x ≤ 6
  s : ∀ x ∈ S, x.size ≤ 50 * i
  ok : b.Ok
def OcI (h0 : AHeap) (q : Option Addr) (n c : Nat) (m : Nat) (ρ : Env) (h : AHeap) : Prop := ∃ (i R O L H : Nat) (A : List Bool) (F : List Int) (S : List ByteArray) (b : Bk) (dv : Value), i + m = n + 1 ∧ OR ρ q n c i R O L H ∧ OS h0 h R O L H A F S b dv ∧ Pre (fun _ => 0) A F S b true ByteArray.empty ∧ b.es = [] ∧ Lo F S b i
def OnE (h0 : AHeap) (n : Nat) (ρ : Env) (h : AHeap) : Prop := ∃ (R O L H : Nat) (A : List Bool) (F : List Int) (S : List ByteArray) (b : Bk) (dv : Value), get ρ 3 = some (.pointer (some ⟨R, 0, none⟩)) ∧ get ρ 4 = some (.slice (some ⟨O, 0, none⟩) 128 128) ∧ OS h0 h R O L H A F S b dv ∧ Pre (fun _ => 0) A F S b true ByteArray.empty ∧ b.es = [] ∧ Lo F S b (n + 1)
def OnR (h0 : AHeap) (ρ : Env) (h : AHeap) : Prop := get ρ 2 = some (.bool true) ∧ Kp h0 h
/-- the act lies in an object of its own -/
def OnT (q : Option Addr) (n c i R O L H : Nat) (g : AHeap) (dv : Value) (ρ : Env) (h : AHeap) : Prop := OR ρ q n c i R O L H ∧ ∃ (T : Nat) (a : Ac) (qa : Option Addr) (ca : Nat), get ρ 8 = some (.pointer (some ⟨T, 0, none⟩)) ∧ OT h R O L H T dv (a.cells (.slice qa a.val.length ca)) ∧ a.Ok ∧ PartOk h (.slice qa a.val.length ca) (bN a.val) ∧ Kp g h
def OnV (q : Option Addr) (n c i R O L H T : Nat) (a : Ac) (h0 : AHeap) (ρ : Env) (h : AHeap) : Prop := OR ρ q n c i R O L H ∧ get ρ 8 = some (.pointer (some ⟨T, 0, none⟩)) ∧ get ρ 50 = some (.bool (decide (50 < (a.val.length : Int)))) ∧ h = h0
def OnW (q : Option Addr) (n c i R O L H T : Nat) (h0 : AHeap) (ρ : Env) (h : AHeap) : Prop := OR ρ q n c i R O L H ∧ get ρ 8 = some (.pointer (some ⟨T, 0, none⟩)) ∧ h = h0
def OnP (q : Option Addr) (n c i R O L H T : Nat) (a : Ac) (h0 : AHeap) (ρ : Env) (h : AHeap) : Prop := OR ρ q n c i R O L H ∧ get ρ 8 = some (.pointer (some ⟨T, 0, none⟩)) ∧ get ρ 9 = some (.string ByteArray.empty) ∧ get ρ 54 = some (.int .u8 ((a.a0 % 8 : Nat) : Int)) ∧ h = h0
def OnX (q : Option Addr) (n c i R O L H T : Nat) (h0 : AHeap) (ρ : Env) (h : AHeap) : Prop := OR ρ q n c i R O L H ∧ get ρ 8 = some (.pointer (some ⟨T, 0, none⟩)) ∧ get ρ 9 = some (.string ByteArray.empty) ∧ h = h0
def OdI (h0 : AHeap) (q : Option Addr) (n c i R O L H T : Nat) (tc : List Value) (A : List Bool) (F : List Int) (S : List ByteArray) (b : Bk) (dv : Value) (m : Nat) (ρ : Env) (h : AHeap) : Prop := ∃ (k : Nat) (F' : List Int), k + m = 128 ∧ get ρ 16 = some (.int .i64 (k : Nat)) ∧ OR ρ q n c i R O L H ∧ get ρ 8 = some (.pointer (some ⟨T, 0, none⟩)) ∧ get ρ 9 = some (.string ByteArray.empty) ∧ OS h0 h R O L H A F' S b dv ∧ OT h R O L H T dv tc ∧ F'.length = 128 ∧ ∀ j, F'[j]? = if j < k then F[j]?.map (fun x => x - 1) else F[j]?
def OdE (h0 : AHeap) (q : Option Addr) (n c i R O L H T : Nat) (tc : List Value) (A : List Bool) (F : List Int) (S : List ByteArray) (b : Bk) (dv : Value) (ρ : Env) (h : AHeap) : Prop := OR ρ q n c i R O L H ∧ get ρ 8 = some (.pointer (some ⟨T, 0, none⟩)) ∧ get ρ 9 = some (.string ByteArray.empty) ∧ OS h0 h R O L H A (F.map fun x => x - 1) S b dv ∧ OT h R O L H T dv tc
/-- behind the act -/
def OnS (h0 : AHeap) (q : Option Addr) (n c i R O L H T : Nat) (a : Ac) (v : Value) (ρ : Env) (h : AHeap) : Prop := OR ρ q n c i R O L H ∧ get ρ 8 = some (.pointer (some ⟨T, 0, none⟩)) ∧ ∃ (A : List Bool) (F : List Int) (S : List ByteArray) (b : Bk) (dv : Value) (last : ByteArray), get ρ 9 = some (.string last) ∧ OS h0 h R O L H A F S b dv ∧ OT h R O L H T dv (a.cells v) ∧ Pre (fun _ => 0) A F S b (decide (a.a0 % 8 < 7)) last ∧ b.es.length ≤ 128 ∧ last.size ≤ 50 ∧ Lo F S b (i + 1)
def OeI (h0 : AHeap) (q : Option Addr) (n c i R O L H T : Nat) (tc : List Value) (F : List Int) (S : List ByteArray) (b : Bk) (last : ByteArray) (r : Value) (m : Nat) (ρ : Env) (h : AHeap) : Prop := ∃ (k : Nat) (A : List Bool), k + m = b.es.length ∧ get ρ 18 = some (.int .i64 (k : Nat)) ∧ get ρ 17 = some r ∧ OR ρ q n c i R O L H ∧ get ρ 8 = some (.pointer (some ⟨T, 0, none⟩)) ∧ get ρ 9 = some (.string last) ∧ OS h0 h R O L H A F S { b with es := [] } (.slice none 0 0) ∧ OT h R O L H T (.slice none 0 0) tc ∧ EndL h r b.es ∧ A.length = 128 ∧ ∀ i, i < 128 → A[i]? = some (opn (b.at i) || endE (b.es.drop k) i)
def OeE (h0 : AHeap) (q : Option Addr) (n c i R O L H : Nat) (F : List Int) (S : List ByteArray) (b : Bk) (ρ : Env) (h : AHeap) : Prop := ∃ A : List Bool, OR ρ q n c i R O L H ∧ OS h0 h R O L H A F S { b with es := [] } (.slice none 0 0) ∧ A.length = 128 ∧ ∀ i, i < 128 → A[i]? = some (opn (b.at i) || endE (b.es.drop b.es.length) i)
def OgI (q : Option Addr) (n c i R O L H : Nat) (h1 : AHeap) (m : Nat) (ρ : Env) (h : AHeap) : Prop := ∃ k : Nat, k + m = 128 ∧ get ρ 20 = some (.int .i64 (k : Nat)) ∧ OR ρ q n c i R O L H ∧ h = h1
def OgE (q : Option Addr) (n c i R O L H : Nat) (h1 : AHeap) (ρ : Env) (h : AHeap) : Prop := OR ρ q n c i R O L H ∧ h = h1
def OtI (h0 : AHeap) (R O L H : Nat) (A : List Bool) (F : List Int) (S : List ByteArray) (m : Nat) (ρ : Env) (h : AHeap) : Prop := ∃ (t : Nat) (b : Bk) (dv : Value), t + m = 6 ∧ get ρ 21 = some (.int .i64 (t : Nat)) ∧ get ρ 3 = some (.pointer (some ⟨R, 0, none⟩)) ∧ get ρ 4 = some (.slice (some ⟨O, 0, none⟩) 128 128) ∧ OS h0 h R O L H A F S b dv ∧ Pre (fun _ => -(t : Int)) A F S b false ByteArray.empty ∧ b.Ok ∧ b.es.length ≤ 128 * t
def OfI (h0 : AHeap) (R O L H : Nat) (F : List Int) (S : List ByteArray) (b : Bk) (r : Value) (m : Nat) (ρ : Env) (h : AHeap) : Prop := ∃ (k : Nat) (A : List Bool), k + m = b.es.length ∧ get ρ 23 = some (.int .i64 (k : Nat)) ∧ get ρ 22 = some r ∧ get ρ 3 = some (.pointer (some ⟨R, 0, none⟩)) ∧ get ρ 4 = some (.slice (some ⟨O, 0, none⟩) 128 128) ∧ OS h0 h R O L H A F S { b with es := [] } (.slice none 0 0) ∧ EndL h r b.es ∧ A.length = 128 ∧ ∀ i, i < 128 → A[i]? = some (opn (b.at i) || endE (b.es.drop k) i)
def OfE (h0 : AHeap) (R O L H : Nat) (F : List Int) (S : List ByteArray) (b : Bk) (ρ : Env) (h : AHeap) : Prop := ∃ A : List Bool, get ρ 3 = some (.pointer (some ⟨R, 0, none⟩)) ∧ get ρ 4 = some (.slice (some ⟨O, 0, none⟩) 128 128) ∧ OS h0 h R O L H A F S { b with es := [] } (.slice none 0 0) ∧ A.length = 128 ∧ ∀ i, i < 128 → A[i]? = some (opn (b.at i) || endE (b.es.drop b.es.length) i)
def OhI (R O : Nat) (h1 : AHeap) (m : Nat) (ρ : Env) (h : AHeap) : Prop := ∃ k : Nat, k + m = 128 ∧ get ρ 24 = some (.int .i64 (k : Nat)) ∧ get ρ 3 = some (.pointer (some ⟨R, 0, none⟩)) ∧ get ρ 4 = some (.slice (some ⟨O, 0, none⟩) 128 128) ∧ h = h1
def OhE (R : Nat) (h1 : AHeap) (ρ : Env) (h : AHeap) : Prop := get ρ 3 = some (.pointer (some ⟨R, 0, none⟩)) ∧ h = h1
theorem zero_lit : ∀ {h : AHeap} {R : Nat} {z : List Value}, h[R]? = some (some ⟨true, z⟩) → z = (List.replicate 128 [Value.int .i64 0, .int .u8 0, .int .i64 0, .slice none 0 0]).flatten ++ [.int .i64 0, .slice none 0 0] → BkAt h R Bk.nil (List.replicate 128 (iv0, .slice none 0 0)) (.slice none 0 0) := fun hR e => by
  subst e; exact BkAt.zero hR
theorem Pre.nil : Pre (fun _ => 0) (List.replicate 128 false) (List.replicate 128 0) (List.replicate 128 ByteArray.empty) Bk.nil true ByteArray.empty := by
  have hcl : ∀ i, opn (Bk.nil.at i) = false := fun i => by
    unfold Bk.at Bk.nil
    simp only [List.getElem?_replicate]
    split <;> rfl
  refine ⟨by simp, by simp, by simp, by simp [Bk.nil], fun i hi => ?_, (fun i hi h => by rw [hcl] at h; cases h), (fun e he => by cases he), List.Pairwise.nil, (fun i hi h => by rw [hcl] at h; cases h), (fun i hi h => by rw [hcl] at h; cases h), fun _ e he => by cases he⟩
  rw [hcl, List.getElem?_replicate, if_pos hi]; rfl
set_option maxHeartbeats 16000000 in
set_option maxRecDepth 20000 in
theorem once_ok {h : AHeap} {q : Option Addr} {n c : Nat} (hn : n ≤ 9223372036854775807) (W : ActsW h q n) : Valid Try.prog 4 [.slice q n c] h fun r h' => r = .bool true ∧ Kp h h' := by
  refine v4 (by simp) ?_
  by_cases hbig : 200 < n
  · have hbig' : (200 : Int) < (n : Nat) := by omega
    simp only [X4, sx, x_box, x_alloc, x_bslice, x_slice, x_append, x_appz, x_b2s, x_s2b, x_mark, xop, ev, evs, evParts, fillL, cellsL, Ai.get, Ai.put, stab, isNil?, if_false, if_true, addr?, int?, str?, agg?, bool?, shiftA, FnPost, xresL, xres1, tup, argEnv, ptr, Nat.reduceEqDiff, reduceIte, beq_self_eq_true, ne_eq, Nat.reduceAdd, Nat.reduceMul, Nat.reduceSub, abin_shl, abin_shr, load1V, loadV, storeV, cellsAt, getN, setN, allocV, lenL, lenS, bnd, oneC, Value.oneCell', Nat.reduceLeDiff, Nat.reduceLT, exists_eq_left', forall_const, reduceCtorEq, app_new, app_new0, List.append_assoc, Int.reduceToNat, Int.reduceLT, Int.reduceLE, Int.reduceEq, Int.reduceNe, Int.reduceBEq, IntKind.bits, bne_self_eq_false, Int.reducePow, hbig']
    refine xcall (lives_ok _) (by rfl) (by rfl) (by rfl) (by rfl) ?_
    rintro r h' ⟨rfl, rfl⟩
    simp only [sx, x_box, x_alloc, x_bslice, x_slice, x_append, x_appz, x_b2s, x_s2b, x_mark, xop, ev, evs, evParts, fillL, cellsL, Ai.get, Ai.put, stab, isNil?, if_false, if_true, addr?, int?, str?, agg?, bool?, shiftA, FnPost, xresL, xres1, tup, argEnv, ptr, Nat.reduceEqDiff, reduceIte, beq_self_eq_true, ne_eq, Nat.reduceAdd, Nat.reduceMul, Nat.reduceSub, abin_shl, abin_shr, load1V, loadV, storeV, cellsAt, getN, setN, allocV, lenL, lenS, bnd, oneC, Value.oneCell', Nat.reduceLeDiff, Nat.reduceLT, exists_eq_left', forall_const, reduceCtorEq, app_new, app_new0, List.append_assoc, Int.reduceToNat, Int.reduceLT, Int.reduceLE, Int.reduceEq, Int.reduceNe, Int.reduceBEq, IntKind.bits, bne_self_eq_false, Int.reducePow]
    exact Kp.refl _
  have hbig' : ¬ (200 : Int) < (n : Nat) := by omega
  simp only [X4, sx, x_box, x_bslice, x_slice, x_append, x_appz, x_b2s, x_s2b, x_mark, xop, ev, evs, evParts, fillL, cellsL, Ai.get, Ai.put, stab, isNil?, if_false, if_true, addr?, int?, str?, agg?, bool?, shiftA, FnPost, xresL, xres1, tup, argEnv, ptr, Nat.reduceEqDiff, reduceIte, beq_self_eq_true, ne_eq, Nat.reduceAdd, Nat.reduceMul, Nat.reduceSub, abin_shl, abin_shr, load1V, loadV, storeV, cellsAt, getN, setN, allocV, lenL, lenS, bnd, oneC, Value.oneCell', Nat.reduceLeDiff, Nat.reduceLT, exists_eq_left', forall_const, reduceCtorEq, app_new, app_new0, List.append_assoc, Int.reduceToNat, Int.reduceLT, Int.reduceLE, Int.reduceEq, Int.reduceNe, Int.reduceBEq, IntKind.bits, bne_self_eq_false, Int.reducePow, hbig']
  refine alloc_run fun g1 R K1 hR hRl hg1 => ⟨trivial, ?_⟩
  have B1 := zero_lit hR (by rfl)
  clear hR
  have m1 : (128 : Int) * 1 ≤ 140737488355328 := by decide
  have m2 : (128 : Int) * 8 ≤ 140737488355328 := by decide
  have m3 : (128 : Int) * 16 ≤ 140737488355328 := by decide
  simp only [sx, x_box, x_bslice, x_slice, x_append, x_appz, x_b2s, x_s2b, x_mark, xop, ev, evs, evParts, fillL, cellsL, Ai.get, Ai.put, stab, isNil?, if_false, if_true, addr?, int?, str?, agg?, bool?, shiftA, FnPost, xresL, xres1, tup, argEnv, ptr, Nat.reduceEqDiff, reduceIte, beq_self_eq_true, ne_eq, Nat.reduceAdd, Nat.reduceMul, Nat.reduceSub, abin_shl, abin_shr, load1V, loadV, storeV, cellsAt, getN, setN, allocV, lenL, lenS, bnd, oneC, Value.oneCell', Nat.reduceLeDiff, Nat.reduceLT, exists_eq_left', forall_const, reduceCtorEq, app_new, app_new0, List.append_assoc, Int.reduceToNat, Int.reduceLT, Int.reduceLE, Int.reduceEq, Int.reduceNe, Int.reduceBEq, IntKind.bits, bne_self_eq_false, Int.reducePow, m1, m2, m3]
  have S0 : OS h (g1 ++ [some ⟨true, bV (List.replicate 128 false)⟩, some ⟨true, iV (List.replicate 128 0)⟩, some ⟨true, sV (List.replicate 128 ByteArray.empty)⟩]) R g1.length (g1.length + 1) (g1.length + 2) (List.replicate 128 false) (List.replicate 128 0) (List.replicate 128 ByteArray.empty) Bk.nil (.slice none 0 0) := by
    refine ⟨K1.trans (Kp.app _ _), ⟨_, B1.kp (Kp.app _ _)⟩, fun X hX => ?_, ?_, ?_, ?_, ⟨by omega, by omega, by omega⟩, ⟨by omega, by omega, by omega⟩⟩
    · rcases hX with rfl | hX
      · exact ⟨hRl, by omega, by omega, by omega⟩
      · cases hX
    · rw [List.getElem?_append_right (by omega)]; simp
    · rw [List.getElem?_append_right (by omega)]; simp
    · rw [List.getElem?_append_right (by omega)]; simp
  have ez1 : (List.replicate 128 [Value.bool false]).flatten = bV (List.replicate 128 false) := by rfl
  have ez2 : (List.replicate 128 [Value.int .i64 0]).flatten = iV (List.replicate 128 0) := by rfl
  have ez3 : (List.replicate 128 [Value.string { data := #[] }]).flatten = sV (List.replicate 128 ByteArray.empty) := by rfl
  rw [ez1, ez2, ez3]
  clear ez1 ez2 ez3 m1 m2 m3 B1
  generalize (g1 ++ [some (AObj.mk true (bV (List.replicate 128 false))), some (AObj.mk true (iV (List.replicate 128 0))), some (AObj.mk true (sV (List.replicate 128 ByteArray.empty)))]) = g2 at *
  refine xloop_cut2 (OnE h n) (OnR h) ?_ ?_ ?_
  rotate_left
  · rintro ρ h' ⟨R, O, L, H, A, F, S, b, dv, r3, r4, os, pre, hes, lo⟩
    simp only [sx, x_box, x_alloc, x_bslice, x_slice, x_append, x_appz, x_b2s, x_s2b, x_mark, xop, ev, evs, evParts, fillL, cellsL, Ai.get, Ai.put, stab, isNil?, if_false, if_true, addr?, int?, str?, agg?, bool?, shiftA, FnPost, xresL, xres1, tup, argEnv, ptr, Nat.reduceEqDiff, reduceIte, beq_self_eq_true, ne_eq, Nat.reduceAdd, Nat.reduceMul, Nat.reduceSub, abin_shl, abin_shr, load1V, loadV, storeV, cellsAt, getN, setN, allocV, lenL, lenS, bnd, oneC, Value.oneCell', Nat.reduceLeDiff, Nat.reduceLT, exists_eq_left', forall_const, reduceCtorEq, app_new, app_new0, List.append_assoc, Int.reduceToNat, Int.reduceLT, Int.reduceLE, Int.reduceEq, Int.reduceNe, Int.reduceBEq, IntKind.bits, bne_self_eq_false, Int.reducePow]
    refine xloop_cut (OtI h R O L H A F S 0) ?_ ?_
    · refine xcode_loop (OtI h R O L H A F S) 6 ⟨0, b, dv, by omega, rfl, r3, r4, os, (pre.free hes false _).dd fun i _ _ => by simp, lo.ok, by rw [hes]; simp⟩ ?_
      clear r3 r4 os pre hes lo ρ b dv h'
      rintro m ρ g ⟨t, b, dv, htm, r21, r3, r4, os, pre, ok, hel⟩
      by_cases ht : t < 6
      · have ht' : (t : Int) < 6 := by omega
        have wt : IntKind.i64.wrap ((t : Int) + 1) = ((t + 1 : Nat) : Int) := by rw [i64_wrap] <;> omega
        obtain ⟨rs, B⟩ := os.bk
        simp only [sx, x_box, x_alloc, x_bslice, x_slice, x_append, x_appz, x_b2s, x_s2b, x_mark, xop, ev, evs, evParts, fillL, cellsL, Ai.get, Ai.put, stab, isNil?, if_false, if_true, addr?, int?, str?, agg?, bool?, shiftA, FnPost, xresL, xres1, tup, argEnv, ptr, Nat.reduceEqDiff, reduceIte, beq_self_eq_true, ne_eq, Nat.reduceAdd, Nat.reduceMul, Nat.reduceSub, abin_shl, abin_shr, load1V, loadV, storeV, cellsAt, getN, setN, allocV, lenL, lenS, bnd, oneC, Value.oneCell', Nat.reduceLeDiff, Nat.reduceLT, exists_eq_left', forall_const, reduceCtorEq, app_new, app_new0, List.append_assoc, Int.reduceToNat, Int.reduceLT, Int.reduceLE, Int.reduceEq, Int.reduceNe, Int.reduceBEq, IntKind.bits, bne_self_eq_false, Int.reducePow, r21, ht']
        refine xcall (tick_ok B ok (by omega)) (by rfl) (by rfl) (by simp only [sx, x_box, x_alloc, x_bslice, x_slice, x_append, x_appz, x_b2s, x_s2b, x_mark, xop, ev, evs, evParts, fillL, cellsL, Ai.get, Ai.put, stab, isNil?, if_false, if_true, addr?, int?, str?, agg?, bool?, shiftA, FnPost, xresL, xres1, tup, argEnv, ptr, Nat.reduceEqDiff, reduceIte, beq_self_eq_true, ne_eq, Nat.reduceAdd, Nat.reduceMul, Nat.reduceSub, abin_shl, abin_shr, load1V, loadV, storeV, cellsAt, getN, setN, allocV, lenL, lenS, bnd, oneC, Value.oneCell', Nat.reduceLeDiff, Nat.reduceLT, exists_eq_left', forall_const, reduceCtorEq, app_new, app_new0, List.append_assoc, Int.reduceToNat, Int.reduceLT, Int.reduceLE, Int.reduceEq, Int.reduceNe, Int.reduceBEq, IntKind.bits, bne_self_eq_false, Int.reducePow, r3]; rfl) (by rfl) ?_
        rintro r g3 W3
        obtain ⟨dv', os', kt⟩ := os.book W3
        have hpt := Pre.tick pre
        have hokt := tick_ok' ok pre.n
        have hl : b.tick.es.length ≤ b.es.length + 128 := iter_es tick1_es b 128
        generalize b.tick = bt at *
        simp only [sx, x_box, x_alloc, x_bslice, x_slice, x_append, x_appz, x_b2s, x_s2b, x_mark, xop, ev, evs, evParts, fillL, cellsL, Ai.get, Ai.put, stab, isNil?, if_false, if_true, addr?, int?, str?, agg?, bool?, shiftA, FnPost, xresL, xres1, tup, argEnv, ptr, Nat.reduceEqDiff, reduceIte, beq_self_eq_true, ne_eq, Nat.reduceAdd, Nat.reduceMul, Nat.reduceSub, abin_shl, abin_shr, load1V, loadV, storeV, cellsAt, getN, setN, allocV, lenL, lenS, bnd, oneC, Value.oneCell', Nat.reduceLeDiff, Nat.reduceLT, exists_eq_left', forall_const, reduceCtorEq, app_new, app_new0, List.append_assoc, Int.reduceToNat, Int.reduceLT, Int.reduceLE, Int.reduceEq, Int.reduceNe, Int.reduceBEq, IntKind.bits, bne_self_eq_false, Int.reducePow, r21, wt]
        exact ⟨m - 1, by omega, t + 1, bt, dv', by omega, rfl, r3, r4, os', hpt.dd fun i _ _ => by omega, hokt, by omega⟩
      · have ht' : ¬ (t : Int) < 6 := by omega
        simp only [sx, x_box, x_alloc, x_bslice, x_slice, x_append, x_appz, x_b2s, x_s2b, x_mark, xop, ev, evs, evParts, fillL, cellsL, Ai.get, Ai.put, stab, isNil?, if_false, if_true, addr?, int?, str?, agg?, bool?, shiftA, FnPost, xresL, xres1, tup, argEnv, ptr, Nat.reduceEqDiff, reduceIte, beq_self_eq_true, ne_eq, Nat.reduceAdd, Nat.reduceMul, Nat.reduceSub, abin_shl, abin_shr, load1V, loadV, storeV, cellsAt, getN, setN, allocV, lenL, lenS, bnd, oneC, Value.oneCell', Nat.reduceLeDiff, Nat.reduceLT, exists_eq_left', forall_const, reduceCtorEq, app_new, app_new0, List.append_assoc, Int.reduceToNat, Int.reduceLT, Int.reduceLE, Int.reduceEq, Int.reduceNe, Int.reduceBEq, IntKind.bits, bne_self_eq_false, Int.reducePow, r21, ht']
        have : m = 0 := by omega
        subst this
        exact ⟨t, b, dv, by omega, r21, r3, r4, os, pre, ok, hel⟩
    have hF6 : ∀ x ∈ F, x ≤ 6 := fun x hx => (lo.f x hx).2
    clear r3 r4 os pre hes lo ρ b dv h'
    rintro ρ g ⟨t, b, dv, htm, r21, r3, r4, os, pre, ok, hel⟩
    have ht : t = 6 := by omega
    subst ht
    have hno := none_open pre hF6 (by decide)
    obtain ⟨rs, B⟩ := os.bk
    simp only [sx, x_box, x_alloc, x_bslice, x_slice, x_append, x_appz, x_b2s, x_s2b, x_mark, xop, ev, evs, evParts, fillL, cellsL, Ai.get, Ai.put, stab, isNil?, if_false, if_true, addr?, int?, str?, agg?, bool?, shiftA, FnPost, xresL, xres1, tup, argEnv, ptr, Nat.reduceEqDiff, reduceIte, beq_self_eq_true, ne_eq, Nat.reduceAdd, Nat.reduceMul, Nat.reduceSub, abin_shl, abin_shr, load1V, loadV, storeV, cellsAt, getN, setN, allocV, lenL, lenS, bnd, oneC, Value.oneCell', Nat.reduceLeDiff, Nat.reduceLT, exists_eq_left', forall_const, reduceCtorEq, app_new, app_new0, List.append_assoc, Int.reduceToNat, Int.reduceLT, Int.reduceLE, Int.reduceEq, Int.reduceNe, Int.reduceBEq, IntKind.bits, bne_self_eq_false, Int.reducePow]
    refine xcall (ends_ok B (by omega)) (by rfl) (by rfl) (by simp only [sx, x_box, x_alloc, x_bslice, x_slice, x_append, x_appz, x_b2s, x_s2b, x_mark, xop, ev, evs, evParts, fillL, cellsL, Ai.get, Ai.put, stab, isNil?, if_false, if_true, addr?, int?, str?, agg?, bool?, shiftA, FnPost, xresL, xres1, tup, argEnv, ptr, Nat.reduceEqDiff, reduceIte, beq_self_eq_true, ne_eq, Nat.reduceAdd, Nat.reduceMul, Nat.reduceSub, abin_shl, abin_shr, load1V, loadV, storeV, cellsAt, getN, setN, allocV, lenL, lenS, bnd, oneC, Value.oneCell', Nat.reduceLeDiff, Nat.reduceLT, exists_eq_left', forall_const, reduceCtorEq, app_new, app_new0, List.append_assoc, Int.reduceToNat, Int.reduceLT, Int.reduceLE, Int.reduceEq, Int.reduceNe, Int.reduceBEq, IntKind.bits, bne_self_eq_false, Int.reducePow, r3]; rfl) (by rfl) ?_
    rintro r g4 ⟨hL, B2, hl4, hk4, hsr⟩
    obtain ⟨os4, -⟩ := os.ends B2 hl4 hk4
    have hrO : ∀ Y, slB r = some Y → Y ≠ O := fun Y hY => (os.far Y (.inr (hsr Y hY))).2.1
    have p0 : ∀ i, i < 128 → A[i]? = some (opn (b.at i) || endE (b.es.drop 0) i) := fun i hi => by rw [List.drop_zero]; exact pre.op i hi
    obtain ⟨qr, cr, hr0⟩ : ∃ q c, r = .slice q b.es.length c := by obtain ⟨q, _, e, -⟩ := hL; exact ⟨_, _, e⟩
    subst hr0
    simp only [sx, x_box, x_alloc, x_bslice, x_slice, x_append, x_appz, x_b2s, x_s2b, x_mark, xop, ev, evs, evParts, fillL, cellsL, Ai.get, Ai.put, stab, isNil?, if_false, if_true, addr?, int?, str?, agg?, bool?, shiftA, FnPost, xresL, xres1, tup, argEnv, ptr, Nat.reduceEqDiff, reduceIte, beq_self_eq_true, ne_eq, Nat.reduceAdd, Nat.reduceMul, Nat.reduceSub, abin_shl, abin_shr, load1V, loadV, storeV, cellsAt, getN, setN, allocV, lenL, lenS, bnd, oneC, Value.oneCell', Nat.reduceLeDiff, Nat.reduceLT, exists_eq_left', forall_const, reduceCtorEq, app_new, app_new0, List.append_assoc, Int.reduceToNat, Int.reduceLT, Int.reduceLE, Int.reduceEq, Int.reduceNe, Int.reduceBEq, IntKind.bits, bne_self_eq_false, Int.reducePow]
    refine xloop_cut (OfE h R O L H F S b) ?_ ?_
    · refine xcode_loop (OfI h R O L H F S b (.slice qr b.es.length cr)) b.es.length ⟨0, A, by omega, rfl, rfl, r3, r4, os4, hL, pre.n1, p0⟩ ?_
      clear r3 r4 r21 ρ os4 hL hsr hk4 hl4 B2 os B g4
      rintro m' ρ g4 ⟨k, A', hkm, r23, r22, r3, r4, os, hL, hn', hA'⟩
      by_cases hk : k < b.es.length
      · have hk' : (k : Int) < (b.es.length : Nat) := by omega
        have hk0 : (0 : Int) ≤ (k : Int) := by omega
        have wk : IntKind.i64.wrap ((k : Int) + 1) = ((k + 1 : Nat) : Int) := by rw [i64_wrap] <;> omega
        have hke := List.getElem?_eq_getElem hk
        obtain ⟨Y, off, w1, cs1, v1, e1, hY, hg1, hv1⟩ := hL.get hke
        rw [Value.slice.injEq] at e1
        obtain ⟨rfl, -, rfl⟩ := e1
        obtain ⟨j, hj, hej, hAj, hAn⟩ := pre.step hA' hn' hke
        generalize b.es[k] = e at *
        obtain ⟨c0, c1, c2, c3⟩ := getN4 hg1
        rw [hej] at c0
        have hj0 : (0 : Int) ≤ (j : Int) := by omega
        have hj1 : ¬ (j : Int) < 0 := by omega
        have hj2 : ¬ (127 : Int) < (j : Int) := by omega
        have hj3 : (j : Int) < 128 := by omega
        have hj4 : j + 1 ≤ 128 := by omega
        have hAj' := bV_get hAj
        have hO := os.oo
        have hYO := hrO Y rfl
        have l1 : (bV A').length = 128 := by rw [bV_len, hn']
        have z4 : ∀ x : Option AObj, Frz g4 (g4.set O x) := fun x X cs hX => by
          rw [set_ne (fun e => by subst e; rw [hO] at hX; cases hX)]; exact hX
        simp only [sx, x_box, x_alloc, x_bslice, x_slice, x_append, x_appz, x_b2s, x_s2b, x_mark, xop, ev, evs, evParts, fillL, cellsL, Ai.get, Ai.put, stab, isNil?, if_false, if_true, addr?, int?, str?, agg?, bool?, shiftA, FnPost, xresL, xres1, tup, argEnv, ptr, Nat.reduceEqDiff, reduceIte, beq_self_eq_true, ne_eq, Nat.reduceAdd, Nat.reduceMul, Nat.reduceSub, abin_shl, abin_shr, load1V, loadV, storeV, cellsAt, getN, setN, allocV, lenL, lenS, bnd, oneC, Value.oneCell', Nat.reduceLeDiff, Nat.reduceLT, exists_eq_left', forall_const, reduceCtorEq, app_new, app_new0, List.append_assoc, Int.reduceToNat, Int.reduceLT, Int.reduceLE, Int.reduceEq, Int.reduceNe, Int.reduceBEq, IntKind.bits, bne_self_eq_false, Int.reducePow, r23, r22, r4, hk', hk0, hY, c0, hj0, hj1, hj2, hj3, hj4, hAj', hO, l1, bV_set, Nat.mul_one, wk]
        exact ⟨m' - 1, by omega, k + 1, A'.set j false, by omega, rfl, r22, r3, r4, os.setO _, hL.keep (z4 _) fun Z hZ => set_ne (hrO Z hZ).symm _, by rw [List.length_set]; exact hn', hAn⟩
      · have hk' : ¬ (k : Int) < (b.es.length : Nat) := by omega
        have : k = b.es.length := by omega
        subst this
        simp only [sx, x_box, x_alloc, x_bslice, x_slice, x_append, x_appz, x_b2s, x_s2b, x_mark, xop, ev, evs, evParts, fillL, cellsL, Ai.get, Ai.put, stab, isNil?, if_false, if_true, addr?, int?, str?, agg?, bool?, shiftA, FnPost, xresL, xres1, tup, argEnv, ptr, Nat.reduceEqDiff, reduceIte, beq_self_eq_true, ne_eq, Nat.reduceAdd, Nat.reduceMul, Nat.reduceSub, abin_shl, abin_shr, load1V, loadV, storeV, cellsAt, getN, setN, allocV, lenL, lenS, bnd, oneC, Value.oneCell', Nat.reduceLeDiff, Nat.reduceLT, exists_eq_left', forall_const, reduceCtorEq, app_new, app_new0, List.append_assoc, Int.reduceToNat, Int.reduceLT, Int.reduceLE, Int.reduceEq, Int.reduceNe, Int.reduceBEq, IntKind.bits, bne_self_eq_false, Int.reducePow, r23, r22, hk']
        exact ⟨A', r3, r4, os, hn', hA'⟩
    clear r3 r4 r21 ρ os4 hL hsr hk4 hl4 B2 os B g4 hrO p0
    rintro ρ g4 ⟨A', r3, r4, os, hn', hA'⟩
    have hA2 : ∀ i, i < 128 → A'[i]? = some false := fun i hi => by rw [hA' i hi, hno i hi, List.drop_length]; rfl
    simp only [sx, x_box, x_alloc, x_bslice, x_slice, x_append, x_appz, x_b2s, x_s2b, x_mark, xop, ev, evs, evParts, fillL, cellsL, Ai.get, Ai.put, stab, isNil?, if_false, if_true, addr?, int?, str?, agg?, bool?, shiftA, FnPost, xresL, xres1, tup, argEnv, ptr, Nat.reduceEqDiff, reduceIte, beq_self_eq_true, ne_eq, Nat.reduceAdd, Nat.reduceMul, Nat.reduceSub, abin_shl, abin_shr, load1V, loadV, storeV, cellsAt, getN, setN, allocV, lenL, lenS, bnd, oneC, Value.oneCell', Nat.reduceLeDiff, Nat.reduceLT, exists_eq_left', forall_const, reduceCtorEq, app_new, app_new0, List.append_assoc, Int.reduceToNat, Int.reduceLT, Int.reduceLE, Int.reduceEq, Int.reduceNe, Int.reduceBEq, IntKind.bits, bne_self_eq_false, Int.reducePow]
    refine xloop_cut (OhE R g4) ?_ ?_
    · refine xcode_loop (OhI R O g4) 128 ⟨0, by omega, rfl, r3, r4, rfl⟩ ?_
      clear r3 r4 ρ
      rintro m' ρ g ⟨k, hkm, r24, r3, r4, e0⟩
      subst e0
      by_cases hk : k < 128
      · have hk' : (k : Int) < 128 := by omega
        have hk0 : (0 : Int) ≤ (k : Int) := by omega
        have wk : IntKind.i64.wrap ((k : Int) + 1) = ((k + 1 : Nat) : Int) := by rw [i64_wrap] <;> omega
        have hAk := bV_get (hA2 k hk)
        have hO := os.oo
        simp only [sx, x_box, x_alloc, x_bslice, x_slice, x_append, x_appz, x_b2s, x_s2b, x_mark, xop, ev, evs, evParts, fillL, cellsL, Ai.get, Ai.put, stab, isNil?, if_false, if_true, addr?, int?, str?, agg?, bool?, shiftA, FnPost, xresL, xres1, tup, argEnv, ptr, Nat.reduceEqDiff, reduceIte, beq_self_eq_true, ne_eq, Nat.reduceAdd, Nat.reduceMul, Nat.reduceSub, abin_shl, abin_shr, load1V, loadV, storeV, cellsAt, getN, setN, allocV, lenL, lenS, bnd, oneC, Value.oneCell', Nat.reduceLeDiff, Nat.reduceLT, exists_eq_left', forall_const, reduceCtorEq, app_new, app_new0, List.append_assoc, Int.reduceToNat, Int.reduceLT, Int.reduceLE, Int.reduceEq, Int.reduceNe, Int.reduceBEq, IntKind.bits, bne_self_eq_false, Int.reducePow, r24, r4, hk', hk0, hO, hAk, Nat.mul_one, wk]
        exact ⟨m' - 1, by omega, k + 1, by omega, rfl, r3, r4, rfl⟩
      · have hk' : ¬ (k : Int) < 128 := by omega
        simp only [sx, x_box, x_alloc, x_bslice, x_slice, x_append, x_appz, x_b2s, x_s2b, x_mark, xop, ev, evs, evParts, fillL, cellsL, Ai.get, Ai.put, stab, isNil?, if_false, if_true, addr?, int?, str?, agg?, bool?, shiftA, FnPost, xresL, xres1, tup, argEnv, ptr, Nat.reduceEqDiff, reduceIte, beq_self_eq_true, ne_eq, Nat.reduceAdd, Nat.reduceMul, Nat.reduceSub, abin_shl, abin_shr, load1V, loadV, storeV, cellsAt, getN, setN, allocV, lenL, lenS, bnd, oneC, Value.oneCell', Nat.reduceLeDiff, Nat.reduceLT, exists_eq_left', forall_const, reduceCtorEq, app_new, app_new0, List.append_assoc, Int.reduceToNat, Int.reduceLT, Int.reduceLE, Int.reduceEq, Int.reduceNe, Int.reduceBEq, IntKind.bits, bne_self_eq_false, Int.reducePow, r24, hk']
        exact ⟨r3, rfl⟩
    clear r3 r4 ρ
    rintro ρ g ⟨r3, e0⟩
    subst e0
    obtain ⟨rs0, B0⟩ := os.bk
    have hc0 : Bk.cnt { b with es := [] } = 0 := cnt_zero pre.n hno
    simp only [sx, x_box, x_alloc, x_bslice, x_slice, x_append, x_appz, x_b2s, x_s2b, x_mark, xop, ev, evs, evParts, fillL, cellsL, Ai.get, Ai.put, stab, isNil?, if_false, if_true, addr?, int?, str?, agg?, bool?, shiftA, FnPost, xresL, xres1, tup, argEnv, ptr, Nat.reduceEqDiff, reduceIte, beq_self_eq_true, ne_eq, Nat.reduceAdd, Nat.reduceMul, Nat.reduceSub, abin_shl, abin_shr, load1V, loadV, storeV, cellsAt, getN, setN, allocV, lenL, lenS, bnd, oneC, Value.oneCell', Nat.reduceLeDiff, Nat.reduceLT, exists_eq_left', forall_const, reduceCtorEq, app_new, app_new0, List.append_assoc, Int.reduceToNat, Int.reduceLT, Int.reduceLE, Int.reduceEq, Int.reduceNe, Int.reduceBEq, IntKind.bits, bne_self_eq_false, Int.reducePow]
    refine xcall (open_ok B0) (by rfl) (by rfl) (by simp only [sx, x_box, x_alloc, x_bslice, x_slice, x_append, x_appz, x_b2s, x_s2b, x_mark, xop, ev, evs, evParts, fillL, cellsL, Ai.get, Ai.put, stab, isNil?, if_false, if_true, addr?, int?, str?, agg?, bool?, shiftA, FnPost, xresL, xres1, tup, argEnv, ptr, Nat.reduceEqDiff, reduceIte, beq_self_eq_true, ne_eq, Nat.reduceAdd, Nat.reduceMul, Nat.reduceSub, abin_shl, abin_shr, load1V, loadV, storeV, cellsAt, getN, setN, allocV, lenL, lenS, bnd, oneC, Value.oneCell', Nat.reduceLeDiff, Nat.reduceLT, exists_eq_left', forall_const, reduceCtorEq, app_new, app_new0, List.append_assoc, Int.reduceToNat, Int.reduceLT, Int.reduceLE, Int.reduceEq, Int.reduceNe, Int.reduceBEq, IntKind.bits, bne_self_eq_false, Int.reducePow, r3]; rfl) (by rfl) ?_
    rintro r g5 ⟨rfl, e0⟩
    subst e0
    rw [hc0]
    simp only [sx, x_box, x_alloc, x_bslice, x_slice, x_append, x_appz, x_b2s, x_s2b, x_mark, xop, ev, evs, evParts, fillL, cellsL, Ai.get, Ai.put, stab, isNil?, if_false, if_true, addr?, int?, str?, agg?, bool?, shiftA, FnPost, xresL, xres1, tup, argEnv, ptr, Nat.reduceEqDiff, reduceIte, beq_self_eq_true, ne_eq, Nat.reduceAdd, Nat.reduceMul, Nat.reduceSub, abin_shl, abin_shr, load1V, loadV, storeV, cellsAt, getN, setN, allocV, lenL, lenS, bnd, oneC, Value.oneCell', Nat.reduceLeDiff, Nat.reduceLT, exists_eq_left', forall_const, reduceCtorEq, app_new, app_new0, List.append_assoc, Int.reduceToNat, Int.reduceLT, Int.reduceLE, Int.reduceEq, Int.reduceNe, Int.reduceBEq, IntKind.bits, bne_self_eq_false, Int.reducePow, Int.natCast_zero]
    refine xcall (lives_ok _) (by rfl) (by rfl) (by rfl) (by rfl) ?_
    rintro r g6 ⟨rfl, rfl⟩
    simp only [sx, x_box, x_alloc, x_bslice, x_slice, x_append, x_appz, x_b2s, x_s2b, x_mark, xop, ev, evs, evParts, fillL, cellsL, Ai.get, Ai.put, stab, isNil?, if_false, if_true, addr?, int?, str?, agg?, bool?, shiftA, FnPost, xresL, xres1, tup, argEnv, ptr, Nat.reduceEqDiff, reduceIte, beq_self_eq_true, ne_eq, Nat.reduceAdd, Nat.reduceMul, Nat.reduceSub, abin_shl, abin_shr, load1V, loadV, storeV, cellsAt, getN, setN, allocV, lenL, lenS, bnd, oneC, Value.oneCell', Nat.reduceLeDiff, Nat.reduceLT, exists_eq_left', forall_const, reduceCtorEq, app_new, app_new0, List.append_assoc, Int.reduceToNat, Int.reduceLT, Int.reduceLE, Int.reduceEq, Int.reduceNe, Int.reduceBEq, IntKind.bits, bne_self_eq_false, Int.reducePow]
    exact os.kp
  · rintro ρ h' ⟨r2, K⟩
    simp only [sx, x_box, x_alloc, x_bslice, x_slice, x_append, x_appz, x_b2s, x_s2b, x_mark, xop, ev, evs, evParts, fillL, cellsL, Ai.get, Ai.put, stab, isNil?, if_false, if_true, addr?, int?, str?, agg?, bool?, shiftA, FnPost, xresL, xres1, tup, argEnv, ptr, Nat.reduceEqDiff, reduceIte, beq_self_eq_true, ne_eq, Nat.reduceAdd, Nat.reduceMul, Nat.reduceSub, abin_shl, abin_shr, load1V, loadV, storeV, cellsAt, getN, setN, allocV, lenL, lenS, bnd, oneC, Value.oneCell', Nat.reduceLeDiff, Nat.reduceLT, exists_eq_left', forall_const, reduceCtorEq, app_new, app_new0, List.append_assoc, Int.reduceToNat, Int.reduceLT, Int.reduceLE, Int.reduceEq, Int.reduceNe, Int.reduceBEq, IntKind.bits, bne_self_eq_false, Int.reducePow, r2]
    exact K
  refine xcode_loop (OcI h q n c) (n + 1) ⟨0, R, g1.length, g1.length + 1, g1.length + 2, _, _, _, _, _, by omega, ⟨rfl, rfl, rfl, rfl, rfl, rfl⟩, S0, Pre.nil, rfl, ⟨fun x hx => by rw [List.eq_of_mem_replicate hx]; omega, fun x hx => by rw [List.eq_of_mem_replicate hx]; decide, Bk.nil_ok⟩⟩ ?_
  clear S0 K1 hRl hg1 g1 g2 R
  rintro m ρ g ⟨i, R, O, L, H, A, F, S, b, dv, him, rr, os, pre, hes, lo⟩
  have r0 := rr.r0
  have r7 := rr.r7
  by_cases hi : i ≤ n
  rotate_left
  · have hi' : ¬ (i : Int) ≤ (n : Nat) := by omega
    simp only [sx, x_box, x_alloc, x_bslice, x_slice, x_append, x_appz, x_b2s, x_s2b, x_mark, xop, ev, evs, evParts, fillL, cellsL, Ai.get, Ai.put, stab, isNil?, if_false, if_true, addr?, int?, str?, agg?, bool?, shiftA, FnPost, xresL, xres1, tup, argEnv, ptr, Nat.reduceEqDiff, reduceIte, beq_self_eq_true, ne_eq, Nat.reduceAdd, Nat.reduceMul, Nat.reduceSub, abin_shl, abin_shr, load1V, loadV, storeV, cellsAt, getN, setN, allocV, lenL, lenS, bnd, oneC, Value.oneCell', Nat.reduceLeDiff, Nat.reduceLT, exists_eq_left', forall_const, reduceCtorEq, app_new, app_new0, List.append_assoc, Int.reduceToNat, Int.reduceLT, Int.reduceLE, Int.reduceEq, Int.reduceNe, Int.reduceBEq, IntKind.bits, bne_self_eq_false, Int.reducePow, r7, r0, hi']
    have : i = n + 1 := by omega
    subst this
    exact .inl ⟨R, O, L, H, A, F, S, b, dv, rr.r3, rr.r4, os, pre, hes, lo⟩
  have hi' : (i : Int) ≤ (n : Nat) := by omega
  have hi0 : (0 : Int) ≤ (i : Int) := by omega
  simp only [sx, x_box, x_bslice, x_slice, x_append, x_appz, x_b2s, x_s2b, x_mark, xop, ev, evs, evParts, fillL, cellsL, Ai.get, Ai.put, stab, isNil?, if_false, if_true, addr?, int?, str?, agg?, bool?, shiftA, FnPost, xresL, xres1, tup, argEnv, ptr, Nat.reduceEqDiff, reduceIte, beq_self_eq_true, ne_eq, Nat.reduceAdd, Nat.reduceMul, Nat.reduceSub, abin_shl, abin_shr, load1V, loadV, storeV, cellsAt, getN, setN, allocV, lenL, lenS, bnd, oneC, Value.oneCell', Nat.reduceLeDiff, Nat.reduceLT, exists_eq_left', forall_const, reduceCtorEq, app_new, app_new0, List.append_assoc, Int.reduceToNat, Int.reduceLT, Int.reduceLE, Int.reduceEq, Int.reduceNe, Int.reduceBEq, IntKind.bits, bne_self_eq_false, Int.reducePow, r7, r0, hi']
  refine alloc_run fun g2 T K2 hT hTl hg2 => ⟨trivial, ?_⟩
  simp only [sx, x_box, x_bslice, x_slice, x_append, x_appz, x_b2s, x_s2b, x_mark, xop, ev, evs, evParts, fillL, cellsL, Ai.get, Ai.put, stab, isNil?, if_false, if_true, addr?, int?, str?, agg?, bool?, shiftA, FnPost, xresL, xres1, tup, argEnv, ptr, Nat.reduceEqDiff, reduceIte, beq_self_eq_true, ne_eq, Nat.reduceAdd, Nat.reduceMul, Nat.reduceSub, abin_shl, abin_shr, load1V, loadV, storeV, cellsAt, getN, setN, allocV, lenL, lenS, bnd, oneC, Value.oneCell', Nat.reduceLeDiff, Nat.reduceLT, exists_eq_left', forall_const, reduceCtorEq, app_new, app_new0, List.append_assoc, Int.reduceToNat, Int.reduceLT, Int.reduceLE, Int.reduceEq, Int.reduceNe, Int.reduceBEq, IntKind.bits, bne_self_eq_false, Int.reducePow, r7, r0, hT]
  have hTs : ∀ y : Option AObj, (g2.set T y)[T]? = some y := fun y => List.getElem?_set_self (lt_of_get hT)
  have kT : ∀ y : Option AObj, Kp g (g2.set T y) := fun y => K2.set hTl y
  have bT : ¬ ftB R dv T := fun e => by
    obtain ⟨rs, B⟩ := os.bk
    have := B.ftlt e; omega
  have aT : T ≠ O ∧ T ≠ L ∧ T ≠ H := by
    have := lt_of_get os.oo
    have := lt_of_get os.ll
    have := lt_of_get os.hh
    exact ⟨by omega, by omega, by omega⟩
  refine xcond_cut (OnT q n c i R O L H g dv) ?_ ?_
  · have hr := rr
    obtain ⟨r0, r3, r4, r5, r6, r7⟩ := rr
    by_cases hin : i < n
    · have hin' : (i : Int) < (n : Nat) := by omega
      obtain ⟨X, w, rows, rfl, hX, a, qa, ca, oa, ha5, ha4, hv⟩ := W.at os.kp hin
      have hX2 := (kT (some ⟨true, [.int .u8 3, .int .u8 255, .int .u8 4, .int .u8 0, .slice none 0 0]⟩)).get hX
      have hT2 := hTs (some ⟨true, [.int .u8 3, .int .u8 255, .int .u8 4, .int .u8 0, .slice none 0 0]⟩)
      have K3 : Kp g ((g2.set T (some ⟨true, [.int .u8 3, .int .u8 255, .int .u8 4, .int .u8 0, .slice none 0 0]⟩)).set T (some ⟨true, a.cells (.slice qa a.val.length ca)⟩)) := (kT _).set hTl _
      have hT3 : ((g2.set T (some ⟨true, [.int .u8 3, .int .u8 255, .int .u8 4, .int .u8 0, .slice none 0 0]⟩)).set T (some ⟨true, a.cells (.slice qa a.val.length ca)⟩))[T]? = some (some ⟨true, a.cells (.slice qa a.val.length ca)⟩) := List.getElem?_set_self (lt_of_get hT2)
      have hv3 := part_kp hv K3
      simp only [Ac.cells] at ha5 K3 hT3 hv3
      simp only [sx, x_box, x_alloc, x_bslice, x_slice, x_append, x_appz, x_b2s, x_s2b, x_mark, xop, ev, evs, evParts, fillL, cellsL, Ai.get, Ai.put, stab, isNil?, if_false, if_true, addr?, int?, str?, agg?, bool?, shiftA, FnPost, xresL, xres1, tup, argEnv, ptr, Nat.reduceEqDiff, reduceIte, beq_self_eq_true, ne_eq, Nat.reduceAdd, Nat.reduceMul, Nat.reduceSub, abin_shl, abin_shr, load1V, loadV, storeV, cellsAt, setN, allocV, lenL, lenS, bnd, oneC, Value.oneCell', Nat.reduceLeDiff, Nat.reduceLT, exists_eq_left', forall_const, reduceCtorEq, app_new, app_new0, List.append_assoc, Int.reduceToNat, Int.reduceLT, Int.reduceLE, Int.reduceEq, Int.reduceNe, Int.reduceBEq, IntKind.bits, bne_self_eq_false, Int.reducePow, hin', r0, r7, hi0, hX2, hT2, ha5]
      refine ⟨⟨r0, r3, r4, r5, r6, r7⟩, T, a, qa, ca, rfl, ⟨?_, bT, aT⟩, oa, ?_, ?_⟩
      · exact hT3
      · exact hv3
      · exact K3
    · have hin' : ¬ (i : Int) < (n : Nat) := by omega
      simp only [sx, x_box, x_alloc, x_bslice, x_slice, x_append, x_appz, x_b2s, x_s2b, x_mark, xop, ev, evs, evParts, fillL, cellsL, Ai.get, Ai.put, stab, isNil?, if_false, if_true, addr?, int?, str?, agg?, bool?, shiftA, FnPost, xresL, xres1, tup, argEnv, ptr, Nat.reduceEqDiff, reduceIte, beq_self_eq_true, ne_eq, Nat.reduceAdd, Nat.reduceMul, Nat.reduceSub, abin_shl, abin_shr, load1V, loadV, storeV, cellsAt, getN, setN, allocV, lenL, lenS, bnd, oneC, Value.oneCell', Nat.reduceLeDiff, Nat.reduceLT, exists_eq_left', forall_const, reduceCtorEq, app_new, app_new0, List.append_assoc, Int.reduceToNat, Int.reduceLT, Int.reduceLE, Int.reduceEq, Int.reduceNe, Int.reduceBEq, IntKind.bits, bne_self_eq_false, Int.reducePow, hin', r0, r7]
      exact ⟨⟨r0, r3, r4, r5, r6, r7⟩, T, ⟨3, 255, 4, 0, []⟩, none, 0, rfl, ⟨hTs _, bT, aT⟩, ⟨by decide, by decide, by decide, by decide, by simp⟩, ⟨none, 0, rfl, rfl, rfl⟩, kT _⟩
  clear hTs kT bT aT hT hTl hg2 K2 r0 r7 rr T ρ g2
  rintro ρ g2 ⟨rr, T, a, qa, ca, r8, ot, oa, hv, Kg⟩
  replace os := os.keep Kg
  clear Kg g
  rw [kSeq_normal, xcode_seq]
  have hT := ot.get
  simp only [Ac.cells] at hT
  by_cases hv50 : 50 < a.val.length
  · have hv50' : (50 : Int) < (a.val.length : Nat) := by omega
    simp only [sx, x_box, x_alloc, x_bslice, x_slice, x_append, x_appz, x_b2s, x_s2b, x_mark, xop, ev, evs, evParts, fillL, cellsL, Ai.get, Ai.put, stab, isNil?, if_false, if_true, addr?, int?, str?, agg?, bool?, shiftA, FnPost, xresL, xres1, tup, argEnv, ptr, Nat.reduceEqDiff, reduceIte, beq_self_eq_true, ne_eq, Nat.reduceAdd, Nat.reduceMul, Nat.reduceSub, abin_shl, abin_shr, load1V, loadV, storeV, cellsAt, getN, setN, allocV, lenL, lenS, bnd, oneC, Value.oneCell', Nat.reduceLeDiff, Nat.reduceLT, exists_eq_left', forall_const, reduceCtorEq, app_new, app_new0, List.append_assoc, Int.reduceToNat, Int.reduceLT, Int.reduceLE, Int.reduceEq, Int.reduceNe, Int.reduceBEq, IntKind.bits, bne_self_eq_false, Int.reducePow, r8, hT, hv50']
    refine xcall (lives_ok _) (by rfl) (by rfl) (by rfl) (by rfl) ?_
    rintro r h2 ⟨rfl, rfl⟩
    simp only [sx, x_box, x_alloc, x_bslice, x_slice, x_append, x_appz, x_b2s, x_s2b, x_mark, xop, ev, evs, evParts, fillL, cellsL, Ai.get, Ai.put, stab, isNil?, if_false, if_true, addr?, int?, str?, agg?, bool?, shiftA, FnPost, xresL, xres1, tup, argEnv, ptr, Nat.reduceEqDiff, reduceIte, beq_self_eq_true, ne_eq, Nat.reduceAdd, Nat.reduceMul, Nat.reduceSub, abin_shl, abin_shr, load1V, loadV, storeV, cellsAt, getN, setN, allocV, lenL, lenS, bnd, oneC, Value.oneCell', Nat.reduceLeDiff, Nat.reduceLT, exists_eq_left', forall_const, reduceCtorEq, app_new, app_new0, List.append_assoc, Int.reduceToNat, Int.reduceLT, Int.reduceLE, Int.reduceEq, Int.reduceNe, Int.reduceBEq, IntKind.bits, bne_self_eq_false, Int.reducePow]
    exact .inr ⟨rfl, os.kp⟩
  have hv50' : ¬ (50 : Int) < (a.val.length : Nat) := by omega
  refine xcode_cut (OnW q n c i R O L H T g2) ?_ ?_
  · simp only [sx, x_box, x_alloc, x_bslice, x_slice, x_append, x_appz, x_b2s, x_s2b, x_mark, xop, ev, evs, evParts, fillL, cellsL, Ai.get, Ai.put, stab, isNil?, if_false, if_true, addr?, int?, str?, agg?, bool?, shiftA, FnPost, xresL, xres1, tup, argEnv, ptr, Nat.reduceEqDiff, reduceIte, beq_self_eq_true, ne_eq, Nat.reduceAdd, Nat.reduceMul, Nat.reduceSub, abin_shl, abin_shr, load1V, loadV, storeV, cellsAt, getN, setN, allocV, lenL, lenS, bnd, oneC, Value.oneCell', Nat.reduceLeDiff, Nat.reduceLT, exists_eq_left', forall_const, reduceCtorEq, app_new, app_new0, List.append_assoc, Int.reduceToNat, Int.reduceLT, Int.reduceLE, Int.reduceEq, Int.reduceNe, Int.reduceBEq, IntKind.bits, bne_self_eq_false, Int.reducePow, r8, hT, hv50']
    obtain ⟨r0, r3, r4, r5, r6, r7⟩ := rr
    exact ⟨⟨r0, r3, r4, r5, r6, r7⟩, r8, rfl⟩
  clear rr r8 ρ
  rintro ρ g ⟨rr, r8, e0⟩
  subst e0
  rw [kSeq_normal, xcode_seq]
  refine xcode_cut (OnX q n c i R O L H T g) ?_ ?_
  · simp only [sx, x_box, x_alloc, x_bslice, x_slice, x_append, x_appz, x_b2s, x_s2b, x_mark, xop, ev, evs, evParts, fillL, cellsL, Ai.get, Ai.put, stab, isNil?, if_false, if_true, addr?, int?, str?, agg?, bool?, shiftA, FnPost, xresL, xres1, tup, argEnv, ptr, Nat.reduceEqDiff, reduceIte, beq_self_eq_true, ne_eq, Nat.reduceAdd, Nat.reduceMul, Nat.reduceSub, abin_shl, abin_shr, load1V, loadV, storeV, cellsAt, getN, setN, allocV, lenL, lenS, bnd, oneC, Value.oneCell', Nat.reduceLeDiff, Nat.reduceLT, exists_eq_left', forall_const, reduceCtorEq, app_new, app_new0, List.append_assoc, Int.reduceToNat, Int.reduceLT, Int.reduceLE, Int.reduceEq, Int.reduceNe, Int.reduceBEq, IntKind.bits, bne_self_eq_false, Int.reducePow]
    obtain ⟨r0, r3, r4, r5, r6, r7⟩ := rr
    exact ⟨⟨r0, r3, r4, r5, r6, r7⟩, r8, rfl, rfl⟩
  clear rr r8 ρ
  rintro ρ g2 ⟨rr, r8, r9, e0⟩
  subst e0
  rw [kSeq_normal, xcode_seq]
  refine xcode_cut (OnS h q n c i R O L H T a (.slice qa a.val.length ca)) ?_ ?_
  · obtain ⟨rs, B⟩ := os.bk
    obtain ⟨r0, r3, r4, r5, r6, r7⟩ := rr
    have hrr := rem8 a.a0
    have o1 := oa.h1
    have o2 := oa.h2
    have o3 := oa.h3
    have e1 : (a.a1 : Int).tmod 2 = ((a.a1 % 2 : Nat) : Int) := by rw [Int.tmod_eq_emod_of_nonneg (by omega)]; omega
    have e1' : IntKind.i64.wrap ((a.a1 % 2 : Nat) : Int) = ((a.a1 % 2 : Nat) : Int) := by rw [i64_wrap] <;> omega
    have e2 : (a.a2 : Int).tmod 4 = ((a.a2 % 4 : Nat) : Int) := by rw [Int.tmod_eq_emod_of_nonneg (by omega)]; omega
    have e2' : IntKind.u8.wrap (1 + ((a.a2 % 4 : Nat) : Int)) = ((a.a2 % 4 + 1 : Nat) : Int) := by rw [u8_wrap (by omega) (by omega)]; omega
    have e3 : (a.a3 : Int).tmod 6 = ((a.a3 % 6 : Nat) : Int) := by rw [Int.tmod_eq_emod_of_nonneg (by omega)]; omega
    have e3' : IntKind.i64.wrap ((a.a3 % 6 : Nat) : Int) = ((a.a3 % 6 : Nat) : Int) := by rw [i64_wrap] <;> omega
    have e3'' : IntKind.i64.wrap (1 + ((a.a3 % 6 : Nat) : Int)) = ((a.a3 % 6 + 1 : Nat) : Int) := by rw [i64_wrap] <;> omega
    have e8 : (a.a1 : Int).tmod 8 = ((a.a1 % 8 : Nat) : Int) := rem8 _
    have e8' : IntKind.i64.wrap ((a.a1 % 8 : Nat) : Int) = ((a.a1 % 8 : Nat) : Int) := by rw [i64_wrap] <;> omega
    have hlo : Lo F S b (i + 1) := ⟨fun x hx => by have := lo.f x hx; omega, fun x hx => by have := lo.s x hx; omega, lo.ok⟩
    have hcase : a.a0 % 8 < 3 ∨ (a.a0 % 8 = 3 ∨ a.a0 % 8 = 4) ∨ a.a0 % 8 = 5 ∨ a.a0 % 8 = 6 ∨ a.a0 % 8 = 7 := by omega
    rcases hcase with hk | hk | hk | hk | hk
    · have hnb : ¬ bad ((a.a1 % 2 : Nat) : Int) ((a.a2 % 4 + 1 : Nat) : Int) ((a.a3 % 6 + 1 : Nat) : Int) := by unfold bad; omega
      have hk' : a.a0 % 8 = 0 ∨ a.a0 % 8 = 1 ∨ a.a0 % 8 = 2 := by omega
      rcases hk' with hk' | hk' | hk' <;> rw [hk'] at hrr <;> (
        simp only [Int.natCast_zero, Int.natCast_one, Int.cast_ofNat_Int] at hrr
        simp only [sx, x_box, x_alloc, x_bslice, x_slice, x_append, x_appz, x_b2s, x_s2b, x_mark, xop, ev, evs, evParts, fillL, cellsL, Ai.get, Ai.put, stab, isNil?, if_false, if_true, addr?, int?, str?, agg?, bool?, shiftA, FnPost, xresL, xres1, tup, argEnv, ptr, Nat.reduceEqDiff, reduceIte, beq_self_eq_true, ne_eq, Nat.reduceAdd, Nat.reduceMul, Nat.reduceSub, abin_shl, abin_shr, load1V, loadV, storeV, cellsAt, getN, setN, allocV, lenL, lenS, bnd, oneC, Value.oneCell', Nat.reduceLeDiff, Nat.reduceLT, exists_eq_left', forall_const, reduceCtorEq, app_new, app_new0, List.append_assoc, Int.reduceToNat, Int.reduceLT, Int.reduceLE, Int.reduceEq, Int.reduceNe, Int.reduceBEq, IntKind.bits, bne_self_eq_false, Int.reducePow, r8, r3, hT, hrr, e1, e1', e2, e2', e3, e3', e3'']
        refine xcall (ask_ok (op := ((a.a1 % 2 : Nat) : Int)) (cl := ((a.a2 % 4 + 1 : Nat) : Int)) (wt := ((a.a3 % 6 + 1 : Nat) : Int)) B) (by rfl) (by rfl) (by simp only [sx, x_box, x_alloc, x_bslice, x_slice, x_append, x_appz, x_b2s, x_s2b, x_mark, xop, ev, evs, evParts, fillL, cellsL, Ai.get, Ai.put, stab, isNil?, if_false, if_true, addr?, int?, str?, agg?, bool?, shiftA, FnPost, xresL, xres1, tup, argEnv, ptr, Nat.reduceEqDiff, reduceIte, beq_self_eq_true, ne_eq, Nat.reduceAdd, Nat.reduceMul, Nat.reduceSub, abin_shl, abin_shr, load1V, loadV, storeV, cellsAt, getN, setN, allocV, lenL, lenS, bnd, oneC, Value.oneCell', Nat.reduceLeDiff, Nat.reduceLT, exists_eq_left', forall_const, reduceCtorEq, app_new, app_new0, List.append_assoc, Int.reduceToNat, Int.reduceLT, Int.reduceLE, Int.reduceEq, Int.reduceNe, Int.reduceBEq, IntKind.bits, bne_self_eq_false, Int.reducePow, r3]; rfl) (by rfl) ?_
        rintro r g3 P
        rcases P with ⟨p1, -⟩ | ⟨-, p2, -⟩ | ⟨-, -, W3, hr⟩
        · exact absurd p1 hnb
        · omega
        obtain ⟨dv', os', kt⟩ := os.book W3
        have ot' := kt _ _ ot
        have hok := ask_ok' (op := ((a.a1 % 2 : Nat) : Int)) (cl := ((a.a2 % 4 + 1 : Nat) : Int)) (wt := ((a.a3 % 6 + 1 : Nat) : Int)) lo.ok (by omega) (by omega)
        have hes' : (b.ask ((a.a1 % 2 : Nat) : Int) ((a.a2 % 4 + 1 : Nat) : Int) ((a.a3 % 6 + 1 : Nat) : Int)).1.es.length ≤ 128 := by rw [ask_es, hes]; simp
        have hpre := Pre.ask' (op := ((a.a1 % 2 : Nat) : Int)) (cl := ((a.a2 % 4 + 1 : Nat) : Int)) (wt := ((a.a3 % 6 + 1 : Nat) : Int)) (rs' := decide (a.a0 % 8 < 7)) (v := ByteArray.empty) pre hes B.nx (by omega) (by omega)
        rcases hpre with ⟨hz, pr⟩ | ⟨j, hj, hz, hAj, pr⟩
        · rw [hz] at hr
          simp only at hr
          subst hr
          simp only [sx, x_box, x_alloc, x_bslice, x_slice, x_append, x_appz, x_b2s, x_s2b, x_mark, xop, ev, evs, evParts, fillL, cellsL, Ai.get, Ai.put, stab, isNil?, if_false, if_true, addr?, int?, str?, agg?, bool?, shiftA, FnPost, xresL, xres1, tup, argEnv, ptr, Nat.reduceEqDiff, reduceIte, beq_self_eq_true, ne_eq, Nat.reduceAdd, Nat.reduceMul, Nat.reduceSub, abin_shl, abin_shr, load1V, loadV, storeV, cellsAt, getN, setN, allocV, lenL, lenS, bnd, oneC, Value.oneCell', Nat.reduceLeDiff, Nat.reduceLT, exists_eq_left', forall_const, reduceCtorEq, app_new, app_new0, List.append_assoc, Int.reduceToNat, Int.reduceLT, Int.reduceLE, Int.reduceEq, Int.reduceNe, Int.reduceBEq, IntKind.bits, bne_self_eq_false, Int.reducePow]
          exact ⟨⟨r0, r3, r4, r5, r6, r7⟩, r8, A, F, S, _, dv', _, r9, os', ot', pr, hes', by decide, ⟨hlo.f, hlo.s, hok⟩⟩
        · rw [hz] at hr
          simp only at hr
          subst hr
          have hj0 : (0 : Int) ≤ (j : Int) := by omega
          have hj1 : ¬ (j : Int) < 0 := by omega
          have hj2 : ¬ (127 : Int) < (j : Int) := by omega
          have hj3 : (j : Int) < 128 := by omega
          have hj4 : j + 1 ≤ 128 := by omega
          have hAj' := bV_get hAj
          have hO := os'.oo
          have hT3 := ot'.get
          simp only [Ac.cells] at hT3
          have l1 : (bV A).length = 128 := by rw [bV_len, pre.n1]
          have l2 : (iV F).length = 128 := by rw [iV_len, pre.n2]
          have l3 : (sV S).length = 128 := by rw [sV_len, pre.n3]
          have f1 : ∀ x : Option AObj, (g3.set O x)[T]? = _ := fun x => (set_ne ot'.a.1.symm x).trans hT3
          have f2 : ∀ x : Option AObj, (g3.set O x)[L]? = _ := fun x => (set_ne os'.ne.1 x).trans os'.ll
          have f3 : ∀ x y : Option AObj, ((g3.set O x).set L y)[H]? = _ := fun x y => (set_ne os'.ne.2.2 y).trans ((set_ne os'.ne.2.1 x).trans os'.hh)
          simp only [sx, x_box, x_alloc, x_bslice, x_slice, x_append, x_appz, x_b2s, x_s2b, x_mark, xop, ev, evs, evParts, fillL, cellsL, Ai.get, Ai.put, stab, isNil?, if_false, if_true, addr?, int?, str?, agg?, bool?, shiftA, FnPost, xresL, xres1, tup, argEnv, ptr, Nat.reduceEqDiff, reduceIte, beq_self_eq_true, ne_eq, Nat.reduceAdd, Nat.reduceMul, Nat.reduceSub, abin_shl, abin_shr, load1V, loadV, storeV, cellsAt, getN, setN, allocV, lenL, lenS, bnd, oneC, Value.oneCell', Nat.reduceLeDiff, Nat.reduceLT, exists_eq_left', forall_const, reduceCtorEq, app_new, app_new0, List.append_assoc, Int.reduceToNat, Int.reduceLT, Int.reduceLE, Int.reduceEq, Int.reduceNe, Int.reduceBEq, IntKind.bits, bne_self_eq_false, Int.reducePow, r4, r5, r6, r8, hj0, hj1, hj2, hj3, hj4, hAj', hO, hT3, l1, l2, l3, f1, f2, f3, e3, e3', e3'', bV_set, iV_set, sV_set, Nat.mul_one]
          refine ⟨⟨r0, r3, r4, r5, r6, r7⟩, r8, _, _, _, _, dv', _, r9, ((os'.setO _).setL _).setH _, ((ot'.setX ot'.a.1 _).setX ot'.a.2.1 _).setX ot'.a.2.2 _, pr, hes', by decide, ⟨fun x hx => ?_, fun x hx => ?_, hok⟩⟩
          · rcases mem_set_or hx with h | rfl
            · exact hlo.f x h
            · omega
          · rcases mem_set_or hx with h | rfl
            · exact hlo.s x h
            · exact Nat.zero_le _)
    · have hmok := a.msg_ok
      have hmv : ∀ n ∈ a.msg.val, n < 256 := Ac.msg_val (P := fun l => ∀ n ∈ l, n < 256) (by simp) oa.hv
      have hml : a.msg.val.length ≤ 50 := Ac.msg_val (P := fun l => l.length ≤ 50) (by simp) (by omega)
      have hrs : decide (a.a0 % 8 < 7) = true := by rw [decide_eq_true_iff]; omega
      rcases hk with hk' | hk' <;> rw [hk'] at hrr <;> (
        simp only [Int.cast_ofNat_Int] at hrr
        simp only [sx, x_box, x_bslice, x_slice, x_append, x_appz, x_s2b, x_mark, xop, ev, evs, evParts, fillL, cellsL, Ai.get, Ai.put, stab, isNil?, if_false, if_true, addr?, int?, str?, agg?, bool?, shiftA, FnPost, xresL, xres1, tup, argEnv, ptr, Nat.reduceEqDiff, reduceIte, beq_self_eq_true, ne_eq, Nat.reduceAdd, Nat.reduceMul, Nat.reduceSub, abin_shl, abin_shr, load1V, loadV, storeV, cellsAt, getN, setN, allocV, lenL, lenS, bnd, oneC, Value.oneCell', Nat.reduceLeDiff, Nat.reduceLT, exists_eq_left', forall_const, reduceCtorEq, app_new, app_new0, List.append_assoc, Int.reduceToNat, Int.reduceLT, Int.reduceLE, Int.reduceEq, Int.reduceNe, Int.reduceBEq, IntKind.bits, bne_self_eq_false, Int.reducePow, r8, r3, hT, hrr]
        refine xcall (answer_ok oa hv (by omega)) (by rfl) (by rfl) (by rfl) (by rfl) ?_
        rintro r g3 ⟨K2, vv, rfl, V⟩
        generalize a.msg = mm at *
        obtain ⟨q2, c2, rfl⟩ := V.shape
        simp only [Cm.cells, sx, x_box, x_bslice, x_slice, x_append, x_appz, x_s2b, x_mark, xop, ev, evs, evParts, fillL, cellsL, Ai.get, Ai.put, stab, isNil?, if_false, if_true, addr?, int?, str?, agg?, bool?, shiftA, FnPost, xresL, xres1, tup, argEnv, ptr, Nat.reduceEqDiff, reduceIte, beq_self_eq_true, ne_eq, Nat.reduceAdd, Nat.reduceMul, Nat.reduceSub, abin_shl, abin_shr, load1V, loadV, storeV, cellsAt, getN, setN, allocV, lenL, lenS, bnd, oneC, Value.oneCell', Nat.reduceLeDiff, Nat.reduceLT, exists_eq_left', forall_const, reduceCtorEq, app_new, app_new0, List.append_assoc, Int.reduceToNat, Int.reduceLT, Int.reduceLE, Int.reduceEq, Int.reduceNe, Int.reduceBEq, IntKind.bits, bne_self_eq_false, Int.reducePow]
        refine alloc_run fun g4 R4 K3 hR4 hRl4 hg4 => ⟨trivial, ?_⟩
        have hR4s : ∀ x : Option AObj, (g4.set R4 x)[R4]? = some x := fun x => List.getElem?_set_self (lt_of_get hR4)
        have K4 : Kp g3 (g4.set R4 (some ⟨true, mm.cells (.slice q2 mm.val.length c2)⟩)) := K3.set hRl4 _
        have V4 := V.frz K4.frz
        unfold Cm.cells at K4 V4
        simp only [sx, x_box, x_bslice, x_slice, x_append, x_appz, x_s2b, x_mark, xop, ev, evs, evParts, fillL, cellsL, Ai.get, Ai.put, stab, isNil?, if_false, if_true, addr?, int?, str?, agg?, bool?, shiftA, FnPost, xresL, xres1, tup, argEnv, ptr, Nat.reduceEqDiff, reduceIte, beq_self_eq_true, ne_eq, Nat.reduceAdd, Nat.reduceMul, Nat.reduceSub, abin_shl, abin_shr, load1V, loadV, storeV, cellsAt, getN, setN, allocV, lenL, lenS, bnd, oneC, Value.oneCell', Nat.reduceLeDiff, Nat.reduceLT, exists_eq_left', forall_const, reduceCtorEq, app_new, app_new0, List.append_assoc, Int.reduceToNat, Int.reduceLT, Int.reduceLE, Int.reduceEq, Int.reduceNe, Int.reduceBEq, IntKind.bits, bne_self_eq_false, Int.reducePow, hR4, hR4s]
        have hR5 := hR4s (some ⟨true, [.int .u8 mm.k, .int .i64 mm.id, .int .i64 mm.lk, .int .i64 mm.cd, .int .u8 mm.pr, .slice q2 mm.val.length c2]⟩)
        generalize g4.set R4 (some (AObj.mk true [Value.int .u8 mm.k, .int .i64 mm.id, .int .i64 mm.lk, .int .i64 mm.cd, .int .u8 mm.pr, .slice q2 mm.val.length c2])) = g5 at *
        clear hR4s hR4 K3 hg4
        have K24 := K2.trans K4
        have lO := lt_of_get os.oo
        have lL := lt_of_get os.ll
        have lH := lt_of_get os.hh
        have lK := K2.1
        replace os := os.keep K24
        replace ot := ot.keep K24
        have B5 := B.kp K24
        have bR : OT g5 R O L H R4 dv [.int .u8 mm.k, .int .i64 mm.id, .int .i64 mm.lk, .int .i64 mm.cd, .int .u8 mm.pr, .slice q2 mm.val.length c2] := ⟨hR5, fun e => by have := B.ftlt e; have := K2.1; omega, by omega, by omega, by omega⟩
        refine xcall (hear_ok (m := mm) B5 ⟨_, rfl, V4⟩ lo.ok.pb (by rw [hes]; simp)) (by rfl) (by rfl) (by simp only [sx, x_box, x_alloc, x_bslice, x_slice, x_append, x_appz, x_b2s, x_s2b, x_mark, xop, ev, evs, evParts, fillL, cellsL, Ai.get, Ai.put, stab, isNil?, if_false, if_true, addr?, int?, str?, agg?, bool?, shiftA, FnPost, xresL, xres1, tup, argEnv, ptr, Nat.reduceEqDiff, reduceIte, beq_self_eq_true, ne_eq, Nat.reduceAdd, Nat.reduceMul, Nat.reduceSub, abin_shl, abin_shr, load1V, loadV, storeV, cellsAt, getN, setN, allocV, lenL, lenS, bnd, oneC, Value.oneCell', Nat.reduceLeDiff, Nat.reduceLT, exists_eq_left', forall_const, reduceCtorEq, app_new, app_new0, List.append_assoc, Int.reduceToNat, Int.reduceLT, Int.reduceLE, Int.reduceEq, Int.reduceNe, Int.reduceBEq, IntKind.bits, bne_self_eq_false, Int.reducePow, r3]; rfl) (by rfl) ?_
        rintro r g6 P
        rcases P with ⟨p1, -⟩ | ⟨-, p2, -⟩ | ⟨-, -, -, W3, hr⟩
        · omega
        · rcases p2 with p2 | p2
          · exact absurd hmok.1 p2
          · exact absurd p2 hmok.2
        obtain ⟨dv', os', kt⟩ := os.book W3
        have ot' := kt _ _ ot
        have bR' := kt _ _ bR
        obtain ⟨str, hst1, hst2⟩ := bytes_str hmv
        have V6 : BytesV g6 (.slice q2 mm.val.length c2) mm.val := by
          obtain ⟨_, _, _, F6, _⟩ := W3
          exact V4.frz (F6.frz B5.ftown)
        have hokb := heard_ok lo.ok mm
        have hesb : (b.heard mm).1.es.length ≤ 128 := by have := heard_es b mm; rw [hes] at this; simp only [List.length_nil] at this; omega
        have hsl : str.size ≤ 50 := by rw [bOf_len, hst2]; exact hml
        have hpre := Pre.hear (rs' := decide (a.a0 % 8 < 7)) (v := str) pre hes hmok.1 hmok.2 hst2
        clear W3 B5 os ot bR V4 hR5 kt
        generalize hbh : (b.heard mm).1 = bh at *
        rcases hpre with ⟨j, s, hj, hid, hk3, hAj, hSj, hz, pr⟩ | ⟨hor, pr⟩
        · rw [hz] at hr
          simp only at hr
          subst hr
          unfold zC
          simp only [sx, x_box, x_bslice, x_slice, x_append, x_appz, x_s2b, x_mark, xop, ev, evs, evParts, fillL, cellsL, Ai.get, Ai.put, stab, isNil?, if_false, if_true, addr?, int?, str?, agg?, bool?, shiftA, FnPost, xresL, xres1, tup, argEnv, ptr, Nat.reduceEqDiff, reduceIte, beq_self_eq_true, ne_eq, Nat.reduceAdd, Nat.reduceMul, Nat.reduceSub, abin_shl, abin_shr, load1V, loadV, storeV, cellsAt, getN, setN, allocV, lenL, lenS, bnd, oneC, Value.oneCell', Nat.reduceLeDiff, Nat.reduceLT, exists_eq_left', forall_const, reduceCtorEq, app_new, app_new0, List.append_assoc, Int.reduceToNat, Int.reduceLT, Int.reduceLE, Int.reduceEq, Int.reduceNe, Int.reduceBEq, IntKind.bits, bne_self_eq_false, Int.reducePow]
          refine alloc_run fun g7 R7 K7 hR7 hRl7 hg7 => ⟨trivial, ?_⟩
          have hR7s : ∀ x : Option AObj, (g7.set R7 x)[R7]? = some x := fun x => List.getElem?_set_self (lt_of_get hR7)
          have K8 := fun x : Option AObj => K7.set hRl7 x
          have hR48 := fun x : Option AObj => (K8 x).get bR'.get
          have hO8 := fun x : Option AObj => (K8 x).get os'.oo
          have hH8 := fun x : Option AObj => (K8 x).get os'.hh
          have hj0 : (0 : Int) ≤ (j : Int) := by omega
          have hj3 : (j : Int) < 128 := by omega
          have hj4 : j + 1 ≤ 128 := by omega
          have l3 : (sV S).length = 128 := by rw [sV_len, pre.n3]
          have hAj' := bV_get hAj
          have hSj' := sV_get hSj
          have V8 := fun x : Option AObj => (V6.frz (K8 x).frz).first
          simp only [sx, x_box, x_bslice, x_slice, x_append, x_appz, x_s2b, x_mark, xop, ev, evs, evParts, fillL, cellsL, Ai.get, Ai.put, stab, isNil?, if_false, if_true, addr?, int?, str?, agg?, bool?, shiftA, FnPost, xresL, xres1, tup, argEnv, ptr, Nat.reduceEqDiff, reduceIte, beq_self_eq_true, ne_eq, Nat.reduceAdd, Nat.reduceMul, Nat.reduceSub, abin_shl, abin_shr, load1V, loadV, storeV, cellsAt, getN, setN, allocV, lenL, lenS, bnd, oneC, Value.oneCell', Nat.reduceLeDiff, Nat.reduceLT, exists_eq_left', forall_const, reduceCtorEq, app_new, app_new0, List.append_assoc, Int.reduceToNat, Int.reduceLT, Int.reduceLE, Int.reduceEq, Int.reduceNe, Int.reduceBEq, IntKind.bits, bne_self_eq_false, Int.reducePow, hR7, hR7s, hR48, hO8, hH8, r4, r6, hid, hk3, hj0, hj3, hAj', hSj', Nat.mul_one]
          rw [x_b2s, b2s_first (by rfl) (V8 _) hst1]
          have hadd : abin .add (.string s) (.string str) = some (.string (s ++ str)) := abin_sadd (by have := hlo.s s (List.mem_of_getElem? hSj); omega)
          have hR48b := fun x y : Option AObj => (set_ne bR'.a.2.2.symm y).trans (hR48 x)
          simp only [sx, x_box, x_bslice, x_slice, x_append, x_appz, x_s2b, x_mark, xop, ev, evs, evParts, fillL, cellsL, Ai.get, Ai.put, stab, isNil?, if_false, if_true, addr?, int?, str?, agg?, bool?, shiftA, FnPost, xresL, xres1, tup, argEnv, ptr, Nat.reduceEqDiff, reduceIte, beq_self_eq_true, ne_eq, Nat.reduceAdd, Nat.reduceMul, Nat.reduceSub, abin_shl, abin_shr, load1V, loadV, storeV, cellsAt, getN, setN, allocV, lenL, lenS, bnd, oneC, Value.oneCell', Nat.reduceLeDiff, Nat.reduceLT, exists_eq_left', forall_const, reduceCtorEq, app_new, app_new0, List.append_assoc, Int.reduceToNat, Int.reduceLT, Int.reduceLE, Int.reduceEq, Int.reduceNe, Int.reduceBEq, IntKind.bits, bne_self_eq_false, Int.reducePow, hR7, hR7s, hR48, hO8, hH8, r4, r6, hid, hk3, hj0, hj3, hj4, hAj', hSj', Nat.mul_one, hadd, l3, hR48b, sV_set]
          have V9 := fun x y : Option AObj => ((V6.frz (K8 x).frz).frz (h' := (g7.set R7 x).set H y) fun X cs hX => by
            rw [set_ne (fun e => by subst e; rw [hH8 x] at hX; cases hX)]; exact hX).first
          rw [x_b2s, b2s_first (by rfl) (V9 _ _) hst1]
          simp only [sx, x_box, x_bslice, x_slice, x_append, x_appz, x_s2b, x_mark, xop, ev, evs, evParts, fillL, cellsL, Ai.get, Ai.put, stab, isNil?, if_false, if_true, addr?, int?, str?, agg?, bool?, shiftA, FnPost, xresL, xres1, tup, argEnv, ptr, Nat.reduceEqDiff, reduceIte, beq_self_eq_true, ne_eq, Nat.reduceAdd, Nat.reduceMul, Nat.reduceSub, abin_shl, abin_shr, load1V, loadV, storeV, cellsAt, getN, setN, allocV, lenL, lenS, bnd, oneC, Value.oneCell', Nat.reduceLeDiff, Nat.reduceLT, exists_eq_left', forall_const, reduceCtorEq, app_new, app_new0, List.append_assoc, Int.reduceToNat, Int.reduceLT, Int.reduceLE, Int.reduceEq, Int.reduceNe, Int.reduceBEq, IntKind.bits, bne_self_eq_false, Int.reducePow]
          refine ⟨⟨r0, r3, r4, r5, r6, r7⟩, r8, A, F, _, bh, dv', str, rfl, (os'.keep (K8 _)).setH _, (ot'.keep (K8 _)).setX ot'.a.2.2 _, pr, hesb, hsl, ⟨hlo.f, fun x hx => ?_, hokb⟩⟩
          rcases mem_set_or hx with h | rfl
          · exact hlo.s x h
          · have := lo.s s (List.mem_of_getElem? hSj)
            rw [ByteArray.size_append]; omega
        · cases hz : (b.heard mm).2 with
          | none =>
            rw [hz] at hr
            simp only at hr
            subst hr
            have hk3 : ¬ mm.k = 3 := by
              rcases hor with h | ⟨q, h⟩
              · exact h
              · rw [hz] at h; cases h
            unfold zC
            simp only [sx, x_box, x_bslice, x_slice, x_append, x_appz, x_s2b, x_mark, xop, ev, evs, evParts, fillL, cellsL, Ai.get, Ai.put, stab, isNil?, if_false, if_true, addr?, int?, str?, agg?, bool?, shiftA, FnPost, xresL, xres1, tup, argEnv, ptr, Nat.reduceEqDiff, reduceIte, beq_self_eq_true, ne_eq, Nat.reduceAdd, Nat.reduceMul, Nat.reduceSub, abin_shl, abin_shr, load1V, loadV, storeV, cellsAt, getN, setN, allocV, lenL, lenS, bnd, oneC, Value.oneCell', Nat.reduceLeDiff, Nat.reduceLT, exists_eq_left', forall_const, reduceCtorEq, app_new, app_new0, List.append_assoc, Int.reduceToNat, Int.reduceLT, Int.reduceLE, Int.reduceEq, Int.reduceNe, Int.reduceBEq, IntKind.bits, bne_self_eq_false, Int.reducePow]
            refine alloc_run fun g7 R7 K7 hR7 hRl7 hg7 => ⟨trivial, ?_⟩
            have hR7s : ∀ x : Option AObj, (g7.set R7 x)[R7]? = some x := fun x => List.getElem?_set_self (lt_of_get hR7)
            have K8 := fun x : Option AObj => K7.set hRl7 x
            have hR48 := fun x : Option AObj => (K8 x).get bR'.get
            have V8 := fun x : Option AObj => (V6.frz (K8 x).frz).first
            simp only [sx, x_box, x_bslice, x_slice, x_append, x_appz, x_s2b, x_mark, xop, ev, evs, evParts, fillL, cellsL, Ai.get, Ai.put, stab, isNil?, if_false, if_true, addr?, int?, str?, agg?, bool?, shiftA, FnPost, xresL, xres1, tup, argEnv, ptr, Nat.reduceEqDiff, reduceIte, beq_self_eq_true, ne_eq, Nat.reduceAdd, Nat.reduceMul, Nat.reduceSub, abin_shl, abin_shr, load1V, loadV, storeV, cellsAt, getN, setN, allocV, lenL, lenS, bnd, oneC, Value.oneCell', Nat.reduceLeDiff, Nat.reduceLT, exists_eq_left', forall_const, reduceCtorEq, app_new, app_new0, List.append_assoc, Int.reduceToNat, Int.reduceLT, Int.reduceLE, Int.reduceEq, Int.reduceNe, Int.reduceBEq, IntKind.bits, bne_self_eq_false, Int.reducePow, hR7, hR7s, hR48, hk3]
            rw [x_b2s, b2s_first (by rfl) (V8 _) hst1]
            simp only [sx, x_box, x_bslice, x_slice, x_append, x_appz, x_s2b, x_mark, xop, ev, evs, evParts, fillL, cellsL, Ai.get, Ai.put, stab, isNil?, if_false, if_true, addr?, int?, str?, agg?, bool?, shiftA, FnPost, xresL, xres1, tup, argEnv, ptr, Nat.reduceEqDiff, reduceIte, beq_self_eq_true, ne_eq, Nat.reduceAdd, Nat.reduceMul, Nat.reduceSub, abin_shl, abin_shr, load1V, loadV, storeV, cellsAt, getN, setN, allocV, lenL, lenS, bnd, oneC, Value.oneCell', Nat.reduceLeDiff, Nat.reduceLT, exists_eq_left', forall_const, reduceCtorEq, app_new, app_new0, List.append_assoc, Int.reduceToNat, Int.reduceLT, Int.reduceLE, Int.reduceEq, Int.reduceNe, Int.reduceBEq, IntKind.bits, bne_self_eq_false, Int.reducePow]
            exact ⟨⟨r0, r3, r4, r5, r6, r7⟩, r8, A, F, S, bh, dv', str, rfl, os'.keep (K8 _), ot'.keep (K8 _), pr, hesb, hsl, ⟨hlo.f, hlo.s, hokb⟩⟩
          | some w =>
            rw [hz] at hr
            simp only at hr
            subst hr
            simp only [sx, x_box, x_bslice, x_slice, x_append, x_appz, x_s2b, x_mark, xop, ev, evs, evParts, fillL, cellsL, Ai.get, Ai.put, stab, isNil?, if_false, if_true, addr?, int?, str?, agg?, bool?, shiftA, FnPost, xresL, xres1, tup, argEnv, ptr, Nat.reduceEqDiff, reduceIte, beq_self_eq_true, ne_eq, Nat.reduceAdd, Nat.reduceMul, Nat.reduceSub, abin_shl, abin_shr, load1V, loadV, storeV, cellsAt, getN, setN, allocV, lenL, lenS, bnd, oneC, Value.oneCell', Nat.reduceLeDiff, Nat.reduceLT, exists_eq_left', forall_const, reduceCtorEq, app_new, app_new0, List.append_assoc, Int.reduceToNat, Int.reduceLT, Int.reduceLE, Int.reduceEq, Int.reduceNe, Int.reduceBEq, IntKind.bits, bne_self_eq_false, Int.reducePow]
            refine alloc_run fun g7 R7 K7 hR7 hRl7 hg7 => ⟨trivial, ?_⟩
            have hR7s : ∀ x : Option AObj, (g7.set R7 x)[R7]? = some x := fun x => List.getElem?_set_self (lt_of_get hR7)
            have K8 := fun x : Option AObj => K7.set hRl7 x
            have hR48 := fun x : Option AObj => (K8 x).get bR'.get
            have V8 := fun x : Option AObj => (V6.frz (K8 x).frz).first
            simp only [sx, x_box, x_bslice, x_slice, x_append, x_appz, x_s2b, x_mark, xop, ev, evs, evParts, fillL, cellsL, Ai.get, Ai.put, stab, isNil?, if_false, if_true, addr?, int?, str?, agg?, bool?, shiftA, FnPost, xresL, xres1, tup, argEnv, ptr, Nat.reduceEqDiff, reduceIte, beq_self_eq_true, ne_eq, Nat.reduceAdd, Nat.reduceMul, Nat.reduceSub, abin_shl, abin_shr, load1V, loadV, storeV, cellsAt, getN, setN, allocV, lenL, lenS, bnd, oneC, Value.oneCell', Nat.reduceLeDiff, Nat.reduceLT, exists_eq_left', forall_const, reduceCtorEq, app_new, app_new0, List.append_assoc, Int.reduceToNat, Int.reduceLT, Int.reduceLE, Int.reduceEq, Int.reduceNe, Int.reduceBEq, IntKind.bits, bne_self_eq_false, Int.reducePow, hR7, hR7s, hR48]
            rw [x_b2s, b2s_first (by rfl) (V8 _) hst1]
            simp only [sx, x_box, x_bslice, x_slice, x_append, x_appz, x_s2b, x_mark, xop, ev, evs, evParts, fillL, cellsL, Ai.get, Ai.put, stab, isNil?, if_false, if_true, addr?, int?, str?, agg?, bool?, shiftA, FnPost, xresL, xres1, tup, argEnv, ptr, Nat.reduceEqDiff, reduceIte, beq_self_eq_true, ne_eq, Nat.reduceAdd, Nat.reduceMul, Nat.reduceSub, abin_shl, abin_shr, load1V, loadV, storeV, cellsAt, getN, setN, allocV, lenL, lenS, bnd, oneC, Value.oneCell', Nat.reduceLeDiff, Nat.reduceLT, exists_eq_left', forall_const, reduceCtorEq, app_new, app_new0, List.append_assoc, Int.reduceToNat, Int.reduceLT, Int.reduceLE, Int.reduceEq, Int.reduceNe, Int.reduceBEq, IntKind.bits, bne_self_eq_false, Int.reducePow]
            exact ⟨⟨r0, r3, r4, r5, r6, r7⟩, r8, A, F, S, bh, dv', str, rfl, os'.keep (K8 _), ot'.keep (K8 _), pr, hesb, hsl, ⟨hlo.f, hlo.s, hokb⟩⟩)
    · have hid := e8
      rw [hk] at hrr
      simp only [Int.cast_ofNat_Int] at hrr
      simp only [sx, x_box, x_alloc, x_bslice, x_slice, x_append, x_appz, x_b2s, x_s2b, x_mark, xop, ev, evs, evParts, fillL, cellsL, Ai.get, Ai.put, stab, isNil?, if_false, if_true, addr?, int?, str?, agg?, bool?, shiftA, FnPost, xresL, xres1, tup, argEnv, ptr, Nat.reduceEqDiff, reduceIte, beq_self_eq_true, ne_eq, Nat.reduceAdd, Nat.reduceMul, Nat.reduceSub, abin_shl, abin_shr, load1V, loadV, storeV, cellsAt, getN, setN, allocV, lenL, lenS, bnd, oneC, Value.oneCell', Nat.reduceLeDiff, Nat.reduceLT, exists_eq_left', forall_const, reduceCtorEq, app_new, app_new0, List.append_assoc, Int.reduceToNat, Int.reduceLT, Int.reduceLE, Int.reduceEq, Int.reduceNe, Int.reduceBEq, IntKind.bits, bne_self_eq_false, Int.reducePow, r8, r3, hT, hrr, e8, e8']
      refine xcall (cancel_ok (id := ((a.a1 % 8 : Nat) : Int)) B (by rw [hes]; simp)) (by rfl) (by rfl) (by simp only [sx, x_box, x_alloc, x_bslice, x_slice, x_append, x_appz, x_b2s, x_s2b, x_mark, xop, ev, evs, evParts, fillL, cellsL, Ai.get, Ai.put, stab, isNil?, if_false, if_true, addr?, int?, str?, agg?, bool?, shiftA, FnPost, xresL, xres1, tup, argEnv, ptr, Nat.reduceEqDiff, reduceIte, beq_self_eq_true, ne_eq, Nat.reduceAdd, Nat.reduceMul, Nat.reduceSub, abin_shl, abin_shr, load1V, loadV, storeV, cellsAt, getN, setN, allocV, lenL, lenS, bnd, oneC, Value.oneCell', Nat.reduceLeDiff, Nat.reduceLT, exists_eq_left', forall_const, reduceCtorEq, app_new, app_new0, List.append_assoc, Int.reduceToNat, Int.reduceLT, Int.reduceLE, Int.reduceEq, Int.reduceNe, Int.reduceBEq, IntKind.bits, bne_self_eq_false, Int.reducePow, r3]; rfl) (by rfl) ?_
      rintro r g3 ⟨rfl, W3⟩
      obtain ⟨dv', os', kt⟩ := os.book W3
      simp only [sx, x_box, x_alloc, x_bslice, x_slice, x_append, x_appz, x_b2s, x_s2b, x_mark, xop, ev, evs, evParts, fillL, cellsL, Ai.get, Ai.put, stab, isNil?, if_false, if_true, addr?, int?, str?, agg?, bool?, shiftA, FnPost, xresL, xres1, tup, argEnv, ptr, Nat.reduceEqDiff, reduceIte, beq_self_eq_true, ne_eq, Nat.reduceAdd, Nat.reduceMul, Nat.reduceSub, abin_shl, abin_shr, load1V, loadV, storeV, cellsAt, getN, setN, allocV, lenL, lenS, bnd, oneC, Value.oneCell', Nat.reduceLeDiff, Nat.reduceLT, exists_eq_left', forall_const, reduceCtorEq, app_new, app_new0, List.append_assoc, Int.reduceToNat, Int.reduceLT, Int.reduceLE, Int.reduceEq, Int.reduceNe, Int.reduceBEq, IntKind.bits, bne_self_eq_false, Int.reducePow]
      have hl := cancel_es b ((a.a1 % 8 : Nat) : Int)
      rw [hes] at hl
      exact ⟨⟨r0, r3, r4, r5, r6, r7⟩, r8, A, F, S, _, dv', _, r9, os', kt _ _ ot, (pre.free hes _ _).cancel _, by simp only [List.length_nil] at hl; omega, by decide, ⟨hlo.f, hlo.s, cancel_ok' lo.ok _⟩⟩
    · have hr3 := rem8 a.a3
      rw [hk] at hrr
      simp only [Int.cast_ofNat_Int] at hrr
      by_cases h3 : a.a3 % 8 = 0
      · rw [h3] at hr3
        simp only [Int.natCast_zero, Int.cast_ofNat_Int] at hr3
        simp only [sx, x_box, x_alloc, x_bslice, x_slice, x_append, x_appz, x_b2s, x_s2b, x_mark, xop, ev, evs, evParts, fillL, cellsL, Ai.get, Ai.put, stab, isNil?, if_false, if_true, addr?, int?, str?, agg?, bool?, shiftA, FnPost, xresL, xres1, tup, argEnv, ptr, Nat.reduceEqDiff, reduceIte, beq_self_eq_true, ne_eq, Nat.reduceAdd, Nat.reduceMul, Nat.reduceSub, abin_shl, abin_shr, load1V, loadV, storeV, cellsAt, getN, setN, allocV, lenL, lenS, bnd, oneC, Value.oneCell', Nat.reduceLeDiff, Nat.reduceLT, exists_eq_left', forall_const, reduceCtorEq, app_new, app_new0, List.append_assoc, Int.reduceToNat, Int.reduceLT, Int.reduceLE, Int.reduceEq, Int.reduceNe, Int.reduceBEq, IntKind.bits, bne_self_eq_false, Int.reducePow, r8, r3, hT, hrr, hr3]
        refine xcall (close_ok B (by rw [hes]; simp)) (by rfl) (by rfl) (by simp only [sx, x_box, x_alloc, x_bslice, x_slice, x_append, x_appz, x_b2s, x_s2b, x_mark, xop, ev, evs, evParts, fillL, cellsL, Ai.get, Ai.put, stab, isNil?, if_false, if_true, addr?, int?, str?, agg?, bool?, shiftA, FnPost, xresL, xres1, tup, argEnv, ptr, Nat.reduceEqDiff, reduceIte, beq_self_eq_true, ne_eq, Nat.reduceAdd, Nat.reduceMul, Nat.reduceSub, abin_shl, abin_shr, load1V, loadV, storeV, cellsAt, getN, setN, allocV, lenL, lenS, bnd, oneC, Value.oneCell', Nat.reduceLeDiff, Nat.reduceLT, exists_eq_left', forall_const, reduceCtorEq, app_new, app_new0, List.append_assoc, Int.reduceToNat, Int.reduceLT, Int.reduceLE, Int.reduceEq, Int.reduceNe, Int.reduceBEq, IntKind.bits, bne_self_eq_false, Int.reducePow, r3]; rfl) (by rfl) ?_
        rintro r g3 W3
        obtain ⟨dv', os', kt⟩ := os.book W3
        simp only [sx, x_box, x_alloc, x_bslice, x_slice, x_append, x_appz, x_b2s, x_s2b, x_mark, xop, ev, evs, evParts, fillL, cellsL, Ai.get, Ai.put, stab, isNil?, if_false, if_true, addr?, int?, str?, agg?, bool?, shiftA, FnPost, xresL, xres1, tup, argEnv, ptr, Nat.reduceEqDiff, reduceIte, beq_self_eq_true, ne_eq, Nat.reduceAdd, Nat.reduceMul, Nat.reduceSub, abin_shl, abin_shr, load1V, loadV, storeV, cellsAt, getN, setN, allocV, lenL, lenS, bnd, oneC, Value.oneCell', Nat.reduceLeDiff, Nat.reduceLT, exists_eq_left', forall_const, reduceCtorEq, app_new, app_new0, List.append_assoc, Int.reduceToNat, Int.reduceLT, Int.reduceLE, Int.reduceEq, Int.reduceNe, Int.reduceBEq, IntKind.bits, bne_self_eq_false, Int.reducePow]
        have hl := iter_es close1_es b 128
        rw [hes] at hl
        exact ⟨⟨r0, r3, r4, r5, r6, r7⟩, r8, A, F, S, _, dv', _, r9, os', kt _ _ ot, (pre.free hes _ _).close, by unfold Bk.close; simpa using hl, by decide, ⟨hlo.f, hlo.s, close_ok' lo.ok⟩⟩
      · have h3' : ¬ ((a.a3 % 8 : Nat) : Int) = 0 := by omega
        simp only [sx, x_box, x_alloc, x_bslice, x_slice, x_append, x_appz, x_b2s, x_s2b, x_mark, xop, ev, evs, evParts, fillL, cellsL, Ai.get, Ai.put, stab, isNil?, if_false, if_true, addr?, int?, str?, agg?, bool?, shiftA, FnPost, xresL, xres1, tup, argEnv, ptr, Nat.reduceEqDiff, reduceIte, beq_self_eq_true, ne_eq, Nat.reduceAdd, Nat.reduceMul, Nat.reduceSub, abin_shl, abin_shr, load1V, loadV, storeV, cellsAt, getN, setN, allocV, lenL, lenS, bnd, oneC, Value.oneCell', Nat.reduceLeDiff, Nat.reduceLT, exists_eq_left', forall_const, reduceCtorEq, app_new, app_new0, List.append_assoc, Int.reduceToNat, Int.reduceLT, Int.reduceLE, Int.reduceEq, Int.reduceNe, Int.reduceBEq, IntKind.bits, bne_self_eq_false, Int.reducePow, r8, r3, hT, hrr, hr3, h3']
        exact ⟨⟨r0, r3, r4, r5, r6, r7⟩, r8, A, F, S, b, dv, _, r9, os, ot, pre.free hes _ _, by rw [hes]; simp, by decide, hlo⟩
    · rw [hk] at hrr
      simp only [Int.cast_ofNat_Int] at hrr
      simp only [sx, x_box, x_alloc, x_bslice, x_slice, x_append, x_appz, x_b2s, x_s2b, x_mark, xop, ev, evs, evParts, fillL, cellsL, Ai.get, Ai.put, stab, isNil?, if_false, if_true, addr?, int?, str?, agg?, bool?, shiftA, FnPost, xresL, xres1, tup, argEnv, ptr, Nat.reduceEqDiff, reduceIte, beq_self_eq_true, ne_eq, Nat.reduceAdd, Nat.reduceMul, Nat.reduceSub, abin_shl, abin_shr, load1V, loadV, storeV, cellsAt, getN, setN, allocV, lenL, lenS, bnd, oneC, Value.oneCell', Nat.reduceLeDiff, Nat.reduceLT, exists_eq_left', forall_const, reduceCtorEq, app_new, app_new0, List.append_assoc, Int.reduceToNat, Int.reduceLT, Int.reduceLE, Int.reduceEq, Int.reduceNe, Int.reduceBEq, IntKind.bits, bne_self_eq_false, Int.reducePow, r8, r3, hT, hrr]
      refine xcall (tick_ok B lo.ok (by rw [hes]; simp)) (by rfl) (by rfl) (by simp only [sx, x_box, x_alloc, x_bslice, x_slice, x_append, x_appz, x_b2s, x_s2b, x_mark, xop, ev, evs, evParts, fillL, cellsL, Ai.get, Ai.put, stab, isNil?, if_false, if_true, addr?, int?, str?, agg?, bool?, shiftA, FnPost, xresL, xres1, tup, argEnv, ptr, Nat.reduceEqDiff, reduceIte, beq_self_eq_true, ne_eq, Nat.reduceAdd, Nat.reduceMul, Nat.reduceSub, abin_shl, abin_shr, load1V, loadV, storeV, cellsAt, getN, setN, allocV, lenL, lenS, bnd, oneC, Value.oneCell', Nat.reduceLeDiff, Nat.reduceLT, exists_eq_left', forall_const, reduceCtorEq, app_new, app_new0, List.append_assoc, Int.reduceToNat, Int.reduceLT, Int.reduceLE, Int.reduceEq, Int.reduceNe, Int.reduceBEq, IntKind.bits, bne_self_eq_false, Int.reducePow, r3]; rfl) (by rfl) ?_
      rintro r g3 W3
      obtain ⟨dv', os', kt⟩ := os.book W3
      have ot' := kt _ _ ot
      have hl : b.tick.es.length ≤ 128 := by
        have h1 := iter_es tick1_es b 128
        rw [hes] at h1
        unfold Bk.tick; simpa using h1
      have hpre : Pre (fun _ => 0) A (F.map fun x => x - 1) S b.tick (decide (a.a0 % 8 < 7)) ByteArray.empty := by
        have h1 := Pre.tick (Pre.dec (pre.free hes false ByteArray.empty))
        have h2 : decide (a.a0 % 8 < 7) = false := by rw [hk]; rfl
        rw [h2]
        exact h1.dd fun i _ _ => rfl
      have hokt := tick_ok' lo.ok pre.n
      generalize b.tick = bt at *
      simp only [sx, x_box, x_alloc, x_bslice, x_slice, x_append, x_appz, x_b2s, x_s2b, x_mark, xop, ev, evs, evParts, fillL, cellsL, Ai.get, Ai.put, stab, isNil?, if_false, if_true, addr?, int?, str?, agg?, bool?, shiftA, FnPost, xresL, xres1, tup, argEnv, ptr, Nat.reduceEqDiff, reduceIte, beq_self_eq_true, ne_eq, Nat.reduceAdd, Nat.reduceMul, Nat.reduceSub, abin_shl, abin_shr, load1V, loadV, storeV, cellsAt, getN, setN, allocV, lenL, lenS, bnd, oneC, Value.oneCell', Nat.reduceLeDiff, Nat.reduceLT, exists_eq_left', forall_const, reduceCtorEq, app_new, app_new0, List.append_assoc, Int.reduceToNat, Int.reduceLT, Int.reduceLE, Int.reduceEq, Int.reduceNe, Int.reduceBEq, IntKind.bits, bne_self_eq_false, Int.reducePow]
      refine xloop_cut (OdE h q n c i R O L H T (a.cells (.slice qa a.val.length ca)) A F S bt dv') ?_ ?_
      · refine xcode_loop (OdI h q n c i R O L H T (a.cells (.slice qa a.val.length ca)) A F S bt dv') 128 ⟨0, F, by omega, rfl, ⟨r0, r3, r4, r5, r6, r7⟩, r8, r9, os', ot', pre.n2, fun j => by rw [if_neg (by omega)]⟩ ?_
        clear r0 r3 r4 r5 r6 r7 r8 r9 ρ hT os' ot' W3 g3 kt
        rintro m' ρ g3 ⟨k, F', hkm, r16, ⟨r0, r3, r4, r5, r6, r7⟩, r8, r9, os', ot', hn', hF'⟩
        by_cases hkk : k < 128
        · have hk1 : (k : Int) < 128 := by omega
          have hk0 : (0 : Int) ≤ (k : Int) := by omega
          have hk4 : k + 1 ≤ 128 := by omega
          have wk : IntKind.i64.wrap ((k : Int) + 1) = ((k + 1 : Nat) : Int) := by rw [i64_wrap] <;> omega
          obtain ⟨x, hx⟩ : ∃ x, F[k]? = some x := ⟨_, List.getElem?_eq_getElem (by rw [pre.n2]; exact hkk)⟩
          have hx' : F'[k]? = some x := by rw [hF', if_neg (by omega)]; exact hx
          have hbx := lo.f x (List.mem_of_getElem? hx)
          have wx : IntKind.i64.wrap (x - 1) = x - 1 := by rw [i64_wrap] <;> omega
          have hL := os'.ll
          have hxv := iV_get hx'
          have l2 : (iV F').length = 128 := by rw [iV_len, hn']
          simp only [sx, x_box, x_alloc, x_bslice, x_slice, x_append, x_appz, x_b2s, x_s2b, x_mark, xop, ev, evs, evParts, fillL, cellsL, Ai.get, Ai.put, stab, isNil?, if_false, if_true, addr?, int?, str?, agg?, bool?, shiftA, FnPost, xresL, xres1, tup, argEnv, ptr, Nat.reduceEqDiff, reduceIte, beq_self_eq_true, ne_eq, Nat.reduceAdd, Nat.reduceMul, Nat.reduceSub, abin_shl, abin_shr, load1V, loadV, storeV, cellsAt, getN, setN, allocV, lenL, lenS, bnd, oneC, Value.oneCell', Nat.reduceLeDiff, Nat.reduceLT, exists_eq_left', forall_const, reduceCtorEq, app_new, app_new0, List.append_assoc, Int.reduceToNat, Int.reduceLT, Int.reduceLE, Int.reduceEq, Int.reduceNe, Int.reduceBEq, IntKind.bits, bne_self_eq_false, Int.reducePow, r16, r5, hk1, hk0, hk4, hL, hxv, wx, l2, iV_set, Nat.mul_one, wk]
          refine ⟨m' - 1, by omega, k + 1, F'.set k (x - 1), by omega, rfl, ⟨r0, r3, r4, r5, r6, r7⟩, r8, r9, os'.setL _, ot'.setX ot'.a.2.1 _, by rw [List.length_set]; exact hn', fun j => ?_⟩
          rw [List.getElem?_set]
          by_cases e : k = j
          · subst e
            rw [if_pos rfl, if_pos (by omega), if_pos (by omega), hx]; rfl
          · rw [if_neg e, hF']
            by_cases h1 : j < k
            · rw [if_pos h1, if_pos (by omega)]
            · rw [if_neg h1, if_neg (by omega)]
        · have hk1 : ¬ (k : Int) < 128 := by omega
          simp only [sx, x_box, x_alloc, x_bslice, x_slice, x_append, x_appz, x_b2s, x_s2b, x_mark, xop, ev, evs, evParts, fillL, cellsL, Ai.get, Ai.put, stab, isNil?, if_false, if_true, addr?, int?, str?, agg?, bool?, shiftA, FnPost, xresL, xres1, tup, argEnv, ptr, Nat.reduceEqDiff, reduceIte, beq_self_eq_true, ne_eq, Nat.reduceAdd, Nat.reduceMul, Nat.reduceSub, abin_shl, abin_shr, load1V, loadV, storeV, cellsAt, getN, setN, allocV, lenL, lenS, bnd, oneC, Value.oneCell', Nat.reduceLeDiff, Nat.reduceLT, exists_eq_left', forall_const, reduceCtorEq, app_new, app_new0, List.append_assoc, Int.reduceToNat, Int.reduceLT, Int.reduceLE, Int.reduceEq, Int.reduceNe, Int.reduceBEq, IntKind.bits, bne_self_eq_false, Int.reducePow, r16, hk1]
          have hFF : F' = F.map fun x => x - 1 := by
            apply List.ext_getElem?
            intro j
            rw [hF', List.getElem?_map]
            by_cases h1 : j < k
            · rw [if_pos h1]
            · rw [if_neg h1, List.getElem?_eq_none (by rw [pre.n2]; omega)]; rfl
          rw [hFF] at os'
          exact ⟨⟨r0, r3, r4, r5, r6, r7⟩, r8, r9, os', ot'⟩
      · clear r0 r3 r4 r5 r6 r7 r8 r9 ρ hT os' ot' W3 g3 kt
        rintro ρ g3 ⟨rr, r8, r9, os', ot'⟩
        simp only [sx, x_box, x_alloc, x_bslice, x_slice, x_append, x_appz, x_b2s, x_s2b, x_mark, xop, ev, evs, evParts, fillL, cellsL, Ai.get, Ai.put, stab, isNil?, if_false, if_true, addr?, int?, str?, agg?, bool?, shiftA, FnPost, xresL, xres1, tup, argEnv, ptr, Nat.reduceEqDiff, reduceIte, beq_self_eq_true, ne_eq, Nat.reduceAdd, Nat.reduceMul, Nat.reduceSub, abin_shl, abin_shr, load1V, loadV, storeV, cellsAt, getN, setN, allocV, lenL, lenS, bnd, oneC, Value.oneCell', Nat.reduceLeDiff, Nat.reduceLT, exists_eq_left', forall_const, reduceCtorEq, app_new, app_new0, List.append_assoc, Int.reduceToNat, Int.reduceLT, Int.reduceLE, Int.reduceEq, Int.reduceNe, Int.reduceBEq, IntKind.bits, bne_self_eq_false, Int.reducePow]
        exact ⟨rr, r8, A, _, S, bt, dv', _, r9, os', ot', hpre, hl, by decide, ⟨fun x hx => by
          obtain ⟨y, hy, rfl⟩ := List.mem_map.1 hx
          have := lo.f y hy; omega, hlo.s, hokt⟩⟩
  clear rr r8 r9 os pre hes lo ot hT A F S b dv ρ
  rintro ρ g3 ⟨rr, r8, A, F, S, b, dv, last, r9, os, ot, pre, hel, hll, lo⟩
  rw [kSeq_normal]
  obtain ⟨rs, B⟩ := os.bk
  have hrR := rr
  obtain ⟨r0, r3, r4, r5, r6, r7⟩ := rr
  simp only [sx, x_box, x_alloc, x_bslice, x_slice, x_append, x_appz, x_b2s, x_s2b, x_mark, xop, ev, evs, evParts, fillL, cellsL, Ai.get, Ai.put, stab, isNil?, if_false, if_true, addr?, int?, str?, agg?, bool?, shiftA, FnPost, xresL, xres1, tup, argEnv, ptr, Nat.reduceEqDiff, reduceIte, beq_self_eq_true, ne_eq, Nat.reduceAdd, Nat.reduceMul, Nat.reduceSub, abin_shl, abin_shr, load1V, loadV, storeV, cellsAt, getN, setN, allocV, lenL, lenS, bnd, oneC, Value.oneCell', Nat.reduceLeDiff, Nat.reduceLT, exists_eq_left', forall_const, reduceCtorEq, app_new, app_new0, List.append_assoc, Int.reduceToNat, Int.reduceLT, Int.reduceLE, Int.reduceEq, Int.reduceNe, Int.reduceBEq, IntKind.bits, bne_self_eq_false, Int.reducePow]
  refine xcall (ends_ok B (by omega)) (by rfl) (by rfl) (by simp only [sx, x_box, x_alloc, x_bslice, x_slice, x_append, x_appz, x_b2s, x_s2b, x_mark, xop, ev, evs, evParts, fillL, cellsL, Ai.get, Ai.put, stab, isNil?, if_false, if_true, addr?, int?, str?, agg?, bool?, shiftA, FnPost, xresL, xres1, tup, argEnv, ptr, Nat.reduceEqDiff, reduceIte, beq_self_eq_true, ne_eq, Nat.reduceAdd, Nat.reduceMul, Nat.reduceSub, abin_shl, abin_shr, load1V, loadV, storeV, cellsAt, getN, setN, allocV, lenL, lenS, bnd, oneC, Value.oneCell', Nat.reduceLeDiff, Nat.reduceLT, exists_eq_left', forall_const, reduceCtorEq, app_new, app_new0, List.append_assoc, Int.reduceToNat, Int.reduceLT, Int.reduceLE, Int.reduceEq, Int.reduceNe, Int.reduceBEq, IntKind.bits, bne_self_eq_false, Int.reducePow, r3]; rfl) (by rfl) ?_
  rintro r g4 ⟨hL, B2, hl4, hk4, hsr⟩
  obtain ⟨os4, kt⟩ := os.ends B2 hl4 hk4
  have ot4 := kt _ _ ot
  have hrO : ∀ Y, slB r = some Y → Y ≠ O := fun Y hY => (os.far Y (.inr (hsr Y hY))).2.1
  have p0 : ∀ i, i < 128 → A[i]? = some (opn (b.at i) || endE (b.es.drop 0) i) := fun i hi => by rw [List.drop_zero]; exact pre.op i hi
  obtain ⟨qr, cr, hr0⟩ : ∃ q c, r = .slice q b.es.length c := by obtain ⟨q, _, e, -⟩ := hL; exact ⟨_, _, e⟩
  subst hr0
  simp only [sx, x_box, x_alloc, x_bslice, x_slice, x_append, x_appz, x_b2s, x_s2b, x_mark, xop, ev, evs, evParts, fillL, cellsL, Ai.get, Ai.put, stab, isNil?, if_false, if_true, addr?, int?, str?, agg?, bool?, shiftA, FnPost, xresL, xres1, tup, argEnv, ptr, Nat.reduceEqDiff, reduceIte, beq_self_eq_true, ne_eq, Nat.reduceAdd, Nat.reduceMul, Nat.reduceSub, abin_shl, abin_shr, load1V, loadV, storeV, cellsAt, getN, setN, allocV, lenL, lenS, bnd, oneC, Value.oneCell', Nat.reduceLeDiff, Nat.reduceLT, exists_eq_left', forall_const, reduceCtorEq, app_new, app_new0, List.append_assoc, Int.reduceToNat, Int.reduceLT, Int.reduceLE, Int.reduceEq, Int.reduceNe, Int.reduceBEq, IntKind.bits, bne_self_eq_false, Int.reducePow]
  refine xloop_cut (OeE h q n c i R O L H F S b) ?_ ?_
  · refine xcode_loop (OeI h q n c i R O L H T (a.cells (.slice qa a.val.length ca)) F S b last (.slice qr b.es.length cr)) b.es.length ⟨0, A, by omega, rfl, rfl, ⟨r0, r3, r4, r5, r6, r7⟩, r8, r9, os4, ot4, hL, pre.n1, p0⟩ ?_
    clear hrR r0 r3 r4 r5 r6 r7 r8 r9 ρ os4 ot4 hL hsr hk4 hl4 kt B2 os ot B hv g4
    rintro m' ρ g4 ⟨k, A', hkm, r18, r17, ⟨r0, r3, r4, r5, r6, r7⟩, r8, r9, os, ot, hL, hn', hA'⟩
    by_cases hk : k < b.es.length
    · have hk' : (k : Int) < (b.es.length : Nat) := by omega
      have hk0 : (0 : Int) ≤ (k : Int) := by omega
      have wk : IntKind.i64.wrap ((k : Int) + 1) = ((k + 1 : Nat) : Int) := by rw [i64_wrap] <;> omega
      have hke := List.getElem?_eq_getElem hk
      obtain ⟨Y, off, w1, cs1, v1, e1, hY, hg1, hv1⟩ := hL.get hke
      rw [Value.slice.injEq] at e1
      obtain ⟨rfl, -, rfl⟩ := e1
      obtain ⟨j, hj, hej, hAj, hAn⟩ := pre.step hA' hn' hke
      generalize b.es[k] = e at *
      obtain ⟨qv, cv, rfl⟩ := hv1.shape
      obtain ⟨c0, c1, c2, c3⟩ := getN4 hg1
      rw [hej] at c0
      have hj0 : (0 : Int) ≤ (j : Int) := by omega
      have hj1 : ¬ (j : Int) < 0 := by omega
      have hj2 : ¬ (127 : Int) < (j : Int) := by omega
      have hj3 : (j : Int) < 128 := by omega
      have hj4 : j + 1 ≤ 128 := by omega
      have hAj' := bV_get hAj
      have hO := os.oo
      have hYO := hrO Y rfl
      have hT := ot.get
      simp only [Ac.cells] at hT
      have l1 : (bV A').length = 128 := by rw [bV_len, hn']
      have f1 : ∀ x : Option AObj, (g4.set O x)[T]? = _ := fun x => (set_ne ot.a.1.symm x).trans hT
      have f2 : ∀ x : Option AObj, (g4.set O x)[Y]? = _ := fun x => (set_ne hYO.symm x).trans hY
      have f3 : ∀ x : Option AObj, (g4.set O x)[H]? = _ := fun x => (set_ne os.ne.2.1 x).trans os.hh
      have z4 : ∀ x : Option AObj, Frz g4 (g4.set O x) := fun x X cs hX => by
        rw [set_ne (fun e => by subst e; rw [hO] at hX; cases hX)]; exact hX
      have hrr := rem8 a.a0
      have fin : ∀ ρ' : Env, get ρ' 18 = some (.int .i64 ((k + 1 : Nat) : Int)) → get ρ' 17 = some (.slice (some ⟨Y, off, none⟩) b.es.length b.es.length) → OR ρ' q n c i R O L H → get ρ' 8 = some (.pointer (some ⟨T, 0, none⟩)) → get ρ' 9 = some (.string last) → OeI h q n c i R O L H T (a.cells (.slice qa a.val.length ca)) F S b last (.slice (some ⟨Y, off, none⟩) b.es.length b.es.length) (m' - 1) ρ' (g4.set O (some ⟨true, bV (A'.set j false)⟩)) := fun ρ' q18 q17 qr q8 q9 =>
        ⟨k + 1, A'.set j false, by omega, q18, q17, qr, q8, q9, os.setO _, ot.setX ot.a.1 _, hL.keep (z4 _) fun Z hZ => set_ne (hrO Z hZ).symm _, by rw [List.length_set]; exact hn', hAn⟩
      by_cases hw : e.how = 1
      · by_cases h7 : a.a0 % 8 < 7
        · have h7' : ((a.a0 % 8 : Nat) : Int) < 7 := by omega
          obtain ⟨s, hs⟩ : ∃ s, S[j]? = some s := ⟨_, List.getElem?_eq_getElem (by rw [pre.n3]; exact hj)⟩
          have hval := pre.res (by rw [decide_eq_true_iff]; exact h7) e (List.mem_of_getElem? hke) hw j s hej hs
          have hst : bytesOf (bN e.val) = some (s ++ last) := by rw [hval, ← bOf_app]; exact str_of _
          have hadd : abin .add (.string s) (.string last) = some (.string (s ++ last)) := abin_sadd (by have := lo.s s (List.mem_of_getElem? hs); omega)
          have hsv := sV_get hs
          simp only [sx, x_box, x_alloc, x_bslice, x_slice, x_append, x_appz, x_s2b, x_mark, xop, ev, evs, evParts, fillL, cellsL, Ai.get, Ai.put, stab, isNil?, if_false, if_true, addr?, int?, str?, agg?, bool?, shiftA, FnPost, xresL, xres1, tup, argEnv, ptr, Nat.reduceEqDiff, reduceIte, beq_self_eq_true, ne_eq, Nat.reduceAdd, Nat.reduceMul, Nat.reduceSub, abin_shl, abin_shr, load1V, loadV, storeV, cellsAt, getN, setN, allocV, lenL, lenS, bnd, oneC, Value.oneCell', Nat.reduceLeDiff, Nat.reduceLT, exists_eq_left', forall_const, reduceCtorEq, app_new, app_new0, List.append_assoc, Int.reduceToNat, Int.reduceLT, Int.reduceLE, Int.reduceEq, Int.reduceNe, Int.reduceBEq, IntKind.bits, bne_self_eq_false, Int.reducePow, r18, r17, r4, r6, r8, r9, hk', hk0, hY, c0, c1, c3, hj0, hj1, hj2, hj3, hj4, hAj', hO, l1, f1, f2, bV_set, Nat.mul_one, hw, hrr, h7']
          rw [x_b2s, b2s_first (by rfl) (hv1.frz (z4 _)).first hst]
          simp only [sx, x_box, x_alloc, x_bslice, x_slice, x_append, x_appz, x_s2b, x_mark, xop, ev, evs, evParts, fillL, cellsL, Ai.get, Ai.put, stab, isNil?, if_false, if_true, addr?, int?, str?, agg?, bool?, shiftA, FnPost, xresL, xres1, tup, argEnv, ptr, Nat.reduceEqDiff, reduceIte, beq_self_eq_true, ne_eq, Nat.reduceAdd, Nat.reduceMul, Nat.reduceSub, abin_shl, abin_shr, load1V, loadV, storeV, cellsAt, getN, setN, allocV, lenL, lenS, bnd, oneC, Value.oneCell', Nat.reduceLeDiff, Nat.reduceLT, exists_eq_left', forall_const, reduceCtorEq, app_new, app_new0, List.append_assoc, Int.reduceToNat, Int.reduceLT, Int.reduceLE, Int.reduceEq, Int.reduceNe, Int.reduceBEq, IntKind.bits, bne_self_eq_false, Int.reducePow, r18, r17, r4, r6, r8, r9, hk', hk0, hY, c0, c1, c3, hj0, hj1, hj2, hj3, hj4, hAj', hO, l1, f1, f2, f3, bV_set, Nat.mul_one, hw, hrr, h7', hsv, hadd, wk]
          exact ⟨m' - 1, by omega, fin _ rfl r17 ⟨r0, r3, r4, r5, r6, r7⟩ r8 r9⟩
        · have h7' : ¬ ((a.a0 % 8 : Nat) : Int) < 7 := by omega
          simp only [sx, x_box, x_alloc, x_bslice, x_slice, x_append, x_appz, x_b2s, x_s2b, x_mark, xop, ev, evs, evParts, fillL, cellsL, Ai.get, Ai.put, stab, isNil?, if_false, if_true, addr?, int?, str?, agg?, bool?, shiftA, FnPost, xresL, xres1, tup, argEnv, ptr, Nat.reduceEqDiff, reduceIte, beq_self_eq_true, ne_eq, Nat.reduceAdd, Nat.reduceMul, Nat.reduceSub, abin_shl, abin_shr, load1V, loadV, storeV, cellsAt, getN, setN, allocV, lenL, lenS, bnd, oneC, Value.oneCell', Nat.reduceLeDiff, Nat.reduceLT, exists_eq_left', forall_const, reduceCtorEq, app_new, app_new0, List.append_assoc, Int.reduceToNat, Int.reduceLT, Int.reduceLE, Int.reduceEq, Int.reduceNe, Int.reduceBEq, IntKind.bits, bne_self_eq_false, Int.reducePow, r18, r17, r4, r6, r8, r9, hk', hk0, hY, c0, c1, c3, hj0, hj1, hj2, hj3, hj4, hAj', hO, l1, f1, f2, bV_set, Nat.mul_one, hw, hrr, h7', wk]
          exact ⟨m' - 1, by omega, fin _ rfl r17 ⟨r0, r3, r4, r5, r6, r7⟩ r8 r9⟩
      · simp only [sx, x_box, x_alloc, x_bslice, x_slice, x_append, x_appz, x_b2s, x_s2b, x_mark, xop, ev, evs, evParts, fillL, cellsL, Ai.get, Ai.put, stab, isNil?, if_false, if_true, addr?, int?, str?, agg?, bool?, shiftA, FnPost, xresL, xres1, tup, argEnv, ptr, Nat.reduceEqDiff, reduceIte, beq_self_eq_true, ne_eq, Nat.reduceAdd, Nat.reduceMul, Nat.reduceSub, abin_shl, abin_shr, load1V, loadV, storeV, cellsAt, getN, setN, allocV, lenL, lenS, bnd, oneC, Value.oneCell', Nat.reduceLeDiff, Nat.reduceLT, exists_eq_left', forall_const, reduceCtorEq, app_new, app_new0, List.append_assoc, Int.reduceToNat, Int.reduceLT, Int.reduceLE, Int.reduceEq, Int.reduceNe, Int.reduceBEq, IntKind.bits, bne_self_eq_false, Int.reducePow, r18, r17, r4, r6, r8, r9, hk', hk0, hY, c0, c1, c3, hj0, hj1, hj2, hj3, hj4, hAj', hO, l1, f1, f2, bV_set, Nat.mul_one, hw, wk]
        exact ⟨m' - 1, by omega, fin _ rfl r17 ⟨r0, r3, r4, r5, r6, r7⟩ r8 r9⟩
    · have hk' : ¬ (k : Int) < (b.es.length : Nat) := by omega
      have : k = b.es.length := by omega
      subst this
      simp only [sx, x_box, x_alloc, x_bslice, x_slice, x_append, x_appz, x_b2s, x_s2b, x_mark, xop, ev, evs, evParts, fillL, cellsL, Ai.get, Ai.put, stab, isNil?, if_false, if_true, addr?, int?, str?, agg?, bool?, shiftA, FnPost, xresL, xres1, tup, argEnv, ptr, Nat.reduceEqDiff, reduceIte, beq_self_eq_true, ne_eq, Nat.reduceAdd, Nat.reduceMul, Nat.reduceSub, abin_shl, abin_shr, load1V, loadV, storeV, cellsAt, getN, setN, allocV, lenL, lenS, bnd, oneC, Value.oneCell', Nat.reduceLeDiff, Nat.reduceLT, exists_eq_left', forall_const, reduceCtorEq, app_new, app_new0, List.append_assoc, Int.reduceToNat, Int.reduceLT, Int.reduceLE, Int.reduceEq, Int.reduceNe, Int.reduceBEq, IntKind.bits, bne_self_eq_false, Int.reducePow, r18, r17, hk']
      exact ⟨A', ⟨r0, r3, r4, r5, r6, r7⟩, os, hn', hA'⟩
  clear hrR r0 r3 r4 r5 r6 r7 r8 r9 ρ os4 ot4 hL hsr hk4 hl4 kt B2 os ot B hv g4 hrO p0
  rintro ρ g4 ⟨A', ⟨r0, r3, r4, r5, r6, r7⟩, os, hn', hA'⟩
  have pd := pre.done hA' hn'
  rw [kSeq_normal]
  have hA2 : ∀ i, i < 128 → A'[i]? = some (opn (Bk.at { b with es := [] } i)) := fun i hi => by rw [pd.op i hi]; simp [endE]
  have ho0 : Bk.Ok { b with es := [] } := lo.ok.drop
  have hb0 : Bk.es { b with es := [] } = [] := rfl
  have hlo : Lo F S { b with es := [] } (i + 1) := ⟨lo.f, lo.s, ho0⟩
  clear pre hel lo hA'
  generalize ({ b with es := [] } : Bk) = b0 at *
  simp only [sx, x_box, x_alloc, x_bslice, x_slice, x_append, x_appz, x_b2s, x_s2b, x_mark, xop, ev, evs, evParts, fillL, cellsL, Ai.get, Ai.put, stab, isNil?, if_false, if_true, addr?, int?, str?, agg?, bool?, shiftA, FnPost, xresL, xres1, tup, argEnv, ptr, Nat.reduceEqDiff, reduceIte, beq_self_eq_true, ne_eq, Nat.reduceAdd, Nat.reduceMul, Nat.reduceSub, abin_shl, abin_shr, load1V, loadV, storeV, cellsAt, getN, setN, allocV, lenL, lenS, bnd, oneC, Value.oneCell', Nat.reduceLeDiff, Nat.reduceLT, exists_eq_left', forall_const, reduceCtorEq, app_new, app_new0, List.append_assoc, Int.reduceToNat, Int.reduceLT, Int.reduceLE, Int.reduceEq, Int.reduceNe, Int.reduceBEq, IntKind.bits, bne_self_eq_false, Int.reducePow]
  refine xloop_cut (OgE q n c i R O L H g4) ?_ ?_
  · refine xcode_loop (OgI q n c i R O L H g4) 128 ⟨0, by omega, rfl, ⟨r0, r3, r4, r5, r6, r7⟩, rfl⟩ ?_
    clear r0 r3 r4 r5 r6 r7 ρ
    rintro m' ρ g ⟨k, hkm, r20, ⟨r0, r3, r4, r5, r6, r7⟩, e0⟩
    subst e0
    by_cases hk : k < 128
    · have hk' : (k : Int) < 128 := by omega
      have hk0 : (0 : Int) ≤ (k : Int) := by omega
      have wk : IntKind.i64.wrap ((k : Int) + 1) = ((k + 1 : Nat) : Int) := by rw [i64_wrap] <;> omega
      have hAk := bV_get (hA2 k hk)
      have hO := os.oo
      have hL := os.ll
      obtain ⟨rs0, B0⟩ := os.bk
      simp only [sx, x_box, x_alloc, x_bslice, x_slice, x_append, x_appz, x_b2s, x_s2b, x_mark, xop, ev, evs, evParts, fillL, cellsL, Ai.get, Ai.put, stab, isNil?, if_false, if_true, addr?, int?, str?, agg?, bool?, shiftA, FnPost, xresL, xres1, tup, argEnv, ptr, Nat.reduceEqDiff, reduceIte, beq_self_eq_true, ne_eq, Nat.reduceAdd, Nat.reduceMul, Nat.reduceSub, abin_shl, abin_shr, load1V, loadV, storeV, cellsAt, getN, setN, allocV, lenL, lenS, bnd, oneC, Value.oneCell', Nat.reduceLeDiff, Nat.reduceLT, exists_eq_left', forall_const, reduceCtorEq, app_new, app_new0, List.append_assoc, Int.reduceToNat, Int.reduceLT, Int.reduceLE, Int.reduceEq, Int.reduceNe, Int.reduceBEq, IntKind.bits, bne_self_eq_false, Int.reducePow, r20, r4, hk', hk0, hO, hAk, Nat.mul_one]
      refine xcall (is_ok (id := (k : Int)) B0) (by rfl) (by rfl) (by simp only [sx, x_box, x_alloc, x_bslice, x_slice, x_append, x_appz, x_b2s, x_s2b, x_mark, xop, ev, evs, evParts, fillL, cellsL, Ai.get, Ai.put, stab, isNil?, if_false, if_true, addr?, int?, str?, agg?, bool?, shiftA, FnPost, xresL, xres1, tup, argEnv, ptr, Nat.reduceEqDiff, reduceIte, beq_self_eq_true, ne_eq, Nat.reduceAdd, Nat.reduceMul, Nat.reduceSub, abin_shl, abin_shr, load1V, loadV, storeV, cellsAt, getN, setN, allocV, lenL, lenS, bnd, oneC, Value.oneCell', Nat.reduceLeDiff, Nat.reduceLT, exists_eq_left', forall_const, reduceCtorEq, app_new, app_new0, List.append_assoc, Int.reduceToNat, Int.reduceLT, Int.reduceLE, Int.reduceEq, Int.reduceNe, Int.reduceBEq, IntKind.bits, bne_self_eq_false, Int.reducePow, r3]; rfl) (by rfl) ?_
      rintro r g5 ⟨rfl, e0⟩
      subst e0
      rw [isO_b pd.n hk]
      cases ho : opn (b0.at k) with
      | false =>
        rw [ho] at hAk
        simp only [sx, x_box, x_alloc, x_bslice, x_slice, x_append, x_appz, x_b2s, x_s2b, x_mark, xop, ev, evs, evParts, fillL, cellsL, Ai.get, Ai.put, stab, isNil?, if_false, if_true, addr?, int?, str?, agg?, bool?, shiftA, FnPost, xresL, xres1, tup, argEnv, ptr, Nat.reduceEqDiff, reduceIte, beq_self_eq_true, ne_eq, Nat.reduceAdd, Nat.reduceMul, Nat.reduceSub, abin_shl, abin_shr, load1V, loadV, storeV, cellsAt, getN, setN, allocV, lenL, lenS, bnd, oneC, Value.oneCell', Nat.reduceLeDiff, Nat.reduceLT, exists_eq_left', forall_const, reduceCtorEq, app_new, app_new0, List.append_assoc, Int.reduceToNat, Int.reduceLT, Int.reduceLE, Int.reduceEq, Int.reduceNe, Int.reduceBEq, IntKind.bits, bne_self_eq_false, Int.reducePow, r20, r4, r5, hk', hk0, hO, hAk, Nat.mul_one, wk]
        exact ⟨m' - 1, by omega, k + 1, by omega, rfl, ⟨r0, r3, r4, r5, r6, r7⟩, rfl⟩
      | true =>
        rw [ho] at hAk
        obtain ⟨hF, hw1, hw2⟩ := pd.lf k hk ho
        rw [Int.sub_zero] at hF
        have hF' := iV_get hF
        have hw : ¬ (b0.at k).wt < 1 := by omega
        simp only [sx, x_box, x_alloc, x_bslice, x_slice, x_append, x_appz, x_b2s, x_s2b, x_mark, xop, ev, evs, evParts, fillL, cellsL, Ai.get, Ai.put, stab, isNil?, if_false, if_true, addr?, int?, str?, agg?, bool?, shiftA, FnPost, xresL, xres1, tup, argEnv, ptr, Nat.reduceEqDiff, reduceIte, beq_self_eq_true, ne_eq, Nat.reduceAdd, Nat.reduceMul, Nat.reduceSub, abin_shl, abin_shr, load1V, loadV, storeV, cellsAt, getN, setN, allocV, lenL, lenS, bnd, oneC, Value.oneCell', Nat.reduceLeDiff, Nat.reduceLT, exists_eq_left', forall_const, reduceCtorEq, app_new, app_new0, List.append_assoc, Int.reduceToNat, Int.reduceLT, Int.reduceLE, Int.reduceEq, Int.reduceNe, Int.reduceBEq, IntKind.bits, bne_self_eq_false, Int.reducePow, r20, r4, r5, hk', hk0, hO, hL, hAk, hF', hw, Nat.mul_one, wk]
        exact ⟨m' - 1, by omega, k + 1, by omega, rfl, ⟨r0, r3, r4, r5, r6, r7⟩, rfl⟩
    · have hk' : ¬ (k : Int) < 128 := by omega
      simp only [sx, x_box, x_alloc, x_bslice, x_slice, x_append, x_appz, x_b2s, x_s2b, x_mark, xop, ev, evs, evParts, fillL, cellsL, Ai.get, Ai.put, stab, isNil?, if_false, if_true, addr?, int?, str?, agg?, bool?, shiftA, FnPost, xresL, xres1, tup, argEnv, ptr, Nat.reduceEqDiff, reduceIte, beq_self_eq_true, ne_eq, Nat.reduceAdd, Nat.reduceMul, Nat.reduceSub, abin_shl, abin_shr, load1V, loadV, storeV, cellsAt, getN, setN, allocV, lenL, lenS, bnd, oneC, Value.oneCell', Nat.reduceLeDiff, Nat.reduceLT, exists_eq_left', forall_const, reduceCtorEq, app_new, app_new0, List.append_assoc, Int.reduceToNat, Int.reduceLT, Int.reduceLE, Int.reduceEq, Int.reduceNe, Int.reduceBEq, IntKind.bits, bne_self_eq_false, Int.reducePow, r20, hk']
      exact ⟨⟨r0, r3, r4, r5, r6, r7⟩, rfl⟩
  clear r0 r3 r4 r5 r6 r7 ρ
  rintro ρ g ⟨⟨r0, r3, r4, r5, r6, r7⟩, e0⟩
  subst e0
  have wi : IntKind.i64.wrap ((i : Int) + 1) = ((i + 1 : Nat) : Int) := by rw [i64_wrap] <;> omega
  simp only [sx, x_box, x_alloc, x_bslice, x_slice, x_append, x_appz, x_b2s, x_s2b, x_mark, xop, ev, evs, evParts, fillL, cellsL, Ai.get, Ai.put, stab, isNil?, if_false, if_true, addr?, int?, str?, agg?, bool?, shiftA, FnPost, xresL, xres1, tup, argEnv, ptr, Nat.reduceEqDiff, reduceIte, beq_self_eq_true, ne_eq, Nat.reduceAdd, Nat.reduceMul, Nat.reduceSub, abin_shl, abin_shr, load1V, loadV, storeV, cellsAt, getN, setN, allocV, lenL, lenS, bnd, oneC, Value.oneCell', Nat.reduceLeDiff, Nat.reduceLT, exists_eq_left', forall_const, reduceCtorEq, app_new, app_new0, List.append_assoc, Int.reduceToNat, Int.reduceLT, Int.reduceLE, Int.reduceEq, Int.reduceNe, Int.reduceBEq, IntKind.bits, bne_self_eq_false, Int.reducePow, r7, wi]
  exact ⟨m - 1, by omega, i + 1, R, O, L, H, A', F, S, b0, _, by omega, ⟨r0, r3, r4, r5, r6, rfl⟩, os, pd, hb0, hlo⟩
end Go.Proofs.Ytpbbmnfffolcoaa
