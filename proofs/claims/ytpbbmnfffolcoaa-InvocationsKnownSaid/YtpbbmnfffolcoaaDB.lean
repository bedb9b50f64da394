import Derived.Test.YtpbbmnfffolcoaaDA
import Derived.Test.YtpbbmnfffolcoaaE2
import Derived.Test.YtpbbmnfffolcoaaAiYn
set_option linter.unusedVariables false
set_option linter.unusedSimpArgs false
namespace Go.Proofs.Ytpbbmnfffolcoaa
open Go Go.Ai Go.Proofs

theorem EndsR.get {h : AHeap} : ∀ {c : List Value} {l : List En} {k : Nat} {e : En}, EndsR h c l → l[k]? = some e → ∃ v, BytesV h v e.val ∧ getN c (k * 4) 4 = some (e.cells v)
  | _, [], k, e, _, h => by simp at h
  | _, d :: l, 0, e, ⟨v, r, h1, h2, h3⟩, h => by
    simp at h; subst h
    exact ⟨v, h2, by rw [h1]; exact (getN_eq _ _ _ _).2 ⟨by simp [En.cells], rfl⟩⟩
  | _, d :: l, k + 1, e, ⟨v, r, h1, h2, h3⟩, h => by
    obtain ⟨v', g1, g2⟩ := EndsR.get h3 (k := k) (by simpa using h)
    refine ⟨v', g1, ?_⟩
    obtain ⟨a1, a2⟩ := (getN_eq _ _ _ _).1 g2
    have e5 : (k + 1) * 4 = (d.cells v).length + k * 4 := by simp [En.cells]; omega
    refine (getN_eq _ _ _ _).2 ⟨?_, ?_⟩
    · rw [h1]; simp only [List.length_append]; split at a1 <;> split <;> omega
    · rw [h1, e5, List.drop_length_add_append]; exact a2
theorem EndL.get {h : AHeap} {r : Value} {es : List En} (L : EndL h r es) {k : Nat} {e : En} (hk : es[k]? = some e) : ∃ X off w cs v, r = .slice (some ⟨X, off, none⟩) es.length es.length ∧ h[X]? = some (some ⟨w, cs⟩) ∧ getN cs (off + k * 4) 4 = some (e.cells v) ∧ BytesV h v e.val := by
  obtain ⟨q, cells, rfl, hf, E⟩ := L
  have hl := (List.getElem?_eq_some_iff.1 hk).1
  cases q with
  | none => simp only [firstV] at hf; rw [if_neg (by omega)] at hf; cases hf
  | some a =>
    obtain ⟨h1, o, h2, h3⟩ := firstV_elem hf (by decide) hl
    obtain ⟨v, g1, g2⟩ := E.get hk
    obtain ⟨X, off, sp⟩ := a
    simp only at h1; subst h1
    exact ⟨X, off, o.own, o.cells, v, rfl, h2, by rw [h3, ← ((getN_eq _ _ _ _).1 g2).2], g1⟩
/-- an act in the heap -/
def ActP (h : AHeap) (rows : List Value) (i : Nat) : Prop := ∃ (a : Ac) (q : Option Addr) (c : Nat), a.Ok ∧ getN rows (i * 5) 5 = some (a.cells (.slice q a.val.length c)) ∧ rows[i * 5 + 4]? = some (.slice q a.val.length c) ∧ PartOk h (.slice q a.val.length c) (bN a.val)
def ActsW (h : AHeap) (q : Option Addr) (n : Nat) : Prop := n = 0 ∨ ∃ X w rows, q = some ⟨X, 0, none⟩ ∧ h[X]? = some (some ⟨w, rows⟩) ∧ ∀ i, i < n → ActP h rows i
theorem part_kp {h h' : AHeap} {v : Value} {rows : List Value} (p : PartOk h v rows) (K : Kp h h') : PartOk h' v rows := by
  obtain ⟨q, c, h1, h2, h3⟩ := p; exact ⟨q, c, h1, K.first h2, h3⟩
theorem ActsW.at {h h' : AHeap} {q : Option Addr} {n : Nat} (w : ActsW h q n) (K : Kp h h') {i : Nat} (hi : i < n) : ∃ X w rows, q = some ⟨X, 0, none⟩ ∧ h'[X]? = some (some ⟨w, rows⟩) ∧ ActP h' rows i := by
  rcases w with h0 | ⟨X, w, rows, h1, h2, h3⟩
  · omega
  · obtain ⟨a, qa, ca, a1, a2, a3, a4⟩ := h3 i hi
    exact ⟨X, w, rows, h1, K.get h2, a, qa, ca, a1, a2, a3, part_kp a4 K⟩
theorem MAt.nil {h : AHeap} {M : Nat} (hM : h[M]? = some (some ⟨true, [.int .i64 0, .slice none 0 0, .slice none 0 0]⟩)) : MAt h M Bk.nil (.slice none 0 0) (.slice none 0 0) :=
  ⟨hM, ⟨[], ⟨rfl, .inl ⟨rfl, rfl⟩⟩, rfl⟩, ⟨[], ⟨rfl, .inl ⟨rfl, rfl⟩⟩, rfl⟩, rfl, by decide, (fun X h => by cases h), (fun X h => by cases h), (fun X h => by cases h), (fun X h => by cases h), (fun X h => by cases h)⟩
/-- the law forgets the endings -/
theorem MAt.drop {h : AHeap} {M : Nat} {b : Bk} {ov zv : Value} (A : MAt h M b ov zv) : MAt (h.set M (some ⟨true, [.int .i64 (b.nx : Int), ov, .slice none 0 0]⟩)) M { b with es := [] } ov (.slice none 0 0) := by
  obtain ⟨c1, r1, o1⟩ := A.op
  refine ⟨List.getElem?_set_self (lt_of_get A.obj), ⟨c1, r1.keep fun X x hX hx => (set_ne (A.s1 X hX).symm _).trans hx, o1⟩, ⟨[], ⟨rfl, .inl ⟨rfl, rfl⟩⟩, rfl⟩, A.n, A.nx, A.s1, (fun X h => by cases h), (fun X _ h => by cases h), A.l1.keep fun X hX => set_ne (A.s1 X hX).symm _, (fun X h => by cases h)⟩
theorem Bk.nil_ok : Bk.nil.Ok := ⟨fun x hx => by rw [List.eq_of_mem_replicate hx]; decide, fun x hx => by rw [List.eq_of_mem_replicate hx]; decide, fun x hx => by rw [List.eq_of_mem_replicate hx]; decide⟩
theorem Bk.Ok.drop {b : Bk} (o : b.Ok) : Bk.Ok { b with es := [] } := ⟨o.wt, o.pb, o.cl⟩
/-- what is known at each act -/
structure AxS (h0 h : AHeap) (B M : Nat) (b : Bk) (i : Nat) : Prop where
  w : ∃ rs dv ov zv, BM h B M b b rs dv ov zv ∧ ∀ X, ftBM B M dv ov zv X → h0.length ≤ X
  kp : Kp h0 h
  ok : b.Ok
  es : b.es.length ≤ 128 * i
theorem AxS.act {h0 h h' : AHeap} {B M : Nat} {b : Bk} {i : Nat} {rs : List (Iv × Value)} {dv ov zv : Value} {a : Ac} (A : BM h B M b b rs dv ov zv) (hf : ∀ X, ftBM B M dv ov zv X → h0.length ≤ X) (K : Kp h0 h) (ok : b.Ok) (es : b.es.length ≤ 128 * i) (W : WentBM h h' B M (b.act a) (b.act a) dv ov zv) : AxS h0 h' B M (b.act a) (i + 1) := by
  obtain ⟨rs', dv', ov', zv', A', F, n⟩ := W
  refine ⟨⟨rs', dv', ov', zv', A', fun X hX => ?_⟩, ⟨Nat.le_trans K.1 F.1, fun X hX => ?_⟩, act_ok ok A.md.n a, ?_⟩
  · have := K.1
    rcases n X hX with e | e
    · exact hf X e
    · omega
  · rw [F.2 X (Nat.lt_of_lt_of_le hX K.1) (fun e => by have := hf X e; omega), K.2 X hX]
  · have := act_es b a; omega

theorem BM.drop {g : AHeap} {B M : Nat} {b0 b : Bk} {rs : List (Iv × Value)} {dv ov zv : Value} (A : BM g B M b0 b rs dv ov zv) : BM (g.set M (some ⟨true, [.int .i64 (b.nx : Int), ov, .slice none 0 0]⟩)) B M b0 { b with es := [] } rs dv ov (.slice none 0 0) :=
  ⟨A.bk.keep (fun X cs hX => by rw [set_ne (fun e => by subst e; rw [A.md.obj] at hX; cases hX)]; exact hX) fun X hX => set_ne (fun e => A.ap X hX (.inl e.symm)) _, A.md.drop, fun X hX hm => by
    rcases hm with e | e | e
    · exact A.ap X hX (.inl e)
    · exact A.ap X hX (.inr (.inl e))
    · cases e⟩
def AxI (h0 : AHeap) (q : Option Addr) (n c : Nat) (m : Nat) (ρ : Env) (h : AHeap) : Prop := ∃ (i B M : Nat) (b : Bk), i + m = n ∧ get ρ 5 = some (.int .i64 (i : Nat)) ∧ get ρ 0 = some (.slice q n c) ∧ get ρ 3 = some (.pointer (some ⟨B, 0, none⟩)) ∧ get ρ 4 = some (.pointer (some ⟨M, 0, none⟩)) ∧ AxS h0 h B M b i
def AxE (h0 : AHeap) (ρ : Env) (h : AHeap) : Prop := Kp h0 h
def AxR (h0 : AHeap) (ρ : Env) (h : AHeap) : Prop := get ρ 2 = some (.bool true) ∧ Kp h0 h
/-- the endings are held side by side -/
def AcI (h1 : AHeap) (q : Option Addr) (n c i B M : Nat) (r : Value) (k0 : Nat) (m : Nat) (ρ : Env) (h : AHeap) : Prop := ∃ k, k + m = k0 ∧ get ρ 7 = some (.int .i64 (k : Nat)) ∧ get ρ 6 = some r ∧ get ρ 5 = some (.int .i64 (i : Nat)) ∧ get ρ 0 = some (.slice q n c) ∧ get ρ 3 = some (.pointer (some ⟨B, 0, none⟩)) ∧ get ρ 4 = some (.pointer (some ⟨M, 0, none⟩)) ∧ Kp h1 h
def AcE (h1 : AHeap) (q : Option Addr) (n c i B M : Nat) (ρ : Env) (h : AHeap) : Prop := get ρ 5 = some (.int .i64 (i : Nat)) ∧ get ρ 0 = some (.slice q n c) ∧ get ρ 3 = some (.pointer (some ⟨B, 0, none⟩)) ∧ get ρ 4 = some (.pointer (some ⟨M, 0, none⟩)) ∧ Kp h1 h
/-- all numbers are asked -/
def AdI (h1 : AHeap) (q : Option Addr) (n c i B M : Nat) (m : Nat) (ρ : Env) (h : AHeap) : Prop := ∃ k, k + m = 131 ∧ get ρ 8 = some (.int .i64 ((k : Int) - 1)) ∧ get ρ 5 = some (.int .i64 (i : Nat)) ∧ get ρ 0 = some (.slice q n c) ∧ get ρ 3 = some (.pointer (some ⟨B, 0, none⟩)) ∧ get ρ 4 = some (.pointer (some ⟨M, 0, none⟩)) ∧ h = h1
def AdE (h1 : AHeap) (q : Option Addr) (n c i B M : Nat) (ρ : Env) (h : AHeap) : Prop := get ρ 5 = some (.int .i64 (i : Nat)) ∧ get ρ 0 = some (.slice q n c) ∧ get ρ 3 = some (.pointer (some ⟨B, 0, none⟩)) ∧ get ρ 4 = some (.pointer (some ⟨M, 0, none⟩)) ∧ h = h1
def AoP (q : Option Addr) (n c i B M : Nat) (h0 : AHeap) (ρ : Env) (h : AHeap) : Prop := get ρ 5 = some (.int .i64 (i : Nat)) ∧ get ρ 0 = some (.slice q n c) ∧ get ρ 3 = some (.pointer (some ⟨B, 0, none⟩)) ∧ get ρ 4 = some (.pointer (some ⟨M, 0, none⟩)) ∧ h = h0
def AoF (q : Option Addr) (n c i B M : Nat) (h0 : AHeap) (ρ : Env) (h : AHeap) : Prop := get ρ 47 = some (.bool false) ∧ AoP q n c i B M h0 ρ h
set_option maxHeartbeats 16000000 in
set_option maxRecDepth 20000 in
theorem acts_ok {h : AHeap} {q : Option Addr} {n c : Nat} (hn : n ≤ 9223372036854775807) (W : ActsW h q n) : Valid Try.prog 3 [.slice q n c] h fun r h' => r = .bool true ∧ Kp h h' := by
  refine v3 (by simp) ?_
  by_cases hbig : 200 < n
  · have hbig' : (200 : Int) < (n : Nat) := by omega
    simp only [X3, sx, x_box, x_alloc, x_bslice, x_slice, x_append, x_appz, x_b2s, x_s2b, x_mark, xop, ev, evs, evParts, fillL, cellsL, Ai.get, Ai.put, stab, isNil?, if_false, if_true, addr?, int?, str?, agg?, bool?, shiftA, FnPost, xresL, xres1, tup, argEnv, ptr, Nat.reduceEqDiff, reduceIte, beq_self_eq_true, ne_eq, Nat.reduceAdd, Nat.reduceMul, Nat.reduceSub, abin_shl, abin_shr, load1V, loadV, storeV, cellsAt, getN, setN, allocV, lenL, lenS, bnd, oneC, Value.oneCell', Nat.reduceLeDiff, Nat.reduceLT, exists_eq_left', forall_const, reduceCtorEq, app_new, app_new0, List.append_assoc, Int.reduceToNat, Int.reduceLT, Int.reduceLE, Int.reduceEq, Int.reduceNe, Int.reduceBEq, IntKind.bits, bne_self_eq_false, Int.reducePow, hbig']
    refine xcall (lives_ok _) (by rfl) (by rfl) (by rfl) (by rfl) ?_
    rintro r h' ⟨rfl, rfl⟩
    simp only [sx, x_box, x_alloc, x_bslice, x_slice, x_append, x_appz, x_b2s, x_s2b, x_mark, xop, ev, evs, evParts, fillL, cellsL, Ai.get, Ai.put, stab, isNil?, if_false, if_true, addr?, int?, str?, agg?, bool?, shiftA, FnPost, xresL, xres1, tup, argEnv, ptr, Nat.reduceEqDiff, reduceIte, beq_self_eq_true, ne_eq, Nat.reduceAdd, Nat.reduceMul, Nat.reduceSub, abin_shl, abin_shr, load1V, loadV, storeV, cellsAt, getN, setN, allocV, lenL, lenS, bnd, oneC, Value.oneCell', Nat.reduceLeDiff, Nat.reduceLT, exists_eq_left', forall_const, reduceCtorEq, app_new, app_new0, List.append_assoc, Int.reduceToNat, Int.reduceLT, Int.reduceLE, Int.reduceEq, Int.reduceNe, Int.reduceBEq, IntKind.bits, bne_self_eq_false, Int.reducePow]
    exact Kp.refl _
  have hbig' : ¬ (200 : Int) < (n : Nat) := by omega
  simp only [X3, sx, x_alloc, x_bslice, x_slice, x_append, x_appz, x_b2s, x_s2b, x_mark, xop, ev, evs, evParts, fillL, cellsL, Ai.get, Ai.put, stab, isNil?, if_false, if_true, addr?, int?, str?, agg?, bool?, shiftA, FnPost, xresL, xres1, tup, argEnv, ptr, Nat.reduceEqDiff, reduceIte, beq_self_eq_true, ne_eq, Nat.reduceAdd, Nat.reduceMul, Nat.reduceSub, abin_shl, abin_shr, load1V, loadV, storeV, cellsAt, getN, setN, allocV, lenL, lenS, bnd, oneC, Value.oneCell', Nat.reduceLeDiff, Nat.reduceLT, exists_eq_left', forall_const, reduceCtorEq, app_new, app_new0, List.append_assoc, Int.reduceToNat, Int.reduceLT, Int.reduceLE, Int.reduceEq, Int.reduceNe, Int.reduceBEq, IntKind.bits, bne_self_eq_false, Int.reducePow, hbig']
  refine xcall new_ok (by rfl) (by rfl) (by rfl) (by rfl) ?_
  rintro r g2 ⟨B, rfl, A, K2, hBl⟩
  simp only [sx, x_alloc, x_bslice, x_slice, x_append, x_appz, x_b2s, x_s2b, x_mark, xop, ev, evs, evParts, fillL, cellsL, Ai.get, Ai.put, stab, isNil?, if_false, if_true, addr?, int?, str?, agg?, bool?, shiftA, FnPost, xresL, xres1, tup, argEnv, ptr, Nat.reduceEqDiff, reduceIte, beq_self_eq_true, ne_eq, Nat.reduceAdd, Nat.reduceMul, Nat.reduceSub, abin_shl, abin_shr, load1V, loadV, storeV, cellsAt, getN, setN, allocV, lenL, lenS, bnd, oneC, Value.oneCell', Nat.reduceLeDiff, Nat.reduceLT, exists_eq_left', forall_const, reduceCtorEq, app_new, app_new0, List.append_assoc, Int.reduceToNat, Int.reduceLT, Int.reduceLE, Int.reduceEq, Int.reduceNe, Int.reduceBEq, IntKind.bits, bne_self_eq_false, Int.reducePow]
  refine box_run rfl fun g3 M K3 hM hMl hg3 => ⟨trivial, ?_⟩
  simp only [cellsL] at hM
  simp only [sx, x_alloc, x_bslice, x_slice, x_append, x_appz, x_b2s, x_s2b, x_mark, xop, ev, evs, evParts, fillL, cellsL, Ai.get, Ai.put, stab, isNil?, if_false, if_true, addr?, int?, str?, agg?, bool?, shiftA, FnPost, xresL, xres1, tup, argEnv, ptr, Nat.reduceEqDiff, reduceIte, beq_self_eq_true, ne_eq, Nat.reduceAdd, Nat.reduceMul, Nat.reduceSub, abin_shl, abin_shr, load1V, loadV, storeV, cellsAt, getN, setN, allocV, lenL, lenS, bnd, oneC, Value.oneCell', Nat.reduceLeDiff, Nat.reduceLT, exists_eq_left', forall_const, reduceCtorEq, app_new, app_new0, List.append_assoc, Int.reduceToNat, Int.reduceLT, Int.reduceLE, Int.reduceEq, Int.reduceNe, Int.reduceBEq, IntKind.bits, bne_self_eq_false, Int.reducePow]
  have A3 := A.kp K3
  have hBM : B ≠ M := by have := lt_of_get A.obj; omega
  have S0 : AxS h g3 B M Bk.nil 0 := by
    refine ⟨⟨_, _, _, _, ⟨A3, MAt.nil hM, fun X hX hm => ?_⟩, fun X hX => ?_⟩, K2.trans K3, Bk.nil_ok, by simp [Bk.nil]⟩
    · rcases hX with rfl | hX
      · rcases hm with rfl | hm | hm
        · exact hBM rfl
        · cases hm
        · cases hm
      · cases hX
    · have := K2.1
      rcases hX with (rfl | hX) | (rfl | hX | hX)
      · exact hBl
      · cases hX
      · omega
      · cases hX
      · cases hX
  clear A3 A hM hBM K3 K2
  refine xloop_cut2 (AxE h) (AxR h) ?_ ?_ ?_
  rotate_left
  · intro ρ h' K
    simp only [sx, x_box, x_alloc, x_bslice, x_slice, x_append, x_appz, x_b2s, x_s2b, x_mark, xop, ev, evs, evParts, fillL, cellsL, Ai.get, Ai.put, stab, isNil?, if_false, if_true, addr?, int?, str?, agg?, bool?, shiftA, FnPost, xresL, xres1, tup, argEnv, ptr, Nat.reduceEqDiff, reduceIte, beq_self_eq_true, ne_eq, Nat.reduceAdd, Nat.reduceMul, Nat.reduceSub, abin_shl, abin_shr, load1V, loadV, storeV, cellsAt, getN, setN, allocV, lenL, lenS, bnd, oneC, Value.oneCell', Nat.reduceLeDiff, Nat.reduceLT, exists_eq_left', forall_const, reduceCtorEq, app_new, app_new0, List.append_assoc, Int.reduceToNat, Int.reduceLT, Int.reduceLE, Int.reduceEq, Int.reduceNe, Int.reduceBEq, IntKind.bits, bne_self_eq_false, Int.reducePow]
    refine xcall (lives_ok _) (by rfl) (by rfl) (by rfl) (by rfl) ?_
    rintro r h2 ⟨rfl, rfl⟩
    simp only [sx, x_box, x_alloc, x_bslice, x_slice, x_append, x_appz, x_b2s, x_s2b, x_mark, xop, ev, evs, evParts, fillL, cellsL, Ai.get, Ai.put, stab, isNil?, if_false, if_true, addr?, int?, str?, agg?, bool?, shiftA, FnPost, xresL, xres1, tup, argEnv, ptr, Nat.reduceEqDiff, reduceIte, beq_self_eq_true, ne_eq, Nat.reduceAdd, Nat.reduceMul, Nat.reduceSub, abin_shl, abin_shr, load1V, loadV, storeV, cellsAt, getN, setN, allocV, lenL, lenS, bnd, oneC, Value.oneCell', Nat.reduceLeDiff, Nat.reduceLT, exists_eq_left', forall_const, reduceCtorEq, app_new, app_new0, List.append_assoc, Int.reduceToNat, Int.reduceLT, Int.reduceLE, Int.reduceEq, Int.reduceNe, Int.reduceBEq, IntKind.bits, bne_self_eq_false, Int.reducePow]
    exact K
  · rintro ρ h' ⟨r2, K⟩
    simp only [sx, x_box, x_alloc, x_bslice, x_slice, x_append, x_appz, x_b2s, x_s2b, x_mark, xop, ev, evs, evParts, fillL, cellsL, Ai.get, Ai.put, stab, isNil?, if_false, if_true, addr?, int?, str?, agg?, bool?, shiftA, FnPost, xresL, xres1, tup, argEnv, ptr, Nat.reduceEqDiff, reduceIte, beq_self_eq_true, ne_eq, Nat.reduceAdd, Nat.reduceMul, Nat.reduceSub, abin_shl, abin_shr, load1V, loadV, storeV, cellsAt, getN, setN, allocV, lenL, lenS, bnd, oneC, Value.oneCell', Nat.reduceLeDiff, Nat.reduceLT, exists_eq_left', forall_const, reduceCtorEq, app_new, app_new0, List.append_assoc, Int.reduceToNat, Int.reduceLT, Int.reduceLE, Int.reduceEq, Int.reduceNe, Int.reduceBEq, IntKind.bits, bne_self_eq_false, Int.reducePow, r2]
    exact K
  refine xcode_loop (AxI h q n c) n ⟨0, B, M, Bk.nil, by omega, rfl, rfl, rfl, rfl, S0⟩ ?_
  clear S0 hMl hg3 hBl g3
  rintro m ρ g ⟨i, B, M, b, him, r5, r0, r3, r4, ⟨rs, dv, ov, zv, A, hfar⟩, K, ok, hes⟩
  by_cases hi : i < n
  rotate_left
  · have hi' : ¬ (i : Int) < (n : Nat) := by omega
    simp only [sx, x_box, x_alloc, x_bslice, x_slice, x_append, x_appz, x_b2s, x_s2b, x_mark, xop, ev, evs, evParts, fillL, cellsL, Ai.get, Ai.put, stab, isNil?, if_false, if_true, addr?, int?, str?, agg?, bool?, shiftA, FnPost, xresL, xres1, tup, argEnv, ptr, Nat.reduceEqDiff, reduceIte, beq_self_eq_true, ne_eq, Nat.reduceAdd, Nat.reduceMul, Nat.reduceSub, abin_shl, abin_shr, load1V, loadV, storeV, cellsAt, getN, setN, allocV, lenL, lenS, bnd, oneC, Value.oneCell', Nat.reduceLeDiff, Nat.reduceLT, exists_eq_left', forall_const, reduceCtorEq, app_new, app_new0, List.append_assoc, Int.reduceToNat, Int.reduceLT, Int.reduceLE, Int.reduceEq, Int.reduceNe, Int.reduceBEq, IntKind.bits, bne_self_eq_false, Int.reducePow, r5, r0, hi']
    exact .inl K
  have hi' : (i : Int) < (n : Nat) := by omega
  have hi0 : (0 : Int) ≤ (i : Int) := by omega
  obtain ⟨X, w, rows, rfl, hX, a, qa, ca, oa, ha5, ha4, hv⟩ := W.at K hi
  by_cases hv50 : 50 < a.val.length
  · have hv50' : (50 : Int) < (a.val.length : Nat) := by omega
    simp only [sx, x_box, x_alloc, x_bslice, x_slice, x_append, x_appz, x_b2s, x_s2b, x_mark, xop, ev, evs, evParts, fillL, cellsL, Ai.get, Ai.put, stab, isNil?, if_false, if_true, addr?, int?, str?, agg?, bool?, shiftA, FnPost, xresL, xres1, tup, argEnv, ptr, Nat.reduceEqDiff, reduceIte, beq_self_eq_true, ne_eq, Nat.reduceAdd, Nat.reduceMul, Nat.reduceSub, abin_shl, abin_shr, load1V, loadV, storeV, cellsAt, getN, setN, allocV, lenL, lenS, bnd, oneC, Value.oneCell', Nat.reduceLeDiff, Nat.reduceLT, exists_eq_left', forall_const, reduceCtorEq, app_new, app_new0, List.append_assoc, Int.reduceToNat, Int.reduceLT, Int.reduceLE, Int.reduceEq, Int.reduceNe, Int.reduceBEq, IntKind.bits, bne_self_eq_false, Int.reducePow, r5, r0, hi', hi0, hX, ha4, hv50']
    refine xcall (lives_ok _) (by rfl) (by rfl) (by rfl) (by rfl) ?_
    rintro r h2 ⟨rfl, rfl⟩
    simp only [sx, x_box, x_alloc, x_bslice, x_slice, x_append, x_appz, x_b2s, x_s2b, x_mark, xop, ev, evs, evParts, fillL, cellsL, Ai.get, Ai.put, stab, isNil?, if_false, if_true, addr?, int?, str?, agg?, bool?, shiftA, FnPost, xresL, xres1, tup, argEnv, ptr, Nat.reduceEqDiff, reduceIte, beq_self_eq_true, ne_eq, Nat.reduceAdd, Nat.reduceMul, Nat.reduceSub, abin_shl, abin_shr, load1V, loadV, storeV, cellsAt, getN, setN, allocV, lenL, lenS, bnd, oneC, Value.oneCell', Nat.reduceLeDiff, Nat.reduceLT, exists_eq_left', forall_const, reduceCtorEq, app_new, app_new0, List.append_assoc, Int.reduceToNat, Int.reduceLT, Int.reduceLE, Int.reduceEq, Int.reduceNe, Int.reduceBEq, IntKind.bits, bne_self_eq_false, Int.reducePow]
    exact .inr ⟨rfl, K⟩
  have hv50' : ¬ (50 : Int) < (a.val.length : Nat) := by omega
  simp only [sx, x_box, x_alloc, x_bslice, x_slice, x_append, x_appz, x_b2s, x_s2b, x_mark, xop, ev, evs, evParts, fillL, cellsL, Ai.get, Ai.put, stab, isNil?, if_false, if_true, addr?, int?, str?, agg?, bool?, shiftA, FnPost, xresL, xres1, tup, argEnv, ptr, Nat.reduceEqDiff, reduceIte, beq_self_eq_true, ne_eq, Nat.reduceAdd, Nat.reduceMul, Nat.reduceSub, abin_shl, abin_shr, load1V, loadV, storeV, cellsAt, setN, allocV, lenL, lenS, bnd, oneC, Value.oneCell', Nat.reduceLeDiff, Nat.reduceLT, exists_eq_left', forall_const, reduceCtorEq, app_new, app_new0, List.append_assoc, Int.reduceToNat, Int.reduceLT, Int.reduceLE, Int.reduceEq, Int.reduceNe, Int.reduceBEq, IntKind.bits, bne_self_eq_false, Int.reducePow, r5, r0, r3, r4, hi', hi0, hX, ha4, ha5, hv50', Ac.cells]
  refine xcall (does_ok (a := a) A ok (by omega) oa hv (by omega)) (by rfl) (by rfl) (by rfl) (by rfl) ?_
  rintro r g2 ⟨rfl, W2⟩
  have S2 := AxS.act A hfar K ok hes W2
  clear A hfar K ok hes W2 hX ha5 ha4 hv hv50 hv50' oa
  generalize b.act a = b1 at *
  obtain ⟨⟨rs, dv, ov, zv, A, hfar⟩, K, ok, hes⟩ := S2
  obtain ⟨qo, co, hov⟩ := A.md.lenV
  subst hov
  have hM := A.md.obj
  simp only [sx, x_box, x_alloc, x_bslice, x_slice, x_append, x_appz, x_b2s, x_s2b, x_mark, xop, ev, evs, evParts, fillL, cellsL, Ai.get, Ai.put, stab, isNil?, if_false, if_true, addr?, int?, str?, agg?, bool?, shiftA, FnPost, xresL, xres1, tup, argEnv, ptr, Nat.reduceEqDiff, reduceIte, beq_self_eq_true, ne_eq, Nat.reduceAdd, Nat.reduceMul, Nat.reduceSub, abin_shl, abin_shr, load1V, loadV, storeV, cellsAt, getN, setN, allocV, lenL, lenS, bnd, oneC, Value.oneCell', Nat.reduceLeDiff, Nat.reduceLT, exists_eq_left', forall_const, reduceCtorEq, app_new, app_new0, List.append_assoc, Int.reduceToNat, Int.reduceLT, Int.reduceLE, Int.reduceEq, Int.reduceNe, Int.reduceBEq, IntKind.bits, bne_self_eq_false, Int.reducePow, r5, r0, r3, r4, hM]
  refine xcall (open_ok A.bk) (by rfl) (by rfl) (by rfl) (by rfl) ?_
  rintro r g3 ⟨rfl, rfl⟩
  have hrem : (i : Int).tmod 3 = ((i % 3 : Nat) : Int) := by rw [Int.tmod_eq_emod_of_nonneg (by omega)]; omega
  have hw1 : IntKind.i64.wrap ((i : Int) + 1) = ((i + 1 : Nat) : Int) := by rw [i64_wrap] <;> omega
  have hst : AxS h g3 B M b1 (i + 1) := ⟨⟨rs, dv, _, zv, A, hfar⟩, K, ok, hes⟩
  have cont : ∀ (ρ' : Env) (g' : AHeap) (b' : Bk), get ρ' 5 = some (.int .i64 ((i + 1 : Nat) : Int)) → get ρ' 0 = some (.slice (some ⟨X, 0, none⟩) n c) → get ρ' 3 = some (.pointer (some ⟨B, 0, none⟩)) → get ρ' 4 = some (.pointer (some ⟨M, 0, none⟩)) → AxS h g' B M b' (i + 1) → AxI h (some ⟨X, 0, none⟩) n c (m - 1) ρ' g' := fun ρ' g' b' q5 q0 q3 q4 qs => ⟨i + 1, B, M, b', by omega, q5, q0, q3, q4, qs⟩
  by_cases hgo : 0 < i % 3 ∧ i + 1 < n
  · have h1' : (0 : Int) < ((i % 3 : Nat) : Int) := by omega
    have h2' : ((i + 1 : Nat) : Int) < (n : Nat) := by omega
    simp only [sx, x_box, x_alloc, x_bslice, x_slice, x_append, x_appz, x_b2s, x_s2b, x_mark, xop, ev, evs, evParts, fillL, cellsL, Ai.get, Ai.put, stab, isNil?, if_false, if_true, addr?, int?, str?, agg?, bool?, shiftA, FnPost, xresL, xres1, tup, argEnv, ptr, Nat.reduceEqDiff, reduceIte, beq_self_eq_true, ne_eq, Nat.reduceAdd, Nat.reduceMul, Nat.reduceSub, abin_shl, abin_shr, load1V, loadV, storeV, cellsAt, getN, setN, allocV, lenL, lenS, bnd, oneC, Value.oneCell', Nat.reduceLeDiff, Nat.reduceLT, exists_eq_left', forall_const, reduceCtorEq, app_new, app_new0, List.append_assoc, Int.reduceToNat, Int.reduceLT, Int.reduceLE, Int.reduceEq, Int.reduceNe, Int.reduceBEq, IntKind.bits, bne_self_eq_false, Int.reducePow, r5, r0, r3, r4, hrem, hw1, h1', h2', hM]
    exact ⟨m - 1, by omega, cont _ _ _ rfl r0 r3 r4 hst⟩
  clear cont hst
  refine ⟨by simp only [sx, x_box, x_alloc, x_bslice, x_slice, x_append, x_appz, x_b2s, x_s2b, x_mark, xop, ev, evs, evParts, fillL, cellsL, Ai.get, Ai.put, stab, isNil?, if_false, if_true, addr?, int?, str?, agg?, bool?, shiftA, FnPost, xresL, xres1, tup, argEnv, ptr, Nat.reduceEqDiff, reduceIte, beq_self_eq_true, ne_eq, Nat.reduceAdd, Nat.reduceMul, Nat.reduceSub, abin_shl, abin_shr, load1V, loadV, storeV, cellsAt, getN, setN, allocV, lenL, lenS, bnd, oneC, Value.oneCell', Nat.reduceLeDiff, Nat.reduceLT, exists_eq_left', forall_const, reduceCtorEq, app_new, app_new0, List.append_assoc, Int.reduceToNat, Int.reduceLT, Int.reduceLE, Int.reduceEq, Int.reduceNe, Int.reduceBEq, IntKind.bits, bne_self_eq_false, Int.reducePow, hM], ?_⟩
  refine xops_cut (AoF (some ⟨X, 0, none⟩) n c i B M g3) ?_ ?_
  · simp only [sx, x_box, x_alloc, x_bslice, x_slice, x_append, x_appz, x_b2s, x_s2b, x_mark, xop, ev, evs, evParts, fillL, cellsL, Ai.get, Ai.put, stab, isNil?, if_false, if_true, addr?, int?, str?, agg?, bool?, shiftA, FnPost, xresL, xres1, tup, argEnv, ptr, Nat.reduceEqDiff, reduceIte, beq_self_eq_true, ne_eq, Nat.reduceAdd, Nat.reduceMul, Nat.reduceSub, abin_shl, abin_shr, load1V, loadV, storeV, cellsAt, getN, setN, allocV, lenL, lenS, bnd, oneC, Value.oneCell', Nat.reduceLeDiff, Nat.reduceLT, exists_eq_left', forall_const, reduceCtorEq, app_new, app_new0, List.append_assoc, Int.reduceToNat, Int.reduceLT, Int.reduceLE, Int.reduceEq, Int.reduceNe, Int.reduceBEq, IntKind.bits, bne_self_eq_false, Int.reducePow]
    exact ⟨rfl, r5, r0, r3, r4, rfl⟩
  clear r5 r0 r3 r4
  rintro ρ g ⟨r47, r5, r0, r3, r4, e0⟩
  rw [kSeq_normal]
  refine xcode_cut (AoP (some ⟨X, 0, none⟩) n c i B M g) ?_ ?_
  · simp only [sx, x_box, x_alloc, x_bslice, x_slice, x_append, x_appz, x_b2s, x_s2b, x_mark, xop, ev, evs, evParts, fillL, cellsL, Ai.get, Ai.put, stab, isNil?, if_false, if_true, addr?, int?, str?, agg?, bool?, shiftA, FnPost, xresL, xres1, tup, argEnv, ptr, Nat.reduceEqDiff, reduceIte, beq_self_eq_true, ne_eq, Nat.reduceAdd, Nat.reduceMul, Nat.reduceSub, abin_shl, abin_shr, load1V, loadV, storeV, cellsAt, getN, setN, allocV, lenL, lenS, bnd, oneC, Value.oneCell', Nat.reduceLeDiff, Nat.reduceLT, exists_eq_left', forall_const, reduceCtorEq, app_new, app_new0, List.append_assoc, Int.reduceToNat, Int.reduceLT, Int.reduceLE, Int.reduceEq, Int.reduceNe, Int.reduceBEq, IntKind.bits, bne_self_eq_false, Int.reducePow, r47]
    exact ⟨r5, r0, r3, r4, rfl⟩
  clear r5 r0 r3 r4 r47
  subst e0
  rintro ρ g ⟨r5, r0, r3, r4, e0⟩
  subst e0
  rw [kSeq_normal, xcode_seq]
  refine xcode_cut (AoP (some ⟨X, 0, none⟩) n c i B M g) ?_ ?_
  · by_cases h1 : 0 < i % 3
    · have h1' : (0 : Int) < ((i % 3 : Nat) : Int) := by omega
      have h2' : ¬ ((i + 1 : Nat) : Int) < (n : Nat) := by omega
      simp only [sx, x_box, x_alloc, x_bslice, x_slice, x_append, x_appz, x_b2s, x_s2b, x_mark, xop, ev, evs, evParts, fillL, cellsL, Ai.get, Ai.put, stab, isNil?, if_false, if_true, addr?, int?, str?, agg?, bool?, shiftA, FnPost, xresL, xres1, tup, argEnv, ptr, Nat.reduceEqDiff, reduceIte, beq_self_eq_true, ne_eq, Nat.reduceAdd, Nat.reduceMul, Nat.reduceSub, abin_shl, abin_shr, load1V, loadV, storeV, cellsAt, getN, setN, allocV, lenL, lenS, bnd, oneC, Value.oneCell', Nat.reduceLeDiff, Nat.reduceLT, exists_eq_left', forall_const, reduceCtorEq, app_new, app_new0, List.append_assoc, Int.reduceToNat, Int.reduceLT, Int.reduceLE, Int.reduceEq, Int.reduceNe, Int.reduceBEq, IntKind.bits, bne_self_eq_false, Int.reducePow, r5, r0, r3, r4, hrem, hw1, h1', h2']
      exact ⟨r5, r0, r3, r4, rfl⟩
    · have h1' : ¬ (0 : Int) < ((i % 3 : Nat) : Int) := by omega
      simp only [sx, x_box, x_alloc, x_bslice, x_slice, x_append, x_appz, x_b2s, x_s2b, x_mark, xop, ev, evs, evParts, fillL, cellsL, Ai.get, Ai.put, stab, isNil?, if_false, if_true, addr?, int?, str?, agg?, bool?, shiftA, FnPost, xresL, xres1, tup, argEnv, ptr, Nat.reduceEqDiff, reduceIte, beq_self_eq_true, ne_eq, Nat.reduceAdd, Nat.reduceMul, Nat.reduceSub, abin_shl, abin_shr, load1V, loadV, storeV, cellsAt, getN, setN, allocV, lenL, lenS, bnd, oneC, Value.oneCell', Nat.reduceLeDiff, Nat.reduceLT, exists_eq_left', forall_const, reduceCtorEq, app_new, app_new0, List.append_assoc, Int.reduceToNat, Int.reduceLT, Int.reduceLE, Int.reduceEq, Int.reduceNe, Int.reduceBEq, IntKind.bits, bne_self_eq_false, Int.reducePow, r5, r0, r3, r4, hrem, h1']
      exact ⟨r5, r0, r3, r4, rfl⟩
  clear r5 r0 r3 r4 hgo ρ
  rintro ρ g' ⟨r5, r0, r3, r4, e0⟩
  subst e0
  rw [kSeq_normal]
  simp only [sx, x_box, x_alloc, x_bslice, x_slice, x_append, x_appz, x_b2s, x_s2b, x_mark, xop, ev, evs, evParts, fillL, cellsL, Ai.get, Ai.put, stab, isNil?, if_false, if_true, addr?, int?, str?, agg?, bool?, shiftA, FnPost, xresL, xres1, tup, argEnv, ptr, Nat.reduceEqDiff, reduceIte, beq_self_eq_true, ne_eq, Nat.reduceAdd, Nat.reduceMul, Nat.reduceSub, abin_shl, abin_shr, load1V, loadV, storeV, cellsAt, getN, setN, allocV, lenL, lenS, bnd, oneC, Value.oneCell', Nat.reduceLeDiff, Nat.reduceLT, exists_eq_left', forall_const, reduceCtorEq, app_new, app_new0, List.append_assoc, Int.reduceToNat, Int.reduceLT, Int.reduceLE, Int.reduceEq, Int.reduceNe, Int.reduceBEq, IntKind.bits, bne_self_eq_false, Int.reducePow, r5, r0, r3, r4]
  refine xcall (ends_ok A.bk (by omega)) (by rfl) (by rfl) (by rfl) (by rfl) ?_
  rintro r g2 ⟨L, A2, hl2, hk2, hsr⟩
  have hL := L
  obtain ⟨ql, cl, rfl, -, -⟩ := L
  have hnM : M ≠ B := fun e => A.ap M (.inl e) (.inl rfl)
  have z2 : Frz g' g2 := fun Y cs hY => by
    rw [hk2 Y (fun e => by subst e; rw [A.bk.obj] at hY; cases hY)]; exact hY
  have D2 := A.md.keep z2 fun Y hY => hk2 Y fun e => A.ap Y (.inl e) hY
  have hM2 := D2.obj
  have hs2 : ∀ Y, slB (.slice ql b1.es.length b1.es.length) = some Y → h.length ≤ Y ∧ Y ≠ M := fun Y hY => ⟨hfar Y (.inl (.inr (hsr Y hY))), fun e => A.ap Y (.inr (hsr Y hY)) (.inl e)⟩
  obtain ⟨zc, Rz, Ez⟩ := D2.en
  have hRz := Rz
  obtain ⟨qz, cz, hzv, -⟩ := Rz.shape
  subst hzv
  have K2 : Kp h g2 := ⟨by rw [hl2]; exact K.1, fun Y hY => by rw [hk2 Y (fun e => by have := hfar Y (.inl (.inl e)); omega)]; exact K.2 Y hY⟩
  have B2 : BM g2 B M { b1 with es := [] } b1 rs (.slice none 0 0) (.slice qo b1.cnt co) (.slice qz b1.es.length cz) := ⟨A2, D2, fun Y hY hm => by
    rcases hY with e | e
    · exact A.ap Y (.inl e) hm
    · cases e⟩
  have hfar2 : ∀ Y, ftBM B M (.slice none 0 0) (.slice qo b1.cnt co) (.slice qz b1.es.length cz) Y → h.length ≤ Y := fun Y hY => by
    rcases hY with (e | e) | hY
    · exact hfar Y (.inl (.inl e))
    · cases e
    · exact hfar Y (.inr hY)
  clear A K hM hfar hsr hk2 hl2 z2 D2 A2 hnM
  have hu : ¬ unk ≤ b1.es.length := by unfold unk; omega
  have hu' : b1.es.length < unk := by omega
  simp only [sx, x_box, x_alloc, x_bslice, x_slice, x_append, x_appz, x_b2s, x_s2b, x_mark, xop, ev, evs, evParts, fillL, cellsL, Ai.get, Ai.put, stab, isNil?, if_false, if_true, addr?, int?, str?, agg?, bool?, shiftA, FnPost, xresL, xres1, tup, argEnv, ptr, Nat.reduceEqDiff, reduceIte, beq_self_eq_true, ne_eq, Nat.reduceAdd, Nat.reduceMul, Nat.reduceSub, abin_shl, abin_shr, load1V, loadV, storeV, cellsAt, getN, setN, allocV, lenL, lenS, bnd, oneC, Value.oneCell', Nat.reduceLeDiff, Nat.reduceLT, exists_eq_left', forall_const, reduceCtorEq, app_new, app_new0, List.append_assoc, Int.reduceToNat, Int.reduceLT, Int.reduceLE, Int.reduceEq, Int.reduceNe, Int.reduceBEq, IntKind.bits, bne_self_eq_false, Int.reducePow, hM2, r5, r0, r3, r4, hu, hu']
  refine xloop_cut (AcE g2 (some ⟨X, 0, none⟩) n c i B M) ?_ ?_
  · refine xcode_loop (AcI g2 (some ⟨X, 0, none⟩) n c i B M (.slice ql b1.es.length b1.es.length) b1.es.length) b1.es.length ⟨0, by omega, rfl, rfl, r5, r0, r3, r4, Kp.refl _⟩ ?_
    clear r5 r0 r3 r4 ρ
    rintro m' ρ g ⟨k, hkm, r7, r6, r5, r0, r3, r4, Kg⟩
    by_cases hk : k < b1.es.length
    · have hk' : (k : Int) < (b1.es.length : Nat) := by omega
      have hk0 : (0 : Int) ≤ (k : Int) := by omega
      have wk : IntKind.i64.wrap ((k : Int) + 1) = ((k + 1 : Nat) : Int) := by rw [i64_wrap] <;> omega
      have hke := List.getElem?_eq_getElem hk
      obtain ⟨X1, off, w1, cs1, v1, e1, hX1, hg1, hv1⟩ := hL.get hke
      rw [Value.slice.injEq] at e1
      obtain ⟨rfl, -, -⟩ := e1
      have hX1' := Kg.get hX1
      have hM' := Kg.get hM2
      rcases hRz with ⟨-, ⟨-, h0⟩ | ⟨-, -, h0⟩ | ⟨Z, e2, hZ⟩⟩
      · omega
      · omega
      rw [Value.slice.injEq] at e2
      obtain ⟨rfl, -, rfl⟩ := e2
      have hZ' := Kg.get hZ
      obtain ⟨v2, hv2, hg2⟩ := Ez.get hke
      have hg2' : getN zc (0 + k * 4) 4 = some (b1.es[k].cells v2) := by rw [Nat.zero_add]; exact hg2
      simp only [sx, x_box, x_alloc, x_bslice, x_slice, x_append, x_appz, x_b2s, x_s2b, x_mark, xop, ev, evs, evParts, fillL, cellsL, Ai.get, Ai.put, stab, isNil?, if_false, if_true, addr?, int?, str?, agg?, bool?, shiftA, FnPost, xresL, xres1, tup, argEnv, ptr, Nat.reduceEqDiff, reduceIte, beq_self_eq_true, ne_eq, Nat.reduceAdd, Nat.reduceMul, Nat.reduceSub, abin_shl, abin_shr, load1V, loadV, storeV, cellsAt, setN, allocV, lenL, lenS, bnd, oneC, Value.oneCell', Nat.reduceLeDiff, Nat.reduceLT, exists_eq_left', forall_const, reduceCtorEq, app_new, app_new0, List.append_assoc, Int.reduceToNat, Int.reduceLT, Int.reduceLE, Int.reduceEq, Int.reduceNe, Int.reduceBEq, IntKind.bits, bne_self_eq_false, Int.reducePow, r7, r6, r5, r0, r3, r4, hk', hk0, hX1', hM', hZ', hg1, hg2, hg2']
      refine xcall (same_ok (hv1.frz Kg.frz) (hv2.frz Kg.frz)) (by rfl) (by rfl) (by rfl) (by rfl) ?_
      rintro r g3 ⟨rfl, K3⟩
      simp only [sx, x_box, x_alloc, x_bslice, x_slice, x_append, x_appz, x_b2s, x_s2b, x_mark, xop, ev, evs, evParts, fillL, cellsL, Ai.get, Ai.put, stab, isNil?, if_false, if_true, addr?, int?, str?, agg?, bool?, shiftA, FnPost, xresL, xres1, tup, argEnv, ptr, Nat.reduceEqDiff, reduceIte, beq_self_eq_true, ne_eq, Nat.reduceAdd, Nat.reduceMul, Nat.reduceSub, abin_shl, abin_shr, load1V, loadV, storeV, cellsAt, getN, setN, allocV, lenL, lenS, bnd, oneC, Value.oneCell', Nat.reduceLeDiff, Nat.reduceLT, exists_eq_left', forall_const, reduceCtorEq, app_new, app_new0, List.append_assoc, Int.reduceToNat, Int.reduceLT, Int.reduceLE, Int.reduceEq, Int.reduceNe, Int.reduceBEq, IntKind.bits, bne_self_eq_false, Int.reducePow, r7, wk]
      exact ⟨m' - 1, by omega, k + 1, by omega, rfl, r6, r5, r0, r3, r4, Kg.trans K3⟩
    · have hk' : ¬ (k : Int) < (b1.es.length : Nat) := by omega
      simp only [sx, x_box, x_alloc, x_bslice, x_slice, x_append, x_appz, x_b2s, x_s2b, x_mark, xop, ev, evs, evParts, fillL, cellsL, Ai.get, Ai.put, stab, isNil?, if_false, if_true, addr?, int?, str?, agg?, bool?, shiftA, FnPost, xresL, xres1, tup, argEnv, ptr, Nat.reduceEqDiff, reduceIte, beq_self_eq_true, ne_eq, Nat.reduceAdd, Nat.reduceMul, Nat.reduceSub, abin_shl, abin_shr, load1V, loadV, storeV, cellsAt, getN, setN, allocV, lenL, lenS, bnd, oneC, Value.oneCell', Nat.reduceLeDiff, Nat.reduceLT, exists_eq_left', forall_const, reduceCtorEq, app_new, app_new0, List.append_assoc, Int.reduceToNat, Int.reduceLT, Int.reduceLE, Int.reduceEq, Int.reduceNe, Int.reduceBEq, IntKind.bits, bne_self_eq_false, Int.reducePow, r7, r6, hk']
      exact ⟨r5, r0, r3, r4, Kg⟩
  clear r5 r0 r3 r4 ρ
  rintro ρ g ⟨r5, r0, r3, r4, Kg⟩
  rw [kSeq_normal]
  have hMg := Kg.get hM2
  have hMs : ∀ y : Option AObj, (g.set M y)[M]? = some y := fun y => List.getElem?_set_self (lt_of_get hMg)
  have B4 := (B2.kp Kg).drop
  have K4 : Kp h (g.set M (some ⟨true, [.int .i64 (b1.nx : Int), .slice qo b1.cnt co, .slice none 0 0]⟩)) := (K2.trans Kg).set (hfar2 M (.inr (.inl rfl))) _
  have hfar4 : ∀ Y, ftBM B M (.slice none 0 0) (.slice qo b1.cnt co) (.slice none 0 0) Y → h.length ≤ Y := fun Y hY => by
    rcases hY with e | e | e | e
    · exact hfar2 Y (.inl e)
    · exact hfar2 Y (.inr (.inl e))
    · exact hfar2 Y (.inr (.inr (.inl e)))
    · cases e
  have S4 : AxS h (g.set M (some ⟨true, [.int .i64 (b1.nx : Int), .slice qo b1.cnt co, .slice none 0 0]⟩)) B M { b1 with es := [] } (i + 1) := ⟨⟨rs, _, _, _, B4, hfar4⟩, K4, ok.drop, by simp⟩
  simp only [sx, x_box, x_alloc, x_bslice, x_slice, x_append, x_appz, x_b2s, x_s2b, x_mark, xop, ev, evs, evParts, fillL, cellsL, Ai.get, Ai.put, stab, isNil?, if_false, if_true, addr?, int?, str?, agg?, bool?, shiftA, FnPost, xresL, xres1, tup, argEnv, ptr, Nat.reduceEqDiff, reduceIte, beq_self_eq_true, ne_eq, Nat.reduceAdd, Nat.reduceMul, Nat.reduceSub, abin_shl, abin_shr, load1V, loadV, storeV, cellsAt, getN, setN, allocV, lenL, lenS, bnd, oneC, Value.oneCell', Nat.reduceLeDiff, Nat.reduceLT, exists_eq_left', forall_const, reduceCtorEq, app_new, app_new0, List.append_assoc, Int.reduceToNat, Int.reduceLT, Int.reduceLE, Int.reduceEq, Int.reduceNe, Int.reduceBEq, IntKind.bits, bne_self_eq_false, Int.reducePow, r4, hMg, hMs]
  generalize g.set M (some (AObj.mk true [Value.int .i64 (b1.nx : Int), .slice qo b1.cnt co, .slice none 0 0])) = g5 at *
  generalize (⟨b1.is, b1.nx, []⟩ : Bk) = b4 at *
  clear hMg hMs K4 hfar4 hfar2 B2 Kg hM2 hRz Rz Ez hL K2 hes ok hs2
  refine xloop_cut (AdE g5 (some ⟨X, 0, none⟩) n c i B M) ?_ ?_
  · refine xcode_loop (AdI g5 (some ⟨X, 0, none⟩) n c i B M) 131 ⟨0, by omega, rfl, r5, r0, r3, r4, rfl⟩ ?_
    clear r5 r0 r3 r4 ρ
    rintro m' ρ g ⟨k, hkm, r8, r5, r0, r3, r4, e0⟩
    subst e0
    by_cases hk : k < 131
    · have hk' : (k : Int) - 1 < 130 := by omega
      have wk : IntKind.i64.wrap ((k : Int) - 1 + 1) = ((k + 1 : Nat) : Int) - 1 := by rw [i64_wrap] <;> omega
      simp only [sx, x_box, x_alloc, x_bslice, x_slice, x_append, x_appz, x_b2s, x_s2b, x_mark, xop, ev, evs, evParts, fillL, cellsL, Ai.get, Ai.put, stab, isNil?, if_false, if_true, addr?, int?, str?, agg?, bool?, shiftA, FnPost, xresL, xres1, tup, argEnv, ptr, Nat.reduceEqDiff, reduceIte, beq_self_eq_true, ne_eq, Nat.reduceAdd, Nat.reduceMul, Nat.reduceSub, abin_shl, abin_shr, load1V, loadV, storeV, cellsAt, getN, setN, allocV, lenL, lenS, bnd, oneC, Value.oneCell', Nat.reduceLeDiff, Nat.reduceLT, exists_eq_left', forall_const, reduceCtorEq, app_new, app_new0, List.append_assoc, Int.reduceToNat, Int.reduceLT, Int.reduceLE, Int.reduceEq, Int.reduceNe, Int.reduceBEq, IntKind.bits, bne_self_eq_false, Int.reducePow, r8, r5, r0, r3, r4, hk']
      refine xcall (is_ok (id := (k : Int) - 1) B4.bk) (by rfl) (by rfl) (by rfl) (by rfl) ?_
      rintro r g3 ⟨rfl, e0⟩
      subst e0
      simp only [sx, x_box, x_alloc, x_bslice, x_slice, x_append, x_appz, x_b2s, x_s2b, x_mark, xop, ev, evs, evParts, fillL, cellsL, Ai.get, Ai.put, stab, isNil?, if_false, if_true, addr?, int?, str?, agg?, bool?, shiftA, FnPost, xresL, xres1, tup, argEnv, ptr, Nat.reduceEqDiff, reduceIte, beq_self_eq_true, ne_eq, Nat.reduceAdd, Nat.reduceMul, Nat.reduceSub, abin_shl, abin_shr, load1V, loadV, storeV, cellsAt, getN, setN, allocV, lenL, lenS, bnd, oneC, Value.oneCell', Nat.reduceLeDiff, Nat.reduceLT, exists_eq_left', forall_const, reduceCtorEq, app_new, app_new0, List.append_assoc, Int.reduceToNat, Int.reduceLT, Int.reduceLE, Int.reduceEq, Int.reduceNe, Int.reduceBEq, IntKind.bits, bne_self_eq_false, Int.reducePow, r8, r5, r0, r3, r4]
      refine xcall (at_ok (id := (k : Int) - 1) B4.md) (by rfl) (by rfl) (by rfl) (by rfl) ?_
      rintro r g ⟨rfl, e0⟩
      subst e0
      have hat : decide (0 ≤ b4.atI ((k : Int) - 1)) = b4.isO ((k : Int) - 1) := by
        unfold Bk.atI
        cases b4.isO ((k : Int) - 1) with
        | false => rw [if_neg (by decide)]; rfl
        | true => rw [if_pos rfl, decide_eq_true_iff]; omega
      cases ho : b4.isO ((k : Int) - 1) with
      | false =>
        rw [ho, decide_eq_false_iff_not] at hat
        simp only [sx, x_box, x_alloc, x_bslice, x_slice, x_append, x_appz, x_b2s, x_s2b, x_mark, xop, ev, evs, evParts, fillL, cellsL, Ai.get, Ai.put, stab, isNil?, if_false, if_true, addr?, int?, str?, agg?, bool?, shiftA, FnPost, xresL, xres1, tup, argEnv, ptr, Nat.reduceEqDiff, reduceIte, beq_self_eq_true, ne_eq, Nat.reduceAdd, Nat.reduceMul, Nat.reduceSub, abin_shl, abin_shr, load1V, loadV, storeV, cellsAt, getN, setN, allocV, lenL, lenS, bnd, oneC, Value.oneCell', Nat.reduceLeDiff, Nat.reduceLT, exists_eq_left', forall_const, reduceCtorEq, app_new, app_new0, List.append_assoc, Int.reduceToNat, Int.reduceLT, Int.reduceLE, Int.reduceEq, Int.reduceNe, Int.reduceBEq, IntKind.bits, bne_self_eq_false, Int.reducePow, r8, hat, wk]
        exact ⟨m' - 1, by omega, k + 1, by omega, rfl, r5, r0, r3, r4, rfl⟩
      | true =>
        rw [ho, decide_eq_true_iff] at hat
        simp only [sx, x_box, x_alloc, x_bslice, x_slice, x_append, x_appz, x_b2s, x_s2b, x_mark, xop, ev, evs, evParts, fillL, cellsL, Ai.get, Ai.put, stab, isNil?, if_false, if_true, addr?, int?, str?, agg?, bool?, shiftA, FnPost, xresL, xres1, tup, argEnv, ptr, Nat.reduceEqDiff, reduceIte, beq_self_eq_true, ne_eq, Nat.reduceAdd, Nat.reduceMul, Nat.reduceSub, abin_shl, abin_shr, load1V, loadV, storeV, cellsAt, getN, setN, allocV, lenL, lenS, bnd, oneC, Value.oneCell', Nat.reduceLeDiff, Nat.reduceLT, exists_eq_left', forall_const, reduceCtorEq, app_new, app_new0, List.append_assoc, Int.reduceToNat, Int.reduceLT, Int.reduceLE, Int.reduceEq, Int.reduceNe, Int.reduceBEq, IntKind.bits, bne_self_eq_false, Int.reducePow, r8, hat, wk]
        exact ⟨m' - 1, by omega, k + 1, by omega, rfl, r5, r0, r3, r4, rfl⟩
    · have hk' : ¬ (k : Int) - 1 < 130 := by omega
      simp only [sx, x_box, x_alloc, x_bslice, x_slice, x_append, x_appz, x_b2s, x_s2b, x_mark, xop, ev, evs, evParts, fillL, cellsL, Ai.get, Ai.put, stab, isNil?, if_false, if_true, addr?, int?, str?, agg?, bool?, shiftA, FnPost, xresL, xres1, tup, argEnv, ptr, Nat.reduceEqDiff, reduceIte, beq_self_eq_true, ne_eq, Nat.reduceAdd, Nat.reduceMul, Nat.reduceSub, abin_shl, abin_shr, load1V, loadV, storeV, cellsAt, getN, setN, allocV, lenL, lenS, bnd, oneC, Value.oneCell', Nat.reduceLeDiff, Nat.reduceLT, exists_eq_left', forall_const, reduceCtorEq, app_new, app_new0, List.append_assoc, Int.reduceToNat, Int.reduceLT, Int.reduceLE, Int.reduceEq, Int.reduceNe, Int.reduceBEq, IntKind.bits, bne_self_eq_false, Int.reducePow, r8, hk']
      exact ⟨r5, r0, r3, r4, rfl⟩
  clear r5 r0 r3 r4 ρ
  rintro ρ g ⟨r5, r0, r3, r4, e0⟩
  subst e0
  simp only [sx, x_box, x_alloc, x_bslice, x_slice, x_append, x_appz, x_b2s, x_s2b, x_mark, xop, ev, evs, evParts, fillL, cellsL, Ai.get, Ai.put, stab, isNil?, if_false, if_true, addr?, int?, str?, agg?, bool?, shiftA, FnPost, xresL, xres1, tup, argEnv, ptr, Nat.reduceEqDiff, reduceIte, beq_self_eq_true, ne_eq, Nat.reduceAdd, Nat.reduceMul, Nat.reduceSub, abin_shl, abin_shr, load1V, loadV, storeV, cellsAt, getN, setN, allocV, lenL, lenS, bnd, oneC, Value.oneCell', Nat.reduceLeDiff, Nat.reduceLT, exists_eq_left', forall_const, reduceCtorEq, app_new, app_new0, List.append_assoc, Int.reduceToNat, Int.reduceLT, Int.reduceLE, Int.reduceEq, Int.reduceNe, Int.reduceBEq, IntKind.bits, bne_self_eq_false, Int.reducePow, r5, hw1]
  exact ⟨m - 1, by omega, i + 1, B, M, b4, by omega, rfl, r0, r3, r4, S4⟩

def actSh : List Cl := [.leaf (.int .u8), .leaf (.int .u8), .leaf (.int .u8), .leaf (.int .u8), .sl [.int .u8]]
theorem acts_arg {h : AHeap} {v : Value} (s : SmallOkN h (.sn actSh) v) : ∃ (q : Option Addr) (n c : Nat), v = .slice q n c ∧ n ≤ 9223372036854775807 ∧ ActsW h q n := by
  have hm : maxLen = 9223372036854775807 := rfl
  rcases s with rfl | ⟨B, len, cap, rows, rfl, k1, k2, k3, k4, k5, k6⟩
  · exact ⟨none, 0, 0, rfl, by omega, .inl rfl⟩
  · refine ⟨_, len, cap, rfl, by omega, ?_⟩
    by_cases h0 : len = 0
    · exact .inl h0
    · refine .inr ⟨B, false, rows, rfl, k4 h0, fun i hi => ?_⟩
      have hp := k6 i hi
      have h5 : actSh.length = 5 := rfl
      rw [h5] at hp k5
      generalize hc : (rows.drop (i * 5)).take 5 = cs at hp
      obtain ⟨x, r, rfl, ⟨a0, rfl, w0⟩, p1⟩ := hp.cons_inv
      obtain ⟨x, r, rfl, ⟨a1, rfl, w1⟩, p2⟩ := p1.cons_inv
      obtain ⟨x, r, rfl, ⟨a2, rfl, w2⟩, p3⟩ := p2.cons_inv
      obtain ⟨x, r, rfl, ⟨a3, rfl, w3⟩, p4⟩ := p3.cons_inv
      obtain ⟨x, r, rfl, hcs, p5⟩ := p4.cons_inv
      obtain rfl := p5.nil_inv
      obtain ⟨bs, V, lb, hb⟩ := bytes_arg hcs
      obtain ⟨q, c, rfl⟩ := V.shape
      have b0 := bounds_u8 w0
      have b1 := bounds_u8 w1
      have b2 := bounds_u8 w2
      have b3 := bounds_u8 w3
      obtain ⟨n0, rfl⟩ : ∃ n : Nat, a0 = n := ⟨a0.toNat, by omega⟩
      obtain ⟨n1, rfl⟩ : ∃ n : Nat, a1 = n := ⟨a1.toNat, by omega⟩
      obtain ⟨n2, rfl⟩ : ∃ n : Nat, a2 = n := ⟨a2.toNat, by omega⟩
      obtain ⟨n3, rfl⟩ : ∃ n : Nat, a3 = n := ⟨a3.toNat, by omega⟩
      have gt : rows[i * 5 + 4]? = ((rows.drop (i * 5)).take 5)[4]? := by
        rw [List.getElem?_take, if_pos (by omega), List.getElem?_drop]
      rw [hc] at gt
      refine ⟨⟨n0, n1, n2, n3, bs⟩, q, c, ⟨by simp only; omega, by simp only; omega, by simp only; omega, by simp only; omega, fun n hn => by have := hb n hn; omega⟩, (getN_eq _ _ _ _).2 ⟨?_, hc.symm⟩, by simpa using gt, V.part⟩
      rw [k5]
      have : i * 5 + 5 ≤ len * 5 := by omega
      simpa using this
def actsSh : List (Bool × List Cn) := [(false, [.sn actSh])]
theorem acts_sh {h : AHeap} {vs : List Value} (hs : SmallArgsN h actsSh vs) : Valid Try.prog 3 vs h fun r _ => r = .bool true := by
  obtain ⟨v1, r, rfl, h1, hs2⟩ := hs.cons_inv
  obtain rfl := hs2.nil_inv
  obtain ⟨q, nA, c, rfl, hA, W⟩ := acts_arg h1.1
  exact (acts_ok hA W).mono fun r h' e => e.1
end Go.Proofs.Ytpbbmnfffolcoaa
