import Derived.Test.YtejgaeinkojgpaaK4
set_option linter.unusedVariables false
set_option linter.unusedSimpArgs false
namespace Go.Proofs.Ytejgaeinkojgpaa
open Go Go.Ai Go.Proofs

def EqI (h0 : AHeap) (S T n : Nat) (a b : List Bool) (f : Nat) (ρ : Env) (h : AHeap) : Prop := ∃ i, i + f = n ∧ get ρ 13 = some (.int .i64 (i : Nat)) ∧ get ρ 12 = some (.int .i64 (n : Nat)) ∧ get ρ 0 = some (.slice (some ⟨S, 0, none⟩) n n) ∧ get ρ 1 = some (.slice (some ⟨T, 0, none⟩) n n) ∧ h = h0 ∧ a.take i = b.take i
theorem eqb_ok {h : AHeap} {S T n : Nat} {a b : List Bool} (hS : h[S]? = some (some ⟨true, bB a⟩)) (hT : h[T]? = some (some ⟨true, bB b⟩)) (ha : a.length = n) (hb : b.length = n) (hn : n ≤ 1000000) :
    Valid Try.prog 46 [.slice (some ⟨S, 0, none⟩) n n, .slice (some ⟨T, 0, none⟩) n n] h fun r h' => r = .bool (decide (a = b)) ∧ h' = h := by
  refine v46 (by simp) ?_
  simp only [X46, sx, x_box, x_alloc, x_bslice, x_slice, x_append, x_appz, x_b2s, xop, ev, evs, evParts, fillL, cellsL, Ai.get, Ai.put, stab, isNil?, if_false, if_true, addr?, int?, str?, agg?, bool?, shiftA, FnPost, xresL, xres1, tup, argEnv, ptr, Nat.reduceEqDiff, reduceIte, beq_self_eq_true, ne_eq, Nat.reduceAdd, Nat.reduceMul, Nat.reduceSub, abin_shl, abin_shr, load1V, loadV, storeV, cellsAt, getN, setN, allocV, lenL, lenS, bnd, oneC, Value.oneCell', Nat.reduceLeDiff, Nat.reduceLT, exists_eq_left', forall_const, reduceCtorEq, app_new, app_new0, List.append_assoc, Int.reduceToNat, Int.reduceLT, Int.reduceLE, Int.reduceEq, Int.reduceNe, Int.reduceBEq, IntKind.bits, bne_self_eq_false, Int.reducePow]
  refine xcode_loop (EqI h S T n a b) n ⟨0, by omega, rfl, rfl, rfl, rfl, rfl, by simp⟩ ?_
  rintro f ρ h1 ⟨i, hif, g13, g12, g0, g1, rfl, ht⟩
  by_cases hlt : i < n
  · have hlt' : (i : Int) < n := by omega
    have hge : (0 : Int) ≤ i := by omega
    have hwi : IntKind.i64.wrap ((i : Int) + 1) = ((i + 1 : Nat) : Int) := by rw [i64_wrap] <;> omega
    have ea := List.getElem?_eq_getElem (l := a) (i := i) (by omega)
    have eb := List.getElem?_eq_getElem (l := b) (i := i) (by omega)
    generalize a[i]'(by omega) = x at ea
    generalize b[i]'(by omega) = y at eb
    have ca := bB_get ea
    have cb := bB_get eb
    have t1 : a.take (i + 1) = a.take i ++ [x] := by rw [List.take_add_one, ea]; rfl
    have t2 : b.take (i + 1) = b.take i ++ [y] := by rw [List.take_add_one, eb]; rfl
    by_cases hxy : x = y
    · subst hxy
      have hxx : (x == x) = true := by simp
      simp only [sx, x_box, x_alloc, x_bslice, x_slice, x_append, x_appz, x_b2s, xop, ev, evs, evParts, fillL, cellsL, Ai.get, Ai.put, stab, isNil?, if_false, if_true, addr?, int?, str?, agg?, bool?, shiftA, FnPost, xresL, xres1, tup, argEnv, ptr, Nat.reduceEqDiff, reduceIte, beq_self_eq_true, ne_eq, Nat.reduceAdd, Nat.reduceMul, Nat.reduceSub, abin_shl, abin_shr, load1V, loadV, storeV, cellsAt, getN, setN, allocV, lenL, lenS, bnd, oneC, Value.oneCell', Nat.reduceLeDiff, Nat.reduceLT, exists_eq_left', forall_const, reduceCtorEq, app_new, app_new0, List.append_assoc, Int.reduceToNat, Int.reduceLT, Int.reduceLE, Int.reduceEq, Int.reduceNe, Int.reduceBEq, IntKind.bits, bne_self_eq_false, Int.reducePow, g13, g12, g0, g1, hlt', hge, hS, hT, ca, cb, hwi, Nat.mul_one, Nat.zero_add, bne_self_eq_false, BEq.rfl]
      exact ⟨f - 1, by omega, i + 1, by omega, rfl, g12, g0, g1, rfl, by rw [t1, t2, ht]⟩
    · have hne : a ≠ b := fun e => hxy (by rw [e, eb] at ea; exact (Option.some.inj ea).symm)
      have hxx : (x != y) = true := by simpa using hxy
      have hxx2 : (x == y) = false := by simpa using hxy
      simp only [sx, x_box, x_alloc, x_bslice, x_slice, x_append, x_appz, x_b2s, xop, ev, evs, evParts, fillL, cellsL, Ai.get, Ai.put, stab, isNil?, if_false, if_true, addr?, int?, str?, agg?, bool?, shiftA, FnPost, xresL, xres1, tup, argEnv, ptr, Nat.reduceEqDiff, reduceIte, beq_self_eq_true, ne_eq, Nat.reduceAdd, Nat.reduceMul, Nat.reduceSub, abin_shl, abin_shr, load1V, loadV, storeV, cellsAt, getN, setN, allocV, lenL, lenS, bnd, oneC, Value.oneCell', Nat.reduceLeDiff, Nat.reduceLT, exists_eq_left', forall_const, reduceCtorEq, app_new, app_new0, List.append_assoc, Int.reduceToNat, Int.reduceLT, Int.reduceLE, Int.reduceEq, Int.reduceNe, Int.reduceBEq, IntKind.bits, bne_self_eq_false, Int.reducePow, g13, g12, g0, g1, hlt', hge, hS, hT, ca, cb, Nat.mul_one, Nat.zero_add, hxx, hxx2, hne]
  · have hlt' : ¬ (i : Int) < n := by omega
    have he : a = b := by rw [List.take_of_length_le (by omega), List.take_of_length_le (by omega)] at ht; exact ht
    simp only [sx, x_box, x_alloc, x_bslice, x_slice, x_append, x_appz, x_b2s, xop, ev, evs, evParts, fillL, cellsL, Ai.get, Ai.put, stab, isNil?, if_false, if_true, addr?, int?, str?, agg?, bool?, shiftA, FnPost, xresL, xres1, tup, argEnv, ptr, Nat.reduceEqDiff, reduceIte, beq_self_eq_true, ne_eq, Nat.reduceAdd, Nat.reduceMul, Nat.reduceSub, abin_shl, abin_shr, load1V, loadV, storeV, cellsAt, getN, setN, allocV, lenL, lenS, bnd, oneC, Value.oneCell', Nat.reduceLeDiff, Nat.reduceLT, exists_eq_left', forall_const, reduceCtorEq, app_new, app_new0, List.append_assoc, Int.reduceToNat, Int.reduceLT, Int.reduceLE, Int.reduceEq, Int.reduceNe, Int.reduceBEq, IntKind.bits, bne_self_eq_false, Int.reducePow, g13, g12, g0, g1, hlt', he]
/-- a message that is being made: its first circuit, its bits; what the other side was told -/
structure NX where
  first : Int
  mask : List Bool
  on : List Bool
  told : List Bool
def NX.fst (s : NX) (i : Nat) : Nat := if s.first < 0 then i else s.first.toNat
def NX.pad (s : NX) (i : Nat) : Nat := i - s.fst i - s.mask.length
def NX.add (s : NX) (i : Nat) (b : Bool) : NX := ⟨(s.fst i : Nat), s.mask ++ List.replicate (s.pad i) false ++ [true], s.on ++ List.replicate (s.pad i) false ++ [b], s.told.set i b⟩
def nx : List Bool → Nat → NX → NX
  | [], _, s => s
  | b :: l, i, s => if 0 ≤ s.first ∧ s.first + 32 ≤ i then s else if s.told[i]? = some b then nx l (i + 1) s else nx l (i + 1) (s.add i b)
/-- between two steps -/
structure NOk (n i : Nat) (s : NX) : Prop where
  f1 : s.first = -1 ∨ (0 ≤ s.first ∧ s.first < i)
  m : s.mask.length ≤ i
  e : s.on.length = s.mask.length
  t : s.told.length = n
  z : s.first < 0 → s.mask = []
  l : 0 ≤ s.first → s.first + s.mask.length ≤ i
theorem NOk.step {n i : Nat} {s : NX} (k : NOk n i s) (b : Bool) : NOk n (i + 1) (s.add i b) := by
  have h1 := k.f1
  have h2 := k.m
  have h3 := k.e
  have h4 := k.l
  have hp : s.pad i = i - s.fst i - s.mask.length := rfl
  by_cases h0 : s.first < 0
  · have hf : s.fst i = i := by unfold NX.fst; rw [if_pos h0]
    have hz := k.z h0
    have hl0 : s.mask.length = 0 := by rw [hz]; rfl
    refine ⟨.inr ⟨?_, ?_⟩, ?_, ?_, ?_, fun h => ?_, fun h => ?_⟩ <;> simp only [NX.add, List.length_append, List.length_replicate, List.length_cons, List.length_nil, List.length_set] at * <;> first | omega | exact k.t
  · have hf : s.fst i = s.first.toNat := by unfold NX.fst; rw [if_neg h0]
    have := h4 (by omega)
    refine ⟨.inr ⟨?_, ?_⟩, ?_, ?_, ?_, fun h => ?_, fun h => ?_⟩ <;> simp only [NX.add, List.length_append, List.length_replicate, List.length_cons, List.length_nil, List.length_set] at * <;> first | omega | exact k.t
theorem NOk.keep {n i : Nat} {s : NX} (k : NOk n i s) : NOk n (i + 1) s := ⟨by have := k.f1; omega, by have := k.m; omega, k.e, k.t, k.z, fun h => by have := k.l h; omega⟩
/-- .. in the heap, above N -/
structure MB (h : AHeap) (N O : Nat) (k s f : Int) (mv ov : Value) (mask on : List Bool) : Prop where
  obj : h[O]? = some (some ⟨true, [.int .u8 k, .int .u32 s, .int .i64 f, mv, ov]⟩)
  m : RetN 1 h mv mask.length (bB mask)
  o : RetN 1 h ov on.length (bB on)
  n0 : N ≤ O
  n1 : ∀ B, slB mv = some B → N ≤ B ∧ B ≠ O
  n2 : ∀ B, slB ov = some B → N ≤ B ∧ B ≠ O
  n3 : ∀ B, slB mv = some B → slB ov ≠ some B
theorem RetN.shp {k n : Nat} {h : AHeap} {sl : Value} {rows : List Value} (r : RetN k h sl n rows) : ∃ a c, sl = .slice a n c := by
  obtain ⟨_, ⟨h1, h2⟩ | ⟨X, off, cs, h1, _, _⟩⟩ := r
  · exact ⟨none, 0, by rw [h1, h2]⟩
  · exact ⟨_, _, h1⟩
theorem RetN.lt {k n : Nat} {h : AHeap} {sl : Value} {rows : List Value} (r : RetN k h sl n rows) {B : Nat} (hB : slB sl = some B) : B < h.length := by
  obtain ⟨cs, h1⟩ := r.own hB; exact lt_of_get h1
theorem MB.keep {h h' : AHeap} {N O : Nat} {k s f : Int} {mv ov : Value} {mask on : List Bool} (b : MB h N O k s f mv ov mask on) (hk : ∀ B, N ≤ B → B < h.length → h'[B]? = h[B]?) : MB h' N O k s f mv ov mask on :=
  ⟨by rw [hk O b.n0 (lt_of_get b.obj)]; exact b.obj, b.m.keep fun B hB => hk B (b.n1 B hB).1 (b.m.lt hB), b.o.keep fun B hB => hk B (b.n2 B hB).1 (b.o.lt hB), b.n0, b.n1, b.n2, b.n3⟩
/-- one bit is appended -/
theorem push1 {P : Program} {K : Env → AHeap → Prop} {r : List XOper} {ρ : Env} {h : AHeap} {d : Option Nat} {s x : XA} {mv xv : Value} {mask : List Bool} {b : Bool} (R : RetN 1 h mv mask.length (bB mask)) (hs : ev ρ s = some mv) (hx : ev ρ x = some xv) (hl : lenV xv = some 1) (hf : firstV 1 h 1 xv = some [.bool b]) (hb : mask.length ≤ 1000)
    (hK : ∀ h' A', h.length ≤ A' → A' < h'.length → h'.length = h.length + 1 → RetN 1 h' (.slice (some ⟨A', 0, none⟩) (mask.length + 1) (unk + 1)) (mask ++ [b]).length (bB (mask ++ [b])) → (∀ B, B < h.length → slB mv ≠ some B → h'[B]? = h[B]?) → xops P K r (put d (.slice (some ⟨A', 0, none⟩) (mask.length + 1) (unk + 1)) ρ) h') :
    xops P K (⟨d, none, .append 1 1 [.bool false] s x, []⟩ :: r) ρ h := by
  refine append_run (k := 1) (by_ := 1) (n := mask.length) (m := 1) (rows := bB mask) (news := [.bool b]) (sl := mv) (xv := xv) rfl (by decide) hs hx hl hf rfl rfl R.toO (by omega) (by omega) (fun h0 => by omega) (fun _ h' A' hA' hg hl' hfr => ?_)
  refine hK h' A' hA' (lt_of_get hg) hl' ?_ hfr
  have e : bB mask ++ [.bool b] = bB (mask ++ [b]) := by rw [bB_app]; rfl
  rw [e] at hg
  rw [List.length_append]
  exact RetN.all hg (by simp [bB_len])
theorem and_cut3 {P : Program} {K : Env → AHeap → Prop} {la lb lc : List XOper} {ρa ρb ρc : Env} {ha hb hc : AHeap} (M : Env → AHeap → Prop) (h1 : xops P M la ρa ha) (h2 : xops P M lb ρb hb) (h3 : xops P M lc ρc hc) (h4 : ∀ ρ h, M ρ h → K ρ h) : (xops P K la ρa ha ∧ xops P K lb ρb hb) ∧ xops P K lc ρc hc := ⟨⟨xops_cut M h1 h4, xops_cut M h2 h4⟩, xops_cut M h3 h4⟩
end Go.Proofs.Ytejgaeinkojgpaa
