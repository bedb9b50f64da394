import Derived.Test.YtejgaeinkojgpaaK1
set_option linter.unusedVariables false
set_option linter.unusedSimpArgs false
namespace Go.Proofs.Ytejgaeinkojgpaa
open Go Go.Ai Go.Proofs

/-- a slice that is appended to, in any place of its array -/
def RetN (k : Nat) (h : AHeap) (sl : Value) (n : Nat) (rows : List Value) : Prop := rows.length = n * k ∧ ((sl = .slice none 0 0 ∧ n = 0) ∨ ∃ A off cells, sl = .slice (some ⟨A, off, none⟩) n (unk + k) ∧ h[A]? = some (some ⟨true, cells⟩) ∧ getN cells off (n * k) = some rows)
theorem RetN.toO {k n : Nat} {h : AHeap} {sl : Value} {rows : List Value} (r : RetN k h sl n rows) : RetO k h sl n rows := ⟨r.1, r.2.elim .inl fun x => .inr (.inr x)⟩
theorem RetN.own {k n : Nat} {h : AHeap} {sl : Value} {rows : List Value} (r : RetN k h sl n rows) {B : Nat} (hB : slB sl = some B) : ∃ cs, h[B]? = some (some ⟨true, cs⟩) := by
  rcases r.2 with ⟨rfl, -⟩ | ⟨A, off, cells, rfl, h1, -⟩
  · cases hB
  · simp [slB] at hB; subst hB; exact ⟨_, h1⟩
theorem RetN.keep {k n : Nat} {h h' : AHeap} {sl : Value} {rows : List Value} (r : RetN k h sl n rows) (hk : ∀ A, slB sl = some A → h'[A]? = h[A]?) : RetN k h' sl n rows := by
  rcases r with ⟨h1, h2 | ⟨A, off, cells, rfl, h3, h4⟩⟩
  · exact ⟨h1, .inl h2⟩
  · exact ⟨h1, .inr ⟨A, off, cells, rfl, by rw [hk A rfl]; exact h3, h4⟩⟩
theorem RetN.nil (k : Nat) (h : AHeap) : RetN k h (.slice none 0 0) 0 [] := ⟨by simp, .inl ⟨rfl, rfl⟩⟩
theorem RetN.all {k n : Nat} {h : AHeap} {A : Nat} {rows : List Value} (hA : h[A]? = some (some ⟨true, rows⟩)) (hl : rows.length = n * k) : RetN k h (.slice (some ⟨A, 0, none⟩) n (unk + k)) n rows := ⟨hl, .inr ⟨A, 0, rows, rfl, hA, getN_all _ _ hl.symm⟩⟩
theorem getN_drop {l rows : List Value} {off n m : Nat} (h : getN l off n = some rows) (hm : m ≤ n) : getN l (off + m) (n - m) = some (rows.drop m) := by
  obtain ⟨h1, h2⟩ := (getN_eq _ _ _ _).1 h
  refine (getN_eq _ _ _ _).2 ⟨by split at h1 <;> split <;> omega, ?_⟩
  rw [h2, List.drop_take, List.drop_drop]
/-- the front is taken off -/
theorem RetN.behind {k n : Nat} {h : AHeap} {sl : Value} {rows : List Value} (r : RetN k h sl n rows) {j : Nat} (hj : j ≤ n) : ∃ sl', (∀ (ρ : Env) (x lo : XA), ev ρ x = some sl → ev ρ lo = some (.int .i64 (j : Int)) → xop (.slice k x (some lo) none none) ρ h = some (sl', h)) ∧ RetN k h sl' (n - j) (rows.drop (j * k)) ∧ (∀ B, slB sl' = some B → slB sl = some B) := by
  rcases r with ⟨h1, ⟨rfl, rfl⟩ | ⟨A, off, cells, rfl, h3, h4⟩⟩
  · have : j = 0 := by omega
    subst this
    refine ⟨.slice none 0 0, fun ρ x lo hx hlo => ?_, ⟨by simpa using h1, .inl ⟨rfl, rfl⟩⟩, fun B h => h⟩
    have hu : ¬ unk ≤ 0 := by decide
    simp [xop, hx, hlo, bnd, int?, hu]
  · refine ⟨.slice (some ⟨A, off + j * k, none⟩) (n - j) (unk + k), fun ρ x lo hx hlo => ?_, ⟨?_, .inr ⟨A, off + j * k, cells, rfl, h3, ?_⟩⟩, fun B h => h⟩
    · have hu : unk ≤ unk + k := by omega
      have hj' : (j : Int) ≤ n := by omega
      simp [xop, hx, hlo, bnd, int?, hu, hj', hj, shiftA]
    · rw [List.length_drop, h1, Nat.sub_mul]
    · rw [Nat.sub_mul]; exact getN_drop h4 (Nat.mul_le_mul_right _ hj)
def bB (bs : List Bool) : List Value := bs.map .bool
theorem bB_len (bs : List Bool) : (bB bs).length = bs.length := by simp [bB]
theorem bB_one (bs : List Bool) : (bB bs).all oneC = true := by
  induction bs with
  | nil => rfl
  | cons b bs ih => simp only [bB, List.map_cons, List.all_cons] at ih ⊢; rw [ih]; rfl
theorem bB_get {bs : List Bool} {i : Nat} {b : Bool} (h : bs[i]? = some b) : (bB bs)[i]? = some (.bool b) := by simp [bB, h]
theorem bB_app (a b : List Bool) : bB (a ++ b) = bB a ++ bB b := by simp [bB]
theorem bB_set (bs : List Bool) (i : Nat) (b : Bool) : (bB bs).set i (.bool b) = bB (bs.set i b) := by simp [bB, List.map_set]
/-- a view of bits that are written no more -/
def BitsV (h : AHeap) (v : Value) (bs : List Bool) : Prop := ∃ q c, v = .slice q bs.length c ∧ (bs = [] ∨ ∃ a cs, q = some a ∧ a.spot = none ∧ h[a.block]? = some (some ⟨false, cs⟩) ∧ getN cs a.off bs.length = some (bB bs))
theorem BitsV.frz {h h' : AHeap} {v : Value} {bs : List Bool} (l : BitsV h v bs) (z : Frz h h') : BitsV h' v bs := by
  obtain ⟨q, c, h1, h3 | ⟨a, cs, h3, h4, h5, h6⟩⟩ := l
  · exact ⟨q, c, h1, .inl h3⟩
  · exact ⟨q, c, h1, .inr ⟨a, cs, h3, h4, z _ _ h5, h6⟩⟩
theorem BitsV.nil (h : AHeap) : BitsV h (.slice none 0 0) [] := ⟨none, 0, rfl, .inl rfl⟩
theorem BitsV.shape {h : AHeap} {v : Value} {bs : List Bool} (l : BitsV h v bs) : ∃ q c, v = .slice q bs.length c := by
  obtain ⟨q, c, h1, -⟩ := l; exact ⟨q, c, h1⟩
theorem BitsV.first {h : AHeap} {v : Value} {bs : List Bool} (l : BitsV h v bs) : ∃ q c, v = .slice q bs.length c ∧ firstV 1 h bs.length (.slice q bs.length c) = some (bB bs) := by
  obtain ⟨q, c, rfl, rfl | ⟨a, cs, rfl, h4, h5, h6⟩⟩ := l
  · exact ⟨q, c, rfl, by cases q <;> simp [firstV, bB]⟩
  · refine ⟨_, c, rfl, ?_⟩
    simp only [firstV]
    split
    · rename_i h0; rw [List.eq_nil_of_length_eq_zero h0]; rfl
    · simp only [h4, ne_eq, not_true_eq_false, if_false, cellsAt, h5, Option.bind_some, Nat.mul_one]
      exact h6
/-- an element, where it lies -/
theorem BitsV.elem {h : AHeap} {q : Option Addr} {n c : Nat} {bs : List Bool} (l : BitsV h (.slice q n c) bs) {i : Nat} {b : Bool} (hi : bs[i]? = some b) : n = bs.length ∧ ∃ a cs, q = some a ∧ a.spot = none ∧ h[a.block]? = some (some ⟨false, cs⟩) ∧ cs[a.off + i]? = some (.bool b) := by
  obtain ⟨q', c', e, rfl | ⟨a, cs, rfl, h4, h5, h6⟩⟩ := l
  · simp at hi
  · cases e
    exact ⟨rfl, a, cs, rfl, h4, h5, getN_get h6 (bB_get hi)⟩
/-- a message -/
structure Ms where
  kind : Int
  serial : Int
  first : Int
  mask : List Bool
  on : List Bool
def Ms.cells (m : Ms) (mv ov : Value) : List Value := [.int .u8 m.kind, .int .u32 m.serial, .int .i64 m.first, mv, ov]
def MV (h : AHeap) (v : Value) (m : Ms) : Prop := ∃ mv ov, v = .agg (m.cells mv ov).toArray ∧ BitsV h mv m.mask ∧ BitsV h ov m.on
theorem MV.frz {h h' : AHeap} {v : Value} {m : Ms} (k : MV h v m) (z : Frz h h') : MV h' v m := by
  obtain ⟨mv, ov, h1, h2, h3⟩ := k
  exact ⟨mv, ov, h1, h2.frz z, h3.frz z⟩
def MsgsR (h : AHeap) : List Value → List Ms → Prop
  | cells, [] => cells = []
  | cells, m :: ms => ∃ mv ov r, cells = m.cells mv ov ++ r ∧ BitsV h mv m.mask ∧ BitsV h ov m.on ∧ MsgsR h r ms
theorem MsgsR.frz {h h' : AHeap} (z : Frz h h') : ∀ {cells : List Value} {ms : List Ms}, MsgsR h cells ms → MsgsR h' cells ms
  | _, [], k => k
  | _, _ :: _, ⟨mv, ov, r, h1, h2, h3, h4⟩ => ⟨mv, ov, r, h1, h2.frz z, h3.frz z, MsgsR.frz z h4⟩
theorem MsgsR.push {h : AHeap} {m : Ms} {mv ov : Value} (h1 : BitsV h mv m.mask) (h2 : BitsV h ov m.on) : ∀ {cells : List Value} {ms : List Ms}, MsgsR h cells ms → MsgsR h (cells ++ m.cells mv ov) (ms ++ [m])
  | _, [], k => ⟨mv, ov, [], by rw [k]; simp, h1, h2, rfl⟩
  | _, x :: ms, ⟨mx, ox, r, k1, k2, k3, k4⟩ => ⟨mx, ox, r ++ m.cells mv ov, by rw [k1]; simp, k2, k3, MsgsR.push h1 h2 k4⟩
theorem MsgsR.len {h : AHeap} : ∀ {cells : List Value} {ms : List Ms}, MsgsR h cells ms → cells.length = ms.length * 5
  | _, [], k => by rw [k]; rfl
  | _, m :: ms, ⟨mv, ov, r, h1, _, _, h4⟩ => by rw [h1, List.length_append, MsgsR.len h4]; simp [Ms.cells]; omega
def MQ (h : AHeap) (v : Value) (ms : List Ms) : Prop := ∃ cells, RetN 5 h v ms.length cells ∧ MsgsR h cells ms
theorem MQ.nil (h : AHeap) : MQ h (.slice none 0 0) [] := ⟨[], RetN.nil 5 h, rfl⟩
theorem MQ.keep {h h' : AHeap} {v : Value} {ms : List Ms} (q : MQ h v ms) (z : Frz h h') (hk : ∀ A, slB v = some A → h'[A]? = h[A]?) : MQ h' v ms := by
  obtain ⟨cells, r, l⟩ := q
  exact ⟨cells, r.keep hk, l.frz z⟩
theorem MQ.own {h : AHeap} {v : Value} {ms : List Ms} (q : MQ h v ms) {B : Nat} (hB : slB v = some B) : ∃ cs, h[B]? = some (some ⟨true, cs⟩) := q.choose_spec.1.own hB
theorem MQ.lt {h : AHeap} {v : Value} {ms : List Ms} (q : MQ h v ms) {B : Nat} (hB : slB v = some B) : B < h.length := by
  obtain ⟨cs, h1⟩ := q.own hB; exact lt_of_get h1
/-- a desk -/
structure DK where
  cs : List Ci
  again : Int
  age : Int
  told : List Bool
  last : Int
  heard : Int
  op : Option Ms
  out : List Ms
/-- the message that is open -/
def OpAt (h : AHeap) (v : Value) : Option Ms → Prop
  | none => v = .pointer none
  | some m => ∃ O mv ov, v = .pointer (some ⟨O, 0, none⟩) ∧ h[O]? = some (some ⟨false, m.cells mv ov⟩) ∧ BitsV h mv m.mask ∧ BitsV h ov m.on
theorem OpAt.frz {h h' : AHeap} {v : Value} {o : Option Ms} (k : OpAt h v o) (z : Frz h h') : OpAt h' v o := by
  cases o with
  | none => exact k
  | some m =>
    obtain ⟨O, mv, ov, h1, h2, h3, h4⟩ := k
    exact ⟨O, mv, ov, h1, z _ _ h2, h3.frz z, h4.frz z⟩
def DCells (G T : Nat) (d : DK) (opv outv : Value) : List Value := [.pointer (some ⟨G, 0, none⟩), .int .i64 d.again, .int .i64 d.age, .slice (some ⟨T, 0, none⟩) d.cs.length d.cs.length, .int .u32 d.last, .int .u32 d.heard, opv, outv]
/-- the blocks of a desk -/
def FD (D G L T : Nat) (outv : Value) (i B : Nat) : Prop := (i = 0 ∧ B = D) ∨ (i = 1 ∧ B = G) ∨ (i = 2 ∧ B = L) ∨ (i = 3 ∧ B = T) ∨ (i = 4 ∧ slB outv = some B)
structure DAt (h : AHeap) (D G L T : Nat) (d : DK) (opv outv : Value) : Prop where
  obj : h[D]? = some (some ⟨true, DCells G T d opv outv⟩)
  g : GAt h G L d.cs
  t : h[T]? = some (some ⟨true, bB d.told⟩)
  tl : d.told.length = d.cs.length
  op : OpAt h opv d.op
  out : MQ h outv d.out
  s : ∀ i j B, FD D G L T outv i B → FD D G L T outv j B → i = j
theorem DAt.own {h : AHeap} {D G L T : Nat} {d : DK} {opv outv : Value} (A : DAt h D G L T d opv outv) {i B : Nat} (hB : FD D G L T outv i B) : ∃ cs, h[B]? = some (some ⟨true, cs⟩) := by
  rcases hB with ⟨-, rfl⟩ | ⟨-, rfl⟩ | ⟨-, rfl⟩ | ⟨-, rfl⟩ | ⟨-, hB⟩
  · exact ⟨_, A.obj⟩
  · obtain ⟨_, _, h1⟩ := A.g.obj; exact ⟨_, h1⟩
  · exact ⟨_, A.g.row⟩
  · exact ⟨_, A.t⟩
  · exact A.out.own hB
theorem DAt.lt {h : AHeap} {D G L T : Nat} {d : DK} {opv outv : Value} (A : DAt h D G L T d opv outv) {i B : Nat} (hB : FD D G L T outv i B) : B < h.length := by
  obtain ⟨cs, h1⟩ := A.own hB; exact lt_of_get h1
/-- all the blocks -/
def ftD (D G L T : Nat) (outv : Value) (B : Nat) : Prop := ∃ i, FD D G L T outv i B
theorem DAt.keep {h h' : AHeap} {D G L T : Nat} {d : DK} {opv outv : Value} (A : DAt h D G L T d opv outv) (z : Frz h h') (hk : ∀ i B, FD D G L T outv i B → h'[B]? = h[B]?) : DAt h' D G L T d opv outv :=
  ⟨by rw [hk 0 D (.inl ⟨rfl, rfl⟩)]; exact A.obj, A.g.keep (hk 1 G (.inr (.inl ⟨rfl, rfl⟩))) (hk 2 L (.inr (.inr (.inl ⟨rfl, rfl⟩)))), by rw [hk 3 T (.inr (.inr (.inr (.inl ⟨rfl, rfl⟩))))]; exact A.t, A.tl, A.op.frz z, A.out.keep z fun B hB => hk 4 B (.inr (.inr (.inr (.inr ⟨rfl, hB⟩)))), A.s⟩
theorem DAt.kp {h h' : AHeap} {D G L T : Nat} {d : DK} {opv outv : Value} (A : DAt h D G L T d opv outv) (k : Kp h h') : DAt h' D G L T d opv outv := A.keep k.frz fun i B hB => k.2 B (A.lt hB)
theorem DAt.frz {h h' : AHeap} {D G L T : Nat} {d : DK} {opv outv : Value} (A : DAt h D G L T d opv outv) (k : Fr (ftD D G L T outv) h h') : Frz h h' :=
  k.frz fun B cs ⟨i, hB⟩ h1 => by obtain ⟨cs', h2⟩ := A.own hB; rw [h2] at h1; cases h1
/-- what a desk's method leaves -/
def WentD (h h' : AHeap) (D G L T : Nat) (d' : DK) (outv : Value) : Prop := ∃ opv' outv', DAt h' D G L T d' opv' outv' ∧ Fr (ftD D G L T outv) h h' ∧ ∀ B, ftD D G L T outv' B → ftD D G L T outv B ∨ h.length ≤ B
theorem DAt.same {h h' : AHeap} {D G L T : Nat} {d : DK} {opv outv : Value} (A : DAt h D G L T d opv outv) (k : Kp h h') : WentD h h' D G L T d outv := ⟨opv, outv, A.kp k, k.fr _, fun B hB => .inl hB⟩
section
variable {h : AHeap} {D G L T : Nat} {d : DK} {opv outv : Value}
theorem none_ok (A : DAt h D G L T d opv outv) : Valid Try.prog 29 [.pointer (some ⟨D, 0, none⟩)] h fun r h' => r = .bool false ∧ h' = h := by
  refine v29 (by simp) ?_
  have hD := A.obj
  simp only [DCells] at hD
  simp only [X29, sx, x_box, x_alloc, x_bslice, x_slice, x_append, x_appz, x_b2s, xop, ev, evs, evParts, fillL, cellsL, Ai.get, Ai.put, stab, isNil?, if_false, if_true, addr?, int?, str?, agg?, bool?, shiftA, FnPost, xresL, xres1, tup, argEnv, ptr, Nat.reduceEqDiff, reduceIte, beq_self_eq_true, ne_eq, Nat.reduceAdd, Nat.reduceMul, Nat.reduceSub, abin_shl, abin_shr, load1V, loadV, storeV, cellsAt, getN, setN, allocV, lenL, lenS, bnd, oneC, Value.oneCell', Nat.reduceLeDiff, Nat.reduceLT, exists_eq_left', forall_const, reduceCtorEq, app_new, app_new0, List.append_assoc, Int.reduceToNat, Int.reduceLT, Int.reduceLE, Int.reduceEq, Int.reduceNe, Int.reduceBEq, IntKind.bits, bne_self_eq_false, Int.reducePow, hD]
theorem none_nil : Valid Try.prog 29 [.pointer none] h fun r h' => r = .bool true ∧ h' = h := by
  refine v29 (by simp) ?_
  simp only [X29, sx, x_box, x_alloc, x_bslice, x_slice, x_append, x_appz, x_b2s, xop, ev, evs, evParts, fillL, cellsL, Ai.get, Ai.put, stab, isNil?, if_false, if_true, addr?, int?, str?, agg?, bool?, shiftA, FnPost, xresL, xres1, tup, argEnv, ptr, Nat.reduceEqDiff, reduceIte, beq_self_eq_true, ne_eq, Nat.reduceAdd, Nat.reduceMul, Nat.reduceSub, abin_shl, abin_shr, load1V, loadV, storeV, cellsAt, getN, setN, allocV, lenL, lenS, bnd, oneC, Value.oneCell', Nat.reduceLeDiff, Nat.reduceLT, exists_eq_left', forall_const, reduceCtorEq, app_new, app_new0, List.append_assoc, Int.reduceToNat, Int.reduceLT, Int.reduceLE, Int.reduceEq, Int.reduceNe, Int.reduceBEq, IntKind.bits, bne_self_eq_false, Int.reducePow]
/-- a circuit's block; of a code out of range, none -/
def DK.blkAt (d : DK) (r : Bool) (k : Int) : Bool := if 0 ≤ k then (match d.cs[k.toNat]? with | some c => if r then c.re else c.lo | none => false) else false
theorem and_blk (c : Ci) (r : Bool) : abin .and (.int .u8 c.blk) (.int .u8 (bkI r)) = some (.int .u8 (if (if r then c.re else c.lo) = true then bkI r else 0)) := by
  obtain ⟨lo, re⟩ := c
  cases r <;> cases lo <;> cases re <;> rfl
theorem dhas_ok {r : Bool} {k : Int} (A : DAt h D G L T d opv outv) : Valid Try.prog 36 [.pointer (some ⟨D, 0, none⟩), .int .i64 k, .int .u8 (bkI r)] h fun v h' => v = .bool (d.blkAt r k) ∧ Kp h h' := by
  refine v36 (by simp) ?_
  have hD := A.obj
  simp only [DCells] at hD
  simp only [X36, sx, x_box, x_alloc, x_bslice, x_slice, x_append, x_appz, x_b2s, xop, ev, evs, evParts, fillL, cellsL, Ai.get, Ai.put, stab, isNil?, if_false, if_true, addr?, int?, str?, agg?, bool?, shiftA, FnPost, xresL, xres1, tup, argEnv, ptr, Nat.reduceEqDiff, reduceIte, beq_self_eq_true, ne_eq, Nat.reduceAdd, Nat.reduceMul, Nat.reduceSub, abin_shl, abin_shr, load1V, loadV, storeV, cellsAt, getN, setN, allocV, lenL, lenS, bnd, oneC, Value.oneCell', Nat.reduceLeDiff, Nat.reduceLT, exists_eq_left', forall_const, reduceCtorEq, app_new, app_new0, List.append_assoc, Int.reduceToNat, Int.reduceLT, Int.reduceLE, Int.reduceEq, Int.reduceNe, Int.reduceBEq, IntKind.bits, bne_self_eq_false, Int.reducePow]
  refine xcall (none_ok A) (by rfl) (by rfl) (by rfl) (by rfl) ?_
  rintro v h' ⟨rfl, rfl⟩
  simp only [sx, x_box, x_alloc, x_bslice, x_slice, x_append, x_appz, x_b2s, xop, ev, evs, evParts, fillL, cellsL, Ai.get, Ai.put, stab, isNil?, if_false, if_true, addr?, int?, str?, agg?, bool?, shiftA, FnPost, xresL, xres1, tup, argEnv, ptr, Nat.reduceEqDiff, reduceIte, beq_self_eq_true, ne_eq, Nat.reduceAdd, Nat.reduceMul, Nat.reduceSub, abin_shl, abin_shr, load1V, loadV, storeV, cellsAt, getN, setN, allocV, lenL, lenS, bnd, oneC, Value.oneCell', Nat.reduceLeDiff, Nat.reduceLT, exists_eq_left', forall_const, reduceCtorEq, app_new, app_new0, List.append_assoc, Int.reduceToNat, Int.reduceLT, Int.reduceLE, Int.reduceEq, Int.reduceNe, Int.reduceBEq, IntKind.bits, bne_self_eq_false, Int.reducePow, hD]
  by_cases hk : 0 ≤ k ∧ k < (d.cs.length : Int)
  · obtain ⟨n, rfl⟩ : ∃ n : Nat, k = n := ⟨k.toNat, by omega⟩
    have hc := List.getElem?_eq_getElem (l := d.cs) (i := n) (by omega)
    have hb : d.blkAt r (n : Int) = if r then (d.cs[n]'(by omega)).re else (d.cs[n]'(by omega)).lo := by
      unfold DK.blkAt; rw [if_pos hk.1]; simp only [Int.toNat_natCast, hc]
    rw [hb]
    generalize d.cs[n]'(by omega) = c at hc ⊢
    have ha := and_blk c r
    refine xcall (at_ok A.g hc) (by rfl) (by rfl) (by rfl) (by rfl) ?_
    rintro v h1 ⟨rfl, K1⟩
    simp only [Ci.cells]
    simp only [sx, x_box, x_bslice, x_slice, x_append, x_appz, x_b2s, xop, ev, evs, evParts, fillL, cellsL, Ai.get, Ai.put, stab, isNil?, if_false, if_true, addr?, int?, str?, agg?, bool?, shiftA, FnPost, xresL, xres1, tup, argEnv, ptr, Nat.reduceEqDiff, reduceIte, beq_self_eq_true, ne_eq, Nat.reduceAdd, Nat.reduceMul, Nat.reduceSub, abin_shl, abin_shr, load1V, loadV, storeV, cellsAt, getN, setN, allocV, lenL, lenS, bnd, oneC, Value.oneCell', Nat.reduceLeDiff, Nat.reduceLT, exists_eq_left', forall_const, reduceCtorEq, app_new, app_new0, List.append_assoc, Int.reduceToNat, Int.reduceLT, Int.reduceLE, Int.reduceEq, Int.reduceNe, Int.reduceBEq, IntKind.bits, bne_self_eq_false, Int.reducePow]
    refine alloc_run fun g2 U K2 hU hUl _ => ?_
    have n20 : ¬ (2 : Int) = 0 := by decide
    have n10 : ¬ (1 : Int) = 0 := by decide
    simp only [sx, x_box, x_alloc, x_bslice, x_slice, x_append, x_appz, x_b2s, xop, ev, evs, evParts, fillL, cellsL, Ai.get, Ai.put, stab, isNil?, if_false, if_true, addr?, int?, str?, agg?, bool?, shiftA, FnPost, xresL, xres1, tup, argEnv, ptr, Nat.reduceEqDiff, reduceIte, beq_self_eq_true, ne_eq, Nat.reduceAdd, Nat.reduceMul, Nat.reduceSub, abin_shl, abin_shr, load1V, loadV, storeV, cellsAt, getN, setN, allocV, lenL, lenS, bnd, oneC, Value.oneCell', Nat.reduceLeDiff, Nat.reduceLT, exists_eq_left', forall_const, reduceCtorEq, app_new, app_new0, List.append_assoc, Int.reduceToNat, Int.reduceLT, Int.reduceLE, Int.reduceEq, Int.reduceNe, Int.reduceBEq, IntKind.bits, bne_self_eq_false, Int.reducePow, hU, set_here, ha]
    have KK := K1.trans (K2.set hUl (some ⟨true, [.int .u8 0, .int .u8 c.blk, .int .i64 0]⟩))
    cases r <;> simp only [bkI, if_true, if_false, Bool.false_eq_true]
    · cases hl : c.lo <;> simp only [sx, x_box, x_alloc, x_bslice, x_slice, x_append, x_appz, x_b2s, xop, ev, evs, evParts, fillL, cellsL, Ai.get, Ai.put, stab, isNil?, if_false, if_true, addr?, int?, str?, agg?, bool?, shiftA, FnPost, xresL, xres1, tup, argEnv, ptr, Nat.reduceEqDiff, reduceIte, beq_self_eq_true, ne_eq, Nat.reduceAdd, Nat.reduceMul, Nat.reduceSub, abin_shl, abin_shr, load1V, loadV, storeV, cellsAt, getN, setN, allocV, lenL, lenS, bnd, oneC, Value.oneCell', Nat.reduceLeDiff, Nat.reduceLT, exists_eq_left', forall_const, reduceCtorEq, app_new, app_new0, List.append_assoc, Int.reduceToNat, Int.reduceLT, Int.reduceLE, Int.reduceEq, Int.reduceNe, Int.reduceBEq, IntKind.bits, bne_self_eq_false, Int.reducePow, n10] <;> exact KK
    · cases hl : c.re <;> simp only [sx, x_box, x_alloc, x_bslice, x_slice, x_append, x_appz, x_b2s, xop, ev, evs, evParts, fillL, cellsL, Ai.get, Ai.put, stab, isNil?, if_false, if_true, addr?, int?, str?, agg?, bool?, shiftA, FnPost, xresL, xres1, tup, argEnv, ptr, Nat.reduceEqDiff, reduceIte, beq_self_eq_true, ne_eq, Nat.reduceAdd, Nat.reduceMul, Nat.reduceSub, abin_shl, abin_shr, load1V, loadV, storeV, cellsAt, getN, setN, allocV, lenL, lenS, bnd, oneC, Value.oneCell', Nat.reduceLeDiff, Nat.reduceLT, exists_eq_left', forall_const, reduceCtorEq, app_new, app_new0, List.append_assoc, Int.reduceToNat, Int.reduceLT, Int.reduceLE, Int.reduceEq, Int.reduceNe, Int.reduceBEq, IntKind.bits, bne_self_eq_false, Int.reducePow, n20] <;> exact KK
  · have hb : d.blkAt r k = false := by
      unfold DK.blkAt
      by_cases h0 : 0 ≤ k
      · rw [if_pos h0, List.getElem?_eq_none (by omega)]
      · rw [if_neg h0]
    rw [hb]
    refine xcall (at_out A.g hk) (by rfl) (by rfl) (by rfl) (by rfl) ?_
    rintro v h1 ⟨rfl, K1⟩
    simp only [sx, x_box, x_bslice, x_slice, x_append, x_appz, x_b2s, xop, ev, evs, evParts, fillL, cellsL, Ai.get, Ai.put, stab, isNil?, if_false, if_true, addr?, int?, str?, agg?, bool?, shiftA, FnPost, xresL, xres1, tup, argEnv, ptr, Nat.reduceEqDiff, reduceIte, beq_self_eq_true, ne_eq, Nat.reduceAdd, Nat.reduceMul, Nat.reduceSub, abin_shl, abin_shr, load1V, loadV, storeV, cellsAt, getN, setN, allocV, lenL, lenS, bnd, oneC, Value.oneCell', Nat.reduceLeDiff, Nat.reduceLT, exists_eq_left', forall_const, reduceCtorEq, app_new, app_new0, List.append_assoc, Int.reduceToNat, Int.reduceLT, Int.reduceLE, Int.reduceEq, Int.reduceNe, Int.reduceBEq, IntKind.bits, bne_self_eq_false, Int.reducePow]
    refine alloc_run fun g2 U K2 hU hUl _ => ?_
    have n10 : ¬ (1 : Int) = 0 := by decide
    simp only [sx, x_box, x_alloc, x_bslice, x_slice, x_append, x_appz, x_b2s, xop, ev, evs, evParts, fillL, cellsL, Ai.get, Ai.put, stab, isNil?, if_false, if_true, addr?, int?, str?, agg?, bool?, shiftA, FnPost, xresL, xres1, tup, argEnv, ptr, Nat.reduceEqDiff, reduceIte, beq_self_eq_true, ne_eq, Nat.reduceAdd, Nat.reduceMul, Nat.reduceSub, abin_shl, abin_shr, load1V, loadV, storeV, cellsAt, getN, setN, allocV, lenL, lenS, bnd, oneC, Value.oneCell', Nat.reduceLeDiff, Nat.reduceLT, exists_eq_left', forall_const, reduceCtorEq, app_new, app_new0, List.append_assoc, Int.reduceToNat, Int.reduceLT, Int.reduceLE, Int.reduceEq, Int.reduceNe, Int.reduceBEq, IntKind.bits, bne_self_eq_false, Int.reducePow, hU, set_here, n10]
    exact K1.trans (K2.set hUl _)
theorem local_ok {k : Int} (A : DAt h D G L T d opv outv) : Valid Try.prog 19 [.pointer (some ⟨D, 0, none⟩), .int .i64 k] h fun v h' => v = .bool (d.blkAt false k) ∧ Kp h h' := by
  refine v19 (by simp) ?_
  simp only [X19, sx, x_box, x_alloc, x_bslice, x_slice, x_append, x_appz, x_b2s, xop, ev, evs, evParts, fillL, cellsL, Ai.get, Ai.put, stab, isNil?, if_false, if_true, addr?, int?, str?, agg?, bool?, shiftA, FnPost, xresL, xres1, tup, argEnv, ptr, Nat.reduceEqDiff, reduceIte, beq_self_eq_true, ne_eq, Nat.reduceAdd, Nat.reduceMul, Nat.reduceSub, abin_shl, abin_shr, load1V, loadV, storeV, cellsAt, getN, setN, allocV, lenL, lenS, bnd, oneC, Value.oneCell', Nat.reduceLeDiff, Nat.reduceLT, exists_eq_left', forall_const, reduceCtorEq, app_new, app_new0, List.append_assoc, Int.reduceToNat, Int.reduceLT, Int.reduceLE, Int.reduceEq, Int.reduceNe, Int.reduceBEq, IntKind.bits, bne_self_eq_false, Int.reducePow]
  refine xcall (dhas_ok (r := false) (k := k) A) (by rfl) (by rfl) (by rfl) (by rfl) ?_
  rintro v h' ⟨rfl, K⟩
  simp only [sx, x_box, x_alloc, x_bslice, x_slice, x_append, x_appz, x_b2s, xop, ev, evs, evParts, fillL, cellsL, Ai.get, Ai.put, stab, isNil?, if_false, if_true, addr?, int?, str?, agg?, bool?, shiftA, FnPost, xresL, xres1, tup, argEnv, ptr, Nat.reduceEqDiff, reduceIte, beq_self_eq_true, ne_eq, Nat.reduceAdd, Nat.reduceMul, Nat.reduceSub, abin_shl, abin_shr, load1V, loadV, storeV, cellsAt, getN, setN, allocV, lenL, lenS, bnd, oneC, Value.oneCell', Nat.reduceLeDiff, Nat.reduceLT, exists_eq_left', forall_const, reduceCtorEq, app_new, app_new0, List.append_assoc, Int.reduceToNat, Int.reduceLT, Int.reduceLE, Int.reduceEq, Int.reduceNe, Int.reduceBEq, IntKind.bits, bne_self_eq_false, Int.reducePow]
  exact K
theorem remote_ok {k : Int} (A : DAt h D G L T d opv outv) : Valid Try.prog 18 [.pointer (some ⟨D, 0, none⟩), .int .i64 k] h fun v h' => v = .bool (d.blkAt true k) ∧ Kp h h' := by
  refine v18 (by simp) ?_
  simp only [X18, sx, x_box, x_alloc, x_bslice, x_slice, x_append, x_appz, x_b2s, xop, ev, evs, evParts, fillL, cellsL, Ai.get, Ai.put, stab, isNil?, if_false, if_true, addr?, int?, str?, agg?, bool?, shiftA, FnPost, xresL, xres1, tup, argEnv, ptr, Nat.reduceEqDiff, reduceIte, beq_self_eq_true, ne_eq, Nat.reduceAdd, Nat.reduceMul, Nat.reduceSub, abin_shl, abin_shr, load1V, loadV, storeV, cellsAt, getN, setN, allocV, lenL, lenS, bnd, oneC, Value.oneCell', Nat.reduceLeDiff, Nat.reduceLT, exists_eq_left', forall_const, reduceCtorEq, app_new, app_new0, List.append_assoc, Int.reduceToNat, Int.reduceLT, Int.reduceLE, Int.reduceEq, Int.reduceNe, Int.reduceBEq, IntKind.bits, bne_self_eq_false, Int.reducePow]
  refine xcall (dhas_ok (r := true) (k := k) A) (by rfl) (by rfl) (by rfl) (by rfl) ?_
  rintro v h' ⟨rfl, K⟩
  simp only [sx, x_box, x_alloc, x_bslice, x_slice, x_append, x_appz, x_b2s, xop, ev, evs, evParts, fillL, cellsL, Ai.get, Ai.put, stab, isNil?, if_false, if_true, addr?, int?, str?, agg?, bool?, shiftA, FnPost, xresL, xres1, tup, argEnv, ptr, Nat.reduceEqDiff, reduceIte, beq_self_eq_true, ne_eq, Nat.reduceAdd, Nat.reduceMul, Nat.reduceSub, abin_shl, abin_shr, load1V, loadV, storeV, cellsAt, getN, setN, allocV, lenL, lenS, bnd, oneC, Value.oneCell', Nat.reduceLeDiff, Nat.reduceLT, exists_eq_left', forall_const, reduceCtorEq, app_new, app_new0, List.append_assoc, Int.reduceToNat, Int.reduceLT, Int.reduceLE, Int.reduceEq, Int.reduceNe, Int.reduceBEq, IntKind.bits, bne_self_eq_false, Int.reducePow]
  exact K
theorem rest_ok (A : DAt h D G L T d opv outv) : Valid Try.prog 14 [.pointer (some ⟨D, 0, none⟩)] h fun v h' => v = .bool d.op.isNone ∧ h' = h := by
  refine v14 (by simp) ?_
  have hD := A.obj
  have ho := A.op
  simp only [DCells] at hD
  simp only [X14, sx, x_box, x_alloc, x_bslice, x_slice, x_append, x_appz, x_b2s, xop, ev, evs, evParts, fillL, cellsL, Ai.get, Ai.put, stab, isNil?, if_false, if_true, addr?, int?, str?, agg?, bool?, shiftA, FnPost, xresL, xres1, tup, argEnv, ptr, Nat.reduceEqDiff, reduceIte, beq_self_eq_true, ne_eq, Nat.reduceAdd, Nat.reduceMul, Nat.reduceSub, abin_shl, abin_shr, load1V, loadV, storeV, cellsAt, getN, setN, allocV, lenL, lenS, bnd, oneC, Value.oneCell', Nat.reduceLeDiff, Nat.reduceLT, exists_eq_left', forall_const, reduceCtorEq, app_new, app_new0, List.append_assoc, Int.reduceToNat, Int.reduceLT, Int.reduceLE, Int.reduceEq, Int.reduceNe, Int.reduceBEq, IntKind.bits, bne_self_eq_false, Int.reducePow]
  refine xcall (none_ok A) (by rfl) (by rfl) (by rfl) (by rfl) ?_
  rintro v h' ⟨rfl, rfl⟩
  cases hop : d.op with
  | none =>
    rw [hop] at ho
    unfold OpAt at ho
    subst ho
    simp only [sx, x_box, x_alloc, x_bslice, x_slice, x_append, x_appz, x_b2s, xop, ev, evs, evParts, fillL, cellsL, Ai.get, Ai.put, stab, isNil?, if_false, if_true, addr?, int?, str?, agg?, bool?, shiftA, FnPost, xresL, xres1, tup, argEnv, ptr, Nat.reduceEqDiff, reduceIte, beq_self_eq_true, ne_eq, Nat.reduceAdd, Nat.reduceMul, Nat.reduceSub, abin_shl, abin_shr, load1V, loadV, storeV, cellsAt, getN, setN, allocV, lenL, lenS, bnd, oneC, Value.oneCell', Nat.reduceLeDiff, Nat.reduceLT, exists_eq_left', forall_const, reduceCtorEq, app_new, app_new0, List.append_assoc, Int.reduceToNat, Int.reduceLT, Int.reduceLE, Int.reduceEq, Int.reduceNe, Int.reduceBEq, IntKind.bits, bne_self_eq_false, Int.reducePow, hD]
  | some m =>
    rw [hop] at ho
    obtain ⟨O, mv, ov, rfl, -⟩ := ho
    simp only [sx, x_box, x_alloc, x_bslice, x_slice, x_append, x_appz, x_b2s, xop, ev, evs, evParts, fillL, cellsL, Ai.get, Ai.put, stab, isNil?, if_false, if_true, addr?, int?, str?, agg?, bool?, shiftA, FnPost, xresL, xres1, tup, argEnv, ptr, Nat.reduceEqDiff, reduceIte, beq_self_eq_true, ne_eq, Nat.reduceAdd, Nat.reduceMul, Nat.reduceSub, abin_shl, abin_shr, load1V, loadV, storeV, cellsAt, getN, setN, allocV, lenL, lenS, bnd, oneC, Value.oneCell', Nat.reduceLeDiff, Nat.reduceLT, exists_eq_left', forall_const, reduceCtorEq, app_new, app_new0, List.append_assoc, Int.reduceToNat, Int.reduceLT, Int.reduceLE, Int.reduceEq, Int.reduceNe, Int.reduceBEq, IntKind.bits, bne_self_eq_false, Int.reducePow, hD]
end
end Go.Proofs.Ytejgaeinkojgpaa
