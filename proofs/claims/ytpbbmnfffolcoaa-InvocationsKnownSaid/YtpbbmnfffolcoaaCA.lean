import Derived.Test.YtpbbmnfffolcoaaB9
set_option linter.unusedVariables false
set_option linter.unusedSimpArgs false
namespace Go.Proofs.Ytpbbmnfffolcoaa
open Go Go.Ai Go.Proofs

/-- the open invocations, with their numbers, in order -/
def opL : List Iv → Nat → List (Nat × Iv)
  | [], _ => []
  | x :: l, i => if opn x = true then (i, x) :: opL l (i + 1) else opL l (i + 1)
theorem opL_app : ∀ (l k : List Iv) (i : Nat), opL (l ++ k) i = opL l i ++ opL k (i + l.length)
  | [], k, i => by simp [opL]
  | x :: l, k, i => by
    simp only [List.cons_append, opL, opL_app l k (i + 1), List.length_cons]
    rw [show i + 1 + l.length = i + (l.length + 1) by omega]
    split <;> simp
theorem opL_len : ∀ (l : List Iv) (i : Nat), (opL l i).length = l.countP opn
  | [], i => rfl
  | x :: l, i => by
    simp only [opL, List.countP_cons]
    split <;> simp [opL_len l (i + 1)]
def Bk.ops (b : Bk) : List (Nat × Iv) := opL b.is 0
theorem ops_len (b : Bk) : b.ops.length = b.cnt := opL_len _ _
/-- so many open ones come before the number -/
def Bk.pos (b : Bk) (i : Nat) : Nat := (b.is.take i).countP opn
theorem split_at {l : List Iv} {i : Nat} {x : Iv} (h : l[i]? = some x) : l = l.take i ++ x :: l.drop (i + 1) := by
  obtain ⟨hi, rfl⟩ := List.getElem?_eq_some_iff.1 h
  rw [List.getElem_cons_drop, List.take_append_drop]
theorem set_split {l : List Iv} {i : Nat} {x : Iv} (h : l[i]? = some x) (y : Iv) : l.set i y = l.take i ++ y :: l.drop (i + 1) := by
  obtain ⟨hi, rfl⟩ := List.getElem?_eq_some_iff.1 h
  rw [List.set_eq_take_append_cons_drop, if_pos hi]
theorem ops_split {b : Bk} {i : Nat} {x : Iv} (h : b.is[i]? = some x) : ∃ L R, L.length = b.pos i ∧ b.ops = L ++ (if opn x = true then [(i, x)] else []) ++ R ∧ (∀ e ∈ L, e.1 < i) ∧ (∀ e ∈ R, i < e.1) ∧
    ∀ (y : Iv) (nx : Nat) (es : List En), Bk.ops ⟨b.is.set i y, nx, es⟩ = L ++ (if opn y = true then [(i, y)] else []) ++ R := by
  have hl : (b.is.take i).length = i := by
    have := (List.getElem?_eq_some_iff.1 h).1
    rw [List.length_take]; omega
  have gen : ∀ y : Iv, opL (b.is.take i ++ y :: b.is.drop (i + 1)) 0 = opL (b.is.take i) 0 ++ (if opn y = true then [(i, y)] else []) ++ opL (b.is.drop (i + 1)) (i + 1) := fun y => by
    rw [opL_app, hl, Nat.zero_add, opL]
    split <;> simp
  have mem : ∀ (l : List Iv) (j : Nat) (e : Nat × Iv), e ∈ opL l j → j ≤ e.1 ∧ e.1 < j + l.length := by
    intro l
    induction l with
    | nil => intro j e he; cases he
    | cons a l ih =>
      intro j e he
      rw [opL] at he
      simp only [List.length_cons]
      split at he
      · rcases List.mem_cons.1 he with rfl | he
        · simp only; omega
        · have := ih _ _ he; omega
      · have := ih _ _ he; omega
  refine ⟨opL (b.is.take i) 0, opL (b.is.drop (i + 1)) (i + 1), opL_len _ _, ?_, fun e he => ?_, fun e he => ?_, fun y nx es => ?_⟩
  · show opL b.is 0 = _
    conv => lhs; rw [split_at h]
    exact gen x
  · have := mem _ _ _ he; omega
  · have := mem _ _ _ he; omega
  · show opL (b.is.set i y) 0 = _
    rw [set_split h]
    exact gen y
/-- the numbers of the open ones grow -/
theorem ops_at {b : Bk} {i : Nat} {x : Iv} (h : b.is[i]? = some x) (ho : opn x = true) : b.ops[b.pos i]? = some (i, x) := by
  obtain ⟨L, R, h1, h2, -⟩ := ops_split h
  rw [h2, if_pos ho, ← h1]; simp
theorem ops_mem {b : Bk} {e : Nat × Iv} (he : e ∈ b.ops) : b.is[e.1]? = some e.2 ∧ opn e.2 = true := by
  have : ∀ (l : List Iv) (j : Nat) (e : Nat × Iv), e ∈ opL l j → j ≤ e.1 ∧ l[e.1 - j]? = some e.2 ∧ opn e.2 = true := by
    intro l
    induction l with
    | nil => intro j e he; cases he
    | cons a l ih =>
      intro j e he
      rw [opL] at he
      split at he
      · rename_i ha
        rcases List.mem_cons.1 he with rfl | he
        · simp [ha]
        · obtain ⟨h1, h2, h3⟩ := ih _ _ he
          refine ⟨by omega, ?_, h3⟩
          rw [show e.1 - j = (e.1 - (j + 1)) + 1 by omega, List.getElem?_cons_succ]; exact h2
      · obtain ⟨h1, h2, h3⟩ := ih _ _ he
        refine ⟨by omega, ?_, h3⟩
        rw [show e.1 - j = (e.1 - (j + 1)) + 1 by omega, List.getElem?_cons_succ]; exact h2
  obtain ⟨_, h2, h3⟩ := this _ _ _ he
  exact ⟨h2, h3⟩
/-- an entry's place -/
theorem ops_place {b : Bk} {k : Nat} {e : Nat × Iv} (h : b.ops[k]? = some e) : b.is[e.1]? = some e.2 ∧ opn e.2 = true ∧ k = b.pos e.1 := by
  obtain ⟨h1, h2⟩ := ops_mem (List.mem_of_getElem? h)
  refine ⟨h1, h2, ?_⟩
  obtain ⟨L, R, l1, l2, l3, l4, -⟩ := ops_split h1
  rw [l2, if_pos h2] at h
  rw [← l1]
  rcases Nat.lt_trichotomy k L.length with hk | hk | hk
  · rw [List.append_assoc, List.getElem?_append_left hk] at h
    have := l3 e (List.mem_of_getElem? h); omega
  · exact hk
  · rw [List.getElem?_append_right (by simp; omega)] at h
    have := l4 e (List.mem_of_getElem? h); omega
/-- .. is after the numbers before it -/
theorem pos_lt {b : Bk} {i : Nat} {x : Iv} (h : b.is[i]? = some x) {k : Nat} {e : Nat × Iv} (hk : b.ops[k]? = some e) (hlt : k < b.pos i) : e.1 < i := by
  obtain ⟨L, R, l1, l2, l3, l4, -⟩ := ops_split h
  rw [l2, List.append_assoc, List.getElem?_append_left (by omega)] at hk
  exact l3 e (List.mem_of_getElem? hk)
theorem pos_ge {b : Bk} {i : Nat} {x : Iv} (h : b.is[i]? = some x) (ho : opn x = false) {k : Nat} {e : Nat × Iv} (hk : b.ops[k]? = some e) (hle : b.pos i ≤ k) : i < e.1 := by
  obtain ⟨L, R, l1, l2, l3, l4, -⟩ := ops_split h
  rw [l2, ho, if_neg (by decide), List.append_nil, List.getElem?_append_right (by omega)] at hk
  exact l4 e (List.mem_of_getElem? hk)
theorem pos_le (b : Bk) (i : Nat) : b.pos i ≤ b.cnt := by
  unfold Bk.pos Bk.cnt
  conv => rhs; rw [← List.take_append_drop i b.is]
  rw [List.countP_append]; omega

def bOf (s : ByteArray) : List Nat := s.data.toList.map UInt8.toNat
def mrow (e : Nat × Iv) (s : ByteArray) : List Value := [.int .i64 (e.1 : Int), .int .i64 e.2.op, .int .u8 e.2.cl, .int .i64 e.2.wt, .string s]
def OpR : List Value → List (Nat × Iv) → Prop
  | cells, [] => cells = []
  | cells, e :: es => ∃ s r, cells = mrow e s ++ r ∧ bOf s = e.2.pb ∧ OpR r es
theorem OpR.len : ∀ {cells : List Value} {es : List (Nat × Iv)}, OpR cells es → cells.length = es.length * 5
  | _, [], k => by rw [show _ = ([] : List Value) from k]; rfl
  | _, e :: es, ⟨s, r, h1, _, h3⟩ => by rw [h1, List.length_append, OpR.len h3]; simp [mrow]; omega
theorem OpR.app : ∀ {c1 c2 : List Value} {l1 l2 : List (Nat × Iv)}, OpR c1 l1 → OpR c2 l2 → OpR (c1 ++ c2) (l1 ++ l2)
  | _, _, [], _, k, k2 => by rw [show _ = ([] : List Value) from k]; exact k2
  | _, c2, e :: l1, l2, ⟨s, r, h1, h2, h3⟩, k2 => ⟨s, r ++ c2, by rw [h1]; simp, h2, OpR.app h3 k2⟩
theorem OpR.one {e : Nat × Iv} {s : ByteArray} (h : bOf s = e.2.pb) : OpR (mrow e s) [e] := ⟨s, [], by simp, h, rfl⟩
theorem OpR.split : ∀ {c : List Value} {l1 l2 : List (Nat × Iv)}, OpR c (l1 ++ l2) → OpR (c.take (l1.length * 5)) l1 ∧ OpR (c.drop (l1.length * 5)) l2
  | c, [], l2, k => by simpa [OpR] using k
  | _, e :: l1, l2, ⟨s, r, h1, h2, h3⟩ => by
    obtain ⟨k1, k2⟩ := OpR.split h3
    have e5 : (e :: l1).length * 5 = (mrow e s).length + l1.length * 5 := by simp [mrow]; omega
    rw [e5, h1, List.take_length_add_append, List.drop_length_add_append]
    exact ⟨⟨s, _, rfl, h2, k1⟩, k2⟩
theorem OpR.get : ∀ {c : List Value} {l : List (Nat × Iv)} {k : Nat} {e : Nat × Iv}, OpR c l → l[k]? = some e → ∃ s, bOf s = e.2.pb ∧ getN c (k * 5) 5 = some (mrow e s) ∧ ∀ j, j < 5 → c[k * 5 + j]? = (mrow e s)[j]?
  | _, [], k, e, _, h => by simp at h
  | _, d :: l, 0, e, ⟨s, r, h1, h2, h3⟩, h => by
    simp at h; subst h
    refine ⟨s, h2, ?_, fun j hj => ?_⟩
    · rw [h1]; exact (getN_eq _ _ _ _).2 ⟨by simp [mrow], rfl⟩
    · rw [h1, List.getElem?_append_left (by simp [mrow]; omega)]; simp
  | _, d :: l, k + 1, e, ⟨s, r, h1, h2, h3⟩, h => by
    obtain ⟨s', g1, g2, g3⟩ := OpR.get h3 (k := k) (by simpa using h)
    refine ⟨s', g1, ?_, fun j hj => ?_⟩
    · obtain ⟨a1, a2⟩ := (getN_eq _ _ _ _).1 g2
      have e5 : (k + 1) * 5 = (mrow d s).length + k * 5 := by simp [mrow]; omega
      refine (getN_eq _ _ _ _).2 ⟨?_, ?_⟩
      · rw [h1]; simp only [List.length_append]; split at a1 <;> split <;> omega
      · rw [h1, e5, List.drop_length_add_append]; exact a2
    · have e5 : (k + 1) * 5 + j = (mrow d s).length + (k * 5 + j) := by simp [mrow]; omega
      rw [h1, e5, List.getElem?_append_right (by omega)]
      simpa using g3 j hj
def Ow (h : AHeap) (sl : Value) : Prop := ∀ X, slB sl = some X → ∃ cs, h[X]? = some (some ⟨true, cs⟩)
theorem Ow.lt {h : AHeap} {sl : Value} (o : Ow h sl) {X : Nat} (hX : slB sl = some X) : X < h.length := by
  obtain ⟨cs, h1⟩ := o X hX; exact lt_of_get h1
theorem Ow.keep {h h' : AHeap} {sl : Value} (o : Ow h sl) (hk : ∀ X, slB sl = some X → h'[X]? = h[X]?) : Ow h' sl := fun X hX => by
  obtain ⟨cs, h1⟩ := o X hX; exact ⟨cs, by rw [hk X hX]; exact h1⟩
/-- the law's own book -/
structure MAt (h : AHeap) (M : Nat) (b : Bk) (ov zv : Value) : Prop where
  obj : h[M]? = some (some ⟨true, [.int .i64 (b.nx : Int), ov, zv]⟩)
  op : ∃ cells, Ret 5 h ov b.ops.length cells ∧ OpR cells b.ops
  en : ∃ cells, Ret 4 h zv b.es.length cells ∧ EndsR h cells b.es
  n : b.is.length = 128
  nx : b.nx < 128
  s1 : ∀ X, slB ov = some X → X ≠ M
  s2 : ∀ X, slB zv = some X → X ≠ M
  s3 : ∀ X, slB ov = some X → slB zv ≠ some X
  l1 : Ow h ov
  l2 : Ow h zv
def ftM (M : Nat) (ov zv : Value) (X : Nat) : Prop := X = M ∨ slB ov = some X ∨ slB zv = some X
def WentM (h h' : AHeap) (M : Nat) (b' : Bk) (ov zv : Value) : Prop := ∃ ov' zv', MAt h' M b' ov' zv' ∧ Fr (ftM M ov zv) h h' ∧ ∀ X, ftM M ov' zv' X → ftM M ov zv X ∨ h.length ≤ X
theorem MAt.lt {h : AHeap} {M : Nat} {b : Bk} {ov zv : Value} (A : MAt h M b ov zv) {X : Nat} (hX : ftM M ov zv X) : X < h.length := by
  rcases hX with rfl | hX | hX
  · exact lt_of_get A.obj
  · exact A.l1.lt hX
  · exact A.l2.lt hX
/-- what is not of it may change -/
theorem MAt.keep {h h' : AHeap} {M : Nat} {b : Bk} {ov zv : Value} (A : MAt h M b ov zv) (z : Frz h h') (hk : ∀ X, ftM M ov zv X → h'[X]? = h[X]?) : MAt h' M b ov zv := by
  obtain ⟨c1, r1, o1⟩ := A.op
  obtain ⟨c2, r2, o2⟩ := A.en
  exact ⟨by rw [hk M (.inl rfl)]; exact A.obj, ⟨c1, r1.keep fun X x hX hx => by rw [hk X (.inr (.inl hX))]; exact hx, o1⟩, ⟨c2, r2.keep fun X x hX hx => by rw [hk X (.inr (.inr hX))]; exact hx, o2.frz z⟩, A.n, A.nx, A.s1, A.s2, A.s3, A.l1.keep fun X hX => hk X (.inr (.inl hX)), A.l2.keep fun X hX => hk X (.inr (.inr hX))⟩
theorem MAt.kp {h h' : AHeap} {M : Nat} {b : Bk} {ov zv : Value} (A : MAt h M b ov zv) (K : Kp h h') : MAt h' M b ov zv := A.keep K.frz fun X hX => K.2 X (A.lt hX)
theorem MAt.same {h h' : AHeap} {M : Nat} {b : Bk} {ov zv : Value} (A : MAt h M b ov zv) (K : Kp h h') : WentM h h' M b ov zv := ⟨ov, zv, A.kp K, K.fr _, fun X h => .inl h⟩
/-- the rows, where there are some -/
theorem MAt.rows {h : AHeap} {M : Nat} {b : Bk} {ov zv : Value} (A : MAt h M b ov zv) : (b.cnt = 0 ∧ ∃ q c, ov = .slice q 0 c) ∨ ∃ R cells, ov = .slice (some ⟨R, 0, none⟩) b.cnt (unk + 5) ∧ h[R]? = some (some ⟨true, cells⟩) ∧ OpR cells b.ops := by
  obtain ⟨cells, ⟨hl, ⟨e, h0⟩ | ⟨R, e, h0⟩ | ⟨R, e, hR⟩⟩, o⟩ := A.op
  · rw [ops_len] at h0; exact .inl ⟨h0, _, _, e⟩
  · rw [ops_len] at h0; exact .inl ⟨h0, _, _, e⟩
  · rw [ops_len] at e; exact .inr ⟨R, cells, e, hR, o⟩
theorem MAt.lenV {h : AHeap} {M : Nat} {b : Bk} {ov zv : Value} (A : MAt h M b ov zv) : ∃ q c, ov = .slice q b.cnt c := by
  rcases A.rows with ⟨h0, q, c, e⟩ | ⟨R, cells, e, -⟩
  · exact ⟨q, c, by rw [h0]; exact e⟩
  · exact ⟨_, _, e⟩
def Bk.atI (b : Bk) (id : Int) : Int := if b.isO id = true then (b.pos id.toNat : Int) else -1
def AtI (h0 : AHeap) (M : Nat) (b : Bk) (id : Int) (m : Nat) (ρ : Env) (h : AHeap) : Prop := ∃ i : Nat, i + m = b.cnt ∧ get ρ 5 = some (.int .i64 (i : Nat)) ∧ get ρ 0 = some (.pointer (some ⟨M, 0, none⟩)) ∧ get ρ 1 = some (.int .i64 id) ∧ h = h0 ∧ ∀ k e, k < i → b.ops[k]? = some e → (e.1 : Int) ≠ id
def AtE (h0 : AHeap) (b : Bk) (id : Int) (ρ : Env) (h : AHeap) : Prop := h = h0 ∧ b.isO id = false
def AtR (h0 : AHeap) (b : Bk) (id : Int) (ρ : Env) (h : AHeap) : Prop := h = h0 ∧ get ρ 4 = some (.int .i64 (b.atI id))
theorem atI_nat {b : Bk} {i : Nat} {x : Iv} (h : b.is[i]? = some x) (hl : b.is.length = 128) (ho : opn x = true) : b.atI (i : Int) = (b.pos i : Int) := by
  unfold Bk.atI
  have hi := (List.getElem?_eq_some_iff.1 h).1
  rw [isO_at (by omega) h, ho, if_pos rfl, Int.toNat_natCast]
set_option maxHeartbeats 4000000 in
theorem at_ok {h : AHeap} {M : Nat} {b : Bk} {ov zv : Value} {id : Int} (A : MAt h M b ov zv) : Valid Try.prog 14 [.pointer (some ⟨M, 0, none⟩), .int .i64 id] h fun r h' => r = .int .i64 (b.atI id) ∧ h' = h := by
  refine v14 (by simp) ?_
  have hM := A.obj
  have hcl : b.cnt ≤ 128 := by unfold Bk.cnt; exact Nat.le_trans List.countP_le_length (by have := A.n; omega)
  simp only [X14, sx, x_box, x_alloc, x_bslice, x_slice, x_append, x_appz, x_b2s, x_s2b, x_mark, xop, ev, evs, evParts, fillL, cellsL, Ai.get, Ai.put, stab, isNil?, if_false, if_true, addr?, int?, str?, agg?, bool?, shiftA, FnPost, xresL, xres1, tup, argEnv, ptr, Nat.reduceEqDiff, reduceIte, beq_self_eq_true, ne_eq, Nat.reduceAdd, Nat.reduceMul, Nat.reduceSub, abin_shl, abin_shr, load1V, loadV, storeV, cellsAt, getN, setN, allocV, lenL, lenS, bnd, oneC, Value.oneCell', Nat.reduceLeDiff, Nat.reduceLT, exists_eq_left', forall_const, reduceCtorEq, app_new, app_new0, List.append_assoc, Int.reduceToNat, Int.reduceLT, Int.reduceLE, Int.reduceEq, Int.reduceNe, Int.reduceBEq, IntKind.bits, bne_self_eq_false, Int.reducePow]
  refine xloop_cut2 (AtE h b id) (AtR h b id) ?_ ?_ ?_
  · refine xcode_loop (AtI h M b id) b.cnt ⟨0, by omega, rfl, rfl, rfl, rfl, fun k e hk => by omega⟩ ?_
    rintro m ρ g ⟨i, him, g5, g0, g1, e0, hne⟩
    subst e0
    by_cases hi : i < b.cnt
    · rcases A.rows with ⟨h0, -⟩ | ⟨R, cells, rfl, hR, o⟩
      · omega
      have hi' : (i : Int) < (b.cnt : Nat) := by omega
      have hi0 : (0 : Int) ≤ i := by omega
      have wi : IntKind.i64.wrap ((i : Int) + 1) = ((i + 1 : Nat) : Int) := by rw [i64_wrap] <;> omega
      have hlo : i < b.ops.length := by rw [ops_len]; exact hi
      obtain ⟨s, hs, hg, hj⟩ := o.get (k := i) (List.getElem?_eq_getElem hlo)
      have h0c := hj 0 (by decide)
      have r0 : (mrow b.ops[i] s)[0]? = some (.int .i64 (b.ops[i].1 : Int)) := rfl
      rw [r0, Nat.add_zero] at h0c
      obtain ⟨p1, p2, p3⟩ := ops_place (List.getElem?_eq_getElem hlo)
      by_cases he : (b.ops[i].1 : Int) = id
      · simp only [sx, x_box, x_alloc, x_bslice, x_slice, x_append, x_appz, x_b2s, x_s2b, x_mark, xop, ev, evs, evParts, fillL, cellsL, Ai.get, Ai.put, stab, isNil?, if_false, if_true, addr?, int?, str?, agg?, bool?, shiftA, FnPost, xresL, xres1, tup, argEnv, ptr, Nat.reduceEqDiff, reduceIte, beq_self_eq_true, ne_eq, Nat.reduceAdd, Nat.reduceMul, Nat.reduceSub, abin_shl, abin_shr, load1V, loadV, storeV, cellsAt, getN, setN, allocV, lenL, lenS, bnd, oneC, Value.oneCell', Nat.reduceLeDiff, Nat.reduceLT, exists_eq_left', forall_const, reduceCtorEq, app_new, app_new0, List.append_assoc, Int.reduceToNat, Int.reduceLT, Int.reduceLE, Int.reduceEq, Int.reduceNe, Int.reduceBEq, IntKind.bits, bne_self_eq_false, Int.reducePow, g5, g0, g1, hM, hi', hi0, hR, h0c, he]
        refine .inr ⟨rfl, ?_⟩
        rw [← he, atI_nat p1 A.n p2, ← p3]; rfl
      · simp only [sx, x_box, x_alloc, x_bslice, x_slice, x_append, x_appz, x_b2s, x_s2b, x_mark, xop, ev, evs, evParts, fillL, cellsL, Ai.get, Ai.put, stab, isNil?, if_false, if_true, addr?, int?, str?, agg?, bool?, shiftA, FnPost, xresL, xres1, tup, argEnv, ptr, Nat.reduceEqDiff, reduceIte, beq_self_eq_true, ne_eq, Nat.reduceAdd, Nat.reduceMul, Nat.reduceSub, abin_shl, abin_shr, load1V, loadV, storeV, cellsAt, getN, setN, allocV, lenL, lenS, bnd, oneC, Value.oneCell', Nat.reduceLeDiff, Nat.reduceLT, exists_eq_left', forall_const, reduceCtorEq, app_new, app_new0, List.append_assoc, Int.reduceToNat, Int.reduceLT, Int.reduceLE, Int.reduceEq, Int.reduceNe, Int.reduceBEq, IntKind.bits, bne_self_eq_false, Int.reducePow, g5, g0, g1, hM, hi', hi0, hR, h0c, he, wi]
        refine ⟨m - 1, by omega, i + 1, by omega, rfl, g0, g1, rfl, fun k e hk hke => ?_⟩
        by_cases hki : k < i
        · exact hne k e hki hke
        · have : k = i := by omega
          subst this
          rw [List.getElem?_eq_getElem hlo] at hke
          rw [← Option.some.inj hke]; exact he
    · obtain ⟨q, c, rfl⟩ := A.lenV
      have hi' : ¬ (i : Int) < (b.cnt : Nat) := by omega
      simp only [sx, x_box, x_alloc, x_bslice, x_slice, x_append, x_appz, x_b2s, x_s2b, x_mark, xop, ev, evs, evParts, fillL, cellsL, Ai.get, Ai.put, stab, isNil?, if_false, if_true, addr?, int?, str?, agg?, bool?, shiftA, FnPost, xresL, xres1, tup, argEnv, ptr, Nat.reduceEqDiff, reduceIte, beq_self_eq_true, ne_eq, Nat.reduceAdd, Nat.reduceMul, Nat.reduceSub, abin_shl, abin_shr, load1V, loadV, storeV, cellsAt, getN, setN, allocV, lenL, lenS, bnd, oneC, Value.oneCell', Nat.reduceLeDiff, Nat.reduceLT, exists_eq_left', forall_const, reduceCtorEq, app_new, app_new0, List.append_assoc, Int.reduceToNat, Int.reduceLT, Int.reduceLE, Int.reduceEq, Int.reduceNe, Int.reduceBEq, IntKind.bits, bne_self_eq_false, Int.reducePow, g5, g0, g1, hM, hi']
      refine .inl ⟨rfl, ?_⟩
      cases ho : b.isO id with
      | false => rfl
      | true =>
        exfalso
        obtain ⟨j, rfl, hj⟩ := isO_nat ho
        have hx := List.getElem?_eq_getElem (l := b.is) (i := j) (by rw [A.n]; exact hj)
        rw [isO_at hj hx] at ho
        have hat := ops_at hx ho
        have hlt := (List.getElem?_eq_some_iff.1 hat).1
        rw [ops_len] at hlt
        exact hne _ _ (by omega) hat rfl
  · rintro ρ g ⟨e0, ho⟩
    subst e0
    simp only [sx, x_box, x_alloc, x_bslice, x_slice, x_append, x_appz, x_b2s, x_s2b, x_mark, xop, ev, evs, evParts, fillL, cellsL, Ai.get, Ai.put, stab, isNil?, if_false, if_true, addr?, int?, str?, agg?, bool?, shiftA, FnPost, xresL, xres1, tup, argEnv, ptr, Nat.reduceEqDiff, reduceIte, beq_self_eq_true, ne_eq, Nat.reduceAdd, Nat.reduceMul, Nat.reduceSub, abin_shl, abin_shr, load1V, loadV, storeV, cellsAt, getN, setN, allocV, lenL, lenS, bnd, oneC, Value.oneCell', Nat.reduceLeDiff, Nat.reduceLT, exists_eq_left', forall_const, reduceCtorEq, app_new, app_new0, List.append_assoc, Int.reduceToNat, Int.reduceLT, Int.reduceLE, Int.reduceEq, Int.reduceNe, Int.reduceBEq, IntKind.bits, bne_self_eq_false, Int.reducePow]
    unfold Bk.atI
    rw [ho, if_neg (by decide)]
  · rintro ρ g ⟨e0, g4⟩
    subst e0
    simp only [sx, x_box, x_alloc, x_bslice, x_slice, x_append, x_appz, x_b2s, x_s2b, x_mark, xop, ev, evs, evParts, fillL, cellsL, Ai.get, Ai.put, stab, isNil?, if_false, if_true, addr?, int?, str?, agg?, bool?, shiftA, FnPost, xresL, xres1, tup, argEnv, ptr, Nat.reduceEqDiff, reduceIte, beq_self_eq_true, ne_eq, Nat.reduceAdd, Nat.reduceMul, Nat.reduceSub, abin_shl, abin_shr, load1V, loadV, storeV, cellsAt, getN, setN, allocV, lenL, lenS, bnd, oneC, Value.oneCell', Nat.reduceLeDiff, Nat.reduceLT, exists_eq_left', forall_const, reduceCtorEq, app_new, app_new0, List.append_assoc, Int.reduceToNat, Int.reduceLT, Int.reduceLE, Int.reduceEq, Int.reduceNe, Int.reduceBEq, IntKind.bits, bne_self_eq_false, Int.reducePow, g4]

theorem mapp_run {P : Program} {k by_ : Nat} {z : List Value} (hz : z.length = k) (hk : 0 < k) {K : Env → AHeap → Prop} {r : List XOper} {ρ : Env} {h : AHeap} {n m : Nat} {rows news : List Value} {d : Option Nat} {st : List (Nat × Option (Nat × Bool) × XOp)} {s x : XA} {sl xv : Value}
    (hs : ev ρ s = some sl) (hx : ev ρ x = some xv) (hl : lenV xv = some m) (hf : firstV k h m xv = some news) (hnl : news.length = m * k) (h1 : news.all oneC = true) (R : Ret k h sl n rows) (O : Ow h sl) (hb : (n + m) * by_ ≤ 140737488355328) (hb2 : n + m ≤ 9223372036854775807)
    (hK : ∀ g sl', Ret k g sl' (n + m) (rows ++ news) → Ow g sl' → Fr (fun X => slB sl = some X) h g → (∀ X, slB sl' = some X → slB sl = some X ∨ h.length ≤ X) → Frz h g → stab ρ g st ∧ xops P K r (put d sl' ρ) g) :
    xops P K (⟨d, none, .append k by_ z s x, st⟩ :: r) ρ h := by
  refine xops_st ?_
  refine append_run hz hk hs hx hl hf hnl h1 R.toO hb hb2 (fun hm => ?_) (fun hm g A' hA hg hl' hfr => ?_)
  · subst hm
    have : news = [] := List.eq_nil_of_length_eq_zero (by simpa using hnl)
    subst this
    have := hK h sl (by simpa using R) O (Fr.refl _ _) (fun X h => .inl h) (fun X cs h => h)
    rw [xops_nil]; exact this
  · have R' : Ret k g (.slice (some ⟨A', 0, none⟩) (n + m) (unk + k)) (n + m) (rows ++ news) := ⟨by rw [List.length_append, R.1, hnl, Nat.add_mul], .inr (.inr ⟨A', rfl, hg⟩)⟩
    have := hK g _ R' (fun X hX => by cases hX; exact ⟨_, hg⟩) ⟨by omega, fun X hX hn => hfr X hX hn⟩ (fun X hX => by cases hX; exact .inr hA) (fun X cs hX => by
      rw [hfr X (lt_of_get hX) (fun e => by obtain ⟨cs', h2⟩ := O X e; rw [h2] at hX; cases hX)]; exact hX)
    rw [xops_nil]; exact this
theorem str_bytes {h : AHeap} (s : ByteArray) : BytesV (h ++ [some ⟨false, s.data.toList.map fun b => .int .u8 (b.toNat : Int)⟩]) (.slice (some ⟨h.length, 0, none⟩) s.size (unk + 1)) (bOf s) := by
  have e : s.data.toList.map (fun b => Value.int .u8 (b.toNat : Int)) = bN (bOf s) := by
    unfold bN bOf; rw [List.map_map]; rfl
  have el : s.size = (bOf s).length := by unfold bOf; rw [List.length_map]; rfl
  rw [e, el]
  exact ⟨_, _, rfl, .inr ⟨_, _, rfl, rfl, app_one h _, getN_all _ _ (bN_len _).symm⟩⟩
theorem OpR.one1 : ∀ {c : List Value} {l : List (Nat × Iv)}, OpR c l → c.all oneC = true
  | _, [], k => by rw [show _ = ([] : List Value) from k]; rfl
  | _, e :: l, ⟨s, r, h1, _, h3⟩ => by rw [h1, List.all_append, OpR.one1 h3]; rfl
theorem firstV_lo {h : AHeap} {R n k c : Nat} {cells : List Value} {w : Bool} (hR : h[R]? = some (some ⟨w, cells⟩)) (hl : cells.length = n * 5) (hk : k ≤ n) : firstV 5 h k (.slice (some ⟨R, 0, none⟩) k c) = some (cells.take (k * 5)) := by
  simp only [firstV]
  by_cases h0 : k = 0
  · subst h0; simp
  · rw [if_neg h0]
    simp only [ne_eq, not_true_eq_false, if_false, cellsAt, hR, Option.bind_some]
    exact (getN_eq _ _ _ _).2 ⟨by split <;> omega, by simp⟩
theorem firstV_hi {h : AHeap} {R n k c : Nat} {cells : List Value} {w : Bool} (hR : h[R]? = some (some ⟨w, cells⟩)) (hl : cells.length = n * 5) (hk : k ≤ n) : firstV 5 h (n - k) (.slice (some ⟨R, k * 5, none⟩) (n - k) c) = some (cells.drop (k * 5)) := by
  have hlen : (n - k) * 5 = n * 5 - k * 5 := Nat.sub_mul _ _ _
  simp only [firstV]
  by_cases h0 : n - k = 0
  · rw [if_pos h0, List.drop_eq_nil_of_le (by omega)]
  · rw [if_neg h0]
    simp only [ne_eq, not_true_eq_false, if_false, cellsAt, hR, Option.bind_some]
    refine (getN_eq _ _ _ _).2 ⟨by split <;> omega, ?_⟩
    rw [List.take_of_length_le (by rw [List.length_drop]; omega)]
theorem ops_out {b : Bk} {k : Nat} {e : Nat × Iv} (he : b.ops[k]? = some e) (nx : Nat) (es : List En) : Bk.ops ⟨b.is.set e.1 iv0, nx, es⟩ = b.ops.take k ++ b.ops.drop (k + 1) := by
  obtain ⟨h1, h2, h3⟩ := ops_place he
  obtain ⟨L, R, l1, l2, l3, l4, l5⟩ := ops_split h1
  rw [l5, l2, if_pos h2, if_neg (by decide), h3, ← l1]
  simp
set_option maxHeartbeats 8000000 in
set_option maxRecDepth 20000 in
theorem mover_ok {h : AHeap} {M : Nat} {b : Bk} {ov zv : Value} {k : Nat} {e : Nat × Iv} {how code : Int} {s : ByteArray} (A : MAt h M b ov zv) (he : b.ops[k]? = some e) (hel : b.es.length ≤ 1000000) :
    Valid Try.prog 24 [.pointer (some ⟨M, 0, none⟩), .int .i64 (k : Int), .int .u8 how, .int .i64 code, .string s] h fun r h' => WentM h h' M (b.over e.1 how code (bOf s)) ov zv := by
  refine v24 (by simp) ?_
  have hM := A.obj
  have hcl : b.cnt ≤ 128 := by unfold Bk.cnt; exact Nat.le_trans List.countP_le_length (by have := A.n; omega)
  have hk : k < b.cnt := by rw [← ops_len]; exact (List.getElem?_eq_some_iff.1 he).1
  rcases A.rows with ⟨h0, -⟩ | ⟨R, cells, rfl, hR, o⟩
  · omega
  obtain ⟨se, hse, hg, hj⟩ := o.get he
  have h0c := hj 0 (by decide)
  have r0 : (mrow e se)[0]? = some (.int .i64 (e.1 : Int)) := rfl
  rw [r0, Nat.add_zero] at h0c
  have hk0 : (0 : Int) ≤ (k : Int) := by omega
  have hk1 : (k : Int) < (b.cnt : Nat) := by omega
  have hMR : R ≠ M := A.s1 R rfl
  have hMl := lt_of_get hM
  have hRl := lt_of_get hR
  have K1 := Kp.app h [some (AObj.mk false (s.data.toList.map fun b => .int .u8 (b.toNat : Int)))]
  have V1 := str_bytes (h := h) s
  have hM1 := K1.get hM
  have hR1 := K1.get hR
  have A1 := A.kp K1
  simp only [X24, sx, x_box, x_alloc, x_appz, x_b2s, x_s2b, x_mark, xop, ev, evs, evParts, fillL, cellsL, Ai.get, Ai.put, stab, isNil?, if_false, if_true, addr?, int?, str?, agg?, bool?, shiftA, FnPost, xresL, xres1, tup, argEnv, ptr, Nat.reduceEqDiff, reduceIte, beq_self_eq_true, ne_eq, Nat.reduceAdd, Nat.reduceMul, Nat.reduceSub, abin_shl, abin_shr, load1V, loadV, storeV, cellsAt, getN, setN, allocV, lenL, lenS, bnd, oneC, Value.oneCell', Nat.reduceLeDiff, Nat.reduceLT, exists_eq_left', forall_const, reduceCtorEq, app_new, app_new0, List.append_assoc, Int.reduceToNat, Int.reduceLT, Int.reduceLE, Int.reduceEq, Int.reduceNe, Int.reduceBEq, IntKind.bits, bne_self_eq_false, Int.reducePow, hM, hk0, hk1, hR, h0c, hM1, hR1]
  generalize h ++ [some (AObj.mk false (s.data.toList.map fun b => .int .u8 (b.toNat : Int)))] = g1 at *
  have K2 := Kp.app g1 [some (AObj.mk true [Value.int .i64 (e.1 : Int), .int .u8 how, .int .i64 code, .slice (some ⟨h.length, 0, none⟩) s.size (unk + 1)])]
  have hM2 := K2.get hM1
  have hR2 := K2.get hR1
  have A2 := A1.kp K2
  have V2 := V1.frz K2.frz
  have hC2 := app_one g1 (some (AObj.mk true [Value.int .i64 (e.1 : Int), .int .u8 how, .int .i64 code, .slice (some ⟨h.length, 0, none⟩) s.size (unk + 1)]))
  simp only [sx, x_box, x_alloc, x_bslice, x_appz, x_b2s, x_s2b, x_mark, xop, ev, evs, evParts, fillL, cellsL, Ai.get, Ai.put, stab, isNil?, if_false, if_true, addr?, int?, str?, agg?, bool?, shiftA, FnPost, xresL, xres1, tup, argEnv, ptr, Nat.reduceEqDiff, reduceIte, beq_self_eq_true, ne_eq, Nat.reduceAdd, Nat.reduceMul, Nat.reduceSub, abin_shl, abin_shr, load1V, loadV, storeV, cellsAt, getN, setN, allocV, lenL, lenS, bnd, oneC, Value.oneCell', Nat.reduceLeDiff, Nat.reduceLT, exists_eq_left', forall_const, reduceCtorEq, app_new, app_new0, List.append_assoc, Int.reduceToNat, Int.reduceLT, Int.reduceLE, Int.reduceEq, Int.reduceNe, Int.reduceBEq, IntKind.bits, bne_self_eq_false, Int.reducePow, hM2]
  have hg1l : (g1 ++ [some (AObj.mk true [Value.int .i64 (e.1 : Int), .int .u8 how, .int .i64 code, .slice (some ⟨h.length, 0, none⟩) s.size (unk + 1)])]).length = g1.length + 1 := by simp
  generalize g1 ++ [some (AObj.mk true [Value.int .i64 (e.1 : Int), .int .u8 how, .int .i64 code, .slice (some ⟨h.length, 0, none⟩) s.size (unk + 1)])] = g2 at *
  obtain ⟨zc, zR, zE⟩ := A2.en
  have hf1 : firstV 4 g2 1 (.slice (some ⟨g1.length, 0, none⟩) 1 1) = some [Value.int .i64 (e.1 : Int), .int .u8 how, .int .i64 code, .slice (some ⟨h.length, 0, none⟩) s.size (unk + 1)] := by
    simp only [firstV, cellsAt, hC2]
    rw [if_neg (by decide)]; rfl
  refine mapp_run (k := 4) (by_ := 48) (n := b.es.length) (m := 1) (sl := zv) (xv := .slice (some ⟨g1.length, 0, none⟩) 1 1) rfl (by decide) rfl rfl rfl hf1 rfl rfl zR A2.l2 (by omega) (by omega) fun g3 zv' zR' zO' F3 n3 z3 => ⟨trivial, ?_⟩
  have hM3 := F3.get hM2 (fun h1 => A.s2 M h1 rfl)
  have hR3 := F3.get hR2 (fun h1 => A.s3 R rfl h1)
  have hM3s : ∀ y : Option AObj, (g3.set M y)[M]? = some y := fun y => List.getElem?_set_self (lt_of_get hM3)
  have hR3s : ∀ y : Option AObj, (g3.set M y)[R]? = _ := fun y => (set_ne hMR.symm y).trans hR3
  obtain ⟨qz, nz, cz, hze⟩ : ∃ q n c, zv' = .slice q n c := by
    obtain ⟨q, c, e, -⟩ := zR'.shape; exact ⟨_, _, _, e⟩
  subst hze
  have wk : IntKind.i64.wrap ((k : Int) + 1) = ((k + 1 : Nat) : Int) := by rw [i64_wrap] <;> omega
  have hk1' : ((k + 1 : Nat) : Int) ≤ (b.cnt : Nat) := by omega
  have hkn : k + 1 ≤ b.cnt := by omega
  have hk10 : (0 : Int) ≤ ((k + 1 : Nat) : Int) := by omega
  have hkc : k ≤ unk + 5 := by unfold unk; omega
  have hbu : b.cnt ≤ unk + 5 := by unfold unk; omega
  have hbu' : ¬ unk ≤ b.cnt := by unfold unk; omega
  have huu : unk ≤ unk + 5 := by omega
  have hkb : (k : Int) ≤ (b.cnt : Nat) := by omega
  have K4 := Kp.app (g3.set M (some ⟨true, [Value.int .i64 (b.nx : Int), .slice (some ⟨R, 0, none⟩) b.cnt (unk + 5), .slice qz nz cz]⟩)) [some (AObj.mk true [])]
  have hM4 := K4.get (hM3s _)
  have hR4 := K4.get (hR3s _)
  have hL4 := app_one (g3.set M (some ⟨true, [Value.int .i64 (b.nx : Int), .slice (some ⟨R, 0, none⟩) b.cnt (unk + 5), .slice qz nz cz]⟩)) (some (AObj.mk true []))
  rw [List.length_set] at hL4
  simp only [sx, x_box, x_alloc, x_bslice, x_slice, x_appz, x_b2s, x_s2b, x_mark, xop, ev, evs, evParts, fillL, cellsL, Ai.get, Ai.put, stab, isNil?, if_false, if_true, addr?, int?, str?, agg?, bool?, shiftA, FnPost, xresL, xres1, tup, argEnv, ptr, Nat.reduceEqDiff, reduceIte, beq_self_eq_true, ne_eq, Nat.reduceAdd, Nat.reduceMul, Nat.reduceSub, abin_shl, abin_shr, load1V, loadV, storeV, cellsAt, getN, setN, allocV, lenL, lenS, bnd, oneC, Value.oneCell', Nat.reduceLeDiff, Nat.reduceLT, exists_eq_left', forall_const, reduceCtorEq, app_new, app_new0, List.append_assoc, Int.reduceToNat, Int.reduceLT, Int.reduceLE, Int.reduceEq, Int.reduceNe, Int.reduceBEq, IntKind.bits, bne_self_eq_false, Int.reducePow, hM3, hM3s, hM4, wk, bnd, shiftA, hk0, hk10, hk1', hkn, hkc, hbu, huu, hkb, or_self, Nat.sub_zero, Nat.not_lt_zero]
  have hg4l : (g3.set M (some (AObj.mk true [Value.int .i64 (b.nx : Int), .slice (some ⟨R, 0, none⟩) b.cnt (unk + 5), .slice qz nz cz])) ++ [some (AObj.mk true [])]).length = g3.length + 1 := by simp
  have F4 : Fr (ftM M (.slice (some ⟨R, 0, none⟩) b.cnt (unk + 5)) zv) g2 (g3.set M (some (AObj.mk true [Value.int .i64 (b.nx : Int), .slice (some ⟨R, 0, none⟩) b.cnt (unk + 5), .slice qz nz cz])) ++ [some (AObj.mk true [])]) :=
    ((F3.mono fun X hX => .inr (.inr hX)).trans (Fr.set (S := ftM M (.slice (some ⟨R, 0, none⟩) b.cnt (unk + 5)) zv) _ (.inl rfl)) fun X hX => .inl hX).trans (K4.fr (ftM M (.slice (some ⟨R, 0, none⟩) b.cnt (unk + 5)) zv)) fun X hX => .inl hX
  have z4 : Frz g2 (g3.set M (some (AObj.mk true [Value.int .i64 (b.nx : Int), .slice (some ⟨R, 0, none⟩) b.cnt (unk + 5), .slice qz nz cz])) ++ [some (AObj.mk true [])]) := fun X cs hX => by
    refine K4.frz X cs ?_
    rw [set_ne (fun e1 => by subst e1; have := z3 _ _ hX; rw [hM3] at this; cases this)]
    exact z3 X cs hX
  have kz4 : ∀ X, slB (.slice qz nz cz) = some X → (g3.set M (some (AObj.mk true [Value.int .i64 (b.nx : Int), .slice (some ⟨R, 0, none⟩) b.cnt (unk + 5), .slice qz nz cz])) ++ [some (AObj.mk true [])])[X]? = g3[X]? := fun X hX => by
    have hXl := zO'.lt hX
    rw [K4.2 X (by simpa using hXl)]
    refine set_ne (fun e1 => ?_) _
    subst e1
    rcases n3 _ hX with h1 | h1
    · exact A.s2 _ h1 rfl
    · have := lt_of_get hM2; omega
  generalize g3.set M (some (AObj.mk true [Value.int .i64 (b.nx : Int), .slice (some ⟨R, 0, none⟩) b.cnt (unk + 5), .slice qz nz cz])) ++ [some (AObj.mk true [])] = g4 at *
  have hcell : cells.length = b.cnt * 5 := by rw [o.len, ops_len]
  have o1 := o.one1
  have osp := OpR.split (l1 := b.ops.take k) (l2 := b.ops.drop k) (by rw [List.take_append_drop]; exact o)
  have osp2 := OpR.split (l1 := b.ops.take (k + 1)) (l2 := b.ops.drop (k + 1)) (by rw [List.take_append_drop]; exact o)
  have tl : (b.ops.take k).length = k := by rw [List.length_take, ops_len]; omega
  have tl2 : (b.ops.take (k + 1)).length = k + 1 := by rw [List.length_take, ops_len]; omega
  rw [tl] at osp
  rw [tl2] at osp2
  have hM4' := hM4
  refine mapp_run (k := 5) (by_ := 48) (n := 0) (m := k) (rows := []) (sl := .slice (some ⟨g3.length, 0, none⟩) 0 0) (xv := .slice (some ⟨R, 0, none⟩) k (unk + 5)) rfl (by decide) rfl rfl rfl (firstV_lo hR4 hcell (by omega)) (by rw [List.length_take, hcell]; omega) osp.1.one1 ⟨rfl, .inr (.inl ⟨_, rfl, rfl⟩)⟩ (fun X hX => by cases hX; exact ⟨_, hL4⟩) (by omega) (by omega) fun g5 sl5 R5 O5 F5 n5 z5 => ?_
  have n5' : ∀ X, slB sl5 = some X → g3.length ≤ X := fun X hX => by
    rcases n5 X hX with h1 | h1
    · have h2 : g3.length = X := Option.some.inj h1; omega
    · omega
  have hM5 := F5.get hM4 (fun h1 => by have h2 : g3.length = M := Option.some.inj h1; have := lt_of_get hM3; omega)
  have hR5 := F5.get hR4 (fun h1 => by have h2 : g3.length = R := Option.some.inj h1; have := lt_of_get hR3; omega)
  refine ⟨by simp only [sx, x_box, x_alloc, x_bslice, x_slice, x_append, x_appz, x_b2s, x_s2b, x_mark, xop, ev, evs, evParts, fillL, cellsL, Ai.get, Ai.put, stab, isNil?, if_false, if_true, addr?, int?, str?, agg?, bool?, shiftA, FnPost, xresL, xres1, tup, argEnv, ptr, Nat.reduceEqDiff, reduceIte, beq_self_eq_true, ne_eq, Nat.reduceAdd, Nat.reduceMul, Nat.reduceSub, abin_shl, abin_shr, load1V, loadV, storeV, cellsAt, getN, setN, allocV, lenL, lenS, bnd, oneC, Value.oneCell', Nat.reduceLeDiff, Nat.reduceLT, exists_eq_left', forall_const, reduceCtorEq, app_new, app_new0, List.append_assoc, Int.reduceToNat, Int.reduceLT, Int.reduceLE, Int.reduceEq, Int.reduceNe, Int.reduceBEq, IntKind.bits, bne_self_eq_false, Int.reducePow, hM5], ?_⟩
  refine mapp_run (k := 5) (by_ := 48) (n := 0 + k) (m := b.cnt - (k + 1)) (sl := sl5) (xv := .slice (some ⟨R, (k + 1) * 5, none⟩) (b.cnt - (k + 1)) (unk + 5)) rfl (by decide) rfl rfl rfl (firstV_hi hR5 hcell (by omega)) (by rw [List.length_drop, hcell]; omega) osp2.2.one1 R5 O5 (by omega) (by omega) fun g6 sl6 R6 O6 F6 n6 z6 => ⟨trivial, ?_⟩
  have n6' : ∀ X, slB sl6 = some X → g3.length ≤ X := fun X hX => by
    rcases n6 X hX with h1 | h1
    · exact n5' X h1
    · have := F5.1; omega
  have hM6 := F6.get hM5 (fun h1 => by have := n5' M h1; have := lt_of_get hM3; omega)
  have hM6s : ∀ y : Option AObj, (g6.set M y)[M]? = some y := fun y => List.getElem?_set_self (lt_of_get hM6)
  obtain ⟨q6, m6, c6, he6⟩ : ∃ q n c, sl6 = .slice q n c := by
    obtain ⟨q, c, e, -⟩ := R6.shape; exact ⟨_, _, _, e⟩
  subst he6
  simp only [sx, x_box, x_alloc, x_bslice, x_slice, x_append, x_appz, x_b2s, x_s2b, x_mark, xop, ev, evs, evParts, fillL, cellsL, Ai.get, Ai.put, stab, isNil?, if_false, if_true, addr?, int?, str?, agg?, bool?, shiftA, FnPost, xresL, xres1, tup, argEnv, ptr, Nat.reduceEqDiff, reduceIte, beq_self_eq_true, ne_eq, Nat.reduceAdd, Nat.reduceMul, Nat.reduceSub, abin_shl, abin_shr, load1V, loadV, storeV, cellsAt, getN, setN, allocV, lenL, lenS, bnd, oneC, Value.oneCell', Nat.reduceLeDiff, Nat.reduceLT, exists_eq_left', forall_const, reduceCtorEq, app_new, app_new0, List.append_assoc, Int.reduceToNat, Int.reduceLT, Int.reduceLE, Int.reduceEq, Int.reduceNe, Int.reduceBEq, IntKind.bits, bne_self_eq_false, Int.reducePow, hM6]
  have hl3 : g3.length ≤ g6.length := by have := F5.1; have := F6.1; omega
  have hl2 := F3.1
  have hgl : h.length ≤ g2.length := by have := K1.1; have := K2.1; omega
  have k6 : ∀ X, X < g3.length → g6[X]? = g4[X]? := fun X hX => by
    rw [F6.2 X (by have := F5.1; omega) (fun h1 => by have := n5' X h1; omega), F5.2 X (by omega) (fun h1 => by have h2 : g3.length = X := Option.some.inj h1; omega)]
  have kf : ∀ X, X ≠ M → X < g3.length → (g6.set M (some ⟨true, [.int .i64 (b.nx : Int), .slice q6 m6 c6, .slice qz nz cz]⟩))[X]? = g4[X]? := fun X hX hl => by
    rw [set_ne (fun e => hX e.symm)]; exact k6 X hl
  have zg2 : Frz g2 (g6.set M (some ⟨true, [.int .i64 (b.nx : Int), .slice q6 m6 c6, .slice qz nz cz]⟩)) := fun X cs hX => by
    rw [kf X (fun e => by subst e; rw [hM2] at hX; cases hX) (by have := lt_of_get hX; omega)]
    exact z4 X cs hX
  have hzl : ∀ X, slB (.slice qz nz cz) = some X → (g6.set M (some ⟨true, [.int .i64 (b.nx : Int), .slice q6 m6 c6, .slice qz nz cz]⟩))[X]? = g3[X]? := fun X hX => by
    have h1 : X ≠ M := fun e1 => by
      subst e1
      rcases n3 _ hX with h1 | h1
      · exact A.s2 _ h1 rfl
      · have := lt_of_get hM2; omega
    rw [kf X h1 (zO'.lt hX)]; exact kz4 X hX
  have hol : ∀ X, slB (.slice q6 m6 c6) = some X → (g6.set M (some ⟨true, [.int .i64 (b.nx : Int), .slice q6 m6 c6, .slice qz nz cz]⟩))[X]? = g6[X]? := fun X hX => by
    refine set_ne (fun e1 => ?_) _
    subst e1
    have := n6' _ hX
    have := lt_of_get hM3
    omega
  have hcnt : (b.over e.1 how code (bOf s)).ops = b.ops.take k ++ b.ops.drop (k + 1) := ops_out he _ _
  have hcl2 : (b.over e.1 how code (bOf s)).ops.length = 0 + k + (b.cnt - (k + 1)) := by rw [hcnt, List.length_append, List.length_take, List.length_drop, ops_len]; omega
  refine ⟨.slice q6 m6 c6, .slice qz nz cz, ⟨hM6s _, ⟨[] ++ cells.take (k * 5) ++ cells.drop ((k + 1) * 5), ?_, ?_⟩, ⟨zc ++ [Value.int .i64 (e.1 : Int), .int .u8 how, .int .i64 code, .slice (some ⟨h.length, 0, none⟩) s.size (unk + 1)], ?_, ?_⟩, ?_, A.nx, ?_, ?_, ?_, ?_, ?_⟩, ?_, ?_⟩
  · rw [hcl2]; exact R6.keep fun X x hX hx => by rw [hol X hX]; exact hx
  · rw [hcnt]; exact osp.1.app osp2.2
  · have e1 : (b.over e.1 how code (bOf s)).es.length = b.es.length + 1 := by simp [Bk.over]
    rw [e1]; exact zR'.keep fun X x hX hx => by rw [hzl X hX]; exact hx
  · exact (zE.frz zg2).push (e := ⟨e.1, how, code, bOf s⟩) (V2.frz zg2)
  · show (b.is.set _ _).length = 128
    rw [List.length_set]; exact A.n
  · intro X hX e1
    have := n6' X hX
    have := lt_of_get hM3
    omega
  · intro X hX e1
    subst e1
    rcases n3 _ hX with h1 | h1
    · exact A.s2 _ h1 rfl
    · have := lt_of_get hM2; omega
  · intro X hX hz
    have := n6' X hX
    have := zO'.lt hz
    omega
  · exact O6.keep hol
  · exact zO'.keep hzl
  · refine ⟨by simp; omega, fun X hX hn => ?_⟩
    have hnM : X ≠ M := fun e => hn (.inl e)
    rw [kf X hnM (by omega)]
    rw [F4.2 X (by omega) hn, K2.2 X (by have := K1.1; omega), K1.2 X hX]
  · intro X hX
    rcases hX with rfl | hX | hX
    · exact .inl (.inl rfl)
    · have := n6' X hX; exact .inr (by omega)
    · rcases n3 X hX with h1 | h1
      · exact .inl (.inr (.inr h1))
      · exact .inr (by omega)

theorem ops_in {b : Bk} {i : Nat} {x : Iv} (h : b.is[i]? = some x) (ho : opn x = false) (y : Iv) (hy : opn y = true) (nx : Nat) (es : List En) : Bk.ops ⟨b.is.set i y, nx, es⟩ = b.ops.take (b.pos i) ++ [(i, y)] ++ b.ops.drop (b.pos i) := by
  obtain ⟨L, R, l1, l2, l3, l4, l5⟩ := ops_split h
  rw [l5, l2, if_pos hy, ho, if_neg (by decide), ← l1]
  simp
/-- the open ones in two parts -/
theorem MAt.cut {h : AHeap} {M : Nat} {b : Bk} {ov zv : Value} (A : MAt h M b ov zv) {p : Nat} (hp : p ≤ b.cnt) (hc : b.cnt ≤ 128) : ∃ v1 v2, Ai.lenV v1 = some p ∧ Ai.lenV v2 = some (b.cnt - p) ∧
    (∃ cells, OpR cells b.ops ∧ ∀ g : AHeap, (∀ X, slB ov = some X → g[X]? = h[X]?) → firstV 5 g p v1 = some (cells.take (p * 5)) ∧ firstV 5 g (b.cnt - p) v2 = some (cells.drop (p * 5))) ∧
    (∀ (ρ : Env) (h' : AHeap) (x hi : XA), ev ρ x = some ov → ev ρ hi = some (.int .i64 (p : Int)) → xop (.slice 5 x none (some hi) none) ρ h' = some (v1, h')) ∧
    (∀ (ρ : Env) (h' : AHeap) (x lo : XA), ev ρ x = some ov → ev ρ lo = some (.int .i64 (p : Int)) → xop (.slice 5 x (some lo) none none) ρ h' = some (v2, h')) := by
  obtain ⟨cells, r, o⟩ := A.op
  have hu0 : ¬ unk ≤ 0 := by decide
  have huu : unk ≤ unk + 5 := by omega
  rcases r with ⟨hl, ⟨rfl, h0⟩ | ⟨R, rfl, h0⟩ | ⟨R, rfl, hR⟩⟩
  · rw [ops_len] at h0
    have hp0 : p = 0 := by omega
    subst hp0
    have : cells = [] := List.eq_nil_of_length_eq_zero (by rw [hl, ops_len, h0])
    subst this
    refine ⟨.slice none 0 0, .slice none 0 0, rfl, by rw [h0]; rfl, ⟨[], o, fun g hg => ⟨by simp [firstV], by rw [h0]; simp [firstV]⟩⟩, fun ρ h' x hi hx hh => ?_, fun ρ h' x lo hx hh => ?_⟩
    · simp [xop, hx, hh, bnd, int?, hu0]
    · simp [xop, hx, hh, bnd, int?, hu0]
  · rw [ops_len] at h0
    have hp0 : p = 0 := by omega
    subst hp0
    have : cells = [] := List.eq_nil_of_length_eq_zero (by rw [hl, ops_len, h0])
    subst this
    refine ⟨.slice (some ⟨R, 0, none⟩) 0 0, .slice (some ⟨R, 0, none⟩) 0 0, rfl, by rw [h0]; rfl, ⟨[], o, fun g hg => ⟨by simp [firstV], by rw [h0]; simp [firstV]⟩⟩, fun ρ h' x hi hx hh => ?_, fun ρ h' x lo hx hh => ?_⟩
    · simp [xop, hx, hh, bnd, int?, hu0]
    · simp [xop, hx, hh, bnd, int?, hu0]
  · rw [ops_len] at hl
    have hpi : (p : Int) ≤ (b.cnt : Nat) := by omega
    have hbu : b.cnt ≤ unk + 5 := by unfold unk; omega
    refine ⟨.slice (some ⟨R, 0, none⟩) p (unk + 5), .slice (some ⟨R, p * 5, none⟩) (b.cnt - p) (unk + 5), rfl, rfl, ⟨cells, o, fun g hg => ?_⟩, fun ρ h' x hi hx hh => ?_, fun ρ h' x lo hx hh => ?_⟩
    · have hR' : g[R]? = some (some ⟨true, cells⟩) := by rw [hg R rfl]; exact hR
      exact ⟨firstV_lo hR' hl hp, firstV_hi hR' hl hp⟩
    · rw [ops_len] at hx
      simp [xop, hx, hh, bnd, int?, huu, hpi, hp, shiftA]
    · rw [ops_len] at hx
      simp [xop, hx, hh, bnd, int?, huu, hpi, hp, shiftA]
theorem MAt.putOps {h g : AHeap} {M : Nat} {b b' : Bk} {ov zv sl : Value} {rows : List Value} (A : MAt h M b ov zv) (K : Kp h g) (R : Ret 5 g sl b'.ops.length rows) (O : Ow g sl) (hn : ∀ X, slB sl = some X → h.length ≤ X) (o : OpR rows b'.ops) (e1 : b'.nx = b.nx) (e2 : b'.es = b.es) (e3 : b'.is.length = 128) :
    WentM h (g.set M (some ⟨true, [.int .i64 (b.nx : Int), sl, zv]⟩)) M b' ov zv := by
  have hM := K.get A.obj
  have hMl := lt_of_get A.obj
  have z : Frz g (g.set M (some ⟨true, [.int .i64 (b.nx : Int), sl, zv]⟩)) := fun X cs hX => by
    rw [set_ne (fun e => by subst e; rw [hM] at hX; cases hX)]; exact hX
  have k1 : ∀ X, slB sl = some X → (g.set M (some ⟨true, [.int .i64 (b.nx : Int), sl, zv]⟩))[X]? = g[X]? := fun X hX => set_ne (fun e => by have := hn X hX; omega) _
  have k2 : ∀ X, slB zv = some X → (g.set M (some ⟨true, [.int .i64 (b.nx : Int), sl, zv]⟩))[X]? = h[X]? := fun X hX => by
    rw [set_ne (fun e => A.s2 X hX e.symm), K.2 X (A.l2.lt hX)]
  obtain ⟨c2, r2, o2⟩ := A.en
  refine ⟨sl, zv, ⟨by rw [e1]; exact List.getElem?_set_self (lt_of_get hM), ⟨rows, R.keep fun X x hX hx => by rw [k1 X hX]; exact hx, o⟩, ⟨c2, by rw [e2]; exact r2.keep fun X x hX hx => by rw [k2 X hX]; exact hx, by rw [e2]; exact o2.frz (K.frz.trans z)⟩, e3, by rw [e1]; exact A.nx, fun X hX e => ?_, A.s2, fun X hX hz => ?_, O.keep k1, A.l2.keep k2⟩, (K.fr (ftM M ov zv)).trans (Fr.set (S := ftM M ov zv) _ (.inl rfl)) (fun X hX => .inl hX), fun X hX => ?_⟩
  · have := hn X hX; omega
  · have := hn X hX; have := A.l2.lt hz; omega
  · rcases hX with rfl | hX | hX
    · exact .inl (.inl rfl)
    · exact .inr (hn X hX)
    · exact .inl (.inr (.inr hX))
section
variable {P : Program} {K : Env → AHeap → Prop} {r : List XOper} {ρ : Env} {h : AHeap} {d : Option Nat} {st : List (Nat × Option (Nat × Bool) × XOp)}
theorem bs0_run (hK : ∀ g R, Kp h g → g[R]? = some (some ⟨true, []⟩) → h.length ≤ R → stab ρ g st ∧ xops P K r (put d (.slice (some ⟨R, 0, none⟩) 0 0) ρ) g) : xops P K (⟨d, none, .bslice 0 [] [], st⟩ :: r) ρ h := by
  rw [x_bslice]
  simp only [xop, evParts, Option.bind_some, Option.map_some, fillL]
  exact hK (h ++ [some ⟨true, []⟩]) h.length (Kp.app _ _) (by rw [app_new0]; rfl) (Nat.le_refl _)
theorem bs5_run {x : XA} {a b c e f z0 z1 z2 z3 z4 : Value} (hx : ev ρ x = some (.agg #[a, b, c, e, f])) (hK : ∀ g R, Kp h g → g[R]? = some (some ⟨true, [a, b, c, e, f]⟩) → h.length ≤ R → stab ρ g st ∧ xops P K r (put d (.slice (some ⟨R, 0, none⟩) 1 1) ρ) g) : xops P K (⟨d, none, .bslice 1 [z0, z1, z2, z3, z4] [(0, (5, x))], st⟩ :: r) ρ h := by
  rw [x_bslice]
  simp only [xop, evParts, hx, Option.bind_some, Option.map_some, fillL, cellsL, List.length_cons, List.length_nil, setN, List.set_cons_zero, List.set_cons_succ]
  exact hK (h ++ [some ⟨true, [a, b, c, e, f]⟩]) h.length (Kp.app _ _) (by rw [app_new0]; rfl) (Nat.le_refl _)
/-- .. above a heap that stays -/
theorem mappK_run {k by_ : Nat} {z : List Value} (hz : z.length = k) (hk : 0 < k) {n m : Nat} {rows news : List Value} {s x : XA} {sl xv : Value} {g0 : AHeap} (K0 : Kp g0 h) (hn0 : ∀ X, slB sl = some X → g0.length ≤ X)
    (hs : ev ρ s = some sl) (hx : ev ρ x = some xv) (hl : lenV xv = some m) (hf : firstV k h m xv = some news) (hnl : news.length = m * k) (h1 : news.all oneC = true) (R : Ret k h sl n rows) (O : Ow h sl) (hb : (n + m) * by_ ≤ 140737488355328) (hb2 : n + m ≤ 9223372036854775807)
    (hK : ∀ g sl', Kp g0 g → (∀ X, slB sl' = some X → g0.length ≤ X) → Ret k g sl' (n + m) (rows ++ news) → Ow g sl' → (∀ X x, slB sl ≠ some X → h[X]? = some x → g[X]? = some x) → (∀ X, slB sl' = some X → slB sl = some X ∨ h.length ≤ X) → stab ρ g st ∧ xops P K r (put d sl' ρ) g) :
    xops P K (⟨d, none, .append k by_ z s x, st⟩ :: r) ρ h :=
  mapp_run hz hk hs hx hl hf hnl h1 R O hb hb2 fun g sl' R' O' F n' z' => hK g sl' ⟨Nat.le_trans K0.1 F.1, fun X hX => by
    rw [F.2 X (Nat.lt_of_lt_of_le hX K0.1) (fun h1 => by have := hn0 X h1; omega)]; exact K0.2 X hX⟩ (fun X hX => (n' X hX).elim (hn0 X) fun h => Nat.le_trans K0.1 h) R' O' (fun X x hX hx => by rw [F.2 X (lt_of_get hx) hX]; exact hx) n'
end
def MkI (h0 : AHeap) (M : Nat) (b : Bk) (op cl wt : Int) (m : Nat) (ρ : Env) (h : AHeap) : Prop := ∃ nx, nx < 128 ∧ get ρ 9 = some (.int .i64 (nx : Nat)) ∧ get ρ 0 = some (.pointer (some ⟨M, 0, none⟩)) ∧ get ρ 1 = some (.int .i64 op) ∧ get ρ 2 = some (.int .u8 cl) ∧ get ρ 3 = some (.int .i64 wt) ∧ h = h0 ∧ askF b.is nx m = askF b.is b.nx 128
def MkE (h0 : AHeap) (M : Nat) (op cl wt : Int) (i : Nat) (ρ : Env) (h : AHeap) : Prop := get ρ 9 = some (.int .i64 (i : Nat)) ∧ get ρ 0 = some (.pointer (some ⟨M, 0, none⟩)) ∧ get ρ 1 = some (.int .i64 op) ∧ get ρ 2 = some (.int .u8 cl) ∧ get ρ 3 = some (.int .i64 wt) ∧ h = h0
def MpI (h0 : AHeap) (M : Nat) (b : Bk) (op cl wt : Int) (i : Nat) (m : Nat) (ρ : Env) (h : AHeap) : Prop := ∃ k : Nat, k + m = b.pos i ∧ get ρ 10 = some (.int .i64 (k : Nat)) ∧ MkE h0 M op cl wt i ρ h
def MpE (h0 : AHeap) (M : Nat) (b : Bk) (op cl wt : Int) (i : Nat) (ρ : Env) (h : AHeap) : Prop := get ρ 10 = some (.int .i64 (b.pos i : Nat)) ∧ MkE h0 M op cl wt i ρ h
def MaskP (h : AHeap) (M : Nat) (b : Bk) (ov zv : Value) (op cl wt : Int) (r : Value) (h' : AHeap) : Prop := WentM h h' M (b.ask op cl wt).1 ov zv ∧ r = match (b.ask op cl wt).2 with
  | some i => .int .i64 (i : Int)
  | none => .int .i64 (-1)
theorem atI_lt {b : Bk} {id : Int} (ho : b.isO id = false) : b.atI id = -1 := by unfold Bk.atI; rw [ho, if_neg (by decide)]
theorem ask_full {b : Bk} (hn : b.is.length = 128) (hf : b.cnt = 128) : ∀ k nx, nx < 128 → askF b.is nx k = none
  | 0, nx, _ => rfl
  | k + 1, nx, hnx => by
    have : b.is.countP opn = b.is.length := by rw [hn]; exact hf
    rw [List.countP_eq_length] at this
    unfold askF
    rw [List.getElem?_eq_getElem (by omega), Option.getD_some, this _ (List.getElem_mem _), if_neg (by decide)]
    exact ask_full hn hf k _ (Nat.mod_lt _ (by decide))
theorem ask_free {b : Bk} (hn : b.is.length = 128) (hx : b.nx < 128) (hf : b.cnt ≠ 128) : ∃ i, askF b.is b.nx 128 = some i := by
  cases hi : askF b.is b.nx 128 with
  | some i => exact ⟨i, rfl⟩
  | none =>
    exfalso
    have := askF_none 128 hi
    apply hf
    show b.is.countP opn = 128
    rw [← hn, List.countP_eq_length]
    intro a ha
    obtain ⟨k, hk, rfl⟩ := List.getElem_of_mem ha
    rcases this ((k + 128 - b.nx) % 128) (Nat.mod_lt _ (by decide)) with h | h
    · rw [show (b.nx + (k + 128 - b.nx) % 128) % 128 = k by omega, List.getElem?_eq_getElem hk] at h
      exact h
    · omega
set_option maxHeartbeats 8000000 in
set_option maxRecDepth 20000 in
theorem mask_ok {h : AHeap} {M : Nat} {b : Bk} {ov zv : Value} {op cl wt : Int} (A : MAt h M b ov zv) (hc : cl ≠ 0) : Valid Try.prog 22 [.pointer (some ⟨M, 0, none⟩), .int .i64 op, .int .u8 cl, .int .i64 wt] h fun r h' => MaskP h M b ov zv op cl wt r h' := by
  refine v22 (by simp) ?_
  have hM := A.obj
  obtain ⟨q, c, hov⟩ := A.lenV
  have hcl : b.cnt ≤ 128 := by unfold Bk.cnt; exact Nat.le_trans List.countP_le_length (by have := A.n; omega)
  by_cases hf : b.cnt = 128
  · have hf' : ((b.cnt : Nat) : Int) = 128 := by omega
    subst hov
    simp only [X22, sx, x_box, x_alloc, x_bslice, x_slice, x_append, x_appz, x_b2s, x_s2b, x_mark, xop, ev, evs, evParts, fillL, cellsL, Ai.get, Ai.put, stab, isNil?, if_false, if_true, addr?, int?, str?, agg?, bool?, shiftA, FnPost, xresL, xres1, tup, argEnv, ptr, Nat.reduceEqDiff, reduceIte, beq_self_eq_true, ne_eq, Nat.reduceAdd, Nat.reduceMul, Nat.reduceSub, abin_shl, abin_shr, load1V, loadV, storeV, cellsAt, getN, setN, allocV, lenL, lenS, bnd, oneC, Value.oneCell', Nat.reduceLeDiff, Nat.reduceLT, exists_eq_left', forall_const, reduceCtorEq, app_new, app_new0, List.append_assoc, Int.reduceToNat, Int.reduceLT, Int.reduceLE, Int.reduceEq, Int.reduceNe, Int.reduceBEq, IntKind.bits, bne_self_eq_false, Int.reducePow, hM, hf']
    have e := ask_full A.n hf 128 b.nx A.nx
    unfold MaskP Bk.ask
    rw [e]
    exact ⟨A.same (Kp.refl _), rfl⟩
  have hf' : ¬ ((b.cnt : Nat) : Int) = 128 := by omega
  obtain ⟨i, hi⟩ := ask_free A.n A.nx hf
  obtain ⟨hi128, hio⟩ := askF_lt 128 A.nx hi
  obtain ⟨x, hx⟩ : ∃ x, b.is[i]? = some x := ⟨_, List.getElem?_eq_getElem (l := b.is) (i := i) (by rw [A.n]; exact hi128)⟩
  rw [hx, Option.getD_some] at hio
  have hnb := A.nx
  subst hov
  simp only [X22, sx, x_box, x_alloc, x_bslice, x_slice, x_append, x_appz, x_b2s, x_s2b, x_mark, xop, ev, evs, evParts, fillL, cellsL, Ai.get, Ai.put, stab, isNil?, if_false, if_true, addr?, int?, str?, agg?, bool?, shiftA, FnPost, xresL, xres1, tup, argEnv, ptr, Nat.reduceEqDiff, reduceIte, beq_self_eq_true, ne_eq, Nat.reduceAdd, Nat.reduceMul, Nat.reduceSub, abin_shl, abin_shr, load1V, loadV, storeV, cellsAt, getN, setN, allocV, lenL, lenS, bnd, oneC, Value.oneCell', Nat.reduceLeDiff, Nat.reduceLT, exists_eq_left', forall_const, reduceCtorEq, app_new, app_new0, List.append_assoc, Int.reduceToNat, Int.reduceLT, Int.reduceLE, Int.reduceEq, Int.reduceNe, Int.reduceBEq, IntKind.bits, bne_self_eq_false, Int.reducePow, hM, hf']
  refine xloop_cut (MkE h M op cl wt i) ?_ ?_
  · refine xcode_loop (MkI h M b op cl wt) 128 ⟨b.nx, hnb, rfl, rfl, rfl, rfl, rfl, rfl, rfl⟩ ?_
    rintro m ρ g ⟨nx, hnx, g9, g0, g1, g2, g3, e0, hn⟩
    subst e0
    obtain ⟨xn, hxn⟩ : ∃ x, b.is[nx]? = some x := ⟨_, List.getElem?_eq_getElem (l := b.is) (i := nx) (by rw [A.n]; exact hnx)⟩
    have n128 : ¬ (128 : Int) = 0 := by decide
    have wn : IntKind.i64.wrap ((nx : Int) + 1) = ((nx + 1 : Nat) : Int) := by rw [i64_wrap] <;> omega
    have wm : (((nx + 1 : Nat) : Int)).tmod 128 = (((nx + 1) % 128 : Nat) : Int) := by rw [Int.tmod_eq_emod_of_nonneg (by omega)]; omega
    simp only [sx, x_box, x_alloc, x_bslice, x_slice, x_append, x_appz, x_b2s, x_s2b, x_mark, xop, ev, evs, evParts, fillL, cellsL, Ai.get, Ai.put, stab, isNil?, if_false, if_true, addr?, int?, str?, agg?, bool?, shiftA, FnPost, xresL, xres1, tup, argEnv, ptr, Nat.reduceEqDiff, reduceIte, beq_self_eq_true, ne_eq, Nat.reduceAdd, Nat.reduceMul, Nat.reduceSub, abin_shl, abin_shr, load1V, loadV, storeV, cellsAt, getN, setN, allocV, lenL, lenS, bnd, oneC, Value.oneCell', Nat.reduceLeDiff, Nat.reduceLT, exists_eq_left', forall_const, reduceCtorEq, app_new, app_new0, List.append_assoc, Int.reduceToNat, Int.reduceLT, Int.reduceLE, Int.reduceEq, Int.reduceNe, Int.reduceBEq, IntKind.bits, bne_self_eq_false, Int.reducePow, g9, g0]
    refine xcall (at_ok (id := (nx : Int)) A) (by rfl) (by rfl) (by rfl) (by rfl) ?_
    rintro r g' ⟨rfl, e0⟩
    subst e0
    obtain ⟨m', rfl⟩ : ∃ m', m = m' + 1 := by
      cases m with
      | zero => exfalso; rw [hi] at hn; cases hn
      | succ m' => exact ⟨m', rfl⟩
    cases ho : opn xn
    · have e1 : b.atI (nx : Int) = -1 := atI_lt (by rw [isO_at hnx hxn]; exact ho)
      have e2 : ¬ (0 : Int) ≤ -1 := by decide
      rw [e1]
      simp only [sx, x_box, x_alloc, x_bslice, x_slice, x_append, x_appz, x_b2s, x_s2b, x_mark, xop, ev, evs, evParts, fillL, cellsL, Ai.get, Ai.put, stab, isNil?, if_false, if_true, addr?, int?, str?, agg?, bool?, shiftA, FnPost, xresL, xres1, tup, argEnv, ptr, Nat.reduceEqDiff, reduceIte, beq_self_eq_true, ne_eq, Nat.reduceAdd, Nat.reduceMul, Nat.reduceSub, abin_shl, abin_shr, load1V, loadV, storeV, cellsAt, getN, setN, allocV, lenL, lenS, bnd, oneC, Value.oneCell', Nat.reduceLeDiff, Nat.reduceLT, exists_eq_left', forall_const, reduceCtorEq, app_new, app_new0, List.append_assoc, Int.reduceToNat, Int.reduceLT, Int.reduceLE, Int.reduceEq, Int.reduceNe, Int.reduceBEq, IntKind.bits, bne_self_eq_false, Int.reducePow, e2]
      have : askF b.is nx (m' + 1) = some nx := by
        unfold askF; rw [hxn, Option.getD_some, ho, if_pos rfl]
      rw [this, hi] at hn
      have : nx = i := Option.some.inj hn
      subst this
      exact ⟨g9, g0, g1, g2, g3, rfl⟩
    · have e1 : b.atI (nx : Int) = (b.pos nx : Int) := atI_nat hxn A.n ho
      have e2 : (0 : Int) ≤ (b.pos nx : Int) := by omega
      rw [e1]
      simp only [sx, x_box, x_alloc, x_bslice, x_slice, x_append, x_appz, x_b2s, x_s2b, x_mark, xop, ev, evs, evParts, fillL, cellsL, Ai.get, Ai.put, stab, isNil?, if_false, if_true, addr?, int?, str?, agg?, bool?, shiftA, FnPost, xresL, xres1, tup, argEnv, ptr, Nat.reduceEqDiff, reduceIte, beq_self_eq_true, ne_eq, Nat.reduceAdd, Nat.reduceMul, Nat.reduceSub, abin_shl, abin_shr, load1V, loadV, storeV, cellsAt, getN, setN, allocV, lenL, lenS, bnd, oneC, Value.oneCell', Nat.reduceLeDiff, Nat.reduceLT, exists_eq_left', forall_const, reduceCtorEq, app_new, app_new0, List.append_assoc, Int.reduceToNat, Int.reduceLT, Int.reduceLE, Int.reduceEq, Int.reduceNe, Int.reduceBEq, IntKind.bits, bne_self_eq_false, Int.reducePow, abin_rem, e2, n128, g9, wn, wm]
      refine ⟨m', by omega, (nx + 1) % 128, Nat.mod_lt _ (by decide), rfl, g0, g1, g2, g3, rfl, ?_⟩
      rw [← hn]
      conv => rhs; unfold askF
      rw [hxn, Option.getD_some, ho, if_neg (by decide)]
  rintro ρ g ⟨g9, g0, g1, g2, g3, e0⟩
  subst e0
  have n128 : ¬ (128 : Int) = 0 := by decide
  have wn : IntKind.i64.wrap ((i : Int) + 1) = ((i + 1 : Nat) : Int) := by rw [i64_wrap] <;> omega
  have wm : (((i + 1 : Nat) : Int)).tmod 128 = (((i + 1) % 128 : Nat) : Int) := by rw [Int.tmod_eq_emod_of_nonneg (by omega)]; omega
  have hMs : ∀ y : Option AObj, (g.set M y)[M]? = some y := fun y => List.getElem?_set_self (lt_of_get hM)
  simp only [sx, x_box, x_alloc, x_bslice, x_slice, x_append, x_appz, x_b2s, x_s2b, x_mark, xop, ev, evs, evParts, fillL, cellsL, Ai.get, Ai.put, stab, isNil?, if_false, if_true, addr?, int?, str?, agg?, bool?, shiftA, FnPost, xresL, xres1, tup, argEnv, ptr, Nat.reduceEqDiff, reduceIte, beq_self_eq_true, ne_eq, Nat.reduceAdd, Nat.reduceMul, Nat.reduceSub, abin_shl, abin_shr, load1V, loadV, storeV, cellsAt, getN, setN, allocV, lenL, lenS, bnd, oneC, Value.oneCell', Nat.reduceLeDiff, Nat.reduceLT, exists_eq_left', forall_const, reduceCtorEq, app_new, app_new0, List.append_assoc, Int.reduceToNat, Int.reduceLT, Int.reduceLE, Int.reduceEq, Int.reduceNe, Int.reduceBEq, IntKind.bits, bne_self_eq_false, Int.reducePow, abin_rem, g9, g0, hM, n128, wn, wm]
  have hM2 := hMs (some ⟨true, [Value.int .i64 (((i + 1) % 128 : Nat) : Int), .slice q b.cnt c, zv]⟩)
  have A2 : MAt (g.set M (some ⟨true, [Value.int .i64 (((i + 1) % 128 : Nat) : Int), .slice q b.cnt c, zv]⟩)) M { b with nx := (i + 1) % 128 } (.slice q b.cnt c) zv := by
    have z : Frz g (g.set M (some ⟨true, [Value.int .i64 (((i + 1) % 128 : Nat) : Int), .slice q b.cnt c, zv]⟩)) := fun X cs hX => by
      rw [set_ne (fun e => by subst e; rw [hM] at hX; cases hX)]; exact hX
    have h1 : ∀ X, slB (.slice q b.cnt c) = some X → (g.set M (some ⟨true, [Value.int .i64 (((i + 1) % 128 : Nat) : Int), .slice q b.cnt c, zv]⟩))[X]? = g[X]? := fun X hX => set_ne (fun e => A.s1 X hX e.symm) _
    have h2 : ∀ X, slB zv = some X → (g.set M (some ⟨true, [Value.int .i64 (((i + 1) % 128 : Nat) : Int), .slice q b.cnt c, zv]⟩))[X]? = g[X]? := fun X hX => set_ne (fun e => A.s2 X hX e.symm) _
    obtain ⟨c1, r1, o1⟩ := A.op
    obtain ⟨c2, r2, o2⟩ := A.en
    exact ⟨hM2, ⟨c1, r1.keep fun X x hX hx => by rw [h1 X hX]; exact hx, o1⟩, ⟨c2, r2.keep fun X x hX hx => by rw [h2 X hX]; exact hx, o2.frz z⟩, A.n, Nat.mod_lt _ (by decide), A.s1, A.s2, A.s3, A.l1.keep h1, A.l2.keep h2⟩
  have F2 : Fr (ftM M (.slice q b.cnt c) zv) g (g.set M (some ⟨true, [Value.int .i64 (((i + 1) % 128 : Nat) : Int), .slice q b.cnt c, zv]⟩)) := Fr.set _ (.inl rfl)
  generalize g.set M (some (AObj.mk true [Value.int .i64 (((i + 1) % 128 : Nat) : Int), .slice q b.cnt c, zv])) = g2' at *
  have hpl := pos_le b i
  refine xloop_cut (MpE g2' M b op cl wt i) ?_ ?_
  · refine xcode_loop (MpI g2' M b op cl wt i) (b.pos i) ⟨0, by omega, rfl, g9, g0, g1, g2, g3, rfl⟩ ?_
    rintro m ρ h' ⟨k, hkm, g10, g9, g0, g1, g2, g3, e0⟩
    subst e0
    have wk : IntKind.i64.wrap ((k : Int) + 1) = ((k + 1 : Nat) : Int) := by rw [i64_wrap] <;> omega
    have hk0 : (0 : Int) ≤ (k : Int) := by omega
    by_cases hkc : k < b.cnt
    · have hkc' : (k : Int) < (b.cnt : Nat) := by omega
      rcases A2.rows with ⟨h0, -⟩ | ⟨R, cells, e1, hR, o⟩
      · exact absurd h0 (by show ¬ b.cnt = 0; omega)
      simp only [Value.slice.injEq] at e1
      obtain ⟨rfl, -, rfl⟩ := e1
      obtain ⟨e, he⟩ : ∃ e, b.ops[k]? = some e := ⟨_, List.getElem?_eq_getElem (by rw [ops_len]; exact hkc)⟩
      obtain ⟨se, hse, hg, hj⟩ := o.get he
      have h0c := hj 0 (by decide)
      have r0 : (mrow e se)[0]? = some (.int .i64 (e.1 : Int)) := rfl
      rw [r0, Nat.add_zero] at h0c
      by_cases hkp : k < b.pos i
      · have hlt := pos_lt hx he hkp
        have hlt' : (e.1 : Int) < (i : Int) := by omega
        simp only [sx, x_box, x_alloc, x_bslice, x_slice, x_append, x_appz, x_b2s, x_s2b, x_mark, xop, ev, evs, evParts, fillL, cellsL, Ai.get, Ai.put, stab, isNil?, if_false, if_true, addr?, int?, str?, agg?, bool?, shiftA, FnPost, xresL, xres1, tup, argEnv, ptr, Nat.reduceEqDiff, reduceIte, beq_self_eq_true, ne_eq, Nat.reduceAdd, Nat.reduceMul, Nat.reduceSub, abin_shl, abin_shr, load1V, loadV, storeV, cellsAt, getN, setN, allocV, lenL, lenS, bnd, oneC, Value.oneCell', Nat.reduceLeDiff, Nat.reduceLT, exists_eq_left', forall_const, reduceCtorEq, app_new, app_new0, List.append_assoc, Int.reduceToNat, Int.reduceLT, Int.reduceLE, Int.reduceEq, Int.reduceNe, Int.reduceBEq, IntKind.bits, bne_self_eq_false, Int.reducePow, g10, g0, g9, hM2, hkc', hk0, hR, h0c, hlt', wk]
        exact ⟨m - 1, by omega, k + 1, by omega, rfl, g9, g0, g1, g2, g3, rfl⟩
      · have hgt := pos_ge hx hio he (by omega)
        have hlt' : ¬ (e.1 : Int) < (i : Int) := by omega
        have : k = b.pos i := by omega
        subst this
        simp only [sx, x_box, x_alloc, x_bslice, x_slice, x_append, x_appz, x_b2s, x_s2b, x_mark, xop, ev, evs, evParts, fillL, cellsL, Ai.get, Ai.put, stab, isNil?, if_false, if_true, addr?, int?, str?, agg?, bool?, shiftA, FnPost, xresL, xres1, tup, argEnv, ptr, Nat.reduceEqDiff, reduceIte, beq_self_eq_true, ne_eq, Nat.reduceAdd, Nat.reduceMul, Nat.reduceSub, abin_shl, abin_shr, load1V, loadV, storeV, cellsAt, getN, setN, allocV, lenL, lenS, bnd, oneC, Value.oneCell', Nat.reduceLeDiff, Nat.reduceLT, exists_eq_left', forall_const, reduceCtorEq, app_new, app_new0, List.append_assoc, Int.reduceToNat, Int.reduceLT, Int.reduceLE, Int.reduceEq, Int.reduceNe, Int.reduceBEq, IntKind.bits, bne_self_eq_false, Int.reducePow, g10, g0, g9, hM2, hkc', hk0, hR, h0c, hlt']
        exact ⟨g10, g9, g0, g1, g2, g3, rfl⟩
    · have hkc' : ¬ (k : Int) < (b.cnt : Nat) := by omega
      have : k = b.pos i := by omega
      subst this
      simp only [sx, x_box, x_alloc, x_bslice, x_slice, x_append, x_appz, x_b2s, x_s2b, x_mark, xop, ev, evs, evParts, fillL, cellsL, Ai.get, Ai.put, stab, isNil?, if_false, if_true, addr?, int?, str?, agg?, bool?, shiftA, FnPost, xresL, xres1, tup, argEnv, ptr, Nat.reduceEqDiff, reduceIte, beq_self_eq_true, ne_eq, Nat.reduceAdd, Nat.reduceMul, Nat.reduceSub, abin_shl, abin_shr, load1V, loadV, storeV, cellsAt, getN, setN, allocV, lenL, lenS, bnd, oneC, Value.oneCell', Nat.reduceLeDiff, Nat.reduceLT, exists_eq_left', forall_const, reduceCtorEq, app_new, app_new0, List.append_assoc, Int.reduceToNat, Int.reduceLT, Int.reduceLE, Int.reduceEq, Int.reduceNe, Int.reduceBEq, IntKind.bits, bne_self_eq_false, Int.reducePow, g10, g0, g9, hM2, hkc']
      exact ⟨g10, g9, g0, g1, g2, g3, rfl⟩
  rintro ρ2 g' ⟨g10, g9, g0, g1, g2, g3, e0⟩
  subst e0
  simp only [sx, x_box, x_bslice, x_appz, x_b2s, x_s2b, x_mark, xop, ev, evs, evParts, fillL, cellsL, Ai.get, Ai.put, stab, isNil?, if_false, if_true, addr?, int?, str?, agg?, bool?, shiftA, FnPost, xresL, xres1, tup, argEnv, ptr, Nat.reduceEqDiff, reduceIte, beq_self_eq_true, ne_eq, Nat.reduceAdd, Nat.reduceMul, Nat.reduceSub, abin_shl, abin_shr, load1V, loadV, storeV, cellsAt, getN, setN, allocV, lenL, lenS, bnd, oneC, Value.oneCell', Nat.reduceLeDiff, Nat.reduceLT, exists_eq_left', forall_const, reduceCtorEq, app_new, app_new0, List.append_assoc, Int.reduceToNat, Int.reduceLT, Int.reduceLE, Int.reduceEq, Int.reduceNe, Int.reduceBEq, IntKind.bits, bne_self_eq_false, Int.reducePow, g10, g9, g0, g1, g2, g3, hM2]
  refine alloc_run fun g4 T K4 hT hTl _ => ⟨trivial, ?_⟩
  have hTs : ∀ y : Option AObj, (g4.set T y)[T]? = some y := fun y => List.getElem?_set_self (lt_of_get hT)
  have K5 := K4.set hTl (some ⟨true, mrow (i, ⟨op, cl, wt, []⟩) ByteArray.empty⟩)
  have hT5 := hTs (some ⟨true, mrow (i, ⟨op, cl, wt, []⟩) ByteArray.empty⟩)
  have hM5 := K5.get hM2
  have A5 := A2.kp K5
  simp only [mrow] at hT5 hM5 A5 K5
  have em : ByteArray.mk #[] = ByteArray.empty := rfl
  obtain ⟨v68, v78, hl68, hl78, ⟨cells, o, hfv⟩, hs68, hs78⟩ := A5.cut (p := b.pos i) hpl hcl
  simp only [sx, x_box, x_alloc, x_bslice, x_appz, x_b2s, x_s2b, x_mark, xop, ev, evs, evParts, fillL, cellsL, Ai.get, Ai.put, stab, isNil?, if_false, if_true, addr?, int?, str?, agg?, bool?, shiftA, FnPost, xresL, xres1, tup, argEnv, ptr, Nat.reduceEqDiff, reduceIte, beq_self_eq_true, ne_eq, Nat.reduceAdd, Nat.reduceMul, Nat.reduceSub, abin_shl, abin_shr, load1V, loadV, storeV, cellsAt, getN, setN, allocV, lenL, lenS, bnd, oneC, Value.oneCell', Nat.reduceLeDiff, Nat.reduceLT, exists_eq_left', forall_const, reduceCtorEq, app_new, app_new0, List.append_assoc, Int.reduceToNat, Int.reduceLT, Int.reduceLE, Int.reduceEq, Int.reduceNe, Int.reduceBEq, IntKind.bits, bne_self_eq_false, Int.reducePow, hT, em, g0, hM5, g10]
  rw [x_slice, hs68 _ _ _ _ (by rfl) (by rfl), xthen_some]
  refine ⟨trivial, ?_⟩
  simp only [sx, x_box, x_alloc, x_bslice, x_appz, x_b2s, x_s2b, x_mark, xop, ev, evs, evParts, fillL, cellsL, Ai.get, Ai.put, stab, isNil?, if_false, if_true, addr?, int?, str?, agg?, bool?, shiftA, FnPost, xresL, xres1, tup, argEnv, ptr, Nat.reduceEqDiff, reduceIte, beq_self_eq_true, ne_eq, Nat.reduceAdd, Nat.reduceMul, Nat.reduceSub, abin_shl, abin_shr, load1V, loadV, storeV, cellsAt, setN, allocV, lenL, lenS, bnd, oneC, Value.oneCell', Nat.reduceLeDiff, Nat.reduceLT, exists_eq_left', forall_const, reduceCtorEq, app_new, app_new0, List.append_assoc, Int.reduceToNat, Int.reduceLT, Int.reduceLE, Int.reduceEq, Int.reduceNe, Int.reduceBEq, IntKind.bits, bne_self_eq_false, Int.reducePow, hT5, g0, hM5, g10]
  have hl5 : ∀ a b c d e : Value, getN [a, b, c, d, e] 0 5 = some [a, b, c, d, e] := fun a b c d e => rfl
  simp only [sx, x_box, x_alloc, x_bslice, x_appz, x_b2s, x_s2b, x_mark, xop, ev, evs, evParts, fillL, cellsL, Ai.get, Ai.put, stab, isNil?, if_false, if_true, addr?, int?, str?, agg?, bool?, shiftA, FnPost, xresL, xres1, tup, argEnv, ptr, Nat.reduceEqDiff, reduceIte, beq_self_eq_true, ne_eq, Nat.reduceAdd, Nat.reduceMul, Nat.reduceSub, abin_shl, abin_shr, load1V, loadV, storeV, cellsAt, setN, allocV, lenL, lenS, bnd, oneC, Value.oneCell', Nat.reduceLeDiff, Nat.reduceLT, exists_eq_left', forall_const, reduceCtorEq, app_new, app_new0, List.append_assoc, Int.reduceToNat, Int.reduceLT, Int.reduceLE, Int.reduceEq, Int.reduceNe, Int.reduceBEq, IntKind.bits, bne_self_eq_false, Int.reducePow, hT5, g0, hM5, g10, hl5]
  rw [x_slice, hs78 _ _ _ _ (by rfl) (by rfl), xthen_some]
  refine ⟨trivial, ?_⟩
  have A5' : MAt _ M { b with nx := (i + 1) % 128 } (.slice q b.cnt c) zv := A5
  have hg : (g4.set T (some ⟨true, mrow (i, ⟨op, cl, wt, []⟩) ByteArray.empty⟩)).length = g4.length := by simp
  simp only [mrow] at hg
  have F5 : Fr (ftM M (.slice q b.cnt c) zv) g (g4.set T (some (AObj.mk true [.int .i64 (i : Int), .int .i64 op, .int .u8 cl, .int .i64 wt, .string ByteArray.empty]))) := F2.trans (K5.fr _) fun X hX => .inl hX
  clear F2 K4 K5
  generalize g4.set T (some (AObj.mk true [.int .i64 (i : Int), .int .i64 op, .int .u8 cl, .int .i64 wt, .string ByteArray.empty])) = g5 at *
  have hcell : cells.length = b.cnt * 5 := by rw [o.len, ops_len]; rfl
  have o' : OpR cells b.ops := o
  have osp := OpR.split (l1 := b.ops.take (b.pos i)) (l2 := b.ops.drop (b.pos i)) (by rw [List.take_append_drop]; exact o')
  have tl : (b.ops.take (b.pos i)).length = b.pos i := by rw [List.length_take, ops_len]; omega
  rw [tl] at osp
  have hopn : opn ⟨op, cl, wt, []⟩ = true := by unfold opn; simp [hc]
  have hops : Bk.ops ⟨b.is.set i ⟨op, cl, wt, []⟩, (i + 1) % 128, b.es⟩ = b.ops.take (b.pos i) ++ [(i, ⟨op, cl, wt, []⟩)] ++ b.ops.drop (b.pos i) := ops_in hx hio _ hopn _ _
  have hopsl : (Bk.ops ⟨b.is.set i ⟨op, cl, wt, []⟩, (i + 1) % 128, b.es⟩).length = 0 + b.pos i + 1 + (b.cnt - b.pos i) := by rw [hops, List.length_append, List.length_append, tl, List.length_drop, ops_len, List.length_cons, List.length_nil]; omega
  have hrow : OpR [.int .i64 (i : Int), .int .i64 op, .int .u8 cl, .int .i64 wt, .string ByteArray.empty] [(i, (⟨op, cl, wt, []⟩ : Iv))] := OpR.one (e := (i, ⟨op, cl, wt, []⟩)) (s := ByteArray.empty) rfl
  have hnew : OpR ([] ++ cells.take (b.pos i * 5) ++ [.int .i64 (i : Int), .int .i64 op, .int .u8 cl, .int .i64 wt, .string ByteArray.empty] ++ cells.drop (b.pos i * 5)) (Bk.ops ⟨b.is.set i ⟨op, cl, wt, []⟩, (i + 1) % 128, b.es⟩) := by
    rw [hops]; exact (osp.1.app hrow).app osp.2
  have hAl := A5'.l1
  have kv : ∀ {g6 : AHeap}, Kp g5 g6 → ∀ X, slB (.slice q b.cnt c) = some X → g6[X]? = g5[X]? := fun {g6} K X hX => K.2 X (hAl.lt hX)
  have fin : ∀ {g9 : AHeap} {q9 : Option Addr} {n9 c9 : Nat}, Kp g5 g9 → (∀ X, slB (.slice q9 n9 c9) = some X → g5.length ≤ X) → Ret 5 g9 (.slice q9 n9 c9) (0 + b.pos i + 1 + (b.cnt - b.pos i)) ([] ++ cells.take (b.pos i * 5) ++ [.int .i64 (i : Int), .int .i64 op, .int .u8 cl, .int .i64 wt, .string ByteArray.empty] ++ cells.drop (b.pos i * 5)) → Ow g9 (.slice q9 n9 c9) →
      MaskP g M b (.slice q b.cnt c) zv op cl wt (.int .i64 (i : Int)) (g9.set M (some ⟨true, [.int .i64 (((i + 1) % 128 : Nat) : Int), .slice q9 n9 c9, zv]⟩)) := fun {g9 q9 n9 c9} K hn R O => by
    have W := A5'.putOps (b' := ⟨b.is.set i ⟨op, cl, wt, []⟩, (i + 1) % 128, b.es⟩) K (by rw [hopsl]; exact R) O hn hnew rfl rfl (by show (b.is.set _ _).length = 128; rw [List.length_set]; exact A.n)
    unfold MaskP Bk.ask
    rw [hi]
    obtain ⟨ov', zv', A', F', n'⟩ := W
    refine ⟨⟨ov', zv', A', F5.trans F' fun X hX => .inl hX, fun X hX => ?_⟩, rfl⟩
    have := F5.1
    rcases n' X hX with h | h
    · exact .inl h
    · exact .inr (by omega)
  simp only [sx, x_box, x_alloc, x_appz, x_b2s, x_s2b, x_mark, xop, ev, evs, evParts, fillL, cellsL, Ai.get, Ai.put, stab, isNil?, if_false, if_true, addr?, int?, str?, agg?, bool?, shiftA, FnPost, xresL, xres1, tup, argEnv, ptr, Nat.reduceEqDiff, reduceIte, beq_self_eq_true, ne_eq, Nat.reduceAdd, Nat.reduceMul, Nat.reduceSub, abin_shl, abin_shr, load1V, loadV, storeV, cellsAt, getN, setN, allocV, lenL, lenS, bnd, oneC, Value.oneCell', Nat.reduceLeDiff, Nat.reduceLT, exists_eq_left', forall_const, reduceCtorEq, app_new, app_new0, List.append_assoc, Int.reduceToNat, Int.reduceLT, Int.reduceLE, Int.reduceEq, Int.reduceNe, Int.reduceBEq, IntKind.bits, bne_self_eq_false, Int.reducePow]
  refine ⟨?_, ?_⟩
  · refine bs0_run fun g6 L K6 hL' hLl' => ⟨by simp only [sx, x_box, x_alloc, x_bslice, x_slice, x_append, x_appz, x_b2s, x_s2b, x_mark, xop, ev, evs, evParts, fillL, cellsL, Ai.get, Ai.put, stab, isNil?, if_false, if_true, addr?, int?, str?, agg?, bool?, shiftA, FnPost, xresL, xres1, tup, argEnv, ptr, Nat.reduceEqDiff, reduceIte, beq_self_eq_true, ne_eq, Nat.reduceAdd, Nat.reduceMul, Nat.reduceSub, abin_shl, abin_shr, load1V, loadV, storeV, cellsAt, setN, allocV, lenL, lenS, bnd, oneC, Value.oneCell', Nat.reduceLeDiff, Nat.reduceLT, exists_eq_left', forall_const, reduceCtorEq, app_new, app_new0, List.append_assoc, Int.reduceToNat, Int.reduceLT, Int.reduceLE, Int.reduceEq, Int.reduceNe, Int.reduceBEq, IntKind.bits, bne_self_eq_false, Int.reducePow, K6.get hM5, K6.get hT5, hl5], ?_⟩
    simp only [sx, x_box, x_alloc, x_appz, x_b2s, x_s2b, x_mark, xop, ev, evs, evParts, fillL, cellsL, Ai.get, Ai.put, stab, isNil?, if_false, if_true, addr?, int?, str?, agg?, bool?, shiftA, FnPost, xresL, xres1, tup, argEnv, ptr, Nat.reduceEqDiff, reduceIte, beq_self_eq_true, ne_eq, Nat.reduceAdd, Nat.reduceMul, Nat.reduceSub, abin_shl, abin_shr, load1V, loadV, storeV, cellsAt, getN, setN, allocV, lenL, lenS, bnd, oneC, Value.oneCell', Nat.reduceLeDiff, Nat.reduceLT, exists_eq_left', forall_const, reduceCtorEq, app_new, app_new0, List.append_assoc, Int.reduceToNat, Int.reduceLT, Int.reduceLE, Int.reduceEq, Int.reduceNe, Int.reduceBEq, IntKind.bits, bne_self_eq_false, Int.reducePow]
    have hL := hL'
    refine ⟨?_, ?_⟩
    · skip
      refine mappK_run (k := 5) (by_ := 48) (n := 0) (m := b.pos i) (rows := []) (sl := .slice (some ⟨L, 0, none⟩) 0 0) (xv := v68) rfl (by decide) K6 (fun X hX => by cases hX; exact hLl') rfl rfl hl68 (hfv g6 (kv K6)).1 (by rw [List.length_take, hcell]; omega) osp.1.one1 ⟨rfl, .inr (.inl ⟨_, rfl, rfl⟩)⟩ (fun X hX => by cases hX; exact ⟨_, hL'⟩) (by omega) (by omega) fun g7 sl7 K7 n7 R7 O7 f7 b7 => ⟨by simp only [sx, x_box, x_alloc, x_bslice, x_slice, x_append, x_appz, x_b2s, x_s2b, x_mark, xop, ev, evs, evParts, fillL, cellsL, Ai.get, Ai.put, stab, isNil?, if_false, if_true, addr?, int?, str?, agg?, bool?, shiftA, FnPost, xresL, xres1, tup, argEnv, ptr, Nat.reduceEqDiff, reduceIte, beq_self_eq_true, ne_eq, Nat.reduceAdd, Nat.reduceMul, Nat.reduceSub, abin_shl, abin_shr, load1V, loadV, storeV, cellsAt, setN, allocV, lenL, lenS, bnd, oneC, Value.oneCell', Nat.reduceLeDiff, Nat.reduceLT, exists_eq_left', forall_const, reduceCtorEq, app_new, app_new0, List.append_assoc, Int.reduceToNat, Int.reduceLT, Int.reduceLE, Int.reduceEq, Int.reduceNe, Int.reduceBEq, IntKind.bits, bne_self_eq_false, Int.reducePow, K7.get hM5, K7.get hT5, hl5], ?_⟩
      refine bs5_run rfl fun g8 C K8 hC8 hCl => ⟨by simp only [sx, x_box, x_alloc, x_bslice, x_slice, x_append, x_appz, x_b2s, x_s2b, x_mark, xop, ev, evs, evParts, fillL, cellsL, Ai.get, Ai.put, stab, isNil?, if_false, if_true, addr?, int?, str?, agg?, bool?, shiftA, FnPost, xresL, xres1, tup, argEnv, ptr, Nat.reduceEqDiff, reduceIte, beq_self_eq_true, ne_eq, Nat.reduceAdd, Nat.reduceMul, Nat.reduceSub, abin_shl, abin_shr, load1V, loadV, storeV, cellsAt, setN, allocV, lenL, lenS, bnd, oneC, Value.oneCell', Nat.reduceLeDiff, Nat.reduceLT, exists_eq_left', forall_const, reduceCtorEq, app_new, app_new0, List.append_assoc, Int.reduceToNat, Int.reduceLT, Int.reduceLE, Int.reduceEq, Int.reduceNe, Int.reduceBEq, IntKind.bits, bne_self_eq_false, Int.reducePow, (K7.trans K8).get hM5], ?_⟩
      have K8' := K7.trans K8
      have R8 := R7.keep fun X x hX hx => K8.get hx
      have O8 := O7.keep fun X hX => K8.2 X (O7.lt hX)
      have hf1 : firstV 5 g8 1 (.slice (some ⟨C, 0, none⟩) 1 1) = some [.int .i64 (i : Int), .int .i64 op, .int .u8 cl, .int .i64 wt, .string ByteArray.empty] := by
        simp only [firstV, cellsAt, hC8]
        rw [if_neg (by decide)]; rfl
      refine mappK_run (k := 5) (by_ := 48) (n := 0 + b.pos i) (m := 1) (sl := sl7) (xv := .slice (some ⟨C, 0, none⟩) 1 1) rfl (by decide) K8' n7 rfl rfl rfl hf1 rfl hrow.one1 R8 O8 (by omega) (by omega) fun h9 sl9 K9 n9 R9 O9 f9 b9 => ⟨by simp only [sx, x_box, x_alloc, x_bslice, x_slice, x_append, x_appz, x_b2s, x_s2b, x_mark, xop, ev, evs, evParts, fillL, cellsL, Ai.get, Ai.put, stab, isNil?, if_false, if_true, addr?, int?, str?, agg?, bool?, shiftA, FnPost, xresL, xres1, tup, argEnv, ptr, Nat.reduceEqDiff, reduceIte, beq_self_eq_true, ne_eq, Nat.reduceAdd, Nat.reduceMul, Nat.reduceSub, abin_shl, abin_shr, load1V, loadV, storeV, cellsAt, setN, allocV, lenL, lenS, bnd, oneC, Value.oneCell', Nat.reduceLeDiff, Nat.reduceLT, exists_eq_left', forall_const, reduceCtorEq, app_new, app_new0, List.append_assoc, Int.reduceToNat, Int.reduceLT, Int.reduceLE, Int.reduceEq, Int.reduceNe, Int.reduceBEq, IntKind.bits, bne_self_eq_false, Int.reducePow, K9.get hM5], ?_⟩
      refine mappK_run (k := 5) (by_ := 48) (n := 0 + b.pos i + 1) (m := b.cnt - b.pos i) (sl := sl9) (xv := v78) rfl (by decide) K9 n9 rfl rfl hl78 (hfv h9 (kv K9)).2 (by rw [List.length_drop, hcell]; omega) osp.2.one1 R9 O9 (by omega) (by omega) fun gA slA KA nA RA OA fA bA => ⟨trivial, ?_⟩
      obtain ⟨qA, mA, cA, hA⟩ : ∃ q n c, slA = .slice q n c := by
        obtain ⟨q, c, e, -⟩ := RA.shape; exact ⟨_, _, _, e⟩
      subst hA
      simp only [sx, x_box, x_alloc, x_bslice, x_slice, x_append, x_appz, x_b2s, x_s2b, x_mark, xop, ev, evs, evParts, fillL, cellsL, Ai.get, Ai.put, stab, isNil?, if_false, if_true, addr?, int?, str?, agg?, bool?, shiftA, FnPost, xresL, xres1, tup, argEnv, ptr, Nat.reduceEqDiff, reduceIte, beq_self_eq_true, ne_eq, Nat.reduceAdd, Nat.reduceMul, Nat.reduceSub, abin_shl, abin_shr, load1V, loadV, storeV, cellsAt, getN, setN, allocV, lenL, lenS, bnd, oneC, Value.oneCell', Nat.reduceLeDiff, Nat.reduceLT, exists_eq_left', forall_const, reduceCtorEq, app_new, app_new0, List.append_assoc, Int.reduceToNat, Int.reduceLT, Int.reduceLE, Int.reduceEq, Int.reduceNe, Int.reduceBEq, IntKind.bits, bne_self_eq_false, Int.reducePow, KA.get hM5, g9]
      exact fin KA nA RA OA
    · clear hL'
      refine bs5_run rfl fun g6' C K6' hC hCl => ⟨by simp only [sx, x_box, x_alloc, x_bslice, x_slice, x_append, x_appz, x_b2s, x_s2b, x_mark, xop, ev, evs, evParts, fillL, cellsL, Ai.get, Ai.put, stab, isNil?, if_false, if_true, addr?, int?, str?, agg?, bool?, shiftA, FnPost, xresL, xres1, tup, argEnv, ptr, Nat.reduceEqDiff, reduceIte, beq_self_eq_true, ne_eq, Nat.reduceAdd, Nat.reduceMul, Nat.reduceSub, abin_shl, abin_shr, load1V, loadV, storeV, cellsAt, setN, allocV, lenL, lenS, bnd, oneC, Value.oneCell', Nat.reduceLeDiff, Nat.reduceLT, exists_eq_left', forall_const, reduceCtorEq, app_new, app_new0, List.append_assoc, Int.reduceToNat, Int.reduceLT, Int.reduceLE, Int.reduceEq, Int.reduceNe, Int.reduceBEq, IntKind.bits, bne_self_eq_false, Int.reducePow, (K6.trans K6').get hM5], ?_⟩
      have K66 := K6.trans K6'
      have hL' := K6'.get hL
      have hLC : L ≠ C := by have := lt_of_get hL; omega
      refine mappK_run (k := 5) (by_ := 48) (n := 0) (m := b.pos i) (rows := []) (sl := .slice (some ⟨L, 0, none⟩) 0 0) (xv := v68) rfl (by decide) K66 (fun X hX => by cases hX; exact hLl') rfl rfl hl68 (hfv g6' (kv K66)).1 (by rw [List.length_take, hcell]; omega) osp.1.one1 ⟨rfl, .inr (.inl ⟨_, rfl, rfl⟩)⟩ (fun X hX => by cases hX; exact ⟨_, hL'⟩) (by omega) (by omega) fun g7 sl7 K7 n7 R7 O7 f7 b7 => ⟨by simp only [sx, x_box, x_alloc, x_bslice, x_slice, x_append, x_appz, x_b2s, x_s2b, x_mark, xop, ev, evs, evParts, fillL, cellsL, Ai.get, Ai.put, stab, isNil?, if_false, if_true, addr?, int?, str?, agg?, bool?, shiftA, FnPost, xresL, xres1, tup, argEnv, ptr, Nat.reduceEqDiff, reduceIte, beq_self_eq_true, ne_eq, Nat.reduceAdd, Nat.reduceMul, Nat.reduceSub, abin_shl, abin_shr, load1V, loadV, storeV, cellsAt, setN, allocV, lenL, lenS, bnd, oneC, Value.oneCell', Nat.reduceLeDiff, Nat.reduceLT, exists_eq_left', forall_const, reduceCtorEq, app_new, app_new0, List.append_assoc, Int.reduceToNat, Int.reduceLT, Int.reduceLE, Int.reduceEq, Int.reduceNe, Int.reduceBEq, IntKind.bits, bne_self_eq_false, Int.reducePow, K7.get hM5, K7.get hT5, hl5], ?_⟩
      have hC8 := f7 C _ (fun e => hLC (Option.some.inj e)) hC
      have K8' := K7
      have R8 := R7
      have O8 := O7
      have hf1 : firstV 5 g7 1 (.slice (some ⟨C, 0, none⟩) 1 1) = some [.int .i64 (i : Int), .int .i64 op, .int .u8 cl, .int .i64 wt, .string ByteArray.empty] := by
        simp only [firstV, cellsAt, hC8]
        rw [if_neg (by decide)]; rfl
      refine mappK_run (k := 5) (by_ := 48) (n := 0 + b.pos i) (m := 1) (sl := sl7) (xv := .slice (some ⟨C, 0, none⟩) 1 1) rfl (by decide) K8' n7 rfl rfl rfl hf1 rfl hrow.one1 R8 O8 (by omega) (by omega) fun h9 sl9 K9 n9 R9 O9 f9 b9 => ⟨by simp only [sx, x_box, x_alloc, x_bslice, x_slice, x_append, x_appz, x_b2s, x_s2b, x_mark, xop, ev, evs, evParts, fillL, cellsL, Ai.get, Ai.put, stab, isNil?, if_false, if_true, addr?, int?, str?, agg?, bool?, shiftA, FnPost, xresL, xres1, tup, argEnv, ptr, Nat.reduceEqDiff, reduceIte, beq_self_eq_true, ne_eq, Nat.reduceAdd, Nat.reduceMul, Nat.reduceSub, abin_shl, abin_shr, load1V, loadV, storeV, cellsAt, setN, allocV, lenL, lenS, bnd, oneC, Value.oneCell', Nat.reduceLeDiff, Nat.reduceLT, exists_eq_left', forall_const, reduceCtorEq, app_new, app_new0, List.append_assoc, Int.reduceToNat, Int.reduceLT, Int.reduceLE, Int.reduceEq, Int.reduceNe, Int.reduceBEq, IntKind.bits, bne_self_eq_false, Int.reducePow, K9.get hM5], ?_⟩
      refine mappK_run (k := 5) (by_ := 48) (n := 0 + b.pos i + 1) (m := b.cnt - b.pos i) (sl := sl9) (xv := v78) rfl (by decide) K9 n9 rfl rfl hl78 (hfv h9 (kv K9)).2 (by rw [List.length_drop, hcell]; omega) osp.2.one1 R9 O9 (by omega) (by omega) fun gA slA KA nA RA OA fA bA => ⟨trivial, ?_⟩
      obtain ⟨qA, mA, cA, hA⟩ : ∃ q n c, slA = .slice q n c := by
        obtain ⟨q, c, e, -⟩ := RA.shape; exact ⟨_, _, _, e⟩
      subst hA
      simp only [sx, x_box, x_alloc, x_bslice, x_slice, x_append, x_appz, x_b2s, x_s2b, x_mark, xop, ev, evs, evParts, fillL, cellsL, Ai.get, Ai.put, stab, isNil?, if_false, if_true, addr?, int?, str?, agg?, bool?, shiftA, FnPost, xresL, xres1, tup, argEnv, ptr, Nat.reduceEqDiff, reduceIte, beq_self_eq_true, ne_eq, Nat.reduceAdd, Nat.reduceMul, Nat.reduceSub, abin_shl, abin_shr, load1V, loadV, storeV, cellsAt, getN, setN, allocV, lenL, lenS, bnd, oneC, Value.oneCell', Nat.reduceLeDiff, Nat.reduceLT, exists_eq_left', forall_const, reduceCtorEq, app_new, app_new0, List.append_assoc, Int.reduceToNat, Int.reduceLT, Int.reduceLE, Int.reduceEq, Int.reduceNe, Int.reduceBEq, IntKind.bits, bne_self_eq_false, Int.reducePow, KA.get hM5, g9]
      exact fin KA nA RA OA
  · refine bs5_run rfl fun g6 C K6 hC hCl => ⟨by simp only [sx, x_box, x_alloc, x_bslice, x_slice, x_append, x_appz, x_b2s, x_s2b, x_mark, xop, ev, evs, evParts, fillL, cellsL, Ai.get, Ai.put, stab, isNil?, if_false, if_true, addr?, int?, str?, agg?, bool?, shiftA, FnPost, xresL, xres1, tup, argEnv, ptr, Nat.reduceEqDiff, reduceIte, beq_self_eq_true, ne_eq, Nat.reduceAdd, Nat.reduceMul, Nat.reduceSub, abin_shl, abin_shr, load1V, loadV, storeV, cellsAt, setN, allocV, lenL, lenS, bnd, oneC, Value.oneCell', Nat.reduceLeDiff, Nat.reduceLT, exists_eq_left', forall_const, reduceCtorEq, app_new, app_new0, List.append_assoc, Int.reduceToNat, Int.reduceLT, Int.reduceLE, Int.reduceEq, Int.reduceNe, Int.reduceBEq, IntKind.bits, bne_self_eq_false, Int.reducePow, K6.get hM5], ?_⟩
    refine bs0_run fun g6' L K6' hL' hLl => ⟨by simp only [sx, x_box, x_alloc, x_bslice, x_slice, x_append, x_appz, x_b2s, x_s2b, x_mark, xop, ev, evs, evParts, fillL, cellsL, Ai.get, Ai.put, stab, isNil?, if_false, if_true, addr?, int?, str?, agg?, bool?, shiftA, FnPost, xresL, xres1, tup, argEnv, ptr, Nat.reduceEqDiff, reduceIte, beq_self_eq_true, ne_eq, Nat.reduceAdd, Nat.reduceMul, Nat.reduceSub, abin_shl, abin_shr, load1V, loadV, storeV, cellsAt, setN, allocV, lenL, lenS, bnd, oneC, Value.oneCell', Nat.reduceLeDiff, Nat.reduceLT, exists_eq_left', forall_const, reduceCtorEq, app_new, app_new0, List.append_assoc, Int.reduceToNat, Int.reduceLT, Int.reduceLE, Int.reduceEq, Int.reduceNe, Int.reduceBEq, IntKind.bits, bne_self_eq_false, Int.reducePow, (K6.trans K6').get hM5, (K6.trans K6').get hT5, hl5], ?_⟩
    have K66 := K6.trans K6'
    have hLl' : g5.length ≤ L := Nat.le_trans K6.1 hLl
    have hLC : L ≠ C := by have := lt_of_get hC; omega
    have hC' := K6'.get hC
    refine mappK_run (k := 5) (by_ := 48) (n := 0) (m := b.pos i) (rows := []) (sl := .slice (some ⟨L, 0, none⟩) 0 0) (xv := v68) rfl (by decide) K66 (fun X hX => by cases hX; exact hLl') rfl rfl hl68 (hfv g6' (kv K66)).1 (by rw [List.length_take, hcell]; omega) osp.1.one1 ⟨rfl, .inr (.inl ⟨_, rfl, rfl⟩)⟩ (fun X hX => by cases hX; exact ⟨_, hL'⟩) (by omega) (by omega) fun g7 sl7 K7 n7 R7 O7 f7 b7 => ⟨by simp only [sx, x_box, x_alloc, x_bslice, x_slice, x_append, x_appz, x_b2s, x_s2b, x_mark, xop, ev, evs, evParts, fillL, cellsL, Ai.get, Ai.put, stab, isNil?, if_false, if_true, addr?, int?, str?, agg?, bool?, shiftA, FnPost, xresL, xres1, tup, argEnv, ptr, Nat.reduceEqDiff, reduceIte, beq_self_eq_true, ne_eq, Nat.reduceAdd, Nat.reduceMul, Nat.reduceSub, abin_shl, abin_shr, load1V, loadV, storeV, cellsAt, setN, allocV, lenL, lenS, bnd, oneC, Value.oneCell', Nat.reduceLeDiff, Nat.reduceLT, exists_eq_left', forall_const, reduceCtorEq, app_new, app_new0, List.append_assoc, Int.reduceToNat, Int.reduceLT, Int.reduceLE, Int.reduceEq, Int.reduceNe, Int.reduceBEq, IntKind.bits, bne_self_eq_false, Int.reducePow, K7.get hM5, K7.get hT5, hl5], ?_⟩
    have hC8 := f7 C _ (fun e => hLC (Option.some.inj e)) hC'
    have K8' := K7
    have R8 := R7
    have O8 := O7
    have hf1 : firstV 5 g7 1 (.slice (some ⟨C, 0, none⟩) 1 1) = some [.int .i64 (i : Int), .int .i64 op, .int .u8 cl, .int .i64 wt, .string ByteArray.empty] := by
      simp only [firstV, cellsAt, hC8]
      rw [if_neg (by decide)]; rfl
    refine mappK_run (k := 5) (by_ := 48) (n := 0 + b.pos i) (m := 1) (sl := sl7) (xv := .slice (some ⟨C, 0, none⟩) 1 1) rfl (by decide) K8' n7 rfl rfl rfl hf1 rfl hrow.one1 R8 O8 (by omega) (by omega) fun h9 sl9 K9 n9 R9 O9 f9 b9 => ⟨by simp only [sx, x_box, x_alloc, x_bslice, x_slice, x_append, x_appz, x_b2s, x_s2b, x_mark, xop, ev, evs, evParts, fillL, cellsL, Ai.get, Ai.put, stab, isNil?, if_false, if_true, addr?, int?, str?, agg?, bool?, shiftA, FnPost, xresL, xres1, tup, argEnv, ptr, Nat.reduceEqDiff, reduceIte, beq_self_eq_true, ne_eq, Nat.reduceAdd, Nat.reduceMul, Nat.reduceSub, abin_shl, abin_shr, load1V, loadV, storeV, cellsAt, setN, allocV, lenL, lenS, bnd, oneC, Value.oneCell', Nat.reduceLeDiff, Nat.reduceLT, exists_eq_left', forall_const, reduceCtorEq, app_new, app_new0, List.append_assoc, Int.reduceToNat, Int.reduceLT, Int.reduceLE, Int.reduceEq, Int.reduceNe, Int.reduceBEq, IntKind.bits, bne_self_eq_false, Int.reducePow, K9.get hM5], ?_⟩
    refine mappK_run (k := 5) (by_ := 48) (n := 0 + b.pos i + 1) (m := b.cnt - b.pos i) (sl := sl9) (xv := v78) rfl (by decide) K9 n9 rfl rfl hl78 (hfv h9 (kv K9)).2 (by rw [List.length_drop, hcell]; omega) osp.2.one1 R9 O9 (by omega) (by omega) fun gA slA KA nA RA OA fA bA => ⟨trivial, ?_⟩
    obtain ⟨qA, mA, cA, hA⟩ : ∃ q n c, slA = .slice q n c := by
      obtain ⟨q, c, e, -⟩ := RA.shape; exact ⟨_, _, _, e⟩
    subst hA
    simp only [sx, x_box, x_alloc, x_bslice, x_slice, x_append, x_appz, x_b2s, x_s2b, x_mark, xop, ev, evs, evParts, fillL, cellsL, Ai.get, Ai.put, stab, isNil?, if_false, if_true, addr?, int?, str?, agg?, bool?, shiftA, FnPost, xresL, xres1, tup, argEnv, ptr, Nat.reduceEqDiff, reduceIte, beq_self_eq_true, ne_eq, Nat.reduceAdd, Nat.reduceMul, Nat.reduceSub, abin_shl, abin_shr, load1V, loadV, storeV, cellsAt, getN, setN, allocV, lenL, lenS, bnd, oneC, Value.oneCell', Nat.reduceLeDiff, Nat.reduceLT, exists_eq_left', forall_const, reduceCtorEq, app_new, app_new0, List.append_assoc, Int.reduceToNat, Int.reduceLT, Int.reduceLE, Int.reduceEq, Int.reduceNe, Int.reduceBEq, IntKind.bits, bne_self_eq_false, Int.reducePow, KA.get hM5, g9]
    exact fin KA nA RA OA
end Go.Proofs.Ytpbbmnfffolcoaa
