import Derived.Test.YtpbbmnfffolcoaaCC
set_option linter.unusedVariables false
set_option linter.unusedSimpArgs false
namespace Go.Proofs.Ytpbbmnfffolcoaa
open Go Go.Ai Go.Proofs

/-- what an act does -/
def Bk.act (b : Bk) (a : Ac) : Bk :=
  if a.a0 % 8 < 3 then (b.ask ((a.a1 % 2 : Nat) : Int) ((a.a2 % 4 + 1 : Nat) : Int) ((a.a3 % 6 + 1 : Nat) : Int)).1
  else if a.a0 % 8 < 5 then (b.heard a.msg).1
  else if a.a0 % 8 = 5 then b.cancel (((a.a1 % 8 : Nat) : Int) - 1)
  else if a.a0 % 8 = 6 then (if a.a3 % 8 = 0 then b.close else b)
  else b.tick
theorem ask_ok' {b : Bk} (o : b.Ok) {op cl wt : Int} (h1 : 0 ≤ wt ∧ wt ≤ 1048576) (h3 : 0 ≤ cl ∧ cl ≤ 4) : (b.ask op cl wt).1.Ok := by
  unfold Bk.ask; split
  · exact o.setI (x := ⟨op, cl, wt, []⟩) h1 (Nat.zero_le _) h3
  · exact o
theorem Bk.Ok.row {b : Bk} (o : b.Ok) (m : Cm) : (0 ≤ (b.row m).wt ∧ (b.row m).wt ≤ 1048576) ∧ (b.row m).pb.length ≤ 65536 ∧ (0 ≤ (b.row m).cl ∧ (b.row m).cl ≤ 4) := by
  unfold Bk.row
  cases h : b.is[m.id.toNat]? with
  | none => exact ⟨by decide, by decide, by decide⟩
  | some x => exact ⟨o.wt _ (List.mem_of_getElem? h), o.pb _ (List.mem_of_getElem? h), o.cl _ (List.mem_of_getElem? h)⟩
theorem heard_ok {b : Bk} (o : b.Ok) (m : Cm) : (b.heard m).1.Ok := by
  unfold Bk.heard
  split
  · simp only; split
    · exact o.over _ _ _ _
    · exact o
  split
  · exact o
  split
  · exact o.over _ _ _ _
  rename_i h5 _ hf
  split
  · rename_i h3
    have hr := o.row m
    refine o.setI (x := { b.row m with pb := (b.row m).pb ++ m.val }) hr.1 ?_ hr.2.2
    have hf' : fitsB (b.row m) m = true := by cases h : fitsB (b.row m) m; exact absurd h hf; rfl
    unfold fitsB at hf'
    rw [if_neg (by omega), decide_eq_true_iff] at hf'
    simp only [List.length_append]; exact hf'.2.2
  split
  · exact o.over _ _ _ _
  · exact o.over _ _ _ _
theorem heard_es (b : Bk) (m : Cm) : (b.heard m).1.es.length ≤ b.es.length + 1 := by
  unfold Bk.heard
  split
  · simp only; split <;> simp [Bk.over]
  split
  · simp
  split
  · simp [Bk.over]
  split
  · simp
  split <;> simp [Bk.over]
theorem cancel_ok' {b : Bk} (o : b.Ok) (id : Int) : (b.cancel id).Ok := by
  unfold Bk.cancel; split
  · exact o.over _ _ _ _
  · exact o
theorem cancel_es (b : Bk) (id : Int) : (b.cancel id).es.length ≤ b.es.length + 1 := by
  unfold Bk.cancel; split <;> simp [Bk.over]
theorem close_ok' {b : Bk} (o : b.Ok) : b.close.Ok := iter_inv (P := Bk.Ok) (fun b i h => close1_ok h i) o 128
theorem tick1_n (b : Bk) (i : Nat) : (b.tick1 i).is.length = b.is.length := by
  unfold Bk.tick1; split
  · simp only; split
    · simp
    · split <;> simp [Bk.over]
  · rfl
theorem tick_ok' {b : Bk} (o : b.Ok) (hl : b.is.length = 128) : b.tick.Ok := (iter_inv (P := fun b => b.Ok ∧ b.is.length = 128) (fun b i h => ⟨tick1_ok h.1 h.2 i, by rw [tick1_n]; exact h.2⟩) ⟨o, hl⟩ 128).1
theorem act_ok {b : Bk} (o : b.Ok) (hl : b.is.length = 128) (a : Ac) : (b.act a).Ok := by
  unfold Bk.act
  split
  · exact ask_ok' o (by omega) (by omega)
  split
  · exact heard_ok o _
  split
  · exact cancel_ok' o _
  split
  · split
    · exact close_ok' o
    · exact o
  · exact tick_ok' o hl
theorem act_es (b : Bk) (a : Ac) : (b.act a).es.length ≤ b.es.length + 128 := by
  unfold Bk.act
  split
  · rw [ask_es]; omega
  split
  · have := heard_es b a.msg; omega
  split
  · have := cancel_es b (((a.a1 % 8 : Nat) : Int) - 1); omega
  split
  · split
    · exact iter_es close1_es b 128
    · omega
  · exact iter_es tick1_es b 128
/-- a book and the law's own beside it -/
structure BM (h : AHeap) (B M : Nat) (b1 b2 : Bk) (rs : List (Iv × Value)) (dv ov zv : Value) : Prop where
  bk : BkAt h B b1 rs dv
  md : MAt h M b2 ov zv
  ap : ∀ X, ftB B dv X → ¬ ftM M ov zv X
def ftBM (B M : Nat) (dv ov zv : Value) (X : Nat) : Prop := ftB B dv X ∨ ftM M ov zv X
def WentBM (h h' : AHeap) (B M : Nat) (b1 b2 : Bk) (dv ov zv : Value) : Prop := ∃ rs' dv' ov' zv', BM h' B M b1 b2 rs' dv' ov' zv' ∧ Fr (ftBM B M dv ov zv) h h' ∧ ∀ X, ftBM B M dv' ov' zv' X → ftBM B M dv ov zv X ∨ h.length ≤ X
theorem BkAt.ftlt {h : AHeap} {B : Nat} {b : Bk} {rs : List (Iv × Value)} {dv : Value} (A : BkAt h B b rs dv) {X : Nat} (hX : ftB B dv X) : X < h.length := hX.elim (fun e => by rw [e]; exact lt_of_get A.obj) fun e => A.eq.lt e
theorem BkAt.ftown {h : AHeap} {B : Nat} {b : Bk} {rs : List (Iv × Value)} {dv : Value} (A : BkAt h B b rs dv) (X : Nat) (cs : List Value) (hX : ftB B dv X) : h[X]? ≠ some (some ⟨false, cs⟩) := fun e => by
  rcases hX with rfl | hX
  · rw [A.obj] at e; cases e
  · obtain ⟨c, h1⟩ := A.eq.own hX; rw [h1] at e; cases e
theorem MAt.ftown {h : AHeap} {M : Nat} {b : Bk} {ov zv : Value} (A : MAt h M b ov zv) (X : Nat) (cs : List Value) (hX : ftM M ov zv X) : h[X]? ≠ some (some ⟨false, cs⟩) := fun e => by
  rcases hX with rfl | hX | hX
  · rw [A.obj] at e; cases e
  · obtain ⟨c, h1⟩ := A.l1 X hX; rw [h1] at e; cases e
  · obtain ⟨c, h1⟩ := A.l2 X hX; rw [h1] at e; cases e
theorem BkAt.keep {h h' : AHeap} {B : Nat} {b : Bk} {rs : List (Iv × Value)} {dv : Value} (A : BkAt h B b rs dv) (z : Frz h h') (hk : ∀ X, ftB B dv X → h'[X]? = h[X]?) : BkAt h' B b rs dv :=
  ⟨by rw [hk B (.inl rfl)]; exact A.obj, A.fst, A.n, A.nx, fun x hx => (A.pv x hx).frz z, A.eq.keep z fun X hX => hk X (.inr hX), A.s⟩
section
variable {h h' g : AHeap} {B M : Nat} {b1 b2 b1' b2' : Bk} {rs : List (Iv × Value)} {dv ov zv : Value}
theorem BM.lt (A : BM h B M b1 b2 rs dv ov zv) {X : Nat} (hX : ftBM B M dv ov zv X) : X < h.length := hX.elim (fun e => A.bk.ftlt e) fun e => A.md.lt e
theorem BM.kp (A : BM h B M b1 b2 rs dv ov zv) (K : Kp h h') : BM h' B M b1 b2 rs dv ov zv := ⟨A.bk.kp K, A.md.kp K, A.ap⟩
theorem BM.same (A : BM h B M b1 b2 rs dv ov zv) (K : Kp h h') : WentBM h h' B M b1 b2 dv ov zv := ⟨rs, dv, ov, zv, A.kp K, K.fr _, fun X h => .inl h⟩
theorem BM.goB (A : BM h B M b1 b2 rs dv ov zv) (W : WentB h h' B b1' dv) : WentBM h h' B M b1' b2 dv ov zv := by
  obtain ⟨rs', dv', A', F, n⟩ := W
  refine ⟨rs', dv', ov, zv, ⟨A', A.md.keep (F.frz A.bk.ftown) fun X hX => F.2 X (A.md.lt hX) fun e => A.ap X e hX, fun X hX hm => ?_⟩, F.mono fun X e => .inl e, fun X hX => ?_⟩
  · rcases n X hX with e | e
    · exact A.ap X e hm
    · have := A.md.lt hm; omega
  · rcases hX with hX | hX
    · exact (n X hX).imp .inl id
    · exact .inl (.inr hX)
theorem BM.goM (A : BM h B M b1 b2 rs dv ov zv) (W : WentM h h' M b2' ov zv) : WentBM h h' B M b1 b2' dv ov zv := by
  obtain ⟨ov', zv', A', F, n⟩ := W
  refine ⟨rs, dv, ov', zv', ⟨A.bk.keep (F.frz A.md.ftown) fun X hX => F.2 X (A.bk.ftlt hX) fun e => A.ap X hX e, A', fun X hX hm => ?_⟩, F.mono fun X e => .inr e, fun X hX => ?_⟩
  · rcases n X hm with e | e
    · exact A.ap X hX e
    · have := A.bk.ftlt hX; omega
  · rcases hX with hX | hX
    · exact .inl (.inl hX)
    · exact (n X hX).imp .inr id
theorem WentBM.trans (W1 : WentBM h g B M b1 b2 dv ov zv) (W2 : ∀ rs dv ov zv, BM g B M b1 b2 rs dv ov zv → WentBM g h' B M b1' b2' dv ov zv) : WentBM h h' B M b1' b2' dv ov zv := by
  obtain ⟨rs1, dv1, ov1, zv1, A1, F1, n1⟩ := W1
  obtain ⟨rs2, dv2, ov2, zv2, A2, F2, n2⟩ := W2 _ _ _ _ A1
  refine ⟨rs2, dv2, ov2, zv2, A2, F1.trans F2 n1, fun X hX => ?_⟩
  have := F1.1
  rcases n2 X hX with e | e
  · exact n1 X e
  · exact .inr (by omega)
theorem WentBM.after {dv2 ov2 zv2 : Value} (W : WentBM g h' B M b1 b2 dv2 ov2 zv2) (F : Fr (ftBM B M dv ov zv) h g) (n : ∀ X, ftBM B M dv2 ov2 zv2 X → ftBM B M dv ov zv X ∨ h.length ≤ X) : WentBM h h' B M b1 b2 dv ov zv := by
  obtain ⟨rs3, dv3, ov3, zv3, A3, F3, n3⟩ := W
  refine ⟨rs3, dv3, ov3, zv3, A3, F.trans F3 n, fun X hX => ?_⟩
  have := F.1
  rcases n3 X hX with e | e
  · exact n X e
  · exact .inr (by omega)
theorem WentBM.pre (W : WentBM g h' B M b1 b2 dv ov zv) (K : Kp h g) : WentBM h h' B M b1 b2 dv ov zv := W.after (K.fr _) fun X h => .inl h
/-- an object beside stays -/
theorem WentBM.get (W : WentBM h h' B M b1 b2 dv ov zv) {X : Nat} {x : Option AObj} (hX : h[X]? = some x) (hn : ¬ ftBM B M dv ov zv X) : h'[X]? = some x := by
  obtain ⟨_, _, _, _, _, F, _⟩ := W; exact F.get hX hn
theorem WentBM.le (W : WentBM h h' B M b1 b2 dv ov zv) : h.length ≤ h'.length := by
  obtain ⟨_, _, _, _, _, F, _⟩ := W; exact F.1
end

def DoP (h : AHeap) (B M : Nat) (b : Bk) (a : Ac) (dv ov zv : Value) (r : Value) (h' : AHeap) : Prop := r = .bool true ∧ WentBM h h' B M (b.act a) (b.act a) dv ov zv
theorem rem8 (n : Nat) : ((n : Int)).tmod 8 = ((n % 8 : Nat) : Int) := by rw [Int.tmod_eq_emod_of_nonneg (by omega)]; omega
section
variable {h : AHeap} {B M : Nat} {b : Bk} {rs : List (Iv × Value)} {dv ov zv v : Value} {a : Ac}
set_option maxHeartbeats 4000000 in
theorem does_ask (A : BM h B M b b rs dv ov zv) (ok : b.Ok) (o : a.Ok) (hv : PartOk h v (bN a.val)) (hk : a.a0 % 8 < 3) :
    Valid Try.prog 9 [.pointer (some ⟨B, 0, none⟩), .pointer (some ⟨M, 0, none⟩), .agg (a.cells v).toArray] h fun r h' => DoP h B M b a dv ov zv r h' := by
  have hact : b.act a = (b.ask ((a.a1 % 2 : Nat) : Int) ((a.a2 % 4 + 1 : Nat) : Int) ((a.a3 % 6 + 1 : Nat) : Int)).1 := by unfold Bk.act; rw [if_pos hk]
  unfold DoP; rw [hact]
  refine v9 (by simp) ?_
  obtain ⟨q, c, rfl, hf, h1⟩ := hv
  have o1 := o.h1
  have o2 := o.h2
  have o3 := o.h3
  have e2 : (a.a2 : Int).tmod 4 = ((a.a2 % 4 : Nat) : Int) := by rw [Int.tmod_eq_emod_of_nonneg (by omega)]; omega
  have e2' : IntKind.u8.wrap (1 + ((a.a2 % 4 : Nat) : Int)) = ((a.a2 % 4 + 1 : Nat) : Int) := by rw [u8_wrap (by omega) (by omega)]; omega
  have e1 : (a.a1 : Int).tmod 2 = ((a.a1 % 2 : Nat) : Int) := by rw [Int.tmod_eq_emod_of_nonneg (by omega)]; omega
  have e1' : IntKind.i64.wrap ((a.a1 % 2 : Nat) : Int) = ((a.a1 % 2 : Nat) : Int) := by rw [i64_wrap] <;> omega
  have e3 : (a.a3 : Int).tmod 6 = ((a.a3 % 6 : Nat) : Int) := by rw [Int.tmod_eq_emod_of_nonneg (by omega)]; omega
  have e3' : IntKind.i64.wrap ((a.a3 % 6 : Nat) : Int) = ((a.a3 % 6 : Nat) : Int) := by rw [i64_wrap] <;> omega
  have e3'' : IntKind.i64.wrap (1 + ((a.a3 % 6 : Nat) : Int)) = ((a.a3 % 6 + 1 : Nat) : Int) := by rw [i64_wrap] <;> omega
  have hnb : ¬ bad ((a.a1 % 2 : Nat) : Int) ((a.a2 % 4 + 1 : Nat) : Int) ((a.a3 % 6 + 1 : Nat) : Int) := by unfold bad; omega
  have hcl : ((a.a2 % 4 + 1 : Nat) : Int) ≠ 0 := by omega
  have hk' : a.a0 % 8 = 0 ∨ a.a0 % 8 = 1 ∨ a.a0 % 8 = 2 := by omega
  have hrr := rem8 a.a0
  simp only [X9, Ac.cells, sx, x_alloc, x_bslice, x_slice, x_append, x_appz, x_b2s, x_s2b, x_mark, xop, ev, evs, evParts, fillL, cellsL, Ai.get, Ai.put, stab, isNil?, if_false, if_true, addr?, int?, str?, agg?, bool?, shiftA, FnPost, xresL, xres1, tup, argEnv, ptr, Nat.reduceEqDiff, reduceIte, beq_self_eq_true, ne_eq, Nat.reduceAdd, Nat.reduceMul, Nat.reduceSub, abin_shl, abin_shr, load1V, loadV, storeV, cellsAt, getN, setN, allocV, lenL, lenS, bnd, oneC, Value.oneCell', Nat.reduceLeDiff, Nat.reduceLT, exists_eq_left', forall_const, reduceCtorEq, app_new, app_new0, List.append_assoc, Int.reduceToNat, Int.reduceLT, Int.reduceLE, Int.reduceEq, Int.reduceNe, Int.reduceBEq, IntKind.bits, bne_self_eq_false, Int.reducePow]
  refine box_run rfl fun g1 R1 K1 hR1 hRl1 hg1 => ⟨trivial, ?_⟩
  simp only [cellsL] at hR1
  have A1 := A.kp K1
  have hnf : ¬ ftBM B M dv ov zv R1 := fun e => by have := A.lt e; omega
  rcases hk' with hk' | hk' | hk' <;> rw [hk'] at hrr <;> (
    have hrr' : (a.a0 : Int).tmod 8 = _ := hrr
    simp only [Int.natCast_zero, Int.natCast_one, Int.cast_ofNat_Int] at hrr'
    simp only [sx, x_alloc, x_bslice, x_slice, x_append, x_appz, x_b2s, x_s2b, x_mark, xop, ev, evs, evParts, fillL, cellsL, Ai.get, Ai.put, stab, isNil?, if_false, if_true, addr?, int?, str?, agg?, bool?, shiftA, FnPost, xresL, xres1, tup, argEnv, ptr, Nat.reduceEqDiff, reduceIte, beq_self_eq_true, ne_eq, Nat.reduceAdd, Nat.reduceMul, Nat.reduceSub, abin_shl, abin_shr, load1V, loadV, storeV, cellsAt, getN, setN, allocV, lenL, lenS, bnd, oneC, Value.oneCell', Nat.reduceLeDiff, Nat.reduceLT, exists_eq_left', forall_const, reduceCtorEq, app_new, app_new0, List.append_assoc, Int.reduceToNat, Int.reduceLT, Int.reduceLE, Int.reduceEq, Int.reduceNe, Int.reduceBEq, IntKind.bits, bne_self_eq_false, Int.reducePow, hR1, hrr', e2, e2', e1, e1', e3, e3', e3'']
    refine xcall (mask_ok (op := ((a.a1 % 2 : Nat) : Int)) (wt := ((a.a3 % 6 + 1 : Nat) : Int)) A1.md hcl) (by rfl) (by rfl) (by rfl) (by rfl) ?_
    rintro r g ⟨W, rfl⟩
    have W1 := A1.goM W
    have hR2 := W1.get hR1 hnf
    obtain ⟨rs2, dv2, ov2, zv2, A2, F2, n2⟩ := W1
    simp only [sx, x_alloc, x_bslice, x_slice, x_append, x_appz, x_b2s, x_s2b, x_mark, xop, ev, evs, evParts, fillL, cellsL, Ai.get, Ai.put, stab, isNil?, if_false, if_true, addr?, int?, str?, agg?, bool?, shiftA, FnPost, xresL, xres1, tup, argEnv, ptr, Nat.reduceEqDiff, reduceIte, beq_self_eq_true, ne_eq, Nat.reduceAdd, Nat.reduceMul, Nat.reduceSub, abin_shl, abin_shr, load1V, loadV, storeV, cellsAt, getN, setN, allocV, lenL, lenS, bnd, oneC, Value.oneCell', Nat.reduceLeDiff, Nat.reduceLT, exists_eq_left', forall_const, reduceCtorEq, app_new, app_new0, List.append_assoc, Int.reduceToNat, Int.reduceLT, Int.reduceLE, Int.reduceEq, Int.reduceNe, Int.reduceBEq, IntKind.bits, bne_self_eq_false, Int.reducePow, hR2, e2, e2', e1, e1', e3, e3', e3'']
    refine xcall (ask_ok (op := ((a.a1 % 2 : Nat) : Int)) (cl := ((a.a2 % 4 + 1 : Nat) : Int)) (wt := ((a.a3 % 6 + 1 : Nat) : Int)) A2.bk) (by rfl) (by rfl) (by rfl) (by rfl) ?_
    rintro r g3 P
    rcases P with ⟨p1, -⟩ | ⟨-, p2, -⟩ | ⟨-, -, W3, hr⟩
    · exact absurd p1 hnb
    · omega
    have W4 := A2.goB W3
    have WW := (W4.after F2 n2).pre K1
    cases hz : (b.ask ((a.a1 % 2 : Nat) : Int) ((a.a2 % 4 + 1 : Nat) : Int) ((a.a3 % 6 + 1 : Nat) : Int)).2 with
    | none =>
      simp only [hz] at hr ⊢
      subst hr
      simp only [sx, x_alloc, x_bslice, x_slice, x_append, x_appz, x_b2s, x_s2b, x_mark, xop, ev, evs, evParts, fillL, cellsL, Ai.get, Ai.put, stab, isNil?, if_false, if_true, addr?, int?, str?, agg?, bool?, shiftA, FnPost, xresL, xres1, tup, argEnv, ptr, Nat.reduceEqDiff, reduceIte, beq_self_eq_true, ne_eq, Nat.reduceAdd, Nat.reduceMul, Nat.reduceSub, abin_shl, abin_shr, load1V, loadV, storeV, cellsAt, getN, setN, allocV, lenL, lenS, bnd, oneC, Value.oneCell', Nat.reduceLeDiff, Nat.reduceLT, exists_eq_left', forall_const, reduceCtorEq, app_new, app_new0, List.append_assoc, Int.reduceToNat, Int.reduceLT, Int.reduceLE, Int.reduceEq, Int.reduceNe, Int.reduceBEq, IntKind.bits, bne_self_eq_false, Int.reducePow]
      exact WW
    | some i =>
      simp only [hz] at hr ⊢
      subst hr
      have hi0 : (0 : Int) ≤ (i : Int) := by omega
      simp only [sx, x_alloc, x_bslice, x_slice, x_append, x_appz, x_b2s, x_s2b, x_mark, xop, ev, evs, evParts, fillL, cellsL, Ai.get, Ai.put, stab, isNil?, if_false, if_true, addr?, int?, str?, agg?, bool?, shiftA, FnPost, xresL, xres1, tup, argEnv, ptr, Nat.reduceEqDiff, reduceIte, beq_self_eq_true, ne_eq, Nat.reduceAdd, Nat.reduceMul, Nat.reduceSub, abin_shl, abin_shr, load1V, loadV, storeV, cellsAt, getN, setN, allocV, lenL, lenS, bnd, oneC, Value.oneCell', Nat.reduceLeDiff, Nat.reduceLT, exists_eq_left', forall_const, reduceCtorEq, app_new, app_new0, List.append_assoc, Int.reduceToNat, Int.reduceLT, Int.reduceLE, Int.reduceEq, Int.reduceNe, Int.reduceBEq, IntKind.bits, bne_self_eq_false, Int.reducePow, hi0]
      exact WW)
set_option maxHeartbeats 4000000 in
theorem does_cancel (A : BM h B M b b rs dv ov zv) (ok : b.Ok) (hel : b.es.length ≤ 900000) (o : a.Ok) (hv : PartOk h v (bN a.val)) (hk : a.a0 % 8 = 5) :
    Valid Try.prog 9 [.pointer (some ⟨B, 0, none⟩), .pointer (some ⟨M, 0, none⟩), .agg (a.cells v).toArray] h fun r h' => DoP h B M b a dv ov zv r h' := by
  have hact : b.act a = b.cancel (((a.a1 % 8 : Nat) : Int) - 1) := by unfold Bk.act; rw [if_neg (by omega), if_neg (by omega), if_pos hk]
  obtain ⟨id, hid⟩ : ∃ id : Int, ((a.a1 % 8 : Nat) : Int) - 1 = id := ⟨_, rfl⟩
  unfold DoP; rw [hact, hid]
  refine v9 (by simp) ?_
  obtain ⟨q, c, rfl, hf, h1⟩ := hv
  have o1 := o.h1
  have e1 : (a.a1 : Int).tmod 8 = ((a.a1 % 8 : Nat) : Int) := by rw [Int.tmod_eq_emod_of_nonneg (by omega)]; omega
  have e1' : IntKind.i64.wrap ((a.a1 % 8 : Nat) : Int) = ((a.a1 % 8 : Nat) : Int) := by rw [i64_wrap] <;> omega
  have e1'' : IntKind.i64.wrap (((a.a1 % 8 : Nat) : Int) - 1) = id := by rw [i64_wrap] <;> omega
  have hrr := rem8 a.a0
  rw [hk] at hrr
  simp only [Int.cast_ofNat_Int] at hrr
  simp only [X9, Ac.cells, sx, x_alloc, x_bslice, x_slice, x_append, x_appz, x_b2s, x_s2b, x_mark, xop, ev, evs, evParts, fillL, cellsL, Ai.get, Ai.put, stab, isNil?, if_false, if_true, addr?, int?, str?, agg?, bool?, shiftA, FnPost, xresL, xres1, tup, argEnv, ptr, Nat.reduceEqDiff, reduceIte, beq_self_eq_true, ne_eq, Nat.reduceAdd, Nat.reduceMul, Nat.reduceSub, abin_shl, abin_shr, load1V, loadV, storeV, cellsAt, getN, setN, allocV, lenL, lenS, bnd, oneC, Value.oneCell', Nat.reduceLeDiff, Nat.reduceLT, exists_eq_left', forall_const, reduceCtorEq, app_new, app_new0, List.append_assoc, Int.reduceToNat, Int.reduceLT, Int.reduceLE, Int.reduceEq, Int.reduceNe, Int.reduceBEq, IntKind.bits, bne_self_eq_false, Int.reducePow]
  refine box_run rfl fun g1 R1 K1 hR1 hRl1 hg1 => ⟨trivial, ?_⟩
  simp only [cellsL] at hR1
  have A1 := A.kp K1
  have hnf : ¬ ftBM B M dv ov zv R1 := fun e => by have := A.lt e; omega
  simp only [sx, x_alloc, x_bslice, x_slice, x_append, x_appz, x_b2s, x_s2b, x_mark, xop, ev, evs, evParts, fillL, cellsL, Ai.get, Ai.put, stab, isNil?, if_false, if_true, addr?, int?, str?, agg?, bool?, shiftA, FnPost, xresL, xres1, tup, argEnv, ptr, Nat.reduceEqDiff, reduceIte, beq_self_eq_true, ne_eq, Nat.reduceAdd, Nat.reduceMul, Nat.reduceSub, abin_shl, abin_shr, load1V, loadV, storeV, cellsAt, getN, setN, allocV, lenL, lenS, bnd, oneC, Value.oneCell', Nat.reduceLeDiff, Nat.reduceLT, exists_eq_left', forall_const, reduceCtorEq, app_new, app_new0, List.append_assoc, Int.reduceToNat, Int.reduceLT, Int.reduceLE, Int.reduceEq, Int.reduceNe, Int.reduceBEq, IntKind.bits, bne_self_eq_false, Int.reducePow, hR1, hrr, e1, e1', e1'']
  refine xcall (at_ok (id := id) A1.md) (by rfl) (by rfl) (by rfl) (by rfl) ?_
  rintro r g ⟨rfl, e0⟩
  subst e0
  cases ho : b.isO id
  · rw [atI_lt ho]
    simp only [sx, x_alloc, x_bslice, x_slice, x_append, x_appz, x_b2s, x_s2b, x_mark, xop, ev, evs, evParts, fillL, cellsL, Ai.get, Ai.put, stab, isNil?, if_false, if_true, addr?, int?, str?, agg?, bool?, shiftA, FnPost, xresL, xres1, tup, argEnv, ptr, Nat.reduceEqDiff, reduceIte, beq_self_eq_true, ne_eq, Nat.reduceAdd, Nat.reduceMul, Nat.reduceSub, abin_shl, abin_shr, load1V, loadV, storeV, cellsAt, getN, setN, allocV, lenL, lenS, bnd, oneC, Value.oneCell', Nat.reduceLeDiff, Nat.reduceLT, exists_eq_left', forall_const, reduceCtorEq, app_new, app_new0, List.append_assoc, Int.reduceToNat, Int.reduceLT, Int.reduceLE, Int.reduceEq, Int.reduceNe, Int.reduceBEq, IntKind.bits, bne_self_eq_false, Int.reducePow, hR1, hrr, e1, e1', e1'']
    refine xcall (cancel_ok (id := id) A1.bk (by omega)) (by rfl) (by rfl) (by rfl) (by rfl) ?_
    rintro r g ⟨rfl, W⟩
    have hc : b.cancel id = b := by unfold Bk.cancel; rw [ho, if_neg (by decide)]
    rw [hc] at W ⊢
    simp only [sx, x_alloc, x_bslice, x_slice, x_append, x_appz, x_b2s, x_s2b, x_mark, xop, ev, evs, evParts, fillL, cellsL, Ai.get, Ai.put, stab, isNil?, if_false, if_true, addr?, int?, str?, agg?, bool?, shiftA, FnPost, xresL, xres1, tup, argEnv, ptr, Nat.reduceEqDiff, reduceIte, beq_self_eq_true, ne_eq, Nat.reduceAdd, Nat.reduceMul, Nat.reduceSub, abin_shl, abin_shr, load1V, loadV, storeV, cellsAt, getN, setN, allocV, lenL, lenS, bnd, oneC, Value.oneCell', Nat.reduceLeDiff, Nat.reduceLT, exists_eq_left', forall_const, reduceCtorEq, app_new, app_new0, List.append_assoc, Int.reduceToNat, Int.reduceLT, Int.reduceLE, Int.reduceEq, Int.reduceNe, Int.reduceBEq, IntKind.bits, bne_self_eq_false, Int.reducePow, ho]
    exact (A1.goB W).pre K1
  · obtain ⟨i, rfl, hi⟩ := isO_nat ho
    have hc : b.cancel (i : Int) = b.over i 5 0 [] := by unfold Bk.cancel; rw [ho, if_pos rfl]; rfl
    obtain ⟨x, hx⟩ : ∃ x, b.is[i]? = some x := ⟨_, List.getElem?_eq_getElem (by rw [A.md.n]; exact hi)⟩
    have ho' := ho
    rw [isO_at hi hx] at ho'
    rw [atI_nat hx A.md.n ho']
    have hp0 : ¬ ((b.pos i : Nat) : Int) < 0 := by omega
    simp only [sx, x_alloc, x_bslice, x_slice, x_append, x_appz, x_b2s, x_s2b, x_mark, xop, ev, evs, evParts, fillL, cellsL, Ai.get, Ai.put, stab, isNil?, if_false, if_true, addr?, int?, str?, agg?, bool?, shiftA, FnPost, xresL, xres1, tup, argEnv, ptr, Nat.reduceEqDiff, reduceIte, beq_self_eq_true, ne_eq, Nat.reduceAdd, Nat.reduceMul, Nat.reduceSub, abin_shl, abin_shr, load1V, loadV, storeV, cellsAt, getN, setN, allocV, lenL, lenS, bnd, oneC, Value.oneCell', Nat.reduceLeDiff, Nat.reduceLT, exists_eq_left', forall_const, reduceCtorEq, app_new, app_new0, List.append_assoc, Int.reduceToNat, Int.reduceLT, Int.reduceLE, Int.reduceEq, Int.reduceNe, Int.reduceBEq, IntKind.bits, bne_self_eq_false, Int.reducePow, hR1, hrr, e1, e1', e1'', hp0]
    refine xcall (mover_ok (k := b.pos i) (e := (i, x)) (how := 5) (code := 0) (s := ByteArray.mk #[]) A1.md (ops_at hx ho') (by omega)) (by rfl) (by rfl) (by rfl) (by rfl) ?_
    rintro r g W
    have W1 := A1.goM W
    have hR2 := W1.get hR1 hnf
    obtain ⟨rs2, dv2, ov2, zv2, A2, F2, n2⟩ := W1
    simp only [sx, x_alloc, x_bslice, x_slice, x_append, x_appz, x_b2s, x_s2b, x_mark, xop, ev, evs, evParts, fillL, cellsL, Ai.get, Ai.put, stab, isNil?, if_false, if_true, addr?, int?, str?, agg?, bool?, shiftA, FnPost, xresL, xres1, tup, argEnv, ptr, Nat.reduceEqDiff, reduceIte, beq_self_eq_true, ne_eq, Nat.reduceAdd, Nat.reduceMul, Nat.reduceSub, abin_shl, abin_shr, load1V, loadV, storeV, cellsAt, getN, setN, allocV, lenL, lenS, bnd, oneC, Value.oneCell', Nat.reduceLeDiff, Nat.reduceLT, exists_eq_left', forall_const, reduceCtorEq, app_new, app_new0, List.append_assoc, Int.reduceToNat, Int.reduceLT, Int.reduceLE, Int.reduceEq, Int.reduceNe, Int.reduceBEq, IntKind.bits, bne_self_eq_false, Int.reducePow, hR2, hrr, e1, e1', e1'']
    refine xcall (cancel_ok (id := (i : Int)) A2.bk (by omega)) (by rfl) (by rfl) (by rfl) (by rfl) ?_
    rintro r g3 ⟨rfl, W3⟩
    have W4 := A2.goB W3
    rw [hc] at W4 ⊢
    simp only [sx, x_alloc, x_bslice, x_slice, x_append, x_appz, x_b2s, x_s2b, x_mark, xop, ev, evs, evParts, fillL, cellsL, Ai.get, Ai.put, stab, isNil?, if_false, if_true, addr?, int?, str?, agg?, bool?, shiftA, FnPost, xresL, xres1, tup, argEnv, ptr, Nat.reduceEqDiff, reduceIte, beq_self_eq_true, ne_eq, Nat.reduceAdd, Nat.reduceMul, Nat.reduceSub, abin_shl, abin_shr, load1V, loadV, storeV, cellsAt, getN, setN, allocV, lenL, lenS, bnd, oneC, Value.oneCell', Nat.reduceLeDiff, Nat.reduceLT, exists_eq_left', forall_const, reduceCtorEq, app_new, app_new0, List.append_assoc, Int.reduceToNat, Int.reduceLT, Int.reduceLE, Int.reduceEq, Int.reduceNe, Int.reduceBEq, IntKind.bits, bne_self_eq_false, Int.reducePow, ho]
    exact (W4.after F2 n2).pre K1
set_option maxHeartbeats 4000000 in
theorem does_tick (A : BM h B M b b rs dv ov zv) (ok : b.Ok) (hel : b.es.length ≤ 900000) (o : a.Ok) (hv : PartOk h v (bN a.val)) (hk : a.a0 % 8 = 7) :
    Valid Try.prog 9 [.pointer (some ⟨B, 0, none⟩), .pointer (some ⟨M, 0, none⟩), .agg (a.cells v).toArray] h fun r h' => DoP h B M b a dv ov zv r h' := by
  have hact : b.act a = b.tick := by unfold Bk.act; rw [if_neg (by omega), if_neg (by omega), if_neg (by omega), if_neg (by omega)]
  unfold DoP; rw [hact]
  refine v9 (by simp) ?_
  obtain ⟨q, c, rfl, hf, h1⟩ := hv
  have hrr := rem8 a.a0
  rw [hk] at hrr
  simp only [Int.cast_ofNat_Int] at hrr
  simp only [X9, Ac.cells, sx, x_alloc, x_bslice, x_slice, x_append, x_appz, x_b2s, x_s2b, x_mark, xop, ev, evs, evParts, fillL, cellsL, Ai.get, Ai.put, stab, isNil?, if_false, if_true, addr?, int?, str?, agg?, bool?, shiftA, FnPost, xresL, xres1, tup, argEnv, ptr, Nat.reduceEqDiff, reduceIte, beq_self_eq_true, ne_eq, Nat.reduceAdd, Nat.reduceMul, Nat.reduceSub, abin_shl, abin_shr, load1V, loadV, storeV, cellsAt, getN, setN, allocV, lenL, lenS, bnd, oneC, Value.oneCell', Nat.reduceLeDiff, Nat.reduceLT, exists_eq_left', forall_const, reduceCtorEq, app_new, app_new0, List.append_assoc, Int.reduceToNat, Int.reduceLT, Int.reduceLE, Int.reduceEq, Int.reduceNe, Int.reduceBEq, IntKind.bits, bne_self_eq_false, Int.reducePow]
  refine box_run rfl fun g1 R1 K1 hR1 hRl1 hg1 => ⟨trivial, ?_⟩
  simp only [cellsL] at hR1
  have A1 := A.kp K1
  simp only [sx, x_alloc, x_bslice, x_slice, x_append, x_appz, x_b2s, x_s2b, x_mark, xop, ev, evs, evParts, fillL, cellsL, Ai.get, Ai.put, stab, isNil?, if_false, if_true, addr?, int?, str?, agg?, bool?, shiftA, FnPost, xresL, xres1, tup, argEnv, ptr, Nat.reduceEqDiff, reduceIte, beq_self_eq_true, ne_eq, Nat.reduceAdd, Nat.reduceMul, Nat.reduceSub, abin_shl, abin_shr, load1V, loadV, storeV, cellsAt, getN, setN, allocV, lenL, lenS, bnd, oneC, Value.oneCell', Nat.reduceLeDiff, Nat.reduceLT, exists_eq_left', forall_const, reduceCtorEq, app_new, app_new0, List.append_assoc, Int.reduceToNat, Int.reduceLT, Int.reduceLE, Int.reduceEq, Int.reduceNe, Int.reduceBEq, IntKind.bits, bne_self_eq_false, Int.reducePow, hR1, hrr]
  refine xcall (tick_ok A1.bk ok (by omega)) (by rfl) (by rfl) (by rfl) (by rfl) ?_
  rintro r g W
  obtain ⟨rs2, dv2, ov2, zv2, A2, F2, n2⟩ := A1.goB W
  simp only [sx, x_alloc, x_bslice, x_slice, x_append, x_appz, x_b2s, x_s2b, x_mark, xop, ev, evs, evParts, fillL, cellsL, Ai.get, Ai.put, stab, isNil?, if_false, if_true, addr?, int?, str?, agg?, bool?, shiftA, FnPost, xresL, xres1, tup, argEnv, ptr, Nat.reduceEqDiff, reduceIte, beq_self_eq_true, ne_eq, Nat.reduceAdd, Nat.reduceMul, Nat.reduceSub, abin_shl, abin_shr, load1V, loadV, storeV, cellsAt, getN, setN, allocV, lenL, lenS, bnd, oneC, Value.oneCell', Nat.reduceLeDiff, Nat.reduceLT, exists_eq_left', forall_const, reduceCtorEq, app_new, app_new0, List.append_assoc, Int.reduceToNat, Int.reduceLT, Int.reduceLE, Int.reduceEq, Int.reduceNe, Int.reduceBEq, IntKind.bits, bne_self_eq_false, Int.reducePow]
  refine xcall (mtick_ok A2.md ok (by omega)) (by rfl) (by rfl) (by rfl) (by rfl) ?_
  rintro r g3 W3
  have W4 := A2.goM W3
  simp only [sx, x_alloc, x_bslice, x_slice, x_append, x_appz, x_b2s, x_s2b, x_mark, xop, ev, evs, evParts, fillL, cellsL, Ai.get, Ai.put, stab, isNil?, if_false, if_true, addr?, int?, str?, agg?, bool?, shiftA, FnPost, xresL, xres1, tup, argEnv, ptr, Nat.reduceEqDiff, reduceIte, beq_self_eq_true, ne_eq, Nat.reduceAdd, Nat.reduceMul, Nat.reduceSub, abin_shl, abin_shr, load1V, loadV, storeV, cellsAt, getN, setN, allocV, lenL, lenS, bnd, oneC, Value.oneCell', Nat.reduceLeDiff, Nat.reduceLT, exists_eq_left', forall_const, reduceCtorEq, app_new, app_new0, List.append_assoc, Int.reduceToNat, Int.reduceLT, Int.reduceLE, Int.reduceEq, Int.reduceNe, Int.reduceBEq, IntKind.bits, bne_self_eq_false, Int.reducePow]
  exact (W4.after F2 n2).pre K1
def McI (h0 : AHeap) (B M : Nat) (b : Bk) (ov zv : Value) (m : Nat) (ρ : Env) (h : AHeap) : Prop := ∃ i, i + m = 128 ∧ (iterB Bk.close1 b i).pos i = 0 ∧ get ρ 0 = some (.pointer (some ⟨B, 0, none⟩)) ∧ get ρ 1 = some (.pointer (some ⟨M, 0, none⟩)) ∧ WentM h0 h M (iterB Bk.close1 b i) ov zv
def McE (h0 : AHeap) (B M : Nat) (b : Bk) (ov zv : Value) (ρ : Env) (h : AHeap) : Prop := get ρ 0 = some (.pointer (some ⟨B, 0, none⟩)) ∧ WentM h0 h M b.close ov zv
set_option maxHeartbeats 4000000 in
theorem does_close (A : BM h B M b b rs dv ov zv) (ok : b.Ok) (hel : b.es.length ≤ 900000) (o : a.Ok) (hv : PartOk h v (bN a.val)) (hk : a.a0 % 8 = 6) :
    Valid Try.prog 9 [.pointer (some ⟨B, 0, none⟩), .pointer (some ⟨M, 0, none⟩), .agg (a.cells v).toArray] h fun r h' => DoP h B M b a dv ov zv r h' := by
  have hact : b.act a = if a.a3 % 8 = 0 then b.close else b := by unfold Bk.act; rw [if_neg (by omega), if_neg (by omega), if_neg (by omega), if_pos hk]
  unfold DoP; rw [hact]
  refine v9 (by simp) ?_
  obtain ⟨q, c, rfl, hf, h1⟩ := hv
  have hrr := rem8 a.a0
  rw [hk] at hrr
  simp only [Int.cast_ofNat_Int] at hrr
  have hr3 := rem8 a.a3
  simp only [X9, Ac.cells, sx, x_alloc, x_bslice, x_slice, x_append, x_appz, x_b2s, x_s2b, x_mark, xop, ev, evs, evParts, fillL, cellsL, Ai.get, Ai.put, stab, isNil?, if_false, if_true, addr?, int?, str?, agg?, bool?, shiftA, FnPost, xresL, xres1, tup, argEnv, ptr, Nat.reduceEqDiff, reduceIte, beq_self_eq_true, ne_eq, Nat.reduceAdd, Nat.reduceMul, Nat.reduceSub, abin_shl, abin_shr, load1V, loadV, storeV, cellsAt, getN, setN, allocV, lenL, lenS, bnd, oneC, Value.oneCell', Nat.reduceLeDiff, Nat.reduceLT, exists_eq_left', forall_const, reduceCtorEq, app_new, app_new0, List.append_assoc, Int.reduceToNat, Int.reduceLT, Int.reduceLE, Int.reduceEq, Int.reduceNe, Int.reduceBEq, IntKind.bits, bne_self_eq_false, Int.reducePow]
  refine box_run rfl fun g1 R1 K1 hR1 hRl1 hg1 => ⟨trivial, ?_⟩
  simp only [cellsL] at hR1
  have A1 := A.kp K1
  by_cases h3 : a.a3 % 8 = 0
  rotate_left
  · have h3' : (0 : Int) < ((a.a3 % 8 : Nat) : Int) := by omega
    rw [if_neg h3]
    simp only [sx, x_alloc, x_bslice, x_slice, x_append, x_appz, x_b2s, x_s2b, x_mark, xop, ev, evs, evParts, fillL, cellsL, Ai.get, Ai.put, stab, isNil?, if_false, if_true, addr?, int?, str?, agg?, bool?, shiftA, FnPost, xresL, xres1, tup, argEnv, ptr, Nat.reduceEqDiff, reduceIte, beq_self_eq_true, ne_eq, Nat.reduceAdd, Nat.reduceMul, Nat.reduceSub, abin_shl, abin_shr, load1V, loadV, storeV, cellsAt, getN, setN, allocV, lenL, lenS, bnd, oneC, Value.oneCell', Nat.reduceLeDiff, Nat.reduceLT, exists_eq_left', forall_const, reduceCtorEq, app_new, app_new0, List.append_assoc, Int.reduceToNat, Int.reduceLT, Int.reduceLE, Int.reduceEq, Int.reduceNe, Int.reduceBEq, IntKind.bits, bne_self_eq_false, Int.reducePow, hR1, hrr, hr3, h3']
    exact A.same K1
  rw [if_pos h3]
  have h3' : ¬ (0 : Int) < ((a.a3 % 8 : Nat) : Int) := by omega
  simp only [sx, x_alloc, x_bslice, x_slice, x_append, x_appz, x_b2s, x_s2b, x_mark, xop, ev, evs, evParts, fillL, cellsL, Ai.get, Ai.put, stab, isNil?, if_false, if_true, addr?, int?, str?, agg?, bool?, shiftA, FnPost, xresL, xres1, tup, argEnv, ptr, Nat.reduceEqDiff, reduceIte, beq_self_eq_true, ne_eq, Nat.reduceAdd, Nat.reduceMul, Nat.reduceSub, abin_shl, abin_shr, load1V, loadV, storeV, cellsAt, getN, setN, allocV, lenL, lenS, bnd, oneC, Value.oneCell', Nat.reduceLeDiff, Nat.reduceLT, exists_eq_left', forall_const, reduceCtorEq, app_new, app_new0, List.append_assoc, Int.reduceToNat, Int.reduceLT, Int.reduceLE, Int.reduceEq, Int.reduceNe, Int.reduceBEq, IntKind.bits, bne_self_eq_false, Int.reducePow, hR1, hrr, hr3, h3']
  refine xloop_cut (McE g1 B M b ov zv) ?_ ?_
  rotate_left
  · rintro ρ g ⟨r0, W⟩
    obtain ⟨rs2, dv2, ov2, zv2, A2, F2, n2⟩ := A1.goM W
    simp only [sx, x_box, x_alloc, x_bslice, x_slice, x_append, x_appz, x_b2s, x_s2b, x_mark, xop, ev, evs, evParts, fillL, cellsL, Ai.get, Ai.put, stab, isNil?, if_false, if_true, addr?, int?, str?, agg?, bool?, shiftA, FnPost, xresL, xres1, tup, argEnv, ptr, Nat.reduceEqDiff, reduceIte, beq_self_eq_true, ne_eq, Nat.reduceAdd, Nat.reduceMul, Nat.reduceSub, abin_shl, abin_shr, load1V, loadV, storeV, cellsAt, getN, setN, allocV, lenL, lenS, bnd, oneC, Value.oneCell', Nat.reduceLeDiff, Nat.reduceLT, exists_eq_left', forall_const, reduceCtorEq, app_new, app_new0, List.append_assoc, Int.reduceToNat, Int.reduceLT, Int.reduceLE, Int.reduceEq, Int.reduceNe, Int.reduceBEq, IntKind.bits, bne_self_eq_false, Int.reducePow, r0]
    refine xcall (close_ok A2.bk (by omega)) (by rfl) (by rfl) (by rfl) (by rfl) ?_
    rintro r g3 W3
    have W4 := A2.goB W3
    simp only [sx, x_box, x_alloc, x_bslice, x_slice, x_append, x_appz, x_b2s, x_s2b, x_mark, xop, ev, evs, evParts, fillL, cellsL, Ai.get, Ai.put, stab, isNil?, if_false, if_true, addr?, int?, str?, agg?, bool?, shiftA, FnPost, xresL, xres1, tup, argEnv, ptr, Nat.reduceEqDiff, reduceIte, beq_self_eq_true, ne_eq, Nat.reduceAdd, Nat.reduceMul, Nat.reduceSub, abin_shl, abin_shr, load1V, loadV, storeV, cellsAt, getN, setN, allocV, lenL, lenS, bnd, oneC, Value.oneCell', Nat.reduceLeDiff, Nat.reduceLT, exists_eq_left', forall_const, reduceCtorEq, app_new, app_new0, List.append_assoc, Int.reduceToNat, Int.reduceLT, Int.reduceLE, Int.reduceEq, Int.reduceNe, Int.reduceBEq, IntKind.bits, bne_self_eq_false, Int.reducePow]
    exact (W4.after F2 n2).pre K1
  refine xcode_loop (McI g1 B M b ov zv) 128 ⟨0, by omega, by exact pos_zero b, rfl, rfl, A1.md.same (Kp.refl _)⟩ ?_
  rintro m ρ g ⟨i, him, hp, r0, r1, ov1, zv1, A2, F, n⟩
  have he := iter_es close1_es b i
  obtain ⟨q1, c1, hov⟩ := A2.lenV
  have hM := A2.obj
  generalize hbb : iterB Bk.close1 b i = bb at *
  by_cases hj : 0 < bb.cnt
  rotate_left
  · have hj' : ¬ (0 : Int) < (bb.cnt : Nat) := by omega
    subst hov
    simp only [sx, x_box, x_alloc, x_bslice, x_slice, x_append, x_appz, x_b2s, x_s2b, x_mark, xop, ev, evs, evParts, fillL, cellsL, Ai.get, Ai.put, stab, isNil?, if_false, if_true, addr?, int?, str?, agg?, bool?, shiftA, FnPost, xresL, xres1, tup, argEnv, ptr, Nat.reduceEqDiff, reduceIte, beq_self_eq_true, ne_eq, Nat.reduceAdd, Nat.reduceMul, Nat.reduceSub, abin_shl, abin_shr, load1V, loadV, storeV, cellsAt, getN, setN, allocV, lenL, lenS, bnd, oneC, Value.oneCell', Nat.reduceLeDiff, Nat.reduceLT, exists_eq_left', forall_const, reduceCtorEq, app_new, app_new0, List.append_assoc, Int.reduceToNat, Int.reduceLT, Int.reduceLE, Int.reduceEq, Int.reduceNe, Int.reduceBEq, IntKind.bits, bne_self_eq_false, Int.reducePow, r0, r1, hM, hj']
    have hend := ops_end A2.n (i := i) (by omega)
    have : b.close = bb := by
      have e1 := iter_skip (f := Bk.close1) (b := b) (i := i) (fun b i h => close1_no b i h) (128 - i) (fun id h1 h2 => by rw [hbb]; exact hend id h1 (by omega))
      rw [show i + (128 - i) = 128 by omega] at e1
      exact e1.trans hbb
    refine ⟨r0, ?_⟩
    rw [this]
    exact ⟨_, zv1, A2, F, n⟩
  have hj' : (0 : Int) < (bb.cnt : Nat) := by omega
  obtain ⟨e, hee⟩ : ∃ e, bb.ops[bb.pos i]? = some e := ⟨_, List.getElem?_eq_getElem (by rw [ops_len, hp]; exact hj)⟩
  obtain ⟨p1, p2, p3⟩ := ops_place hee
  obtain ⟨q1', q2, q3⟩ := ops_next A2.n hee
  have hO := atIs A2.n p1 p2
  have hskip : iterB Bk.close1 b (e.1 + 1) = bb.over e.1 5 0 [] := by
    have e1 := iter_skip (f := Bk.close1) (b := b) (i := i) (fun b i h => close1_no b i h) (e.1 - i) (fun id h1 h2 => by rw [hbb]; exact q3 id h1 (by omega))
    rw [show i + (e.1 - i) = e.1 by omega] at e1
    rw [iterB_succ, e1, hbb]
    unfold Bk.close1; rw [hO, if_pos rfl]
  rw [hp] at hee
  subst hov
  simp only [sx, x_box, x_alloc, x_bslice, x_slice, x_append, x_appz, x_b2s, x_s2b, x_mark, xop, ev, evs, evParts, fillL, cellsL, Ai.get, Ai.put, stab, isNil?, if_false, if_true, addr?, int?, str?, agg?, bool?, shiftA, FnPost, xresL, xres1, tup, argEnv, ptr, Nat.reduceEqDiff, reduceIte, beq_self_eq_true, ne_eq, Nat.reduceAdd, Nat.reduceMul, Nat.reduceSub, abin_shl, abin_shr, load1V, loadV, storeV, cellsAt, getN, setN, allocV, lenL, lenS, bnd, oneC, Value.oneCell', Nat.reduceLeDiff, Nat.reduceLT, exists_eq_left', forall_const, reduceCtorEq, app_new, app_new0, List.append_assoc, Int.reduceToNat, Int.reduceLT, Int.reduceLE, Int.reduceEq, Int.reduceNe, Int.reduceBEq, IntKind.bits, bne_self_eq_false, Int.reducePow, r0, r1, hM, hj']
  refine xcall (mover_ok (k := 0) (e := e) (how := 5) (code := 0) (s := ByteArray.mk #[]) A2 hee (by omega)) (by rfl) (by rfl) (by rfl) (by rfl) ?_
  rintro r g3 W
  simp only [sx, x_box, x_alloc, x_bslice, x_slice, x_append, x_appz, x_b2s, x_s2b, x_mark, xop, ev, evs, evParts, fillL, cellsL, Ai.get, Ai.put, stab, isNil?, if_false, if_true, addr?, int?, str?, agg?, bool?, shiftA, FnPost, xresL, xres1, tup, argEnv, ptr, Nat.reduceEqDiff, reduceIte, beq_self_eq_true, ne_eq, Nat.reduceAdd, Nat.reduceMul, Nat.reduceSub, abin_shl, abin_shr, load1V, loadV, storeV, cellsAt, getN, setN, allocV, lenL, lenS, bnd, oneC, Value.oneCell', Nat.reduceLeDiff, Nat.reduceLT, exists_eq_left', forall_const, reduceCtorEq, app_new, app_new0, List.append_assoc, Int.reduceToNat, Int.reduceLT, Int.reduceLE, Int.reduceEq, Int.reduceNe, Int.reduceBEq, IntKind.bits, bne_self_eq_false, Int.reducePow, r0, r1]
  refine ⟨m - (e.1 + 1 - i), by omega, e.1 + 1, by omega, ?_, r0, r1, ?_⟩
  · rw [hskip]
    show Bk.pos ⟨bb.is.set e.1 iv0, bb.nx, _⟩ (e.1 + 1) = 0
    rw [pos_set p1, ← p3, hp]; rfl
  · rw [hskip]
    exact W.go F n
end

theorem heard_some {b : Bk} {m : Cm} {p : Int} (h : (b.heard m).2 = some p) : p = 6 ∨ p = 7 := by
  unfold Bk.heard at h
  split at h
  · cases h
  split at h
  · cases h; exact .inl rfl
  split at h
  · cases h; exact .inr rfl
  split at h
  · cases h
  split at h <;> cases h
theorem WentBM.kp {h g h' : AHeap} {B M : Nat} {b1 b2 : Bk} {dv ov zv : Value} (W : WentBM h g B M b1 b2 dv ov zv) (K : Kp g h') : WentBM h h' B M b1 b2 dv ov zv := by
  obtain ⟨rs, dv', ov', zv', A, F, n⟩ := W
  exact ⟨rs, dv', ov', zv', A.kp K, F.kp K, n⟩
theorem chk_rej {m : Cm} {p e : Int} (h1 : okC m) (h2 : m.k ≠ 1) (p1 : 1 ≤ p) (p2 : p ≤ 7) (P : (2000 < (⟨5, m.id, 0, 0, p, []⟩ : Cm).val.length ∧ e = 3) ∨ ((⟨5, m.id, 0, 0, p, []⟩ : Cm).val.length ≤ 2000 ∧ okC ⟨5, m.id, 0, 0, p, []⟩ ∧ e = 0) ∨ ((⟨5, m.id, 0, 0, p, []⟩ : Cm).val.length ≤ 2000 ∧ ¬ okC ⟨5, m.id, 0, 0, p, []⟩ ∧ e = 1)) : e = 0 := by
  rcases P with ⟨h, -⟩ | ⟨-, -, h⟩ | ⟨-, h, -⟩
  · simp at h
  · exact h
  · exfalso
    apply h
    refine .inr (.inr ⟨rfl, ?_, rfl, rfl, rfl, p1, p2⟩)
    unfold okC at h1
    simp only
    omega
section
variable {h : AHeap} {B M : Nat} {b : Bk} {rs : List (Iv × Value)} {dv ov zv v : Value} {a : Ac}
set_option maxHeartbeats 4000000 in
theorem does_hear (A : BM h B M b b rs dv ov zv) (ok : b.Ok) (hel : b.es.length ≤ 900000) (o : a.Ok) (hv : PartOk h v (bN a.val)) (hl : a.val.length ≤ 2000) (hk : a.a0 % 8 = 3 ∨ a.a0 % 8 = 4) :
    Valid Try.prog 9 [.pointer (some ⟨B, 0, none⟩), .pointer (some ⟨M, 0, none⟩), .agg (a.cells v).toArray] h fun r h' => DoP h B M b a dv ov zv r h' := by
  have hact : b.act a = (b.heard a.msg).1 := by unfold Bk.act; rw [if_neg (by omega), if_pos (by omega)]
  unfold DoP; rw [hact]
  refine v9 (by simp) ?_
  obtain ⟨q, c, rfl, hf, h1⟩ := hv
  have hrr := rem8 a.a0
  simp only [X9, Ac.cells, sx, x_bslice, x_slice, x_append, x_appz, x_b2s, x_s2b, x_mark, xop, ev, evs, evParts, fillL, cellsL, Ai.get, Ai.put, stab, isNil?, if_false, if_true, addr?, int?, str?, agg?, bool?, shiftA, FnPost, xresL, xres1, tup, argEnv, ptr, Nat.reduceEqDiff, reduceIte, beq_self_eq_true, ne_eq, Nat.reduceAdd, Nat.reduceMul, Nat.reduceSub, abin_shl, abin_shr, load1V, loadV, storeV, cellsAt, getN, setN, allocV, lenL, lenS, bnd, oneC, Value.oneCell', Nat.reduceLeDiff, Nat.reduceLT, exists_eq_left', forall_const, reduceCtorEq, app_new, app_new0, List.append_assoc, Int.reduceToNat, Int.reduceLT, Int.reduceLE, Int.reduceEq, Int.reduceNe, Int.reduceBEq, IntKind.bits, bne_self_eq_false, Int.reducePow]
  refine box_run rfl fun g1 R1 K1 hR1 hRl1 hg1 => ⟨trivial, ?_⟩
  simp only [cellsL] at hR1
  have hf1 : PartOk g1 (.slice q (bN a.val).length c) (bN a.val) := ⟨q, c, rfl, K1.first hf, h1⟩
  have A1 := A.kp K1
  have hmok := a.msg_ok
  have hmv : ∀ n ∈ a.msg.val, n < 256 := Ac.msg_val (P := fun l => ∀ n ∈ l, n < 256) (by simp) o.hv
  have hml : a.msg.val.length ≤ 2000 := Ac.msg_val (P := fun l => l.length ≤ 2000) (by simp) hl
  have hget : ∀ g : AHeap, Kp g1 g → g[R1]? = _ := fun g K => K.get hR1
  rcases hk with hk' | hk' <;> rw [hk'] at hrr <;> (
    try simp only [Int.cast_ofNat_Int] at hrr
    simp only [sx, x_bslice, x_slice, x_append, x_appz, x_b2s, x_s2b, x_mark, xop, ev, evs, evParts, fillL, cellsL, Ai.get, Ai.put, stab, isNil?, if_false, if_true, addr?, int?, str?, agg?, bool?, shiftA, FnPost, xresL, xres1, tup, argEnv, ptr, Nat.reduceEqDiff, reduceIte, beq_self_eq_true, ne_eq, Nat.reduceAdd, Nat.reduceMul, Nat.reduceSub, abin_shl, abin_shr, load1V, loadV, storeV, cellsAt, getN, setN, allocV, lenL, lenS, bnd, oneC, Value.oneCell', Nat.reduceLeDiff, Nat.reduceLT, exists_eq_left', forall_const, reduceCtorEq, app_new, app_new0, List.append_assoc, Int.reduceToNat, Int.reduceLT, Int.reduceLE, Int.reduceEq, Int.reduceNe, Int.reduceBEq, IntKind.bits, bne_self_eq_false, Int.reducePow, hR1, hrr]
    refine xcall (answer_ok o hf1 (by omega)) (by rfl) (by rfl) (by rfl) (by rfl) ?_
    rintro r g2 ⟨K2, vv, rfl, V⟩
    clear hact
    generalize a.msg = m at *
    obtain ⟨q2, c2, rfl⟩ := V.shape
    simp only [Cm.cells, sx, x_bslice, x_slice, x_append, x_appz, x_b2s, x_s2b, x_mark, xop, ev, evs, evParts, fillL, cellsL, Ai.get, Ai.put, stab, isNil?, if_false, if_true, addr?, int?, str?, agg?, bool?, shiftA, FnPost, xresL, xres1, tup, argEnv, ptr, Nat.reduceEqDiff, reduceIte, beq_self_eq_true, ne_eq, Nat.reduceAdd, Nat.reduceMul, Nat.reduceSub, abin_shl, abin_shr, load1V, loadV, storeV, cellsAt, getN, setN, allocV, lenL, lenS, bnd, oneC, Value.oneCell', Nat.reduceLeDiff, Nat.reduceLT, exists_eq_left', forall_const, reduceCtorEq, app_new, app_new0, List.append_assoc, Int.reduceToNat, Int.reduceLT, Int.reduceLE, Int.reduceEq, Int.reduceNe, Int.reduceBEq, IntKind.bits, bne_self_eq_false, Int.reducePow]
    refine alloc_run fun g3 R3 K3 hR3 hRl3 hg3 => ⟨trivial, ?_⟩
    have hR3s : ∀ x : Option AObj, (g3.set R3 x)[R3]? = some x := fun x => List.getElem?_set_self (lt_of_get hR3)
    have K4 : Kp g2 (g3.set R3 (some ⟨true, m.cells (.slice q2 m.val.length c2)⟩)) := K3.set hRl3 _
    have V4 := V.frz K4.frz
    unfold Cm.cells at K4 V4
    simp only [sx, x_bslice, x_slice, x_append, x_appz, x_b2s, x_s2b, x_mark, xop, ev, evs, evParts, fillL, cellsL, Ai.get, Ai.put, stab, isNil?, if_false, if_true, addr?, int?, str?, agg?, bool?, shiftA, FnPost, xresL, xres1, tup, argEnv, ptr, Nat.reduceEqDiff, reduceIte, beq_self_eq_true, ne_eq, Nat.reduceAdd, Nat.reduceMul, Nat.reduceSub, abin_shl, abin_shr, load1V, loadV, storeV, cellsAt, getN, setN, allocV, lenL, lenS, bnd, oneC, Value.oneCell', Nat.reduceLeDiff, Nat.reduceLT, exists_eq_left', forall_const, reduceCtorEq, app_new, app_new0, List.append_assoc, Int.reduceToNat, Int.reduceLT, Int.reduceLE, Int.reduceEq, Int.reduceNe, Int.reduceBEq, IntKind.bits, bne_self_eq_false, Int.reducePow, hR3, hR3s]
    have hR4 := hR3s (some ⟨true, [.int .u8 m.k, .int .i64 m.id, .int .i64 m.lk, .int .i64 m.cd, .int .u8 m.pr, .slice q2 m.val.length c2]⟩)
    generalize g3.set R3 (some (AObj.mk true [Value.int .u8 m.k, .int .i64 m.id, .int .i64 m.lk, .int .i64 m.cd, .int .u8 m.pr, .slice q2 m.val.length c2])) = g4 at *
    clear hR3s hR3 K3 hg3
    have K14 := K2.trans K4
    have A4 := A1.kp K14
    have hnf : ¬ ftBM B M dv ov zv R3 := fun e => by have := A1.lt e; have := K2.1; omega
    refine xcall (mhear_ok (m := m) A4.md ok ⟨_, rfl, V4⟩ hmok.1 hmok.2 hmv hml (by omega)) (by rfl) (by rfl) (by rfl) (by rfl) ?_
    rintro r g5 ⟨rfl, W⟩
    have W1 := A4.goM W
    have hR5 := W1.get hR4 hnf
    have V5 : BytesV g5 (.slice q2 m.val.length c2) m.val := by
      obtain ⟨_, _, _, _, _, F, _⟩ := W1
      refine V4.frz (F.frz fun X cs hX => ?_)
      rcases hX with hX | hX
      · exact A4.bk.ftown X cs hX
      · exact A4.md.ftown X cs hX
    obtain ⟨rs2, dv2, ov2, zv2, A5, F2, n2⟩ := W1
    simp only [sx, x_bslice, x_slice, x_append, x_appz, x_b2s, x_s2b, x_mark, xop, ev, evs, evParts, fillL, cellsL, Ai.get, Ai.put, stab, isNil?, if_false, if_true, addr?, int?, str?, agg?, bool?, shiftA, FnPost, xresL, xres1, tup, argEnv, ptr, Nat.reduceEqDiff, reduceIte, beq_self_eq_true, ne_eq, Nat.reduceAdd, Nat.reduceMul, Nat.reduceSub, abin_shl, abin_shr, load1V, loadV, storeV, cellsAt, getN, setN, allocV, lenL, lenS, bnd, oneC, Value.oneCell', Nat.reduceLeDiff, Nat.reduceLT, exists_eq_left', forall_const, reduceCtorEq, app_new, app_new0, List.append_assoc, Int.reduceToNat, Int.reduceLT, Int.reduceLE, Int.reduceEq, Int.reduceNe, Int.reduceBEq, IntKind.bits, bne_self_eq_false, Int.reducePow, hR5]
    refine xcall (hear_ok (m := m) A5.bk ⟨_, rfl, V5⟩ ok.pb (by omega)) (by rfl) (by rfl) (by rfl) (by rfl) ?_
    rintro r g6 P
    rcases P with ⟨p1, -⟩ | ⟨-, p2, -⟩ | ⟨-, -, -, W3, hr⟩
    · omega
    · rcases p2 with p2 | p2
      · exact absurd hmok.1 p2
      · exact absurd p2 hmok.2
    have hR6 := (A5.goB W3).get hR5 fun e => by
      rcases n2 R3 e with e | e
      · exact hnf e
      · have := lt_of_get hR4; omega
    have W4 := (((A5.goB W3).after F2 n2).pre K14).pre K1
    have K6 := Nat.le_refl 0
    cases hz : (b.heard m).2 with
    | none =>
      simp only [hz] at hr ⊢
      subst hr
      unfold zC
      simp only [sx, x_bslice, x_slice, x_append, x_appz, x_b2s, x_s2b, x_mark, xop, ev, evs, evParts, fillL, cellsL, Ai.get, Ai.put, stab, isNil?, if_false, if_true, addr?, int?, str?, agg?, bool?, shiftA, FnPost, xresL, xres1, tup, argEnv, ptr, Nat.reduceEqDiff, reduceIte, beq_self_eq_true, ne_eq, Nat.reduceAdd, Nat.reduceMul, Nat.reduceSub, abin_shl, abin_shr, load1V, loadV, storeV, cellsAt, getN, setN, allocV, lenL, lenS, bnd, oneC, Value.oneCell', Nat.reduceLeDiff, Nat.reduceLT, exists_eq_left', forall_const, reduceCtorEq, app_new, app_new0, List.append_assoc, Int.reduceToNat, Int.reduceLT, Int.reduceLE, Int.reduceEq, Int.reduceNe, Int.reduceBEq, IntKind.bits, bne_self_eq_false, Int.reducePow]
      refine alloc_run fun g7 R7 K7 hR7 hRl7 hg7 => ⟨trivial, ?_⟩
      have hR7s : ∀ x : Option AObj, (g7.set R7 x)[R7]? = some x := fun x => List.getElem?_set_self (lt_of_get hR7)
      simp only [pOf, sx, x_bslice, x_slice, x_append, x_appz, x_b2s, x_s2b, x_mark, xop, ev, evs, evParts, fillL, cellsL, Ai.get, Ai.put, stab, isNil?, if_false, if_true, addr?, int?, str?, agg?, bool?, shiftA, FnPost, xresL, xres1, tup, argEnv, ptr, Nat.reduceEqDiff, reduceIte, beq_self_eq_true, ne_eq, Nat.reduceAdd, Nat.reduceMul, Nat.reduceSub, abin_shl, abin_shr, load1V, loadV, storeV, cellsAt, getN, setN, allocV, lenL, lenS, bnd, oneC, Value.oneCell', Nat.reduceLeDiff, Nat.reduceLT, exists_eq_left', forall_const, reduceCtorEq, app_new, app_new0, List.append_assoc, Int.reduceToNat, Int.reduceLT, Int.reduceLE, Int.reduceEq, Int.reduceNe, Int.reduceBEq, IntKind.bits, bne_self_eq_false, Int.reducePow, hR7, hR7s]
      exact W4.kp (K7.set hRl7 _)
    | some p =>
      simp only [hz] at hr ⊢
      subst hr
      simp only [sx, x_bslice, x_slice, x_append, x_appz, x_b2s, x_s2b, x_mark, xop, ev, evs, evParts, fillL, cellsL, Ai.get, Ai.put, stab, isNil?, if_false, if_true, addr?, int?, str?, agg?, bool?, shiftA, FnPost, xresL, xres1, tup, argEnv, ptr, Nat.reduceEqDiff, reduceIte, beq_self_eq_true, ne_eq, Nat.reduceAdd, Nat.reduceMul, Nat.reduceSub, abin_shl, abin_shr, load1V, loadV, storeV, cellsAt, getN, setN, allocV, lenL, lenS, bnd, oneC, Value.oneCell', Nat.reduceLeDiff, Nat.reduceLT, exists_eq_left', forall_const, reduceCtorEq, app_new, app_new0, List.append_assoc, Int.reduceToNat, Int.reduceLT, Int.reduceLE, Int.reduceEq, Int.reduceNe, Int.reduceBEq, IntKind.bits, bne_self_eq_false, Int.reducePow]
      refine alloc_run fun g7 R7 K7 hR7 hRl7 hg7 => ⟨trivial, ?_⟩
      have hR7s : ∀ x : Option AObj, (g7.set R7 x)[R7]? = some x := fun x => List.getElem?_set_self (lt_of_get hR7)
      have hR67 := K7.get hR6
      have hne : R7 ≠ R3 := fun e => by have := lt_of_get hR6; omega
      have hR3s : ∀ x : Option AObj, (g7.set R7 x)[R3]? = _ := fun x => (set_ne hne x).trans hR67
      rcases heard_some hz with rfl | rfl
      · simp only [pOf, sx, x_bslice, x_slice, x_append, x_appz, x_b2s, x_s2b, x_mark, xop, ev, evs, evParts, fillL, cellsL, Ai.get, Ai.put, stab, isNil?, if_false, if_true, addr?, int?, str?, agg?, bool?, shiftA, FnPost, xresL, xres1, tup, argEnv, ptr, Nat.reduceEqDiff, reduceIte, beq_self_eq_true, ne_eq, Nat.reduceAdd, Nat.reduceMul, Nat.reduceSub, abin_shl, abin_shr, load1V, loadV, storeV, cellsAt, getN, setN, allocV, lenL, lenS, bnd, oneC, Value.oneCell', Nat.reduceLeDiff, Nat.reduceLT, exists_eq_left', forall_const, reduceCtorEq, app_new, app_new0, List.append_assoc, Int.reduceToNat, Int.reduceLT, Int.reduceLE, Int.reduceEq, Int.reduceNe, Int.reduceBEq, IntKind.bits, bne_self_eq_false, Int.reducePow, hR7, hR7s, hR3s]
        refine xcall (check_ok (m := ⟨5, m.id, 0, 0, 6, []⟩) ⟨_, rfl, BytesV.nil _⟩) (by rfl) (by rfl) (by rfl) (by rfl) ?_
        rintro r g8 ⟨K8, e, rfl, P⟩
        obtain rfl := chk_rej hmok.1 hmok.2 (by decide) (by decide) P
        simp only [sx, x_bslice, x_slice, x_append, x_appz, x_b2s, x_s2b, x_mark, xop, ev, evs, evParts, fillL, cellsL, Ai.get, Ai.put, stab, isNil?, if_false, if_true, addr?, int?, str?, agg?, bool?, shiftA, FnPost, xresL, xres1, tup, argEnv, ptr, Nat.reduceEqDiff, reduceIte, beq_self_eq_true, ne_eq, Nat.reduceAdd, Nat.reduceMul, Nat.reduceSub, abin_shl, abin_shr, load1V, loadV, storeV, cellsAt, getN, setN, allocV, lenL, lenS, bnd, oneC, Value.oneCell', Nat.reduceLeDiff, Nat.reduceLT, exists_eq_left', forall_const, reduceCtorEq, app_new, app_new0, List.append_assoc, Int.reduceToNat, Int.reduceLT, Int.reduceLE, Int.reduceEq, Int.reduceNe, Int.reduceBEq, IntKind.bits, bne_self_eq_false, Int.reducePow]
        exact W4.kp ((K7.set hRl7 _).trans K8)
      · simp only [pOf, sx, x_bslice, x_slice, x_append, x_appz, x_b2s, x_s2b, x_mark, xop, ev, evs, evParts, fillL, cellsL, Ai.get, Ai.put, stab, isNil?, if_false, if_true, addr?, int?, str?, agg?, bool?, shiftA, FnPost, xresL, xres1, tup, argEnv, ptr, Nat.reduceEqDiff, reduceIte, beq_self_eq_true, ne_eq, Nat.reduceAdd, Nat.reduceMul, Nat.reduceSub, abin_shl, abin_shr, load1V, loadV, storeV, cellsAt, getN, setN, allocV, lenL, lenS, bnd, oneC, Value.oneCell', Nat.reduceLeDiff, Nat.reduceLT, exists_eq_left', forall_const, reduceCtorEq, app_new, app_new0, List.append_assoc, Int.reduceToNat, Int.reduceLT, Int.reduceLE, Int.reduceEq, Int.reduceNe, Int.reduceBEq, IntKind.bits, bne_self_eq_false, Int.reducePow, hR7, hR7s, hR3s]
        refine xcall (check_ok (m := ⟨5, m.id, 0, 0, 7, []⟩) ⟨_, rfl, BytesV.nil _⟩) (by rfl) (by rfl) (by rfl) (by rfl) ?_
        rintro r g8 ⟨K8, e, rfl, P⟩
        obtain rfl := chk_rej hmok.1 hmok.2 (by decide) (by decide) P
        simp only [sx, x_bslice, x_slice, x_append, x_appz, x_b2s, x_s2b, x_mark, xop, ev, evs, evParts, fillL, cellsL, Ai.get, Ai.put, stab, isNil?, if_false, if_true, addr?, int?, str?, agg?, bool?, shiftA, FnPost, xresL, xres1, tup, argEnv, ptr, Nat.reduceEqDiff, reduceIte, beq_self_eq_true, ne_eq, Nat.reduceAdd, Nat.reduceMul, Nat.reduceSub, abin_shl, abin_shr, load1V, loadV, storeV, cellsAt, getN, setN, allocV, lenL, lenS, bnd, oneC, Value.oneCell', Nat.reduceLeDiff, Nat.reduceLT, exists_eq_left', forall_const, reduceCtorEq, app_new, app_new0, List.append_assoc, Int.reduceToNat, Int.reduceLT, Int.reduceLE, Int.reduceEq, Int.reduceNe, Int.reduceBEq, IntKind.bits, bne_self_eq_false, Int.reducePow]
        exact W4.kp ((K7.set hRl7 _).trans K8))
theorem does_ok (A : BM h B M b b rs dv ov zv) (ok : b.Ok) (hel : b.es.length ≤ 900000) (o : a.Ok) (hv : PartOk h v (bN a.val)) (hl : a.val.length ≤ 2000) :
    Valid Try.prog 9 [.pointer (some ⟨B, 0, none⟩), .pointer (some ⟨M, 0, none⟩), .agg (a.cells v).toArray] h fun r h' => DoP h B M b a dv ov zv r h' := by
  have : a.a0 % 8 < 3 ∨ (a.a0 % 8 = 3 ∨ a.a0 % 8 = 4) ∨ a.a0 % 8 = 5 ∨ a.a0 % 8 = 6 ∨ a.a0 % 8 = 7 := by omega
  rcases this with hk | hk | hk | hk | hk
  · exact does_ask A ok o hv hk
  · exact does_hear A ok hel o hv hl hk
  · exact does_cancel A ok hel o hv hk
  · exact does_close A ok hel o hv hk
  · exact does_tick A ok hel o hv hk
end
end Go.Proofs.Ytpbbmnfffolcoaa
