import Derived.Test.YtimfgagdfmmeeaaDoorHA
import Derived.Test.YtimfgagdfmmeeaaDoorAiXf
set_option linter.unusedVariables false
set_option linter.unusedSimpArgs false
namespace Go.Proofs.YtimfgagdfmmeeaaDoor
open Go Go.Ai Go.Proofs

/-- an object is written no more, if it is one -/
def frzAt (h : AHeap) (A : Nat) : AHeap := match h[A]? with
  | some (some o) => if o.own = true then h.set A (some ⟨false, o.cells⟩) else h
  | _ => h
theorem frzAt_own {h : AHeap} {A : Nat} {cs : List Value} (hA : h[A]? = some (some ⟨true, cs⟩)) : frzAt h A = h.set A (some ⟨false, cs⟩) := by
  unfold frzAt; rw [hA]; rfl
theorem frzAt_end (h : AHeap) : frzAt h h.length = h := by
  unfold frzAt; rw [List.getElem?_eq_none (Nat.le_refl _)]
theorem Valid.freezeA {P : Program} {f : FuncId} {args : List Value} {h : AHeap} {Q : Value → AHeap → Prop} (v : Valid P f args h fun r h' => ∃ A, Q r (frzAt h' A)) : Valid P f args h Q :=
  Valid.freeze (v.mono fun r h' ⟨A, hQ⟩ => by
    unfold frzAt at hQ
    split at hQ
    · rename_i o ho
      split at hQ
      · rename_i hw
        obtain ⟨w, cs⟩ := o
        simp only at hw; subst hw
        exact .inr ⟨A, cs, ho, hQ⟩
      · exact .inl hQ
    · exact .inl hQ)
/-- a scanner -/
structure Sc where
  hu : Bool
  er : Nat
  on : Nat
  ma : Nat
  ke : List Int
  fo : List (List Int)
def Sc.new : Sc := ⟨true, 0, 0, 0, [], []⟩
def Sc.keep (s : Sc) (b : Int) : Sc := { s with ma := s.ma + 1, ke := if s.ke.length < 2247 then s.ke ++ [b] else s.ke }
def Sc.fin (s : Sc) : Sc :=
  if s.hu = true ∨ s.ma ≤ 7 then { s with hu := false, ma := 0, ke := [] }
  else if (s.ma - 7) % 8 ≠ 0 ∨ s.ma - 7 < 40 ∨ 2240 < s.ma - 7 then { s with hu := false, er := s.er + 1, ma := 0, ke := [] }
  else { s with hu := false, ma := 0, ke := [], fo := s.fo ++ [octs (s.ke.take (s.ma - 7))] }
def Sc.one (s : Sc) : Sc := if s.on + 1 = 7 ∧ s.hu = false then { s.keep 1 with on := s.on + 1, er := s.er + 1, hu := true } else { s.keep 1 with on := s.on + 1 }
def Sc.zero (s : Sc) : Sc := if s.on = 5 then { s with on := 0 } else if s.on = 6 then Sc.fin { s with on := 0 } else Sc.keep { s with on := 0 } 0
def Sc.read (s : Sc) (b : Int) : Sc := if b = 1 then s.one else s.zero
def Sc.feed (s : Sc) (l : List Int) : Sc := l.foldl Sc.read s
/-- what holds of every scanner that has read at most N bits -/
structure Sc.Ok (s : Sc) (N : Nat) : Prop where
  er : s.er ≤ N
  on : s.on ≤ N
  ma : s.ma ≤ N
  ke : s.ke.length = min s.ma 2247
  bi : Bits s.ke
  fo : s.fo.length ≤ N
theorem Sc.Ok.keep {s : Sc} {N : Nat} (o : s.Ok N) {b : Int} (hb : b = 0 ∨ b = 1) : (s.keep b).Ok (N + 1) := by
  have h1 := o.er
  have h2 := o.on
  have h3 := o.ma
  have h4 := o.ke
  have h5 := o.fo
  refine ⟨by show s.er ≤ _; omega, by show s.on ≤ _; omega, by show s.ma + 1 ≤ _; omega, ?_, ?_, by show s.fo.length ≤ _; omega⟩
  · show (if s.ke.length < 2247 then s.ke ++ [b] else s.ke).length = min (s.ma + 1) 2247
    split
    · rw [List.length_append]; simp only [List.length_cons, List.length_nil]; omega
    · omega
  · show Bits (if s.ke.length < 2247 then s.ke ++ [b] else s.ke)
    split
    · exact o.bi.app fun z hz => by rw [List.mem_singleton.1 hz]; exact hb
    · exact o.bi
theorem Sc.Ok.fin {s : Sc} {N : Nat} (o : s.Ok N) : s.fin.Ok (N + 1) := by
  have h1 := o.er
  have h2 := o.on
  have h5 := o.fo
  unfold Sc.fin
  split
  · exact ⟨by simp only; omega, by simp only; omega, by simp, by simp, (fun z hz => by cases hz), by simp only; omega⟩
  split
  · exact ⟨by simp only; omega, by simp only; omega, by simp, by simp, (fun z hz => by cases hz), by simp only; omega⟩
  · exact ⟨by simp only; omega, by simp only; omega, by simp, by simp, (fun z hz => by cases hz), by simp; omega⟩
theorem Sc.Ok.read {s : Sc} {N : Nat} (o : s.Ok N) {b : Int} (hb : b = 0 ∨ b = 1) : (s.read b).Ok (N + 1) := by
  have h2 := o.on
  unfold Sc.read
  split
  · have k := o.keep (b := 1) (.inr rfl)
    have h1 := o.er
    unfold Sc.one
    split
    · exact ⟨by simp only; omega, by simp only; omega, k.ma, k.ke, k.bi, k.fo⟩
    · exact ⟨k.er, by simp only; omega, k.ma, k.ke, k.bi, k.fo⟩
  · have o0 : ({ s with on := 0 } : Sc).Ok N := ⟨o.er, Nat.zero_le _, o.ma, o.ke, o.bi, o.fo⟩
    unfold Sc.zero
    split
    · have h1 := o.er
      have h3 := o.ma
      have h5 := o.fo
      exact ⟨by simp only; omega, by simp only; omega, by simp only; omega, o.ke, o.bi, by simp only; omega⟩
    split
    · exact o0.fin
    · exact o0.keep (.inl rfl)
theorem Sc.Ok.feed {s : Sc} : ∀ {l : List Int} {N : Nat} {s : Sc}, s.Ok N → Bits l → (s.feed l).Ok (N + l.length)
  | [], N, s, o, _ => o
  | b :: l, N, s, o, h => by
    have := Sc.Ok.feed (s := s) (l := l) (o.read (h b List.mem_cons_self)) h.tail
    rw [List.length_cons, show N + (l.length + 1) = N + 1 + l.length by omega]
    exact this
theorem Sc.Ok.nw : Sc.new.Ok 0 := ⟨Nat.le_refl _, Nat.le_refl _, Nat.le_refl _, rfl, (fun z hz => by cases hz), Nat.le_refl _⟩
/-- lists that are written no more -/
def FzV (h : AHeap) (v : Value) (z : List Int) : Prop := ∃ q c, v = .slice q z.length c ∧ c = z.length ∧ (z = [] ∨ ∃ a cs, q = some a ∧ a.spot = none ∧ h[a.block]? = some (some ⟨false, cs⟩) ∧ getN cs a.off z.length = some (bR z))
theorem FzV.frz {h h' : AHeap} {v : Value} {z : List Int} (l : FzV h v z) (k : Frz h h') : FzV h' v z := by
  obtain ⟨q, c, h1, h2, h3 | ⟨a, cs, h3, h4, h5, h6⟩⟩ := l
  · exact ⟨q, c, h1, h2, .inl h3⟩
  · exact ⟨q, c, h1, h2, .inr ⟨a, cs, h3, h4, k _ _ h5, h6⟩⟩
theorem FzV.first {h : AHeap} {v : Value} {z : List Int} (l : FzV h v z) : ∃ q c, v = .slice q z.length c ∧ c = z.length ∧ firstV 1 h z.length (.slice q z.length c) = some (bR z) := by
  obtain ⟨q, c, rfl, hc, rfl | ⟨a, cs, rfl, h4, h5, h6⟩⟩ := l
  · exact ⟨q, c, rfl, hc, by cases q <;> simp [firstV, bR]⟩
  · refine ⟨_, _, rfl, hc, ?_⟩
    simp only [firstV]
    split
    · rename_i h0; rw [List.eq_nil_of_length_eq_zero h0]; rfl
    · simp only [h4, ne_eq, not_true_eq_false, if_false, cellsAt, h5, Option.bind_some, Nat.mul_one]
      exact h6
def FsR (h : AHeap) : List Value → List (List Int) → Prop
  | [], [] => True
  | v :: vs, z :: zs => FzV h v z ∧ FsR h vs zs
  | _, _ => False
theorem FsR.len {h : AHeap} : ∀ {vs : List Value} {ls : List (List Int)}, FsR h vs ls → vs.length = ls.length
  | [], [], _ => rfl
  | v :: vs, z :: zs, k => by simp only [List.length_cons, FsR.len k.2]
  | [], _ :: _, k => k.elim
  | _ :: _, [], k => k.elim
theorem FsR.frz {h h' : AHeap} (k : Frz h h') : ∀ {vs : List Value} {ls : List (List Int)}, FsR h vs ls → FsR h' vs ls
  | [], [], _ => trivial
  | v :: vs, z :: zs, ⟨a, b⟩ => ⟨a.frz k, FsR.frz k b⟩
  | [], _ :: _, k => k.elim
  | _ :: _, [], k => k.elim
theorem FsR.app {h : AHeap} : ∀ {vs : List Value} {ls : List (List Int)} {vs' : List Value} {ls' : List (List Int)}, FsR h vs ls → FsR h vs' ls' → FsR h (vs ++ vs') (ls ++ ls')
  | [], [], _, _, _, k => k
  | v :: vs, z :: zs, _, _, k, k' => ⟨k.1, FsR.app k.2 k'⟩
  | [], _ :: _, _, _, k, _ => k.elim
  | _ :: _, [], _, _, k, _ => k.elim
theorem FsR.all {h : AHeap} : ∀ {vs : List Value} {ls : List (List Int)}, FsR h vs ls → vs.all oneC = true
  | [], [], _ => rfl
  | v :: vs, z :: zs, ⟨⟨q, c, e, _⟩, k⟩ => by
    subst e
    rw [List.all_cons, FsR.all k]; rfl
  | [], _ :: _, k => k.elim
  | _ :: _, [], k => k.elim
theorem FsR.view {h : AHeap} : ∀ {vs : List Value} {ls : List (List Int)}, FsR h vs ls → LsR h vs ls
  | [], [], _ => trivial
  | v :: vs, z :: zs, ⟨a, k⟩ => by
    obtain ⟨q, c, e, -, hf⟩ := a.first
    exact ⟨⟨q, c, e, by rw [e]; exact hf⟩, FsR.view k⟩
  | [], _ :: _, k => k.elim
  | _ :: _, [], k => k.elim
/-- a scanner in the heap -/
def scC (s : Sc) (kv fv : Value) : List Value := [.bool true, .bool s.hu, .int .i64 (s.er : Int), .int .i64 (s.on : Int), .int .i64 (s.ma : Int), kv, fv]
/-- bytes that are appended to, the front of an array of its own -/
def KeR (h : AHeap) (kv : Value) (zs : List Int) : Prop := (kv = .slice none 0 0 ∧ zs = []) ∨ ∃ A cells, kv = .slice (some ⟨A, 0, none⟩) zs.length (unk + 1) ∧ h[A]? = some (some ⟨true, cells⟩) ∧ getN cells 0 zs.length = some (bR zs)
theorem KeR.toO {h : AHeap} {kv : Value} {zs : List Int} (k : KeR h kv zs) : RetO 1 h kv zs.length (bR zs) := by
  rcases k with ⟨rfl, rfl⟩ | ⟨A, cells, rfl, hA, hg⟩
  · exact ⟨rfl, .inl ⟨rfl, rfl⟩⟩
  · exact ⟨by rw [bR_len, Nat.mul_one], .inr (.inr ⟨A, 0, cells, rfl, hA, by rw [Nat.mul_one]; exact hg⟩)⟩
theorem KeR.keep {h h' : AHeap} {kv : Value} {zs : List Int} (k : KeR h kv zs) (hk : ∀ A, slB kv = some A → h'[A]? = h[A]?) : KeR h' kv zs := by
  rcases k with k | ⟨A, cells, rfl, hA, hg⟩
  · exact .inl k
  · exact .inr ⟨A, cells, rfl, by rw [hk A rfl]; exact hA, hg⟩
theorem KeR.own {h : AHeap} {kv : Value} {zs : List Int} (k : KeR h kv zs) {A : Nat} (hA : slB kv = some A) : ∃ cs, h[A]? = some (some ⟨true, cs⟩) := by
  rcases k with ⟨rfl, -⟩ | ⟨B, cells, rfl, hB, -⟩
  · cases hA
  · cases hA; exact ⟨_, hB⟩
theorem KeR.shp {h : AHeap} {kv : Value} {zs : List Int} (k : KeR h kv zs) : ∃ q c, kv = .slice q zs.length c := by
  rcases k with ⟨rfl, rfl⟩ | ⟨A, cells, rfl, -, -⟩
  · exact ⟨none, 0, rfl⟩
  · exact ⟨_, _, rfl⟩
def FN (h : AHeap) (fv : Value) (ls : List (List Int)) : Prop := (fv = .slice none 0 0 ∧ ls = []) ∨ ∃ A rows, fv = .slice (some ⟨A, 0, none⟩) ls.length (unk + 1) ∧ h[A]? = some (some ⟨true, rows⟩) ∧ FsR h rows ls
theorem FN.keep {h h' : AHeap} {fv : Value} {ls : List (List Int)} (l : FN h fv ls) (z : Frz h h') (hk : ∀ A, slB fv = some A → h'[A]? = h[A]?) : FN h' fv ls := by
  rcases l with l | ⟨A, rows, rfl, hA, hR⟩
  · exact .inl l
  · exact .inr ⟨A, rows, rfl, by rw [hk A rfl]; exact hA, hR.frz z⟩
theorem FN.own {h : AHeap} {fv : Value} {ls : List (List Int)} (l : FN h fv ls) {A : Nat} (hA : slB fv = some A) : ∃ cs, h[A]? = some (some ⟨true, cs⟩) := by
  rcases l with ⟨rfl, -⟩ | ⟨B, rows, rfl, hB, -⟩
  · cases hA
  · cases hA; exact ⟨_, hB⟩
structure SAt (h : AHeap) (X : Nat) (s : Sc) (kv fv : Value) : Prop where
  obj : h[X]? = some (some ⟨true, scC s kv fv⟩)
  ke : KeR h kv s.ke
  fo : FN h fv s.fo
  s1 : ∀ Y, slB kv = some Y → Y ≠ X
  s2 : ∀ Y, slB fv = some Y → Y ≠ X
  s3 : ∀ Y, slB kv = some Y → slB fv ≠ some Y
def ftS (X : Nat) (kv fv : Value) (Y : Nat) : Prop := Y = X ∨ slB kv = some Y ∨ slB fv = some Y
def WentS (h h' : AHeap) (X : Nat) (s' : Sc) (kv fv : Value) : Prop := ∃ kv' fv', SAt h' X s' kv' fv' ∧ Fr (ftS X kv fv) h h' ∧ ∀ Y, ftS X kv' fv' Y → ftS X kv fv Y ∨ h.length ≤ Y
section
variable {h h' g : AHeap} {X : Nat} {s s' : Sc} {kv fv : Value}
theorem SAt.lt (A : SAt h X s kv fv) {Y : Nat} (hY : ftS X kv fv Y) : Y < h.length := by
  rcases hY with rfl | hY | hY
  · exact lt_of_get A.obj
  · obtain ⟨cs, e⟩ := A.ke.own hY; exact lt_of_get e
  · obtain ⟨cs, e⟩ := A.fo.own hY; exact lt_of_get e
theorem SAt.own (A : SAt h X s kv fv) (Y : Nat) (cs : List Value) (hY : ftS X kv fv Y) : h[Y]? ≠ some (some ⟨false, cs⟩) := fun e => by
  rcases hY with rfl | hY | hY
  · rw [A.obj] at e; cases e
  · obtain ⟨c, h1⟩ := A.ke.own hY; rw [h1] at e; cases e
  · obtain ⟨c, h1⟩ := A.fo.own hY; rw [h1] at e; cases e
theorem SAt.keep (A : SAt h X s kv fv) (z : Frz h h') (hk : ∀ Y, ftS X kv fv Y → h'[Y]? = h[Y]?) : SAt h' X s kv fv :=
  ⟨by rw [hk X (.inl rfl)]; exact A.obj, A.ke.keep fun Y hY => hk Y (.inr (.inl hY)), A.fo.keep z fun Y hY => hk Y (.inr (.inr hY)), A.s1, A.s2, A.s3⟩
theorem SAt.kp (A : SAt h X s kv fv) (K : Kp h h') : SAt h' X s kv fv := A.keep K.frz fun Y hY => K.2 Y (A.lt hY)
theorem SAt.same (A : SAt h X s kv fv) (K : Kp h h') : WentS h h' X s kv fv := ⟨kv, fv, A.kp K, K.fr _, fun Y h => .inl h⟩
theorem WentS.go {kv0 fv0 : Value} (W : WentS g h' X s' kv fv) (F : Fr (ftS X kv0 fv0) h g) (n : ∀ Y, ftS X kv fv Y → ftS X kv0 fv0 Y ∨ h.length ≤ Y) : WentS h h' X s' kv0 fv0 := by
  obtain ⟨k2, f2, A2, F2, n2⟩ := W
  refine ⟨k2, f2, A2, F.trans F2 n, fun Y hY => ?_⟩
  have := F.1
  rcases n2 Y hY with e | e
  · exact n Y e
  · exact .inr (by omega)
theorem WentS.trans (W1 : WentS h g X s kv fv) (W2 : ∀ kv1 fv1, SAt g X s kv1 fv1 → WentS g h' X s' kv1 fv1) : WentS h h' X s' kv fv := by
  obtain ⟨k1, f1, A1, F1, n1⟩ := W1
  exact (W2 _ _ A1).go F1 n1
/-- the numbers alone change -/
theorem SAt.nums (A : SAt h X s kv fv) (hk : s'.ke = s.ke) (hf : s'.fo = s.fo) : SAt (h.set X (some ⟨true, scC s' kv fv⟩)) X s' kv fv := by
  have z : Frz h (h.set X (some ⟨true, scC s' kv fv⟩)) := fun Y cs hY => by
    rw [set_ne (fun e => by subst e; rw [A.obj] at hY; cases hY)]; exact hY
  exact ⟨List.getElem?_set_self (lt_of_get A.obj), by rw [hk]; exact A.ke.keep fun Y hY => set_ne (A.s1 Y hY).symm _, by rw [hf]; exact A.fo.keep z fun Y hY => set_ne (A.s2 Y hY).symm _, A.s1, A.s2, A.s3⟩
theorem SAt.numsW (A : SAt h X s kv fv) (hk : s'.ke = s.ke) (hf : s'.fo = s.fo) : WentS h (h.set X (some ⟨true, scC s' kv fv⟩)) X s' kv fv :=
  ⟨kv, fv, A.nums hk hf, Fr.set _ (.inl rfl), fun Y h => .inl h⟩
end

set_option maxHeartbeats 2000000 in
theorem keep_ok {h : AHeap} {X : Nat} {s : Sc} {kv fv : Value} {N : Nat} {b : Int} (A : SAt h X s kv fv) (o : s.Ok N) (hN : N ≤ 1000000000) : Valid Tryd.prog 52 [.pointer (some ⟨X, 0, none⟩), .int .u8 b] h fun r h' => WentS h h' X (s.keep b) kv fv := by
  refine v52 (by simp) ?_
  have hX := A.obj
  simp only [scC] at hX
  have hm := o.ma
  have hkl := o.ke
  have wm : IntKind.i64.wrap ((s.ma : Int) + 1) = ((s.ma + 1 : Nat) : Int) := by rw [i64_wrap] <;> omega
  obtain ⟨q, c, hkv⟩ := A.ke.shp
  subst hkv
  have hXs : ∀ y : Option AObj, (h.set X y)[X]? = some y := fun y => List.getElem?_set_self (lt_of_get hX)
  have A1 := A.nums (s' := { s with ma := s.ma + 1 }) rfl rfl
  simp only [scC] at A1
  by_cases hl : s.ke.length < 2247
  · have hl' : ((s.ke.length : Nat) : Int) < 2247 := by omega
    have hk : s.keep b = { s with ma := s.ma + 1, ke := s.ke ++ [b] } := by unfold Sc.keep; rw [if_pos hl]
    rw [hk]
    simp only [X52, sx, x_box, x_alloc, x_slice, x_appz, x_b2s, x_s2b, x_mark, xop, ev, evs, evParts, fillL, cellsL, Ai.get, Ai.put, stab, isNil?, if_false, if_true, addr?, int?, str?, agg?, bool?, shiftA, FnPost, xresL, xres1, tup, argEnv, ptr, Nat.reduceEqDiff, reduceIte, beq_self_eq_true, ne_eq, Nat.reduceAdd, Nat.reduceMul, Nat.reduceSub, abin_shl, abin_shr, load1V, loadV, storeV, cellsAt, getN, setN, allocV, lenL, lenS, bnd, oneC, Value.oneCell', Nat.reduceLeDiff, Nat.reduceLT, exists_eq_left', forall_const, reduceCtorEq, app_new, app_new0, List.append_assoc, Int.reduceToNat, Int.reduceLT, Int.reduceLE, Int.reduceEq, Int.reduceNe, Int.reduceBEq, IntKind.bits, bne_self_eq_false, Int.reducePow, hX, hXs, wm, hl']
    have F1 : Fr (ftS X (.slice q s.ke.length c) fv) h (h.set X (some ⟨true, [.bool true, .bool s.hu, .int .i64 (s.er : Int), .int .i64 (s.on : Int), .int .i64 ((s.ma + 1 : Nat) : Int), .slice q s.ke.length c, fv]⟩)) := Fr.set _ (.inl rfl)
    have hX1 := hXs (some ⟨true, [.bool true, .bool s.hu, .int .i64 (s.er : Int), .int .i64 (s.on : Int), .int .i64 ((s.ma + 1 : Nat) : Int), .slice q s.ke.length c, fv]⟩)
    generalize h.set X (some (AObj.mk true [.bool true, .bool s.hu, .int .i64 (s.er : Int), .int .i64 (s.on : Int), .int .i64 ((s.ma + 1 : Nat) : Int), .slice q s.ke.length c, fv])) = g1 at *
    clear hXs
    refine bslice_run (v := .int .u8 b) rfl rfl fun g2 R K2 hR hRl hg2 => ⟨trivial, ?_⟩
    have A2 := A1.kp K2
    have hX2 := K2.get hX1
    have hf : firstV 1 g2 1 (.slice (some ⟨R, 0, none⟩) 1 1) = some (bR [b]) := first_pre (t := []) (by rw [List.append_nil]; exact hR) rfl
    refine append_run (k := 1) (by_ := 1) (n := s.ke.length) (m := 1) (rows := bR s.ke) (news := bR [b]) (sl := .slice q s.ke.length c) (xv := .slice (some ⟨R, 0, none⟩) 1 1) rfl (by decide) rfl rfl rfl hf rfl (bR_one _) A2.ke.toO (by omega) (by omega) (fun h0 => by omega) fun _ g3 A' hA' hg hl3 hfr => ?_
    have hXk : slB (.slice q s.ke.length c) ≠ some X := fun e => A.s1 X e rfl
    have hX3 : g3[X]? = _ := (hfr X (lt_of_get hX2) hXk).trans hX2
    have hX3s : ∀ y : Option AObj, (g3.set X y)[X]? = some y := fun y => List.getElem?_set_self (lt_of_get hX3)
    have hXl := lt_of_get hX2
    simp only [sx, x_box, x_alloc, x_bslice, x_slice, x_append, x_appz, x_b2s, x_s2b, x_mark, xop, ev, evs, evParts, fillL, cellsL, Ai.get, Ai.put, stab, isNil?, if_false, if_true, addr?, int?, str?, agg?, bool?, shiftA, FnPost, xresL, xres1, tup, argEnv, ptr, Nat.reduceEqDiff, reduceIte, beq_self_eq_true, ne_eq, Nat.reduceAdd, Nat.reduceMul, Nat.reduceSub, abin_shl, abin_shr, load1V, loadV, storeV, cellsAt, getN, setN, allocV, lenL, lenS, bnd, oneC, Value.oneCell', Nat.reduceLeDiff, Nat.reduceLT, exists_eq_left', forall_const, reduceCtorEq, app_new, app_new0, List.append_assoc, Int.reduceToNat, Int.reduceLT, Int.reduceLE, Int.reduceEq, Int.reduceNe, Int.reduceBEq, IntKind.bits, bne_self_eq_false, Int.reducePow, hX3, hX3s]
    have z3 : Frz g2 g3 := fun Y cs hY => by
      rw [hfr Y (lt_of_get hY) fun e => by obtain ⟨c', e2⟩ := A2.ke.own e; rw [e2] at hY; cases hY]; exact hY
    have z4 : ∀ y : Option AObj, Frz g3 (g3.set X y) := fun y Y cs hY => by
      rw [set_ne (fun e => by subst e; rw [hX3] at hY; cases hY)]; exact hY
    have hA'X : A' ≠ X := by omega
    refine ⟨.slice (some ⟨A', 0, none⟩) (s.ke.length + 1) (unk + 1), fv, ⟨hX3s _, ?_, ?_, fun Y hY => by cases hY; exact hA'X, A.s2, fun Y hY hY2 => ?_⟩, ?_, fun Y hY => ?_⟩
    · refine .inr ⟨A', bR s.ke ++ bR [b], by simp, (set_ne (fun e => hA'X e.symm) _).trans hg, ?_⟩
      show getN _ 0 (s.ke ++ [b]).length = some (bR (s.ke ++ [b]))
      rw [bR_append]
      exact getN_all _ _ (by rw [List.length_append, List.length_append, bR_len, bR_len])
    · refine (A2.fo.keep z3 fun Y hY => ?_).keep (z4 _) fun Y hY => set_ne (A.s2 Y hY).symm _
      exact hfr Y (A2.lt (.inr (.inr hY))) fun e => A.s3 Y e hY
    · have e : A' = Y := by cases hY; rfl
      subst e
      have := A2.lt (.inr (.inr hY2)); omega
    · refine (F1.trans ((K2.fr (ftS X (.slice q s.ke.length c) fv)).trans (S1 := ftS X (.slice q s.ke.length c) fv) ⟨by rw [List.length_set]; omega, fun Y hY hn => ?_⟩ fun Y e => .inl e) fun Y e => .inl e)
      rw [set_ne (fun e => hn (.inl e.symm))]
      exact hfr Y hY fun e => hn (.inr (.inl e))
    · have hle := F1.1
      have hle2 := K2.1
      rcases hY with rfl | hY | hY
      · exact .inl (.inl rfl)
      · have e : A' = Y := by cases hY; rfl
        subst e
        exact .inr (by omega)
      · exact .inl (.inr (.inr hY))
  · have hl' : ¬ ((s.ke.length : Nat) : Int) < 2247 := by omega
    have hk : s.keep b = { s with ma := s.ma + 1 } := by unfold Sc.keep; rw [if_neg hl]
    rw [hk]
    simp only [X52, sx, x_box, x_alloc, x_slice, x_appz, x_b2s, x_s2b, x_mark, xop, ev, evs, evParts, fillL, cellsL, Ai.get, Ai.put, stab, isNil?, if_false, if_true, addr?, int?, str?, agg?, bool?, shiftA, FnPost, xresL, xres1, tup, argEnv, ptr, Nat.reduceEqDiff, reduceIte, beq_self_eq_true, ne_eq, Nat.reduceAdd, Nat.reduceMul, Nat.reduceSub, abin_shl, abin_shr, load1V, loadV, storeV, cellsAt, getN, setN, allocV, lenL, lenS, bnd, oneC, Value.oneCell', Nat.reduceLeDiff, Nat.reduceLT, exists_eq_left', forall_const, reduceCtorEq, app_new, app_new0, List.append_assoc, Int.reduceToNat, Int.reduceLT, Int.reduceLE, Int.reduceEq, Int.reduceNe, Int.reduceBEq, IntKind.bits, bne_self_eq_false, Int.reducePow, hX, hXs, wm, hl']
    exact ⟨_, fv, A1, Fr.set _ (.inl rfl), fun Y e => .inl e⟩
/-- the octets of a content, written no more -/
theorem octF_ok {h : AHeap} {K n : Nat} {cells : List Value} {zs : List Int} (hK : h[K]? = some (some ⟨true, cells⟩)) (hg : getN cells 0 n = some (bR zs)) (hb : Bits zs) (hn : n ≤ 2240) (hn0 : 0 < n) (hw : n % 8 = 0) :
    Valid Tryd.prog 55 [.slice (some ⟨K, 0, none⟩) n (unk + 1)] h fun r h' => Kp h h' ∧ ∃ v, r = .tuple #[v, .int .i64 0] ∧ FzV h' v (octs zs) := by
  refine Valid.freezeA ?_
  have hf : firstV 1 h n (.slice (some ⟨K, 0, none⟩) n (unk + 1)) = some (bR zs) := by
    simp only [firstV]
    rw [if_neg (by omega), if_neg (by simp)]
    simp only [cellsAt, hK, Option.bind_some, Nat.mul_one]
    exact hg
  have hl := firstV_len hf
  rw [bR_len, Nat.mul_one] at hl
  refine (octets_ok hf (by omega) (checkV_zero (by omega) hb) (fun z hz => by rcases hb z hz with rfl | rfl <;> decide) hw (.inr ⟨rfl, by simp⟩) (fun a ha => by cases ha; rfl)).mono ?_
  rintro r h' ⟨R, rfl, hR1, hR2, E, hR⟩
  have ho := octs_len zs
  refine ⟨R, ?_, _, rfl, some ⟨R, 0, none⟩, n / 8, by rw [ho, hl], by rw [ho, hl], .inr ⟨_, _, rfl, rfl, by rw [frzAt_own hR]; exact List.getElem?_set_self hR2, getN_all _ _ (bR_len _).symm⟩⟩
  rw [frzAt_own hR]
  exact ⟨by simpa using E.1, fun B hB => by rw [set_ne (by omega)]; exact E.2 B hB⟩
/-- a content more -/
def Sc.mid (s : Sc) : Sc :=
  if s.hu = true ∨ s.ma ≤ 7 then s
  else if (s.ma - 7) % 8 ≠ 0 ∨ s.ma - 7 < 40 ∨ 2240 < s.ma - 7 then { s with er := s.er + 1 }
  else { s with fo := s.fo ++ [octs (s.ke.take (s.ma - 7))] }
theorem fin_mid (s : Sc) : s.fin = { s.mid with hu := false, ma := 0, ke := [] } := by
  unfold Sc.fin Sc.mid
  split
  · rfl
  split <;> rfl
def FnM (h0 : AHeap) (X : Nat) (s : Sc) (kv fv : Value) (ρ : Env) (h : AHeap) : Prop := get ρ 0 = some (.pointer (some ⟨X, 0, none⟩)) ∧ WentS h0 h X s kv fv

def FnA (h0 : AHeap) (X : Nat) (s : Sc) (ρ : Env) (h : AHeap) : Prop := get ρ 0 = some (.pointer (some ⟨X, 0, none⟩)) ∧ get ρ 2 = some (.int .i64 (if s.ma ≤ 7 then 0 else (s.ma : Int) - 7)) ∧ h = h0
set_option maxHeartbeats 4000000 in
theorem end_ok {h : AHeap} {X : Nat} {s : Sc} {kv fv : Value} {N : Nat} (A : SAt h X s kv fv) (o : s.Ok N) (hN : N ≤ 1000000000) : Valid Tryd.prog 53 [.pointer (some ⟨X, 0, none⟩)] h fun r h' => WentS h h' X s.fin kv fv := by
  refine v53 (by simp) ?_
  have hX := A.obj
  simp only [scC] at hX
  have hm := o.ma
  have her := o.er
  have hfl := o.fo
  have wn : IntKind.i64.wrap ((s.ma : Int) - 7) = (s.ma : Int) - 7 := by rw [i64_wrap] <;> omega
  have we : IntKind.i64.wrap ((s.er : Int) + 1) = ((s.er + 1 : Nat) : Int) := by rw [i64_wrap] <;> omega
  have hXs : ∀ y : Option AObj, (h.set X y)[X]? = some y := fun y => List.getElem?_set_self (lt_of_get hX)
  simp only [X53, xcode_seq]
  refine xcode_cut (FnA h X s) ?_ ?_
  · by_cases h7 : s.ma ≤ 7
    · have h7' : ¬ (s.ma : Int) - 7 > 0 := by omega
      simp only [sx, x_box, x_alloc, x_bslice, x_slice, x_append, x_appz, x_b2s, x_s2b, x_mark, xop, ev, evs, evParts, fillL, cellsL, Ai.get, Ai.put, stab, isNil?, if_false, if_true, addr?, int?, str?, agg?, bool?, shiftA, FnPost, xresL, xres1, tup, argEnv, ptr, Nat.reduceEqDiff, reduceIte, beq_self_eq_true, ne_eq, Nat.reduceAdd, Nat.reduceMul, Nat.reduceSub, abin_shl, abin_shr, load1V, loadV, storeV, cellsAt, getN, setN, allocV, lenL, lenS, bnd, oneC, Value.oneCell', Nat.reduceLeDiff, Nat.reduceLT, exists_eq_left', forall_const, reduceCtorEq, app_new, app_new0, List.append_assoc, Int.reduceToNat, Int.reduceLT, Int.reduceLE, Int.reduceEq, Int.reduceNe, Int.reduceBEq, IntKind.bits, bne_self_eq_false, Int.reducePow, hX, wn, h7', List.foldlM_cons, List.foldlM_nil, h7]
      exact ⟨rfl, by rw [if_pos h7]; rfl, rfl⟩
    · have h7' : (s.ma : Int) - 7 > 0 := by omega
      simp only [sx, x_box, x_alloc, x_bslice, x_slice, x_append, x_appz, x_b2s, x_s2b, x_mark, xop, ev, evs, evParts, fillL, cellsL, Ai.get, Ai.put, stab, isNil?, if_false, if_true, addr?, int?, str?, agg?, bool?, shiftA, FnPost, xresL, xres1, tup, argEnv, ptr, Nat.reduceEqDiff, reduceIte, beq_self_eq_true, ne_eq, Nat.reduceAdd, Nat.reduceMul, Nat.reduceSub, abin_shl, abin_shr, load1V, loadV, storeV, cellsAt, getN, setN, allocV, lenL, lenS, bnd, oneC, Value.oneCell', Nat.reduceLeDiff, Nat.reduceLT, exists_eq_left', forall_const, reduceCtorEq, app_new, app_new0, List.append_assoc, Int.reduceToNat, Int.reduceLT, Int.reduceLE, Int.reduceEq, Int.reduceNe, Int.reduceBEq, IntKind.bits, bne_self_eq_false, Int.reducePow, hX, wn, h7', List.foldlM_cons, List.foldlM_nil, h7]
      exact ⟨rfl, by rw [if_neg h7]; rfl, rfl⟩
  rintro ρ g ⟨r0, r2, e0⟩
  subst e0
  rw [kSeq_normal, xcode_seq]
  refine xcode_cut (FnM g X s.mid kv fv) ?_ ?_
  · cases hhu : s.hu with
    | true =>
      have hmid : s.mid = s := if_pos (.inl hhu)
      rw [hmid]
      simp only [sx, x_box, x_alloc, x_bslice, x_slice, x_append, x_appz, x_b2s, x_s2b, x_mark, xop, ev, evs, evParts, fillL, cellsL, Ai.get, Ai.put, stab, isNil?, if_false, if_true, addr?, int?, str?, agg?, bool?, shiftA, FnPost, xresL, xres1, tup, argEnv, ptr, Nat.reduceEqDiff, reduceIte, beq_self_eq_true, ne_eq, Nat.reduceAdd, Nat.reduceMul, Nat.reduceSub, abin_shl, abin_shr, load1V, loadV, storeV, cellsAt, getN, setN, allocV, lenL, lenS, bnd, oneC, Value.oneCell', Nat.reduceLeDiff, Nat.reduceLT, exists_eq_left', forall_const, reduceCtorEq, app_new, app_new0, List.append_assoc, Int.reduceToNat, Int.reduceLT, Int.reduceLE, Int.reduceEq, Int.reduceNe, Int.reduceBEq, IntKind.bits, bne_self_eq_false, Int.reducePow, r0, r2, hX, hhu]
      exact ⟨r0, A.same (Kp.refl _)⟩
    | false =>
      by_cases h7 : s.ma ≤ 7
      · have hmid : s.mid = s := if_pos (.inr h7)
        rw [hmid]
        rw [if_pos h7] at r2
        simp only [sx, x_box, x_alloc, x_bslice, x_slice, x_append, x_appz, x_b2s, x_s2b, x_mark, xop, ev, evs, evParts, fillL, cellsL, Ai.get, Ai.put, stab, isNil?, if_false, if_true, addr?, int?, str?, agg?, bool?, shiftA, FnPost, xresL, xres1, tup, argEnv, ptr, Nat.reduceEqDiff, reduceIte, beq_self_eq_true, ne_eq, Nat.reduceAdd, Nat.reduceMul, Nat.reduceSub, abin_shl, abin_shr, load1V, loadV, storeV, cellsAt, getN, setN, allocV, lenL, lenS, bnd, oneC, Value.oneCell', Nat.reduceLeDiff, Nat.reduceLT, exists_eq_left', forall_const, reduceCtorEq, app_new, app_new0, List.append_assoc, Int.reduceToNat, Int.reduceLT, Int.reduceLE, Int.reduceEq, Int.reduceNe, Int.reduceBEq, IntKind.bits, bne_self_eq_false, Int.reducePow, r0, r2, hX, hhu]
        exact ⟨r0, A.same (Kp.refl _)⟩
      · rw [if_neg h7] at r2
        obtain ⟨n, hn⟩ : ∃ n, s.ma = n + 7 := ⟨s.ma - 7, by omega⟩
        have hn7 : s.ma - 7 = n := by omega
        have hnI : (s.ma : Int) - 7 = (n : Nat) := by omega
        rw [hnI] at r2
        have hn0 : ¬ ((n : Nat) : Int) = 0 := by omega
        have hrem : ((n : Nat) : Int).tmod 8 = ((n % 8 : Nat) : Int) := by rw [Int.tmod_eq_emod_of_nonneg (by omega)]; omega
        have hnot : ¬ (s.hu = true ∨ s.ma ≤ 7) := by rw [hhu]; simp; omega
        by_cases hbad : n % 8 ≠ 0 ∨ n < 40 ∨ 2240 < n
        · have hmid : s.mid = { s with er := s.er + 1 } := by
            unfold Sc.mid; rw [if_neg hnot, if_pos (by rw [hn7]; exact hbad)]
          rw [hmid]
          have W := A.numsW (s' := { s with er := s.er + 1 }) rfl rfl
          simp only [scC] at W
          by_cases h8 : n % 8 = 0
          · have h8' : ((n % 8 : Nat) : Int) = 0 := by omega
            by_cases h40 : n < 40
            · have h40' : ((n : Nat) : Int) < 40 := by omega
              simp only [sx, x_box, x_alloc, x_bslice, x_slice, x_append, x_appz, x_b2s, x_s2b, x_mark, xop, ev, evs, evParts, fillL, cellsL, Ai.get, Ai.put, stab, isNil?, if_false, if_true, addr?, int?, str?, agg?, bool?, shiftA, FnPost, xresL, xres1, tup, argEnv, ptr, Nat.reduceEqDiff, reduceIte, beq_self_eq_true, ne_eq, Nat.reduceAdd, Nat.reduceMul, Nat.reduceSub, abin_shl, abin_shr, load1V, loadV, storeV, cellsAt, getN, setN, allocV, lenL, lenS, bnd, oneC, Value.oneCell', Nat.reduceLeDiff, Nat.reduceLT, exists_eq_left', forall_const, reduceCtorEq, app_new, app_new0, List.append_assoc, Int.reduceToNat, Int.reduceLT, Int.reduceLE, Int.reduceEq, Int.reduceNe, Int.reduceBEq, IntKind.bits, bne_self_eq_false, Int.reducePow, r0, r2, hX, hXs, hhu, hn0, hrem, h8', h40', we]
              rw [hhu] at W
              exact ⟨r0, W⟩
            · have h40' : ¬ ((n : Nat) : Int) < 40 := by omega
              have h22 : (2240 : Int) < ((n : Nat) : Int) := by omega
              simp only [sx, x_box, x_alloc, x_bslice, x_slice, x_append, x_appz, x_b2s, x_s2b, x_mark, xop, ev, evs, evParts, fillL, cellsL, Ai.get, Ai.put, stab, isNil?, if_false, if_true, addr?, int?, str?, agg?, bool?, shiftA, FnPost, xresL, xres1, tup, argEnv, ptr, Nat.reduceEqDiff, reduceIte, beq_self_eq_true, ne_eq, Nat.reduceAdd, Nat.reduceMul, Nat.reduceSub, abin_shl, abin_shr, load1V, loadV, storeV, cellsAt, getN, setN, allocV, lenL, lenS, bnd, oneC, Value.oneCell', Nat.reduceLeDiff, Nat.reduceLT, exists_eq_left', forall_const, reduceCtorEq, app_new, app_new0, List.append_assoc, Int.reduceToNat, Int.reduceLT, Int.reduceLE, Int.reduceEq, Int.reduceNe, Int.reduceBEq, IntKind.bits, bne_self_eq_false, Int.reducePow, r0, r2, hX, hXs, hhu, hn0, hrem, h8', h40', h22, we]
              rw [hhu] at W
              exact ⟨r0, W⟩
          · have h8' : ¬ ((n % 8 : Nat) : Int) = 0 := by omega
            simp only [sx, x_box, x_alloc, x_bslice, x_slice, x_append, x_appz, x_b2s, x_s2b, x_mark, xop, ev, evs, evParts, fillL, cellsL, Ai.get, Ai.put, stab, isNil?, if_false, if_true, addr?, int?, str?, agg?, bool?, shiftA, FnPost, xresL, xres1, tup, argEnv, ptr, Nat.reduceEqDiff, reduceIte, beq_self_eq_true, ne_eq, Nat.reduceAdd, Nat.reduceMul, Nat.reduceSub, abin_shl, abin_shr, load1V, loadV, storeV, cellsAt, getN, setN, allocV, lenL, lenS, bnd, oneC, Value.oneCell', Nat.reduceLeDiff, Nat.reduceLT, exists_eq_left', forall_const, reduceCtorEq, app_new, app_new0, List.append_assoc, Int.reduceToNat, Int.reduceLT, Int.reduceLE, Int.reduceEq, Int.reduceNe, Int.reduceBEq, IntKind.bits, bne_self_eq_false, Int.reducePow, r0, r2, hX, hXs, hhu, hn0, hrem, h8', we]
            rw [hhu] at W
            exact ⟨r0, W⟩
        · have h8' : ((n % 8 : Nat) : Int) = 0 := by omega
          have h40' : ¬ ((n : Nat) : Int) < 40 := by omega
          have h22 : ¬ (2240 : Int) < ((n : Nat) : Int) := by omega
          have hmid : s.mid = { s with fo := s.fo ++ [octs (s.ke.take n)] } := by
            unfold Sc.mid; rw [if_neg hnot, if_neg (by rw [hn7]; exact hbad), hn7]
          rw [hmid]
          have hke := o.ke
          have hkn : n ≤ s.ke.length := by omega
          rcases A.ke with ⟨-, e0⟩ | ⟨K, cells, hkv, hK, hg⟩
          · rw [e0] at hkn; simp at hkn; omega
          subst hkv
          have hgn : getN cells 0 n = some (bR (s.ke.take n)) := by
            obtain ⟨g1, g2⟩ := (getN_eq _ _ _ _).1 hg
            refine (getN_eq _ _ _ _).2 ⟨by split at g1 <;> split <;> omega, ?_⟩
            unfold bR at g2 ⊢
            rw [List.map_take, g2, List.take_take, Nat.min_eq_left hkn]
          have hsl : ∀ (ρ : Env) (x hi : XA), ev ρ x = some (.slice (some ⟨K, 0, none⟩) s.ke.length (unk + 1)) → ev ρ hi = some (.int .i64 (n : Nat)) → xop (.slice 1 x none (some hi) none) ρ g = some (.slice (some ⟨K, 0, none⟩) n (unk + 1), g) := fun ρ x hi e1 e2 => by
            have huu : unk ≤ unk + 1 := by omega
            have hi' : (n : Int) ≤ (s.ke.length : Nat) := by omega
            simp [xop, e1, e2, bnd, int?, huu, hi', hkn, shiftA]
          simp only [sx, x_box, x_alloc, x_appz, x_b2s, x_s2b, x_mark, xop, ev, evs, evParts, fillL, cellsL, Ai.get, Ai.put, stab, isNil?, if_false, if_true, addr?, int?, str?, agg?, bool?, shiftA, FnPost, xresL, xres1, tup, argEnv, ptr, Nat.reduceEqDiff, reduceIte, beq_self_eq_true, ne_eq, Nat.reduceAdd, Nat.reduceMul, Nat.reduceSub, abin_shl, abin_shr, load1V, loadV, storeV, cellsAt, getN, setN, allocV, lenL, lenS, bnd, oneC, Value.oneCell', Nat.reduceLeDiff, Nat.reduceLT, exists_eq_left', forall_const, reduceCtorEq, app_new, app_new0, List.append_assoc, Int.reduceToNat, Int.reduceLT, Int.reduceLE, Int.reduceEq, Int.reduceNe, Int.reduceBEq, IntKind.bits, bne_self_eq_false, Int.reducePow, r0, r2, hX, hhu, hn0, hrem, h8', h40', h22]
          rw [x_slice, hsl _ _ _ rfl (by simp only [ev, Ai.get, reduceIte, Nat.reduceEqDiff, r2]), xthen_some]
          simp only [sx, x_box, x_alloc, x_appz, x_b2s, x_s2b, x_mark, xop, ev, evs, evParts, fillL, cellsL, Ai.get, Ai.put, stab, isNil?, if_false, if_true, addr?, int?, str?, agg?, bool?, shiftA, FnPost, xresL, xres1, tup, argEnv, ptr, Nat.reduceEqDiff, reduceIte, beq_self_eq_true, ne_eq, Nat.reduceAdd, Nat.reduceMul, Nat.reduceSub, abin_shl, abin_shr, load1V, loadV, storeV, cellsAt, getN, setN, allocV, lenL, lenS, bnd, oneC, Value.oneCell', Nat.reduceLeDiff, Nat.reduceLT, exists_eq_left', forall_const, reduceCtorEq, app_new, app_new0, List.append_assoc, Int.reduceToNat, Int.reduceLT, Int.reduceLE, Int.reduceEq, Int.reduceNe, Int.reduceBEq, IntKind.bits, bne_self_eq_false, Int.reducePow]
          refine xcall (octF_ok hK hgn (o.bi.take n) (by omega) (by omega) (by omega)) (by rfl) (by rfl) (by rfl) (by rfl) ?_
          rintro r g2 ⟨K2, v, rfl, V⟩
          obtain ⟨qv, cv, rfl, -, hVr⟩ := id V
          have A2 := A.kp K2
          have hX2 := K2.get hX
          rw [hhu] at hX2
          simp only [sx, x_box, x_alloc, x_appz, x_b2s, x_s2b, x_mark, xop, ev, evs, evParts, fillL, cellsL, Ai.get, Ai.put, stab, isNil?, if_false, if_true, addr?, int?, str?, agg?, bool?, shiftA, FnPost, xresL, xres1, tup, argEnv, ptr, Nat.reduceEqDiff, reduceIte, beq_self_eq_true, ne_eq, Nat.reduceAdd, Nat.reduceMul, Nat.reduceSub, abin_shl, abin_shr, load1V, loadV, storeV, cellsAt, getN, setN, allocV, lenL, lenS, bnd, oneC, Value.oneCell', Nat.reduceLeDiff, Nat.reduceLT, exists_eq_left', forall_const, reduceCtorEq, app_new, app_new0, List.append_assoc, Int.reduceToNat, Int.reduceLT, Int.reduceLE, Int.reduceEq, Int.reduceNe, Int.reduceBEq, IntKind.bits, bne_self_eq_false, Int.reducePow, r0, hX2]
          refine bslice_run (v := .slice qv (octs (s.ke.take n)).length cv) rfl rfl fun g3 R K3 hR hRl hg3 => ⟨trivial, ?_⟩
          have A3 := A2.kp K3
          have V3 := V.frz K3.frz
          have hX3 := K3.get hX2
          have hf : firstV 1 g3 1 (.slice (some ⟨R, 0, none⟩) 1 1) = some [.slice qv (octs (s.ke.take n)).length cv] := by
            simp only [firstV]
            rw [if_neg (by decide), if_neg (by simp)]
            simp only [cellsAt, hR, Option.bind_some]; rfl
          obtain ⟨rows, hfo, hro⟩ : ∃ rows, RetO 1 g3 fv s.fo.length rows ∧ FsR g3 rows s.fo := by
            rcases A3.fo with ⟨rfl, e⟩ | ⟨B, rows, rfl, hB, hR'⟩
            · rw [e]; exact ⟨[], ⟨rfl, .inl ⟨rfl, rfl⟩⟩, trivial⟩
            · exact ⟨rows, ⟨by rw [hR'.len, Nat.mul_one], .inr (.inr ⟨B, 0, rows, rfl, hB, getN_all _ _ (by rw [hR'.len, Nat.mul_one])⟩)⟩, hR'⟩
          refine append_run (k := 1) (by_ := 24) (n := s.fo.length) (m := 1) (rows := rows) (news := [.slice qv (octs (s.ke.take n)).length cv]) (sl := fv) (xv := .slice (some ⟨R, 0, none⟩) 1 1) rfl (by decide) rfl rfl rfl hf rfl rfl hfo (by omega) (by omega) (fun h0 => by omega) fun _ g4 A' hA' hg4 hl4 hfr => ?_
          have hXf : slB fv ≠ some X := fun e => A.s2 X e rfl
          have hX4 : g4[X]? = _ := (hfr X (lt_of_get hX3) hXf).trans hX3
          have hX4s : ∀ y : Option AObj, (g4.set X y)[X]? = some y := fun y => List.getElem?_set_self (lt_of_get hX4)
          have hXl := lt_of_get hX3
          have k23 := K2.1
          have k33 := K3.1
          simp only [sx, x_box, x_alloc, x_bslice, x_slice, x_append, x_appz, x_b2s, x_s2b, x_mark, xop, ev, evs, evParts, fillL, cellsL, Ai.get, Ai.put, stab, isNil?, if_false, if_true, addr?, int?, str?, agg?, bool?, shiftA, FnPost, xresL, xres1, tup, argEnv, ptr, Nat.reduceEqDiff, reduceIte, beq_self_eq_true, ne_eq, Nat.reduceAdd, Nat.reduceMul, Nat.reduceSub, abin_shl, abin_shr, load1V, loadV, storeV, cellsAt, getN, setN, allocV, lenL, lenS, bnd, oneC, Value.oneCell', Nat.reduceLeDiff, Nat.reduceLT, exists_eq_left', forall_const, reduceCtorEq, app_new, app_new0, List.append_assoc, Int.reduceToNat, Int.reduceLT, Int.reduceLE, Int.reduceEq, Int.reduceNe, Int.reduceBEq, IntKind.bits, bne_self_eq_false, Int.reducePow, r0, hX4, hX4s]
          have z4 : Frz g3 g4 := fun Y cs hY => by
            rw [hfr Y (lt_of_get hY) fun e => by obtain ⟨c', e2⟩ := A3.fo.own e; rw [e2] at hY; cases hY]; exact hY
          have z5 : ∀ y : Option AObj, Frz g4 (g4.set X y) := fun y Y cs hY => by
            rw [set_ne (fun e => by subst e; rw [hX4] at hY; cases hY)]; exact hY
          have hA'X : A' ≠ X := by omega
          refine ⟨r0, .slice (some ⟨K, 0, none⟩) s.ke.length (unk + 1), .slice (some ⟨A', 0, none⟩) (s.fo.length + 1) (unk + 1), ⟨?_, ?_, ?_, A.s1, fun Y hY => by cases hY; exact hA'X, fun Y hY hY2 => ?_⟩, ?_, fun Y hY => ?_⟩
          · rw [hX4s]; simp only [scC, hhu]
          · refine (A3.ke.keep fun Y hY => ?_).keep fun Y hY => set_ne (A.s1 Y hY).symm _
            exact hfr Y (A3.lt (.inr (.inl hY))) fun e => A.s3 Y hY e
          · refine .inr ⟨A', rows ++ [.slice qv (octs (s.ke.take n)).length cv], by simp, (set_ne (fun e => hA'X e.symm) _).trans hg4, ?_⟩
            exact FsR.app ((hro.frz z4).frz (z5 _)) ⟨(V3.frz z4).frz (z5 _), trivial⟩
          · have e : A' = Y := by cases hY2; rfl
            subst e
            have := A3.lt (.inr (.inl hY)); omega
          · refine ((K2.trans K3).fr (ftS X (.slice (some ⟨K, 0, none⟩) s.ke.length (unk + 1)) fv)).trans (S1 := ftS X (.slice (some ⟨K, 0, none⟩) s.ke.length (unk + 1)) fv) ⟨by rw [List.length_set]; omega, fun Y hY hn => ?_⟩ fun Y e => .inl e
            rw [set_ne (fun e => hn (.inl e.symm))]
            exact hfr Y hY fun e => hn (.inr (.inr e))
          · rcases hY with rfl | hY | hY
            · exact .inl (.inl rfl)
            · exact .inl (.inr (.inl hY))
            · have e : A' = Y := by cases hY; rfl
              subst e
              exact .inr (by omega)
  · clear r0 r2 ρ
    rintro ρ g2 ⟨r0, kv1, fv1, A1, F, nn⟩
    rw [fin_mid]
    generalize s.mid = s1 at *
    have hX1 := A1.obj
    simp only [scC] at hX1
    have hX1s : ∀ y : Option AObj, (g2.set X y)[X]? = some y := fun y => List.getElem?_set_self (lt_of_get hX1)
    obtain ⟨kv2, hsl, hk2, hb2⟩ : ∃ kv2, (∀ (ρ : Env) (x hi : XA), ev ρ x = some kv1 → ev ρ hi = some (.int .i64 0) → xop (.slice 1 x none (some hi) none) ρ g2 = some (kv2, g2)) ∧ KeR g2 kv2 [] ∧ ∀ Y, slB kv2 = some Y → slB kv1 = some Y := by
      rcases A1.ke with ⟨rfl, e⟩ | ⟨K, cells, rfl, hK, hg⟩
      · refine ⟨.slice none 0 0, fun ρ x hi e1 e2 => ?_, .inl ⟨rfl, rfl⟩, fun Y h => h⟩
        have hu : ¬ unk ≤ 0 := by decide
        simp [xop, e1, e2, bnd, int?, hu]
      · refine ⟨.slice (some ⟨K, 0, none⟩) 0 (unk + 1), fun ρ x hi e1 e2 => ?_, .inr ⟨K, cells, rfl, hK, (getN_eq _ _ _ _).2 ⟨by simp, by simp [bR]⟩⟩, fun Y h => h⟩
        have huu : unk ≤ unk + 1 := by omega
        simp [xop, e1, e2, bnd, int?, huu, shiftA]
    simp only [sx, x_box, x_alloc, x_appz, x_b2s, x_s2b, x_mark, xop, ev, evs, evParts, fillL, cellsL, Ai.get, Ai.put, stab, isNil?, if_false, if_true, addr?, int?, str?, agg?, bool?, shiftA, FnPost, xresL, xres1, tup, argEnv, ptr, Nat.reduceEqDiff, reduceIte, beq_self_eq_true, ne_eq, Nat.reduceAdd, Nat.reduceMul, Nat.reduceSub, abin_shl, abin_shr, load1V, loadV, storeV, cellsAt, getN, setN, allocV, lenL, lenS, bnd, oneC, Value.oneCell', Nat.reduceLeDiff, Nat.reduceLT, exists_eq_left', forall_const, reduceCtorEq, app_new, app_new0, List.append_assoc, Int.reduceToNat, Int.reduceLT, Int.reduceLE, Int.reduceEq, Int.reduceNe, Int.reduceBEq, IntKind.bits, bne_self_eq_false, Int.reducePow, r0, hX1]
    rw [x_slice, hsl _ _ _ rfl rfl, xthen_some]
    obtain ⟨q2, c2, rfl⟩ := hk2.shp
    simp only [sx, x_box, x_alloc, x_bslice, x_slice, x_append, x_appz, x_b2s, x_s2b, x_mark, xop, ev, evs, evParts, fillL, cellsL, Ai.get, Ai.put, stab, isNil?, if_false, if_true, addr?, int?, str?, agg?, bool?, shiftA, FnPost, xresL, xres1, tup, argEnv, ptr, Nat.reduceEqDiff, reduceIte, beq_self_eq_true, ne_eq, Nat.reduceAdd, Nat.reduceMul, Nat.reduceSub, abin_shl, abin_shr, load1V, loadV, storeV, cellsAt, getN, setN, allocV, lenL, lenS, bnd, oneC, Value.oneCell', Nat.reduceLeDiff, Nat.reduceLT, exists_eq_left', forall_const, reduceCtorEq, app_new, app_new0, List.append_assoc, Int.reduceToNat, Int.reduceLT, Int.reduceLE, Int.reduceEq, Int.reduceNe, Int.reduceBEq, IntKind.bits, bne_self_eq_false, Int.reducePow, hX1, hX1s, List.set_set]
    have z : ∀ y : Option AObj, Frz g2 (g2.set X y) := fun y Y cs hY => by
      rw [set_ne (fun e => by subst e; rw [hX1] at hY; cases hY)]; exact hY
    have F2 := F
    refine ⟨_, fv1, ⟨?_, hk2.keep fun Y hY => set_ne (A1.s1 Y (hb2 Y hY)).symm _, A1.fo.keep (z _) fun Y hY => set_ne (A1.s2 Y hY).symm _, fun Y hY => A1.s1 Y (hb2 Y hY), A1.s2, fun Y hY => A1.s3 Y (hb2 Y hY)⟩, F.trans (S1 := ftS X kv1 fv1) (Fr.set _ (.inl rfl)) nn, fun Y hY => ?_⟩
    · rw [hX1s]; rfl
    · rcases hY with rfl | hY | hY
      · exact nn _ (.inl rfl)
      · exact nn Y (.inr (.inl (hb2 Y hY)))
      · exact nn Y (.inr (.inr hY))

set_option maxHeartbeats 4000000 in
theorem read_ok {h : AHeap} {X : Nat} {s : Sc} {kv fv : Value} {N : Nat} {b : Int} (A : SAt h X s kv fv) (o : s.Ok N) (hN : N ≤ 900000000) (hb : b = 0 ∨ b = 1) : Valid Tryd.prog 44 [.pointer (some ⟨X, 0, none⟩), .int .u8 b] h fun r h' => WentS h h' X (s.read b) kv fv := by
  refine v44 (by simp) ?_
  have hX := A.obj
  simp only [scC] at hX
  have hon := o.on
  have her := o.er
  have wo : IntKind.i64.wrap ((s.on : Int) + 1) = ((s.on + 1 : Nat) : Int) := by rw [i64_wrap] <;> omega
  have we : IntKind.i64.wrap ((s.er : Int) + 1) = ((s.er + 1 : Nat) : Int) := by rw [i64_wrap] <;> omega
  have hXs : ∀ y : Option AObj, (h.set X y)[X]? = some y := fun y => List.getElem?_set_self (lt_of_get hX)
  rcases hb with rfl | rfl
  · -- a zero
    have hr : s.read 0 = s.zero := rfl
    rw [hr]
    have A1 := A.nums (s' := { s with on := 0 }) rfl rfl
    have o1 : ({ s with on := 0 } : Sc).Ok N := ⟨o.er, Nat.zero_le _, o.ma, o.ke, o.bi, o.fo⟩
    have F1 : Fr (ftS X kv fv) h (h.set X (some ⟨true, scC { s with on := 0 } kv fv⟩)) := Fr.set _ (.inl rfl)
    simp only [scC] at A1 F1
    by_cases h5 : s.on = 5
    · have h5' : ((s.on : Nat) : Int) = 5 := by omega
      have hz : s.zero = { s with on := 0 } := if_pos h5
      rw [hz]
      rw [h5'] at hX
      simp only [X44, sx, x_box, x_alloc, x_bslice, x_slice, x_append, x_appz, x_b2s, x_s2b, x_mark, xop, ev, evs, evParts, fillL, cellsL, Ai.get, Ai.put, stab, isNil?, if_false, if_true, addr?, int?, str?, agg?, bool?, shiftA, FnPost, xresL, xres1, tup, argEnv, ptr, Nat.reduceEqDiff, reduceIte, beq_self_eq_true, ne_eq, Nat.reduceAdd, Nat.reduceMul, Nat.reduceSub, abin_shl, abin_shr, load1V, loadV, storeV, cellsAt, getN, setN, allocV, lenL, lenS, bnd, oneC, Value.oneCell', Nat.reduceLeDiff, Nat.reduceLT, exists_eq_left', forall_const, reduceCtorEq, app_new, app_new0, List.append_assoc, Int.reduceToNat, Int.reduceLT, Int.reduceLE, Int.reduceEq, Int.reduceNe, Int.reduceBEq, IntKind.bits, bne_self_eq_false, Int.reducePow, hX, hXs, h5']
      exact ⟨kv, fv, A1, F1, fun Y e => .inl e⟩
    · have h5' : ¬ ((s.on : Nat) : Int) = 5 := by omega
      by_cases h6 : s.on = 6
      · have h6' : ((s.on : Nat) : Int) = 6 := by omega
        have hz : s.zero = Sc.fin { s with on := 0 } := by unfold Sc.zero; rw [if_neg h5, if_pos h6]
        rw [hz]
        rw [h6'] at hX
        simp only [X44, sx, x_box, x_alloc, x_bslice, x_slice, x_append, x_appz, x_b2s, x_s2b, x_mark, xop, ev, evs, evParts, fillL, cellsL, Ai.get, Ai.put, stab, isNil?, if_false, if_true, addr?, int?, str?, agg?, bool?, shiftA, FnPost, xresL, xres1, tup, argEnv, ptr, Nat.reduceEqDiff, reduceIte, beq_self_eq_true, ne_eq, Nat.reduceAdd, Nat.reduceMul, Nat.reduceSub, abin_shl, abin_shr, load1V, loadV, storeV, cellsAt, getN, setN, allocV, lenL, lenS, bnd, oneC, Value.oneCell', Nat.reduceLeDiff, Nat.reduceLT, exists_eq_left', forall_const, reduceCtorEq, app_new, app_new0, List.append_assoc, Int.reduceToNat, Int.reduceLT, Int.reduceLE, Int.reduceEq, Int.reduceNe, Int.reduceBEq, IntKind.bits, bne_self_eq_false, Int.reducePow, hX, hXs, h6']
        refine xcall (end_ok A1 o1 (by omega)) (by rfl) (by rfl) (by rfl) (by rfl) ?_
        rintro r g W
        simp only [sx, x_box, x_alloc, x_bslice, x_slice, x_append, x_appz, x_b2s, x_s2b, x_mark, xop, ev, evs, evParts, fillL, cellsL, Ai.get, Ai.put, stab, isNil?, if_false, if_true, addr?, int?, str?, agg?, bool?, shiftA, FnPost, xresL, xres1, tup, argEnv, ptr, Nat.reduceEqDiff, reduceIte, beq_self_eq_true, ne_eq, Nat.reduceAdd, Nat.reduceMul, Nat.reduceSub, abin_shl, abin_shr, load1V, loadV, storeV, cellsAt, getN, setN, allocV, lenL, lenS, bnd, oneC, Value.oneCell', Nat.reduceLeDiff, Nat.reduceLT, exists_eq_left', forall_const, reduceCtorEq, app_new, app_new0, List.append_assoc, Int.reduceToNat, Int.reduceLT, Int.reduceLE, Int.reduceEq, Int.reduceNe, Int.reduceBEq, IntKind.bits, bne_self_eq_false, Int.reducePow]
        exact W.go F1 fun Y e => .inl e
      · have h6' : ¬ ((s.on : Nat) : Int) = 6 := by omega
        have hz : s.zero = Sc.keep { s with on := 0 } 0 := by unfold Sc.zero; rw [if_neg h5, if_neg h6]
        rw [hz]
        simp only [X44, sx, x_box, x_alloc, x_bslice, x_slice, x_append, x_appz, x_b2s, x_s2b, x_mark, xop, ev, evs, evParts, fillL, cellsL, Ai.get, Ai.put, stab, isNil?, if_false, if_true, addr?, int?, str?, agg?, bool?, shiftA, FnPost, xresL, xres1, tup, argEnv, ptr, Nat.reduceEqDiff, reduceIte, beq_self_eq_true, ne_eq, Nat.reduceAdd, Nat.reduceMul, Nat.reduceSub, abin_shl, abin_shr, load1V, loadV, storeV, cellsAt, getN, setN, allocV, lenL, lenS, bnd, oneC, Value.oneCell', Nat.reduceLeDiff, Nat.reduceLT, exists_eq_left', forall_const, reduceCtorEq, app_new, app_new0, List.append_assoc, Int.reduceToNat, Int.reduceLT, Int.reduceLE, Int.reduceEq, Int.reduceNe, Int.reduceBEq, IntKind.bits, bne_self_eq_false, Int.reducePow, hX, hXs, h5', h6']
        refine xcall (keep_ok A1 o1 (by omega)) (by rfl) (by rfl) (by rfl) (by rfl) ?_
        rintro r g W
        simp only [sx, x_box, x_alloc, x_bslice, x_slice, x_append, x_appz, x_b2s, x_s2b, x_mark, xop, ev, evs, evParts, fillL, cellsL, Ai.get, Ai.put, stab, isNil?, if_false, if_true, addr?, int?, str?, agg?, bool?, shiftA, FnPost, xresL, xres1, tup, argEnv, ptr, Nat.reduceEqDiff, reduceIte, beq_self_eq_true, ne_eq, Nat.reduceAdd, Nat.reduceMul, Nat.reduceSub, abin_shl, abin_shr, load1V, loadV, storeV, cellsAt, getN, setN, allocV, lenL, lenS, bnd, oneC, Value.oneCell', Nat.reduceLeDiff, Nat.reduceLT, exists_eq_left', forall_const, reduceCtorEq, app_new, app_new0, List.append_assoc, Int.reduceToNat, Int.reduceLT, Int.reduceLE, Int.reduceEq, Int.reduceNe, Int.reduceBEq, IntKind.bits, bne_self_eq_false, Int.reducePow]
        exact W.go F1 fun Y e => .inl e
  · -- a one
    have hr : s.read 1 = s.one := rfl
    rw [hr]
    have A1 := A.nums (s' := { s with on := s.on + 1 }) rfl rfl
    have o1 : ({ s with on := s.on + 1 } : Sc).Ok (N + 1) := ⟨by have := o.er; simp only; omega, by simp only; omega, by have := o.ma; simp only; omega, o.ke, o.bi, by have := o.fo; simp only; omega⟩
    have F1 : Fr (ftS X kv fv) h (h.set X (some ⟨true, scC { s with on := s.on + 1 } kv fv⟩)) := Fr.set _ (.inl rfl)
    simp only [scC] at A1 F1
    simp only [X44, sx, x_box, x_alloc, x_bslice, x_slice, x_append, x_appz, x_b2s, x_s2b, x_mark, xop, ev, evs, evParts, fillL, cellsL, Ai.get, Ai.put, stab, isNil?, if_false, if_true, addr?, int?, str?, agg?, bool?, shiftA, FnPost, xresL, xres1, tup, argEnv, ptr, Nat.reduceEqDiff, reduceIte, beq_self_eq_true, ne_eq, Nat.reduceAdd, Nat.reduceMul, Nat.reduceSub, abin_shl, abin_shr, load1V, loadV, storeV, cellsAt, getN, setN, allocV, lenL, lenS, bnd, oneC, Value.oneCell', Nat.reduceLeDiff, Nat.reduceLT, exists_eq_left', forall_const, reduceCtorEq, app_new, app_new0, List.append_assoc, Int.reduceToNat, Int.reduceLT, Int.reduceLE, Int.reduceEq, Int.reduceNe, Int.reduceBEq, IntKind.bits, bne_self_eq_false, Int.reducePow, hX, hXs, wo]
    refine xcall (keep_ok A1 o1 (by omega)) (by rfl) (by rfl) (by rfl) (by rfl) ?_
    rintro r g W
    have hk : Sc.keep { s with on := s.on + 1 } 1 = { s.keep 1 with on := s.on + 1 } := rfl
    rw [hk] at W
    have W0 := W
    obtain ⟨k2, f2, A2, F2, n2⟩ := W
    have hX2 := A2.obj
    have hX2s : ∀ y : Option AObj, (g.set X y)[X]? = some y := fun y => List.getElem?_set_self (lt_of_get hX2)
    have her2 : (s.keep 1).er = s.er := rfl
    have hhu2 : (s.keep 1).hu = s.hu := rfl
    simp only [scC, her2, hhu2] at hX2
    by_cases h7 : s.on + 1 = 7 ∧ s.hu = false
    · have h7' : ((s.on + 1 : Nat) : Int) = 7 := by omega
      have ho : s.one = { s.keep 1 with on := s.on + 1, er := s.er + 1, hu := true } := if_pos h7
      rw [ho]
      rw [h7', h7.2] at hX2
      simp only [sx, x_box, x_alloc, x_bslice, x_slice, x_append, x_appz, x_b2s, x_s2b, x_mark, xop, ev, evs, evParts, fillL, cellsL, Ai.get, Ai.put, stab, isNil?, if_false, if_true, addr?, int?, str?, agg?, bool?, shiftA, FnPost, xresL, xres1, tup, argEnv, ptr, Nat.reduceEqDiff, reduceIte, beq_self_eq_true, ne_eq, Nat.reduceAdd, Nat.reduceMul, Nat.reduceSub, abin_shl, abin_shr, load1V, loadV, storeV, cellsAt, getN, setN, allocV, lenL, lenS, bnd, oneC, Value.oneCell', Nat.reduceLeDiff, Nat.reduceLT, exists_eq_left', forall_const, reduceCtorEq, app_new, app_new0, List.append_assoc, Int.reduceToNat, Int.reduceLT, Int.reduceLE, Int.reduceEq, Int.reduceNe, Int.reduceBEq, IntKind.bits, bne_self_eq_false, Int.reducePow, hX2, hX2s, we, List.set_set]
      have W3 := A2.numsW (s' := { s.keep 1 with on := s.on + 1, er := s.er + 1, hu := true }) rfl rfl
      simp only [scC] at W3
      rw [h7'] at W3
      exact (W3.go F2 n2).go F1 fun Y e => .inl e
    · have ho : s.one = { s.keep 1 with on := s.on + 1 } := if_neg h7
      rw [ho]
      have fin : WentS h g X { s.keep 1 with on := s.on + 1 } kv fv := WentS.go W0 F1 fun Y e => .inl e
      by_cases h8 : s.on + 1 = 7
      · have h7' : ((s.on + 1 : Nat) : Int) = 7 := by omega
        have hhu : s.hu = true := by
          cases hh : s.hu with
          | true => rfl
          | false => exact absurd ⟨h8, hh⟩ h7
        rw [h7', hhu] at hX2
        simp only [sx, x_box, x_alloc, x_bslice, x_slice, x_append, x_appz, x_b2s, x_s2b, x_mark, xop, ev, evs, evParts, fillL, cellsL, Ai.get, Ai.put, stab, isNil?, if_false, if_true, addr?, int?, str?, agg?, bool?, shiftA, FnPost, xresL, xres1, tup, argEnv, ptr, Nat.reduceEqDiff, reduceIte, beq_self_eq_true, ne_eq, Nat.reduceAdd, Nat.reduceMul, Nat.reduceSub, abin_shl, abin_shr, load1V, loadV, storeV, cellsAt, getN, setN, allocV, lenL, lenS, bnd, oneC, Value.oneCell', Nat.reduceLeDiff, Nat.reduceLT, exists_eq_left', forall_const, reduceCtorEq, app_new, app_new0, List.append_assoc, Int.reduceToNat, Int.reduceLT, Int.reduceLE, Int.reduceEq, Int.reduceNe, Int.reduceBEq, IntKind.bits, bne_self_eq_false, Int.reducePow, hX2]
        exact fin
      · have h7' : ¬ ((s.on + 1 : Nat) : Int) = 7 := by omega
        simp only [sx, x_box, x_alloc, x_bslice, x_slice, x_append, x_appz, x_b2s, x_s2b, x_mark, xop, ev, evs, evParts, fillL, cellsL, Ai.get, Ai.put, stab, isNil?, if_false, if_true, addr?, int?, str?, agg?, bool?, shiftA, FnPost, xresL, xres1, tup, argEnv, ptr, Nat.reduceEqDiff, reduceIte, beq_self_eq_true, ne_eq, Nat.reduceAdd, Nat.reduceMul, Nat.reduceSub, abin_shl, abin_shr, load1V, loadV, storeV, cellsAt, getN, setN, allocV, lenL, lenS, bnd, oneC, Value.oneCell', Nat.reduceLeDiff, Nat.reduceLT, exists_eq_left', forall_const, reduceCtorEq, app_new, app_new0, List.append_assoc, Int.reduceToNat, Int.reduceLT, Int.reduceLE, Int.reduceEq, Int.reduceNe, Int.reduceBEq, IntKind.bits, bne_self_eq_false, Int.reducePow, hX2, h7']
        exact fin
theorem firstV_at {h h' : AHeap} {q : Option Addr} {n c k : Nat} (hk : ∀ a, q = some a → h'[a.block]? = h[a.block]?) : firstV k h' n (.slice q n c) = firstV k h n (.slice q n c) := by
  cases q with
  | none => rfl
  | some a => simp only [firstV, cellsAt, hk a rfl]
def EaI (h0 : AHeap) (X : Nat) (s : Sc) (kv fv : Value) (q : Option Addr) (n c : Nat) (zs : List Int) (m : Nat) (ρ : Env) (h : AHeap) : Prop := ∃ i : Nat, i + m = n ∧ get ρ 8 = some (.int .i64 (i : Nat)) ∧ get ρ 7 = some (.int .i64 (n : Nat)) ∧ get ρ 6 = some (.slice q n c) ∧ get ρ 1 = some (.func (.func 44) #[.pointer (some ⟨X, 0, none⟩)] #[]) ∧ WentS h0 h X (s.feed (zs.take i)) kv fv
def EaE (h0 : AHeap) (X : Nat) (s : Sc) (kv fv : Value) (zs : List Int) (ρ : Env) (h : AHeap) : Prop := WentS h0 h X (s.feed zs) kv fv
theorem each_ok {h : AHeap} {X : Nat} {s : Sc} {kv fv : Value} {N : Nat} {q : Option Addr} {n c : Nat} {zs : List Int} (A : SAt h X s kv fv) (o : s.Ok N) (hN : N + n ≤ 900000000) (hf : firstV 1 h n (.slice q n c) = some (bR zs)) (hb : Bits zs) (hd : ∀ a, q = some a → a.block < h.length ∧ ¬ ftS X kv fv a.block) :
    Valid Tryd.prog 43 [.slice q n c, .func (.func 44) #[.pointer (some ⟨X, 0, none⟩)] #[]] h fun r h' => WentS h h' X (s.feed zs) kv fv := by
  refine v43 (by simp) ?_
  have hzl := firstV_len hf
  rw [bR_len, Nat.mul_one] at hzl
  simp only [X43, sx, x_box, x_alloc, x_bslice, x_slice, x_append, x_appz, x_b2s, x_s2b, x_mark, xop, ev, evs, evParts, fillL, cellsL, Ai.get, Ai.put, stab, isNil?, if_false, if_true, addr?, int?, str?, agg?, bool?, shiftA, FnPost, xresL, xres1, tup, argEnv, ptr, Nat.reduceEqDiff, reduceIte, beq_self_eq_true, ne_eq, Nat.reduceAdd, Nat.reduceMul, Nat.reduceSub, abin_shl, abin_shr, load1V, loadV, storeV, cellsAt, getN, setN, allocV, lenL, lenS, bnd, oneC, Value.oneCell', Nat.reduceLeDiff, Nat.reduceLT, exists_eq_left', forall_const, reduceCtorEq, app_new, app_new0, List.append_assoc, Int.reduceToNat, Int.reduceLT, Int.reduceLE, Int.reduceEq, Int.reduceNe, Int.reduceBEq, IntKind.bits, bne_self_eq_false, Int.reducePow]
  refine xloop_cut (EaE h X s kv fv zs) ?_ ?_
  rotate_left
  · intro ρ h' e0
    simp only [sx, x_box, x_alloc, x_bslice, x_slice, x_append, x_appz, x_b2s, x_s2b, x_mark, xop, ev, evs, evParts, fillL, cellsL, Ai.get, Ai.put, stab, isNil?, if_false, if_true, addr?, int?, str?, agg?, bool?, shiftA, FnPost, xresL, xres1, tup, argEnv, ptr, Nat.reduceEqDiff, reduceIte, beq_self_eq_true, ne_eq, Nat.reduceAdd, Nat.reduceMul, Nat.reduceSub, abin_shl, abin_shr, load1V, loadV, storeV, cellsAt, getN, setN, allocV, lenL, lenS, bnd, oneC, Value.oneCell', Nat.reduceLeDiff, Nat.reduceLT, exists_eq_left', forall_const, reduceCtorEq, app_new, app_new0, List.append_assoc, Int.reduceToNat, Int.reduceLT, Int.reduceLE, Int.reduceEq, Int.reduceNe, Int.reduceBEq, IntKind.bits, bne_self_eq_false, Int.reducePow]
    first | exact e0 | exact ⟨⟨_, rfl⟩, e0⟩
  refine xcode_loop (EaI h X s kv fv q n c zs) n ⟨0, by omega, rfl, rfl, rfl, rfl, A.same (Kp.refl _)⟩ ?_
  rintro m ρ g ⟨i, him, r8, r7, r6, r1, W⟩
  by_cases hi : i < n
  · have hi' : (i : Int) < (n : Nat) := by omega
    have hi0 : (0 : Int) ≤ (i : Int) := by omega
    have wi : IntKind.i64.wrap ((i : Int) + 1) = ((i + 1 : Nat) : Int) := by rw [i64_wrap] <;> omega
    obtain ⟨k1, f1, A1, F1, n1⟩ := W
    have hfg : firstV 1 g n (.slice q n c) = some (bR zs) := (firstV_at fun a ha => F1.2 _ (hd a ha).1 (hd a ha).2).trans hf
    obtain ⟨a, oo, z, rfl, a1, a2, a3, a4⟩ := elemB hfg hi
    have hz := hb z (List.mem_of_getElem? a4)
    have og : (s.feed (zs.take i)).Ok (N + i) := by
      have := o.feed (s := s) (hb.take i)
      rw [List.length_take, Nat.min_eq_left (by omega)] at this; exact this
    simp only [sx, x_box, x_alloc, x_bslice, x_slice, x_append, x_appz, x_b2s, x_s2b, x_mark, xop, ev, evs, evParts, fillL, cellsL, Ai.get, Ai.put, stab, isNil?, if_false, if_true, addr?, int?, str?, agg?, bool?, shiftA, FnPost, xresL, xres1, tup, argEnv, ptr, Nat.reduceEqDiff, reduceIte, beq_self_eq_true, ne_eq, Nat.reduceAdd, Nat.reduceMul, Nat.reduceSub, abin_shl, abin_shr, load1V, loadV, storeV, cellsAt, getN, setN, allocV, lenL, lenS, bnd, oneC, Value.oneCell', Nat.reduceLeDiff, Nat.reduceLT, exists_eq_left', forall_const, reduceCtorEq, app_new, app_new0, List.append_assoc, Int.reduceToNat, Int.reduceLT, Int.reduceLE, Int.reduceEq, Int.reduceNe, Int.reduceBEq, IntKind.bits, bne_self_eq_false, Int.reducePow, r8, r7, r6, r1, hi', hi0, a1, a2, a3, Nat.mul_one]
    refine xcall (read_ok A1 og (by omega) hz) (by first | exact r1 | rfl) (by rfl) (by rfl) (by rfl) ?_
    rintro r g2 W2
    simp only [sx, x_box, x_alloc, x_bslice, x_slice, x_append, x_appz, x_b2s, x_s2b, x_mark, xop, ev, evs, evParts, fillL, cellsL, Ai.get, Ai.put, stab, isNil?, if_false, if_true, addr?, int?, str?, agg?, bool?, shiftA, FnPost, xresL, xres1, tup, argEnv, ptr, Nat.reduceEqDiff, reduceIte, beq_self_eq_true, ne_eq, Nat.reduceAdd, Nat.reduceMul, Nat.reduceSub, abin_shl, abin_shr, load1V, loadV, storeV, cellsAt, getN, setN, allocV, lenL, lenS, bnd, oneC, Value.oneCell', Nat.reduceLeDiff, Nat.reduceLT, exists_eq_left', forall_const, reduceCtorEq, app_new, app_new0, List.append_assoc, Int.reduceToNat, Int.reduceLT, Int.reduceLE, Int.reduceEq, Int.reduceNe, Int.reduceBEq, IntKind.bits, bne_self_eq_false, Int.reducePow, r8, r7, wi]
    refine ⟨m - 1, by omega, i + 1, by omega, rfl, r7, r6, r1, ?_⟩
    have : s.feed (zs.take (i + 1)) = (s.feed (zs.take i)).read z := by
      unfold Sc.feed; rw [take_snoc a4, List.foldl_append]; rfl
    rw [this]
    exact W2.go F1 n1
  · have hi' : ¬ (i : Int) < (n : Nat) := by omega
    simp only [sx, x_box, x_alloc, x_bslice, x_slice, x_append, x_appz, x_b2s, x_s2b, x_mark, xop, ev, evs, evParts, fillL, cellsL, Ai.get, Ai.put, stab, isNil?, if_false, if_true, addr?, int?, str?, agg?, bool?, shiftA, FnPost, xresL, xres1, tup, argEnv, ptr, Nat.reduceEqDiff, reduceIte, beq_self_eq_true, ne_eq, Nat.reduceAdd, Nat.reduceMul, Nat.reduceSub, abin_shl, abin_shr, load1V, loadV, storeV, cellsAt, getN, setN, allocV, lenL, lenS, bnd, oneC, Value.oneCell', Nat.reduceLeDiff, Nat.reduceLT, exists_eq_left', forall_const, reduceCtorEq, app_new, app_new0, List.append_assoc, Int.reduceToNat, Int.reduceLT, Int.reduceLE, Int.reduceEq, Int.reduceNe, Int.reduceBEq, IntKind.bits, bne_self_eq_false, Int.reducePow, r8, r7, hi']
    rw [List.take_of_length_le (by omega)] at W
    exact W

theorem newS_ok {h : AHeap} : Valid Tryd.prog 19 [] h fun r h' => ∃ X, r = .pointer (some ⟨X, 0, none⟩) ∧ SAt h' X Sc.new (.slice none 0 0) (.slice none 0 0) ∧ Kp h h' ∧ h.length ≤ X := by
  refine v19 (by simp) ?_
  simp only [X19, sx, x_alloc, x_bslice, x_slice, x_append, x_appz, x_b2s, x_s2b, x_mark, xop, ev, evs, evParts, fillL, cellsL, Ai.get, Ai.put, stab, isNil?, if_false, if_true, addr?, int?, str?, agg?, bool?, shiftA, FnPost, xresL, xres1, tup, argEnv, ptr, Nat.reduceEqDiff, reduceIte, beq_self_eq_true, ne_eq, Nat.reduceAdd, Nat.reduceMul, Nat.reduceSub, abin_shl, abin_shr, load1V, loadV, storeV, cellsAt, getN, setN, allocV, lenL, lenS, bnd, oneC, Value.oneCell', Nat.reduceLeDiff, Nat.reduceLT, exists_eq_left', forall_const, reduceCtorEq, app_new, app_new0, List.append_assoc, Int.reduceToNat, Int.reduceLT, Int.reduceLE, Int.reduceEq, Int.reduceNe, Int.reduceBEq, IntKind.bits, bne_self_eq_false, Int.reducePow]
  refine box_run rfl fun g R K hR hRl _ => ⟨trivial, ?_⟩
  simp only [cellsL] at hR
  simp only [sx, x_alloc, x_bslice, x_slice, x_append, x_appz, x_b2s, x_s2b, x_mark, xop, ev, evs, evParts, fillL, cellsL, Ai.get, Ai.put, stab, isNil?, if_false, if_true, addr?, int?, str?, agg?, bool?, shiftA, FnPost, xresL, xres1, tup, argEnv, ptr, Nat.reduceEqDiff, reduceIte, beq_self_eq_true, ne_eq, Nat.reduceAdd, Nat.reduceMul, Nat.reduceSub, abin_shl, abin_shr, load1V, loadV, storeV, cellsAt, getN, setN, allocV, lenL, lenS, bnd, oneC, Value.oneCell', Nat.reduceLeDiff, Nat.reduceLT, exists_eq_left', forall_const, reduceCtorEq, app_new, app_new0, List.append_assoc, Int.reduceToNat, Int.reduceLT, Int.reduceLE, Int.reduceEq, Int.reduceNe, Int.reduceBEq, IntKind.bits, bne_self_eq_false, Int.reducePow]
  exact ⟨R, rfl, ⟨hR, .inl ⟨rfl, rfl⟩, .inl ⟨rfl, rfl⟩, (fun Y h => by cases h), (fun Y h => by cases h), fun Y h => by cases h⟩, K, hRl⟩
theorem errors_ok {h : AHeap} {X : Nat} {s : Sc} {kv fv : Value} (A : SAt h X s kv fv) : Valid Tryd.prog 22 [.pointer (some ⟨X, 0, none⟩)] h fun r h' => r = .int .i64 (s.er : Int) ∧ h' = h := by
  refine v22 (by simp) ?_
  have hX := A.obj
  simp only [scC] at hX
  simp only [X22, sx, x_box, x_alloc, x_bslice, x_slice, x_append, x_appz, x_b2s, x_s2b, x_mark, xop, ev, evs, evParts, fillL, cellsL, Ai.get, Ai.put, stab, isNil?, if_false, if_true, addr?, int?, str?, agg?, bool?, shiftA, FnPost, xresL, xres1, tup, argEnv, ptr, Nat.reduceEqDiff, reduceIte, beq_self_eq_true, ne_eq, Nat.reduceAdd, Nat.reduceMul, Nat.reduceSub, abin_shl, abin_shr, load1V, loadV, storeV, cellsAt, getN, setN, allocV, lenL, lenS, bnd, oneC, Value.oneCell', Nat.reduceLeDiff, Nat.reduceLT, exists_eq_left', forall_const, reduceCtorEq, app_new, app_new0, List.append_assoc, Int.reduceToNat, Int.reduceLT, Int.reduceLE, Int.reduceEq, Int.reduceNe, Int.reduceBEq, IntKind.bits, bne_self_eq_false, Int.reducePow, hX]
theorem hunting_ok {h : AHeap} {X : Nat} {s : Sc} {kv fv : Value} (A : SAt h X s kv fv) : Valid Tryd.prog 23 [.pointer (some ⟨X, 0, none⟩)] h fun r h' => r = .bool s.hu ∧ h' = h := by
  refine v23 (by simp) ?_
  have hX := A.obj
  simp only [scC] at hX
  simp only [X23, sx, x_box, x_alloc, x_bslice, x_slice, x_append, x_appz, x_b2s, x_s2b, x_mark, xop, ev, evs, evParts, fillL, cellsL, Ai.get, Ai.put, stab, isNil?, if_false, if_true, addr?, int?, str?, agg?, bool?, shiftA, FnPost, xresL, xres1, tup, argEnv, ptr, Nat.reduceEqDiff, reduceIte, beq_self_eq_true, ne_eq, Nat.reduceAdd, Nat.reduceMul, Nat.reduceSub, abin_shl, abin_shr, load1V, loadV, storeV, cellsAt, getN, setN, allocV, lenL, lenS, bnd, oneC, Value.oneCell', Nat.reduceLeDiff, Nat.reduceLT, exists_eq_left', forall_const, reduceCtorEq, app_new, app_new0, List.append_assoc, Int.reduceToNat, Int.reduceLT, Int.reduceLE, Int.reduceEq, Int.reduceNe, Int.reduceBEq, IntKind.bits, bne_self_eq_false, Int.reducePow, hX]
/-- a list as long as its room, whose lists are written no more -/
def FsV (h : AHeap) (q : Option Addr) (ls : List (List Int)) : Prop := ∃ rows, firstV 1 h ls.length (.slice q ls.length ls.length) = some rows ∧ FsR h rows ls
theorem FN.clip {h : AHeap} {fv : Value} {ls : List (List Int)} (l : FN h fv ls) (hl : ls.length ≤ 1000000000) : Valid Tryd.prog 45 [fv] h fun r h' => h' = h ∧ ∃ q, r = .slice q ls.length ls.length ∧ FsV h q ls ∧ ∀ a, q = some a → slB fv = some a.block ∧ a.spot = none := by
  rcases l with ⟨rfl, rfl⟩ | ⟨A, rows, rfl, hA, hR⟩
  · refine (clip_nil v45 h).mono ?_
    rintro r h' ⟨rfl, rfl⟩
    exact ⟨rfl, none, rfl, ⟨[], rfl, trivial⟩, fun a h => by cases h⟩
  · refine (clip_ok v45 h A ls.length (unk + 1) (by unfold unk; omega) (.inr rfl)).mono ?_
    rintro r h' ⟨rfl, rfl⟩
    refine ⟨rfl, _, rfl, ⟨rows, ?_, hR⟩, fun a h => by cases h; exact ⟨rfl, rfl⟩⟩
    simp only [firstV]
    split
    · rename_i h0
      have e : rows = [] := List.eq_nil_of_length_eq_zero (by rw [hR.len]; exact h0)
      rw [e]
    · simp only [ne_eq, not_true_eq_false, if_false, cellsAt, hA, Option.bind_some, Nat.mul_one]
      exact getN_all _ _ hR.len.symm
def FeedP (h : AHeap) (X : Nat) (s : Sc) (kv fv : Value) (zs : List Int) (r : Value) (h' : AHeap) : Prop :=
  (checkV zs ≠ 0 ∧ r = .tuple #[.slice none 0 0, .int .i64 (checkV zs)] ∧ h' = h) ∨
  (checkV zs = 0 ∧ ∃ q kv', r = .tuple #[.slice q (s.feed zs).fo.length (s.feed zs).fo.length, .int .i64 0] ∧ FsV h' q (s.feed zs).fo ∧ SAt h' X { s.feed zs with fo := [] } kv' (.slice none 0 0) ∧ Fr (ftS X kv fv) h h' ∧ (∀ Y, ftS X kv' (.slice none 0 0) Y → ftS X kv fv Y ∨ h.length ≤ Y) ∧ (∀ a, q = some a → (ftS X kv fv a.block ∨ h.length ≤ a.block) ∧ ¬ ftS X kv' (.slice none 0 0) a.block ∧ a.spot = none))
set_option maxHeartbeats 2000000 in
theorem feed_ok {h : AHeap} {X : Nat} {s : Sc} {kv fv : Value} {N : Nat} {q : Option Addr} {n c : Nat} {zs : List Int} (A : SAt h X s kv fv) (o : s.Ok N) (hN : N ≤ 800000000) (hf : firstV 1 h n (.slice q n c) = some (bR zs)) (hn : n ≤ 1152921504606846976) (hp : ∀ z ∈ zs, 0 ≤ z) (hd : ∀ a, q = some a → a.block < h.length ∧ ¬ ftS X kv fv a.block) :
    Valid Tryd.prog 20 [.pointer (some ⟨X, 0, none⟩), .slice q n c] h fun r h' => FeedP h X s kv fv zs r h' := by
  refine v20 (by simp) ?_
  have hzl := firstV_len hf
  rw [bR_len, Nat.mul_one] at hzl
  have hX := A.obj
  simp only [scC] at hX
  simp only [X20, sx, x_box, x_alloc, x_bslice, x_slice, x_append, x_appz, x_b2s, x_s2b, x_mark, xop, ev, evs, evParts, fillL, cellsL, Ai.get, Ai.put, stab, isNil?, if_false, if_true, addr?, int?, str?, agg?, bool?, shiftA, FnPost, xresL, xres1, tup, argEnv, ptr, Nat.reduceEqDiff, reduceIte, beq_self_eq_true, ne_eq, Nat.reduceAdd, Nat.reduceMul, Nat.reduceSub, abin_shl, abin_shr, load1V, loadV, storeV, cellsAt, getN, setN, allocV, lenL, lenS, bnd, oneC, Value.oneCell', Nat.reduceLeDiff, Nat.reduceLT, exists_eq_left', forall_const, reduceCtorEq, app_new, app_new0, List.append_assoc, Int.reduceToNat, Int.reduceLT, Int.reduceLE, Int.reduceEq, Int.reduceNe, Int.reduceBEq, IntKind.bits, bne_self_eq_false, Int.reducePow, hX]
  refine xcall (check_still hf hn) (by rfl) (by rfl) (by rfl) (by rfl) ?_
  rintro r g ⟨rfl, e0⟩
  subst e0
  by_cases hc : checkV zs = 0
  · obtain ⟨hl, hb⟩ := checkV_bits hc hp
    simp only [sx, x_box, x_alloc, x_bslice, x_slice, x_append, x_appz, x_b2s, x_s2b, x_mark, xop, ev, evs, evParts, fillL, cellsL, Ai.get, Ai.put, stab, isNil?, if_false, if_true, addr?, int?, str?, agg?, bool?, shiftA, FnPost, xresL, xres1, tup, argEnv, ptr, Nat.reduceEqDiff, reduceIte, beq_self_eq_true, ne_eq, Nat.reduceAdd, Nat.reduceMul, Nat.reduceSub, abin_shl, abin_shr, load1V, loadV, storeV, cellsAt, getN, setN, allocV, lenL, lenS, bnd, oneC, Value.oneCell', Nat.reduceLeDiff, Nat.reduceLT, exists_eq_left', forall_const, reduceCtorEq, app_new, app_new0, List.append_assoc, Int.reduceToNat, Int.reduceLT, Int.reduceLE, Int.reduceEq, Int.reduceNe, Int.reduceBEq, IntKind.bits, bne_self_eq_false, Int.reducePow, hc]
    refine xcall (each_ok A o (by omega) hf hb hd) (by rfl) (by rfl) (by rfl) (by rfl) ?_
    rintro r g2 ⟨k1, f1, A1, F1, n1⟩
    have o1 := o.feed (s := s) hb
    have hX1 := A1.obj
    simp only [scC] at hX1
    have hX1s : ∀ y : Option AObj, (g2.set X y)[X]? = some y := fun y => List.getElem?_set_self (lt_of_get hX1)
    simp only [sx, x_box, x_alloc, x_bslice, x_slice, x_append, x_appz, x_b2s, x_s2b, x_mark, xop, ev, evs, evParts, fillL, cellsL, Ai.get, Ai.put, stab, isNil?, if_false, if_true, addr?, int?, str?, agg?, bool?, shiftA, FnPost, xresL, xres1, tup, argEnv, ptr, Nat.reduceEqDiff, reduceIte, beq_self_eq_true, ne_eq, Nat.reduceAdd, Nat.reduceMul, Nat.reduceSub, abin_shl, abin_shr, load1V, loadV, storeV, cellsAt, getN, setN, allocV, lenL, lenS, bnd, oneC, Value.oneCell', Nat.reduceLeDiff, Nat.reduceLT, exists_eq_left', forall_const, reduceCtorEq, app_new, app_new0, List.append_assoc, Int.reduceToNat, Int.reduceLT, Int.reduceLE, Int.reduceEq, Int.reduceNe, Int.reduceBEq, IntKind.bits, bne_self_eq_false, Int.reducePow, hX1]
    refine xcall (A1.fo.clip (by have := o1.fo; omega)) (by rfl) (by rfl) (by rfl) (by rfl) ?_
    rintro r g3 ⟨e0, qr, rfl, ⟨rows, hfr, hR⟩, hqb⟩
    subst e0
    simp only [sx, x_box, x_alloc, x_bslice, x_slice, x_append, x_appz, x_b2s, x_s2b, x_mark, xop, ev, evs, evParts, fillL, cellsL, Ai.get, Ai.put, stab, isNil?, if_false, if_true, addr?, int?, str?, agg?, bool?, shiftA, FnPost, xresL, xres1, tup, argEnv, ptr, Nat.reduceEqDiff, reduceIte, beq_self_eq_true, ne_eq, Nat.reduceAdd, Nat.reduceMul, Nat.reduceSub, abin_shl, abin_shr, load1V, loadV, storeV, cellsAt, getN, setN, allocV, lenL, lenS, bnd, oneC, Value.oneCell', Nat.reduceLeDiff, Nat.reduceLT, exists_eq_left', forall_const, reduceCtorEq, app_new, app_new0, List.append_assoc, Int.reduceToNat, Int.reduceLT, Int.reduceLE, Int.reduceEq, Int.reduceNe, Int.reduceBEq, IntKind.bits, bne_self_eq_false, Int.reducePow, hX1]
    have z : ∀ y : Option AObj, Frz g3 (g3.set X y) := fun y Y cs hY => by
      rw [set_ne (fun e => by subst e; rw [hX1] at hY; cases hY)]; exact hY
    refine .inr ⟨hc, qr, k1, rfl, ⟨rows, ?_, hR.frz (z _)⟩, ⟨hX1s _, A1.ke.keep fun Y hY => set_ne (A1.s1 Y hY).symm _, .inl ⟨rfl, rfl⟩, A1.s1, (fun Y h => by cases h), fun Y _ h => by cases h⟩, F1.trans (S1 := ftS X k1 f1) (Fr.set _ (.inl rfl)) n1, fun Y hY => ?_, fun a ha => ⟨n1 _ (.inr (.inr (hqb a ha).1)), fun hY => ?_, (hqb a ha).2⟩⟩
    · rw [firstV_at fun a ha => set_ne (A1.s2 _ (hqb a ha).1).symm _]; exact hfr
    · rcases hY with rfl | hY | hY
      · exact .inl (.inl rfl)
      · exact n1 Y (.inr (.inl hY))
      · cases hY
    · rcases hY with e | hY | hY
      · exact A1.s2 _ (hqb a ha).1 e
      · exact A1.s3 _ hY (hqb a ha).1
      · cases hY
  · simp only [sx, x_box, x_alloc, x_bslice, x_slice, x_append, x_appz, x_b2s, x_s2b, x_mark, xop, ev, evs, evParts, fillL, cellsL, Ai.get, Ai.put, stab, isNil?, if_false, if_true, addr?, int?, str?, agg?, bool?, shiftA, FnPost, xresL, xres1, tup, argEnv, ptr, Nat.reduceEqDiff, reduceIte, beq_self_eq_true, ne_eq, Nat.reduceAdd, Nat.reduceMul, Nat.reduceSub, abin_shl, abin_shr, load1V, loadV, storeV, cellsAt, getN, setN, allocV, lenL, lenS, bnd, oneC, Value.oneCell', Nat.reduceLeDiff, Nat.reduceLT, exists_eq_left', forall_const, reduceCtorEq, app_new, app_new0, List.append_assoc, Int.reduceToNat, Int.reduceLT, Int.reduceLE, Int.reduceEq, Int.reduceNe, Int.reduceBEq, IntKind.bits, bne_self_eq_false, Int.reducePow, hc]
    exact .inl ⟨hc, rfl, rfl⟩
/-- lists of bytes are held side by side -/
def LiI (g : AHeap) (qa qb : Option Addr) (n cb : Nat) (m : Nat) (ρ : Env) (h : AHeap) : Prop := ∃ i : Nat, i + m = n ∧ get ρ 5 = some (.int .i64 (i : Nat)) ∧ get ρ 0 = some (.slice qa n n) ∧ get ρ 1 = some (.slice qb n cb) ∧ h = g
def LiE (g : AHeap) (ρ : Env) (h : AHeap) : Prop := h = g
theorem FsR.get {h : AHeap} : ∀ {vs : List Value} {ls : List (List Int)} {i : Nat} {z : List Int}, FsR h vs ls → ls[i]? = some z → ∃ q, vs[i]? = some (.slice q z.length z.length) ∧ firstV 1 h z.length (.slice q z.length z.length) = some (bR z)
  | [], [], i, z, _, e => by simp at e
  | v :: vs, x :: zs, 0, z, k, e => by
    simp at e; subst e
    obtain ⟨q, c, rfl, rfl, hf⟩ := k.1.first
    exact ⟨q, rfl, hf⟩
  | v :: vs, x :: zs, i + 1, z, k, e => by simpa using FsR.get k.2 (i := i) (by simpa using e)
  | [], _ :: _, _, _, k, _ => k.elim
  | _ :: _, [], _, _, k, _ => k.elim
theorem FsV.get {h : AHeap} {q : Option Addr} {ls : List (List Int)} (l : FsV h q ls) {i : Nat} {z : List Int} (hz : ls[i]? = some z) : ∃ a o qz, q = some a ∧ a.spot = none ∧ h[a.block]? = some (some o) ∧ o.cells[a.off + i]? = some (.slice qz z.length z.length) ∧ firstV 1 h z.length (.slice qz z.length z.length) = some (bR z) := by
  obtain ⟨rows, h1, h2⟩ := l
  have hi := (List.getElem?_eq_some_iff.1 hz).1
  obtain ⟨qz, k1, k2⟩ := h2.get hz
  cases q with
  | none => simp only [firstV] at h1; rw [if_neg (by omega)] at h1; cases h1
  | some a =>
    obtain ⟨s1, o, v, s2, s3, s4⟩ := firstV_elem1 h1 hi
    rw [k1] at s4; cases s4
    exact ⟨a, o, qz, rfl, s1, s2, s3, k2⟩
theorem lists_ok {h : AHeap} {qa qb : Option Addr} {cb : Nat} {ls : List (List Int)} (ha : FsV h qa ls) (hb : LV h qb cb ls) (hn : ls.length ≤ 1000000000) (hl : ∀ z ∈ ls, z.length ≤ 1000000000) :
    Valid Tryd.prog 21 [.slice qa ls.length ls.length, .slice qb ls.length cb] h fun r h' => r = .int .i64 0 ∧ h' = h := by
  refine v21 (by simp) ?_
  have hu : ls.length < unk := by unfold unk; omega
  simp only [X21, sx, x_box, x_alloc, x_bslice, x_slice, x_append, x_appz, x_b2s, x_s2b, x_mark, xop, ev, evs, evParts, fillL, cellsL, Ai.get, Ai.put, stab, isNil?, if_false, if_true, addr?, int?, str?, agg?, bool?, shiftA, FnPost, xresL, xres1, tup, argEnv, ptr, Nat.reduceEqDiff, reduceIte, beq_self_eq_true, ne_eq, Nat.reduceAdd, Nat.reduceMul, Nat.reduceSub, abin_shl, abin_shr, load1V, loadV, storeV, cellsAt, getN, setN, allocV, lenL, lenS, bnd, oneC, Value.oneCell', Nat.reduceLeDiff, Nat.reduceLT, exists_eq_left', forall_const, reduceCtorEq, app_new, app_new0, List.append_assoc, Int.reduceToNat, Int.reduceLT, Int.reduceLE, Int.reduceEq, Int.reduceNe, Int.reduceBEq, IntKind.bits, bne_self_eq_false, Int.reducePow, hu]
  simp only [sx, x_box, x_alloc, x_bslice, x_slice, x_append, x_appz, x_b2s, x_s2b, x_mark, xop, ev, evs, evParts, fillL, cellsL, Ai.get, Ai.put, stab, isNil?, if_false, if_true, addr?, int?, str?, agg?, bool?, shiftA, FnPost, xresL, xres1, tup, argEnv, ptr, Nat.reduceEqDiff, reduceIte, beq_self_eq_true, ne_eq, Nat.reduceAdd, Nat.reduceMul, Nat.reduceSub, abin_shl, abin_shr, load1V, loadV, storeV, cellsAt, getN, setN, allocV, lenL, lenS, bnd, oneC, Value.oneCell', Nat.reduceLeDiff, Nat.reduceLT, exists_eq_left', forall_const, reduceCtorEq, app_new, app_new0, List.append_assoc, Int.reduceToNat, Int.reduceLT, Int.reduceLE, Int.reduceEq, Int.reduceNe, Int.reduceBEq, IntKind.bits, bne_self_eq_false, Int.reducePow, Int.lt_irrefl]
  refine xloop_cut2 (LiE h) (fun _ _ => False) ?_ ?_ ?_
  rotate_left
  · rintro ρ g e0
    have e0 : g = h := e0
    subst e0
    simp only [sx, x_box, x_alloc, x_bslice, x_slice, x_append, x_appz, x_b2s, x_s2b, x_mark, xop, ev, evs, evParts, fillL, cellsL, Ai.get, Ai.put, stab, isNil?, if_false, if_true, addr?, int?, str?, agg?, bool?, shiftA, FnPost, xresL, xres1, tup, argEnv, ptr, Nat.reduceEqDiff, reduceIte, beq_self_eq_true, ne_eq, Nat.reduceAdd, Nat.reduceMul, Nat.reduceSub, abin_shl, abin_shr, load1V, loadV, storeV, cellsAt, getN, setN, allocV, lenL, lenS, bnd, oneC, Value.oneCell', Nat.reduceLeDiff, Nat.reduceLT, exists_eq_left', forall_const, reduceCtorEq, app_new, app_new0, List.append_assoc, Int.reduceToNat, Int.reduceLT, Int.reduceLE, Int.reduceEq, Int.reduceNe, Int.reduceBEq, IntKind.bits, bne_self_eq_false, Int.reducePow]
  · intro ρ g hf; exact hf.elim
  refine xcode_loop (LiI h qa qb ls.length cb) ls.length ⟨0, by omega, rfl, rfl, rfl, rfl⟩ ?_
  rintro m ρ g ⟨i, him, r5, r0, r1, e0⟩
  subst e0
  by_cases hi : i < ls.length
  · have hi' : (i : Int) < (ls.length : Nat) := by omega
    have hi0 : (0 : Int) ≤ (i : Int) := by omega
    have wi : IntKind.i64.wrap ((i : Int) + 1) = ((i + 1 : Nat) : Int) := by rw [i64_wrap] <;> omega
    have hz := List.getElem?_eq_getElem hi
    have hzl := hl _ (List.getElem_mem hi)
    obtain ⟨a, o, qz, rfl, a1, a2, a3, hfa⟩ := ha.get hz
    obtain ⟨a', o', qz', cz', rfl, b1, b2, b3, hfb⟩ := hb.get hz
    generalize ls[i] = z at *
    simp only [sx, x_box, x_alloc, x_bslice, x_slice, x_append, x_appz, x_b2s, x_s2b, x_mark, xop, ev, evs, evParts, fillL, cellsL, Ai.get, Ai.put, stab, isNil?, if_false, if_true, addr?, int?, str?, agg?, bool?, shiftA, FnPost, xresL, xres1, tup, argEnv, ptr, Nat.reduceEqDiff, reduceIte, beq_self_eq_true, ne_eq, Nat.reduceAdd, Nat.reduceMul, Nat.reduceSub, abin_shl, abin_shr, load1V, loadV, storeV, cellsAt, getN, setN, allocV, lenL, lenS, bnd, oneC, Value.oneCell', Nat.reduceLeDiff, Nat.reduceLT, exists_eq_left', forall_const, reduceCtorEq, app_new, app_new0, List.append_assoc, Int.reduceToNat, Int.reduceLT, Int.reduceLE, Int.reduceEq, Int.reduceNe, Int.reduceBEq, IntKind.bits, bne_self_eq_false, Int.reducePow, r5, r0, r1, hi', hi0, a1, a2, a3, b1, b2, b3, Nat.mul_one]
    refine xcall (bytes_ok hfa hfb (by omega) rfl) (by rfl) (by rfl) (by rfl) (by rfl) ?_
    rintro r g2 ⟨rfl, e0⟩
    subst e0
    rw [if_pos rfl]
    simp only [sx, x_box, x_alloc, x_bslice, x_slice, x_append, x_appz, x_b2s, x_s2b, x_mark, xop, ev, evs, evParts, fillL, cellsL, Ai.get, Ai.put, stab, isNil?, if_false, if_true, addr?, int?, str?, agg?, bool?, shiftA, FnPost, xresL, xres1, tup, argEnv, ptr, Nat.reduceEqDiff, reduceIte, beq_self_eq_true, ne_eq, Nat.reduceAdd, Nat.reduceMul, Nat.reduceSub, abin_shl, abin_shr, load1V, loadV, storeV, cellsAt, getN, setN, allocV, lenL, lenS, bnd, oneC, Value.oneCell', Nat.reduceLeDiff, Nat.reduceLT, exists_eq_left', forall_const, reduceCtorEq, app_new, app_new0, List.append_assoc, Int.reduceToNat, Int.reduceLT, Int.reduceLE, Int.reduceEq, Int.reduceNe, Int.reduceBEq, IntKind.bits, bne_self_eq_false, Int.reducePow, r5, wi]
    exact ⟨m - 1, by omega, i + 1, by omega, rfl, r0, r1, rfl⟩
  · have hi' : ¬ (i : Int) < (ls.length : Nat) := by omega
    simp only [sx, x_box, x_alloc, x_bslice, x_slice, x_append, x_appz, x_b2s, x_s2b, x_mark, xop, ev, evs, evParts, fillL, cellsL, Ai.get, Ai.put, stab, isNil?, if_false, if_true, addr?, int?, str?, agg?, bool?, shiftA, FnPost, xresL, xres1, tup, argEnv, ptr, Nat.reduceEqDiff, reduceIte, beq_self_eq_true, ne_eq, Nat.reduceAdd, Nat.reduceMul, Nat.reduceSub, abin_shl, abin_shr, load1V, loadV, storeV, cellsAt, getN, setN, allocV, lenL, lenS, bnd, oneC, Value.oneCell', Nat.reduceLeDiff, Nat.reduceLT, exists_eq_left', forall_const, reduceCtorEq, app_new, app_new0, List.append_assoc, Int.reduceToNat, Int.reduceLT, Int.reduceLE, Int.reduceEq, Int.reduceNe, Int.reduceBEq, IntKind.bits, bne_self_eq_false, Int.reducePow, r5, r0, hi']
    exact .inl rfl
end Go.Proofs.YtimfgagdfmmeeaaDoor
