import Derived.Test.YtimfgagdfmmeeaaDoorHA
set_option linter.unusedVariables false
set_option linter.unusedSimpArgs false
namespace Go.Proofs.YtimfgagdfmmeeaaDoor
open Go Go.Ai Go.Proofs

/-- slices of arrays of their own, apart from one block -/
def LsI (h : AHeap) (A : Nat) : List Value → List (List Int) → Prop
  | [], [] => True
  | v :: vs, z :: zs => (∃ X c, v = .slice (some ⟨X, 0, none⟩) z.length c ∧ h[X]? = some (some ⟨true, bR z⟩) ∧ X ≠ A) ∧ LsI h A vs zs
  | _, _ => False
theorem LsI.len {h : AHeap} {A : Nat} : ∀ {vs : List Value} {ls : List (List Int)}, LsI h A vs ls → vs.length = ls.length
  | [], [], _ => rfl
  | v :: vs, z :: zs, k => by simp only [List.length_cons, LsI.len k.2]
  | [], _ :: _, k => k.elim
  | _ :: _, [], k => k.elim
theorem LsI.keep {h h' : AHeap} {A A' : Nat} (hk : ∀ X x, X ≠ A → h[X]? = some x → h'[X]? = some x ∧ X ≠ A') : ∀ {vs : List Value} {ls : List (List Int)}, LsI h A vs ls → LsI h' A' vs ls
  | [], [], _ => trivial
  | v :: vs, z :: zs, ⟨⟨X, c, e, hX, hn⟩, k⟩ => ⟨⟨X, c, e, (hk X _ hn hX).1, (hk X _ hn hX).2⟩, LsI.keep hk k⟩
  | [], _ :: _, k => k.elim
  | _ :: _, [], k => k.elim
theorem LsI.app {h : AHeap} {A : Nat} : ∀ {vs : List Value} {ls : List (List Int)} {vs' : List Value} {ls' : List (List Int)}, LsI h A vs ls → LsI h A vs' ls' → LsI h A (vs ++ vs') (ls ++ ls')
  | [], [], _, _, _, k => k
  | v :: vs, z :: zs, _, _, k, k' => ⟨k.1, LsI.app k.2 k'⟩
  | [], _ :: _, _, _, k, _ => k.elim
  | _ :: _, [], _, _, k, _ => k.elim
theorem LsI.all {h : AHeap} {A : Nat} : ∀ {vs : List Value} {ls : List (List Int)}, LsI h A vs ls → vs.all oneC = true
  | [], [], _ => rfl
  | v :: vs, z :: zs, ⟨⟨X, c, e, _⟩, k⟩ => by
    subst e
    rw [List.all_cons, LsI.all k]; rfl
  | [], _ :: _, k => k.elim
  | _ :: _, [], k => k.elim
theorem LsI.view {h : AHeap} {A : Nat} : ∀ {vs : List Value} {ls : List (List Int)}, LsI h A vs ls → LsR h vs ls
  | [], [], _ => trivial
  | v :: vs, z :: zs, ⟨⟨X, c, e, hX, _⟩, k⟩ => ⟨⟨_, _, e, by rw [e]; exact first_pre (t := []) (by rw [List.append_nil]; exact hX) rfl⟩, LsI.view k⟩
  | [], _ :: _, k => k.elim
  | _ :: _, [], k => k.elim
/-- a list of lists that is appended to -/
def LN (h : AHeap) (sl : Value) (ls : List (List Int)) : Prop := (sl = .slice none 0 0 ∧ ls = []) ∨ ∃ A rows, sl = .slice (some ⟨A, 0, none⟩) ls.length (unk + 1) ∧ h[A]? = some (some ⟨true, rows⟩) ∧ LsI h A rows ls
theorem LN.view {h : AHeap} {sl : Value} {ls : List (List Int)} (l : LN h sl ls) : ∃ q c, sl = .slice q ls.length c ∧ LV h q c ls := by
  rcases l with ⟨rfl, rfl⟩ | ⟨A, rows, rfl, hA, hR⟩
  · exact ⟨none, 0, rfl, [], rfl, trivial⟩
  · refine ⟨_, _, rfl, rows, ?_, hR.view⟩
    simp only [firstV]
    split
    · rename_i h0
      have e : rows = [] := List.eq_nil_of_length_eq_zero (by rw [hR.len]; exact h0)
      rw [e]
    · simp only [ne_eq, not_true_eq_false, if_false, cellsAt, hA, Option.bind_some, Nat.mul_one]
      exact getN_all _ _ hR.len.symm
theorem LN.ext {h h' : AHeap} {sl : Value} {ls : List (List Int)} (l : LN h sl ls) (E : Ext h h') : LN h' sl ls := by
  rcases l with l | ⟨A, rows, rfl, hA, hR⟩
  · exact .inl l
  · exact .inr ⟨A, rows, rfl, E.get hA, hR.keep fun X x hX hx => ⟨E.get hx, hX⟩⟩
/-- one list more -/
theorem LN.push {K : Env → AHeap → Prop} {r : List XOper} {ρ : Env} {g h : AHeap} {ls : List (List Int)} {z : List Int} {d : Option Nat} {s x : XA} {sl : Value} {X cz : Nat} (L : LN h sl ls) (E : Ext g h) (hgl : ∀ A, slB sl = some A → g.length ≤ A)
    (hX : h[X]? = some (some ⟨true, bR z⟩)) (hXs : slB sl ≠ some X) (hs : ev ρ s = some sl) (hx : ev ρ x = some (.slice (some ⟨h.length, 0, none⟩) 1 1)) (hb : ls.length ≤ 1000000)
    (hK : ∀ sl' h', LN h' sl' (ls ++ [z]) → Ext g h' → (∀ A, slB sl' = some A → g.length ≤ A) → xops Tryd.prog K r (put d sl' ρ) h') :
    xops Tryd.prog K (⟨d, none, .append 1 24 [.slice none 0 0] s x, []⟩ :: r) ρ (h ++ [some ⟨true, [.slice (some ⟨X, 0, none⟩) z.length cz]⟩]) := by
  have hXl := lt_of_get hX
  have E2 := Ext.app h [some (AObj.mk true [.slice (some ⟨X, 0, none⟩) z.length cz])]
  have hf : firstV 1 (h ++ [some (AObj.mk true [.slice (some ⟨X, 0, none⟩) z.length cz])]) 1 (.slice (some ⟨h.length, 0, none⟩) 1 1) = some [.slice (some ⟨X, 0, none⟩) z.length cz] := by
    simp only [firstV, cellsAt, app_new0]
    simp
    rfl
  have hlen : (h ++ [some (AObj.mk true [.slice (some ⟨X, 0, none⟩) z.length cz])]).length = h.length + 1 := by simp
  have hgh := E.1
  have fin : ∀ (rows : List Value) (h' : AHeap) (A' : Nat), LsI h ((slB sl).getD (h.length + h'.length)) rows ls → (h ++ [some (AObj.mk true [.slice (some ⟨X, 0, none⟩) z.length cz])]).length ≤ A' → h'[A']? = some (some ⟨true, rows ++ [.slice (some ⟨X, 0, none⟩) z.length cz]⟩) → (∀ B, B < (h ++ [some (AObj.mk true [.slice (some ⟨X, 0, none⟩) z.length cz])]).length → slB sl ≠ some B → h'[B]? = (h ++ [some (AObj.mk true [.slice (some ⟨X, 0, none⟩) z.length cz])])[B]?) → (h ++ [some (AObj.mk true [.slice (some ⟨X, 0, none⟩) z.length cz])]).length ≤ h'.length →
      xops Tryd.prog K r (put d (.slice (some ⟨A', 0, none⟩) (ls.length + 1) (unk + 1)) ρ) h' := fun rows h' A' hR hA' hg hfr hle => by
    have kp : ∀ B b, slB sl ≠ some B → h[B]? = some b → h'[B]? = some b := fun B b hn hB => by
      have hBl := lt_of_get hB
      rw [hfr B (by omega) hn, List.getElem?_append_left hBl]; exact hB
    have hLN : LN h' (.slice (some ⟨A', 0, none⟩) (ls.length + 1) (unk + 1)) (ls ++ [z]) := by
      refine .inr ⟨A', _, by simp, hg, LsI.app (hR.keep fun B b hn hB => ?_) ⟨⟨X, cz, rfl, kp X _ hXs hX, by omega⟩, trivial⟩⟩
      have hBl := lt_of_get hB
      refine ⟨kp B b (fun e => hn (by rw [e]; rfl)) hB, by omega⟩
    have hA2 : g.length ≤ A' := by omega
    refine hK _ h' hLN ⟨by omega, fun B hB => ?_⟩ fun A hA => by cases hA; exact hA2
    rw [hfr B (by omega) (fun e => by have := hgl B e; omega), List.getElem?_append_left (by omega)]
    exact E.2 B hB
  rcases L with ⟨rfl, rfl⟩ | ⟨A, rows, rfl, hA, hR⟩
  · refine append_run (k := 1) (by_ := 24) (n := 0) (m := 1) (rows := []) (news := [.slice (some ⟨X, 0, none⟩) z.length cz]) (sl := .slice none 0 0) (xv := .slice (some ⟨h.length, 0, none⟩) 1 1) rfl (by decide) hs hx rfl hf rfl rfl ⟨rfl, .inl ⟨rfl, rfl⟩⟩ (by omega) (by omega) (fun h0 => by omega) fun _ h' A' hA' hg hl' hfr => ?_
    exact fin [] h' A' trivial hA' hg (fun B hB hn => hfr B hB hn) (by omega)
  · have hAl := lt_of_get hA
    refine append_run (k := 1) (by_ := 24) (n := ls.length) (m := 1) (rows := rows) (news := [.slice (some ⟨X, 0, none⟩) z.length cz]) (sl := .slice (some ⟨A, 0, none⟩) ls.length (unk + 1)) (xv := .slice (some ⟨h.length, 0, none⟩) 1 1) rfl (by decide) hs hx rfl hf rfl rfl ⟨by rw [hR.len, Nat.mul_one], .inr (.inr ⟨A, 0, rows, rfl, E2.get hA, getN_all _ _ (by rw [hR.len, Nat.mul_one])⟩)⟩ (by omega) (by omega) (fun h0 => by omega) fun _ h' A' hA' hg hl' hfr => ?_
    exact fin rows h' A' hR hA' hg (fun B hB hn => hfr B hB hn) (by omega)
def wR (l : List Int) : List Value := l.map fun x => Value.int .u16 x
/-- the sizes' lists -/
def lsOf (b : List Int) (zs : List Int) : List (List Int) := zs.map fun s => octL b (s.toNat % 301)
def wantOf (ls : List (List Int)) : Int := if ∃ b ∈ ls, Wide b then 5 else 0
def FjI (g : AHeap) (qb q : Option Addr) (nb cb n c : Nat) (b zs : List Int) (m : Nat) (ρ : Env) (h : AHeap) : Prop := ∃ (i : Nat) (sl : Value), i + m = n ∧ get ρ 7 = some (.int .i64 (i : Nat)) ∧ get ρ 0 = some (.slice qb nb cb) ∧ get ρ 1 = some (.slice q n c) ∧ get ρ 5 = some sl ∧ get ρ 6 = some (.int .i64 (wantOf (lsOf b (zs.take i)))) ∧ LN h sl (lsOf b (zs.take i)) ∧ Ext g h ∧ (∀ A, slB sl = some A → g.length ≤ A)
def FjE (g : AHeap) (b zs : List Int) (ρ : Env) (h : AHeap) : Prop := ∃ sl : Value, get ρ 5 = some sl ∧ get ρ 6 = some (.int .i64 (wantOf (lsOf b zs))) ∧ LN h sl (lsOf b zs) ∧ Ext g h
def FkI (g : AHeap) (q : Option Addr) (c : Nat) (ls : List (List Int)) (m : Nat) (ρ : Env) (h : AHeap) : Prop := ∃ i : Nat, i + m = ls.length ∧ get ρ 11 = some (.int .i64 (i : Nat)) ∧ get ρ 5 = some (.slice q ls.length c) ∧ Ext g h
def FkE (g : AHeap) (ρ : Env) (h : AHeap) : Prop := Ext g h
set_option maxHeartbeats 8000000 in
set_option maxRecDepth 20000 in
theorem join_law {h : AHeap} {qb q : Option Addr} {nb cb n c : Nat} {b zs : List Int} (hF : Fl h) (hfb : firstV 1 h nb (.slice qb nb cb) = some (bR b)) (hnb : nb ≤ 9223372036854775807) (hbb : ∀ z ∈ b, 0 ≤ z ∧ z ≤ 255) (hf : firstV 1 h n (.slice q n c) = some (wR zs)) (hn : n ≤ 9223372036854775807) (hz : ∀ z ∈ zs, 0 ≤ z ∧ z ≤ 65535) :
    Valid Tryd.prog 3 [.slice qb nb cb, .slice q n c] h fun r h' => r = .bool true := by
  refine v3 (by simp) ?_
  have hzl := firstV_len hf
  rw [show (wR zs).length = zs.length by simp [wR], Nat.mul_one] at hzl
  by_cases hbig : 6 < n
  · have hbig' : (6 : Int) < (n : Nat) := by omega
    simp only [X3, sx, x_box, x_alloc, x_bslice, x_slice, x_append, x_appz, x_b2s, x_s2b, x_mark, xop, ev, evs, evParts, fillL, cellsL, Ai.get, Ai.put, stab, isNil?, if_false, if_true, addr?, int?, str?, agg?, bool?, shiftA, FnPost, xresL, xres1, tup, argEnv, ptr, Nat.reduceEqDiff, reduceIte, beq_self_eq_true, ne_eq, Nat.reduceAdd, Nat.reduceMul, Nat.reduceSub, abin_shl, abin_shr, load1V, loadV, storeV, cellsAt, getN, setN, allocV, lenL, lenS, bnd, oneC, Value.oneCell', Nat.reduceLeDiff, Nat.reduceLT, exists_eq_left', forall_const, reduceCtorEq, app_new, app_new0, List.append_assoc, Int.reduceToNat, Int.reduceLT, Int.reduceLE, Int.reduceEq, Int.reduceNe, Int.reduceBEq, IntKind.bits, bne_self_eq_false, Int.reducePow, hbig']
    refine xcall (lives_ok hF) (by rfl) (by rfl) (by rfl) (by rfl) ?_
    rintro r h' ⟨rfl, -⟩
    simp only [sx, x_box, x_alloc, x_bslice, x_slice, x_append, x_appz, x_b2s, x_s2b, x_mark, xop, ev, evs, evParts, fillL, cellsL, Ai.get, Ai.put, stab, isNil?, if_false, if_true, addr?, int?, str?, agg?, bool?, shiftA, FnPost, xresL, xres1, tup, argEnv, ptr, Nat.reduceEqDiff, reduceIte, beq_self_eq_true, ne_eq, Nat.reduceAdd, Nat.reduceMul, Nat.reduceSub, abin_shl, abin_shr, load1V, loadV, storeV, cellsAt, getN, setN, allocV, lenL, lenS, bnd, oneC, Value.oneCell', Nat.reduceLeDiff, Nat.reduceLT, exists_eq_left', forall_const, reduceCtorEq, app_new, app_new0, List.append_assoc, Int.reduceToNat, Int.reduceLT, Int.reduceLE, Int.reduceEq, Int.reduceNe, Int.reduceBEq, IntKind.bits, bne_self_eq_false, Int.reducePow]
  have hbig' : ¬ (6 : Int) < (n : Nat) := by omega
  simp only [X3, sx, x_box, x_alloc, x_bslice, x_slice, x_append, x_appz, x_b2s, x_s2b, x_mark, xop, ev, evs, evParts, fillL, cellsL, Ai.get, Ai.put, stab, isNil?, if_false, if_true, addr?, int?, str?, agg?, bool?, shiftA, FnPost, xresL, xres1, tup, argEnv, ptr, Nat.reduceEqDiff, reduceIte, beq_self_eq_true, ne_eq, Nat.reduceAdd, Nat.reduceMul, Nat.reduceSub, abin_shl, abin_shr, load1V, loadV, storeV, cellsAt, getN, setN, allocV, lenL, lenS, bnd, oneC, Value.oneCell', Nat.reduceLeDiff, Nat.reduceLT, exists_eq_left', forall_const, reduceCtorEq, app_new, app_new0, List.append_assoc, Int.reduceToNat, Int.reduceLT, Int.reduceLE, Int.reduceEq, Int.reduceNe, Int.reduceBEq, IntKind.bits, bne_self_eq_false, Int.reducePow, hbig']
  have hw0 : wantOf (lsOf b []) = 0 := by unfold wantOf lsOf; simp
  refine xloop_cut (FjE h b zs) ?_ ?_
  · refine xcode_loop (FjI h qb q nb cb n c b zs) n ⟨0, .slice none 0 0, by omega, rfl, rfl, rfl, rfl, by rw [List.take_zero, hw0]; rfl, .inl ⟨rfl, by simp [lsOf]⟩, Ext.refl _, fun A hA => by cases hA⟩ ?_
    rintro m ρ g ⟨i, sl, him, r7, r0, r1, r5, r6, L, E, hgl⟩
    by_cases hi : i < n
    · have hi' : (i : Int) < (n : Nat) := by omega
      have hi0 : (0 : Int) ≤ (i : Int) := by omega
      have wi : IntKind.i64.wrap ((i : Int) + 1) = ((i + 1 : Nat) : Int) := by rw [i64_wrap] <;> omega
      have hfg := E.first hf
      obtain ⟨s, hs⟩ : ∃ s, zs[i]? = some s := ⟨_, List.getElem?_eq_getElem (by omega)⟩
      have hsb := hz s (List.mem_of_getElem? hs)
      cases q with
      | none => simp only [firstV] at hfg; rw [if_neg (by omega)] at hfg; cases hfg
      | some a =>
      obtain ⟨a1, o, v, a2, a3, a4⟩ := firstV_elem1 hfg hi
      have a4' : (wR zs)[i]? = some (.int .u16 s) := by simp [wR, hs]
      rw [a4'] at a4; cases a4
      obtain ⟨s, rfl⟩ : ∃ k : Nat, s = k := ⟨s.toNat, by omega⟩
      have hrem : (s : Int).tmod 301 = ((s % 301 : Nat) : Int) := by rw [Int.tmod_eq_emod_of_nonneg (by omega)]; omega
      have wc : IntKind.i64.wrap ((s % 301 : Nat) : Int) = ((s % 301 : Nat) : Int) := by rw [i64_wrap] <;> omega
      have hsn : lsOf b (zs.take (i + 1)) = lsOf b (zs.take i) ++ [octL b (s % 301)] := by
        unfold lsOf; rw [take_snoc hs, List.map_append]; rfl
      simp only [sx, x_box, x_alloc, x_bslice, x_slice, x_append, x_appz, x_b2s, x_s2b, x_mark, xop, ev, evs, evParts, fillL, cellsL, Ai.get, Ai.put, stab, isNil?, if_false, if_true, addr?, int?, str?, agg?, bool?, shiftA, FnPost, xresL, xres1, tup, argEnv, ptr, Nat.reduceEqDiff, reduceIte, beq_self_eq_true, ne_eq, Nat.reduceAdd, Nat.reduceMul, Nat.reduceSub, abin_shl, abin_shr, load1V, loadV, storeV, cellsAt, getN, setN, allocV, lenL, lenS, bnd, oneC, Value.oneCell', Nat.reduceLeDiff, Nat.reduceLT, exists_eq_left', forall_const, reduceCtorEq, app_new, app_new0, List.append_assoc, Int.reduceToNat, Int.reduceLT, Int.reduceLE, Int.reduceEq, Int.reduceNe, Int.reduceBEq, IntKind.bits, bne_self_eq_false, Int.reducePow, r7, r0, r1, r5, r6, hi', hi0, a1, a2, a3, Nat.mul_one, hrem, wc]
      refine xcall (octets11_ok (n := s % 301) (E.first hfb) (by omega) hnb) (by rfl) (by rfl) (by rfl) (by rfl) ?_
      rintro r g2 ⟨rfl, rfl⟩
      have E2 := Ext.app g [some (AObj.mk true (bR (octL b (s % 301))))]
      have hX : (g ++ [some (AObj.mk true (bR (octL b (s % 301))))])[g.length]? = some (some (AObj.mk true (bR (octL b (s % 301))))) := by rw [app_new0]; rfl
      have hXs : slB sl ≠ some g.length := fun e => by
        rcases L with ⟨rfl, -⟩ | ⟨A, rows, rfl, hA, -⟩
        · cases e
        · cases e; have := lt_of_get hA; omega
      have hol := octL_len b (s % 301)
      have hll : (lsOf b (zs.take i)).length ≤ 1000000 := by unfold lsOf; rw [List.length_map, List.length_take]; omega
      have L2 := L.ext E2
      have E02 := E.trans E2
      generalize hgg : g ++ [some (AObj.mk true (bR (octL b (s % 301))))] = g3 at *
      simp only [sx, x_box, x_alloc, x_bslice, x_slice, x_appz, x_b2s, x_s2b, x_mark, xop, ev, evs, evParts, fillL, cellsL, Ai.get, Ai.put, stab, isNil?, if_false, if_true, addr?, int?, str?, agg?, bool?, shiftA, FnPost, xresL, xres1, tup, argEnv, ptr, Nat.reduceEqDiff, reduceIte, beq_self_eq_true, ne_eq, Nat.reduceAdd, Nat.reduceMul, Nat.reduceSub, abin_shl, abin_shr, load1V, loadV, storeV, cellsAt, getN, setN, allocV, lenL, lenS, bnd, oneC, Value.oneCell', Nat.reduceLeDiff, Nat.reduceLT, exists_eq_left', forall_const, reduceCtorEq, app_new, app_new0, List.append_assoc, Int.reduceToNat, Int.reduceLT, Int.reduceLE, Int.reduceEq, Int.reduceNe, Int.reduceBEq, IntKind.bits, bne_self_eq_false, Int.reducePow]
      have hpush := @LN.push
      rw [← hol]
      refine LN.push (z := octL b (s % 301)) L2 E02 hgl hX hXs rfl rfl hll fun sl4 g4 L4 E4 hgl4 => ?_
      rw [← hsn] at L4
      have hwant : wantOf (lsOf b (zs.take (i + 1))) = if Wide (octL b (s % 301)) then 5 else wantOf (lsOf b (zs.take i)) := by
        rw [hsn]
        unfold wantOf
        by_cases hw : Wide (octL b (s % 301))
        · rw [if_pos hw, if_pos ⟨_, by simp, hw⟩]
        · rw [if_neg hw]
          congr 1
          rw [eq_iff_iff]
          constructor
          · rintro ⟨x, hx, hx2⟩
            rcases List.mem_append.1 hx with h | h
            · exact ⟨x, h, hx2⟩
            · rw [List.mem_singleton.1 h] at hx2; exact absurd hx2 hw
          · rintro ⟨x, hx, hx2⟩; exact ⟨x, List.mem_append_left _ hx, hx2⟩
      have hWd : Wide (octL b (s % 301)) ↔ (s % 301 < 5 ∨ 280 < s % 301) := by unfold Wide; rw [hol]
      have fin : ∀ (ρ' : Env), get ρ' 7 = some (.int .i64 ((i + 1 : Nat) : Int)) → get ρ' 0 = some (.slice qb nb cb) → get ρ' 1 = some (.slice (some a) n c) → get ρ' 5 = some sl4 → get ρ' 6 = some (.int .i64 (if Wide (octL b (s % 301)) then 5 else wantOf (lsOf b (zs.take i)))) → FjI h qb (some a) nb cb n c b zs (m - 1) ρ' g4 := fun ρ' q7 q0 q1 q5 q6 =>
        ⟨i + 1, sl4, by omega, q7, q0, q1, q5, by rw [hwant]; exact q6, L4, E4, hgl4⟩
      by_cases h5 : s % 301 < 5
      · have h5' : ((s % 301 : Nat) : Int) < 5 := by omega
        simp only [sx, x_box, x_alloc, x_bslice, x_slice, x_append, x_appz, x_b2s, x_s2b, x_mark, xop, ev, evs, evParts, fillL, cellsL, Ai.get, Ai.put, stab, isNil?, if_false, if_true, addr?, int?, str?, agg?, bool?, shiftA, FnPost, xresL, xres1, tup, argEnv, ptr, Nat.reduceEqDiff, reduceIte, beq_self_eq_true, ne_eq, Nat.reduceAdd, Nat.reduceMul, Nat.reduceSub, abin_shl, abin_shr, load1V, loadV, storeV, cellsAt, getN, setN, allocV, lenL, lenS, bnd, oneC, Value.oneCell', Nat.reduceLeDiff, Nat.reduceLT, exists_eq_left', forall_const, reduceCtorEq, app_new, app_new0, List.append_assoc, Int.reduceToNat, Int.reduceLT, Int.reduceLE, Int.reduceEq, Int.reduceNe, Int.reduceBEq, IntKind.bits, bne_self_eq_false, Int.reducePow, r7, hol, h5', wi]
        exact ⟨m - 1, by omega, fin _ rfl r0 r1 rfl (by rw [if_pos (hWd.2 (.inl h5))]; rfl)⟩
      · have h5' : ¬ ((s % 301 : Nat) : Int) < 5 := by omega
        by_cases h6 : 280 < s % 301
        · have h6' : (280 : Int) < ((s % 301 : Nat) : Int) := by omega
          simp only [sx, x_box, x_alloc, x_bslice, x_slice, x_append, x_appz, x_b2s, x_s2b, x_mark, xop, ev, evs, evParts, fillL, cellsL, Ai.get, Ai.put, stab, isNil?, if_false, if_true, addr?, int?, str?, agg?, bool?, shiftA, FnPost, xresL, xres1, tup, argEnv, ptr, Nat.reduceEqDiff, reduceIte, beq_self_eq_true, ne_eq, Nat.reduceAdd, Nat.reduceMul, Nat.reduceSub, abin_shl, abin_shr, load1V, loadV, storeV, cellsAt, getN, setN, allocV, lenL, lenS, bnd, oneC, Value.oneCell', Nat.reduceLeDiff, Nat.reduceLT, exists_eq_left', forall_const, reduceCtorEq, app_new, app_new0, List.append_assoc, Int.reduceToNat, Int.reduceLT, Int.reduceLE, Int.reduceEq, Int.reduceNe, Int.reduceBEq, IntKind.bits, bne_self_eq_false, Int.reducePow, r7, hol, h5', h6', wi]
          exact ⟨m - 1, by omega, fin _ rfl r0 r1 rfl (by rw [if_pos (hWd.2 (.inr h6))]; rfl)⟩
        · have h6' : ¬ (280 : Int) < ((s % 301 : Nat) : Int) := by omega
          simp only [sx, x_box, x_alloc, x_bslice, x_slice, x_append, x_appz, x_b2s, x_s2b, x_mark, xop, ev, evs, evParts, fillL, cellsL, Ai.get, Ai.put, stab, isNil?, if_false, if_true, addr?, int?, str?, agg?, bool?, shiftA, FnPost, xresL, xres1, tup, argEnv, ptr, Nat.reduceEqDiff, reduceIte, beq_self_eq_true, ne_eq, Nat.reduceAdd, Nat.reduceMul, Nat.reduceSub, abin_shl, abin_shr, load1V, loadV, storeV, cellsAt, getN, setN, allocV, lenL, lenS, bnd, oneC, Value.oneCell', Nat.reduceLeDiff, Nat.reduceLT, exists_eq_left', forall_const, reduceCtorEq, app_new, app_new0, List.append_assoc, Int.reduceToNat, Int.reduceLT, Int.reduceLE, Int.reduceEq, Int.reduceNe, Int.reduceBEq, IntKind.bits, bne_self_eq_false, Int.reducePow, r7, hol, h5', h6', wi]
          exact ⟨m - 1, by omega, fin _ rfl r0 r1 rfl (by rw [if_neg (fun h => by rcases hWd.1 h with h | h <;> omega)]; exact r6)⟩
    · have hi' : ¬ (i : Int) < (n : Nat) := by omega
      simp only [sx, x_box, x_alloc, x_bslice, x_slice, x_append, x_appz, x_b2s, x_s2b, x_mark, xop, ev, evs, evParts, fillL, cellsL, Ai.get, Ai.put, stab, isNil?, if_false, if_true, addr?, int?, str?, agg?, bool?, shiftA, FnPost, xresL, xres1, tup, argEnv, ptr, Nat.reduceEqDiff, reduceIte, beq_self_eq_true, ne_eq, Nat.reduceAdd, Nat.reduceMul, Nat.reduceSub, abin_shl, abin_shr, load1V, loadV, storeV, cellsAt, getN, setN, allocV, lenL, lenS, bnd, oneC, Value.oneCell', Nat.reduceLeDiff, Nat.reduceLT, exists_eq_left', forall_const, reduceCtorEq, app_new, app_new0, List.append_assoc, Int.reduceToNat, Int.reduceLT, Int.reduceLE, Int.reduceEq, Int.reduceNe, Int.reduceBEq, IntKind.bits, bne_self_eq_false, Int.reducePow, r7, r1, hi']
      rw [List.take_of_length_le (by omega)] at r6 L
      exact ⟨sl, r5, r6, L, E⟩
  · rintro ρ g ⟨sl, r5, r6, L, E⟩
    have hln : (lsOf b zs).length ≤ 6 := by unfold lsOf; rw [List.length_map]; omega
    have hlb : ∀ x ∈ lsOf b zs, ∀ z ∈ x, 0 ≤ z ∧ z ≤ 255 := fun x hx => by
      obtain ⟨s, -, rfl⟩ := List.mem_map.1 hx
      exact octL_byte hbb _
    generalize lsOf b zs = ls at *
    obtain ⟨ql, cl, rfl, hL⟩ := L.view
    have hFg := hF.ext E
    simp only [sx, x_box, x_alloc, x_bslice, x_slice, x_append, x_appz, x_b2s, x_s2b, x_mark, xop, ev, evs, evParts, fillL, cellsL, Ai.get, Ai.put, stab, isNil?, if_false, if_true, addr?, int?, str?, agg?, bool?, shiftA, FnPost, xresL, xres1, tup, argEnv, ptr, Nat.reduceEqDiff, reduceIte, beq_self_eq_true, ne_eq, Nat.reduceAdd, Nat.reduceMul, Nat.reduceSub, abin_shl, abin_shr, load1V, loadV, storeV, cellsAt, getN, setN, allocV, lenL, lenS, bnd, oneC, Value.oneCell', Nat.reduceLeDiff, Nat.reduceLT, exists_eq_left', forall_const, reduceCtorEq, app_new, app_new0, List.append_assoc, Int.reduceToNat, Int.reduceLT, Int.reduceLE, Int.reduceEq, Int.reduceNe, Int.reduceBEq, IntKind.bits, bne_self_eq_false, Int.reducePow, r5, r6]
    refine xcall (join_ok hFg hL (by omega) hlb) (by rfl) (by rfl) (by rfl) (by rfl) ?_
    rintro r g2 ⟨E2, P⟩
    have rest : ∀ (ρ' : Env) (g' : AHeap), True := fun _ _ => trivial
    rcases P with ⟨hw, rfl⟩ | ⟨hw, qj, rfl, hfj⟩
    · have hw5 : wantOf ls = 5 := if_pos hw
      simp only [sx, x_box, x_alloc, x_bslice, x_slice, x_append, x_appz, x_b2s, x_s2b, x_mark, xop, ev, evs, evParts, fillL, cellsL, Ai.get, Ai.put, stab, isNil?, if_false, if_true, addr?, int?, str?, agg?, bool?, shiftA, FnPost, xresL, xres1, tup, argEnv, ptr, Nat.reduceEqDiff, reduceIte, beq_self_eq_true, ne_eq, Nat.reduceAdd, Nat.reduceMul, Nat.reduceSub, abin_shl, abin_shr, load1V, loadV, storeV, cellsAt, getN, setN, allocV, lenL, lenS, bnd, oneC, Value.oneCell', Nat.reduceLeDiff, Nat.reduceLT, exists_eq_left', forall_const, reduceCtorEq, app_new, app_new0, List.append_assoc, Int.reduceToNat, Int.reduceLT, Int.reduceLE, Int.reduceEq, Int.reduceNe, Int.reduceBEq, IntKind.bits, bne_self_eq_false, Int.reducePow, r5, r6, hw5]
      have hFG := hFg.ext E2
      have hLG := hL.ext E2
      refine xloop_cut (FkE g2) ?_ ?_
      · refine xcode_loop (FkI g2 ql cl ls) ls.length ⟨0, by omega, rfl, r5, Ext.refl _⟩ ?_
        clear r5 r6 ρ
        rintro m ρ g5 ⟨i, him, r11, r5, E5⟩
        by_cases hi : i < ls.length
        · have hi' : (i : Int) < (ls.length : Nat) := by omega
          have hi0 : (0 : Int) ≤ (i : Int) := by omega
          have wi : IntKind.i64.wrap ((i : Int) + 1) = ((i + 1 : Nat) : Int) := by rw [i64_wrap] <;> omega
          have hzz := List.getElem?_eq_getElem hi
          have hbz := hlb _ (List.getElem_mem hi)
          have hL5 := hLG.ext E5
          obtain ⟨a, o, qz, cz, rfl, a1, a2, a3, hfz⟩ := hL5.get hzz
          generalize ls[i] = z at *
          simp only [sx, x_box, x_alloc, x_bslice, x_slice, x_append, x_appz, x_b2s, x_s2b, x_mark, xop, ev, evs, evParts, fillL, cellsL, Ai.get, Ai.put, stab, isNil?, if_false, if_true, addr?, int?, str?, agg?, bool?, shiftA, FnPost, xresL, xres1, tup, argEnv, ptr, Nat.reduceEqDiff, reduceIte, beq_self_eq_true, ne_eq, Nat.reduceAdd, Nat.reduceMul, Nat.reduceSub, abin_shl, abin_shr, load1V, loadV, storeV, cellsAt, getN, setN, allocV, lenL, lenS, bnd, oneC, Value.oneCell', Nat.reduceLeDiff, Nat.reduceLT, exists_eq_left', forall_const, reduceCtorEq, app_new, app_new0, List.append_assoc, Int.reduceToNat, Int.reduceLT, Int.reduceLE, Int.reduceEq, Int.reduceNe, Int.reduceBEq, IntKind.bits, bne_self_eq_false, Int.reducePow, r11, r5, hi', hi0, a1, a2, a3, Nat.mul_one]
          refine xcall (frame_ok (hFG.ext E5) hfz rfl hbz) (by rfl) (by rfl) (by rfl) (by rfl) ?_
          rintro r g6 ⟨E6, P6⟩
          obtain ⟨a', o', qz', cz', ea, b1, b2, b3, hfz'⟩ := (hL5.ext E6).get hzz
          cases ea
          have E7 := Ext.app g6 [some (AObj.mk true [.slice qz' z.length cz'])]
          have hL7 : LV (g6 ++ [some (AObj.mk true [.slice qz' z.length cz'])]) (some ⟨g6.length, 0, none⟩) 1 [z] := ⟨[.slice qz' z.length cz'], by
            simp only [firstV, cellsAt, app_new0]
            simp
            rfl, LsR.one (E7.first hfz')⟩
          have hj := join_ok (((hFG.ext E5).ext E6).ext E7) hL7 (by simp) (fun x hx => by rw [List.mem_singleton.1 hx]; exact hbz)
          have hone : (∃ b ∈ [z], Wide b) ↔ Wide z := by simp
          rcases P6 with ⟨w6, rfl⟩ | ⟨w6, q6, rfl, hf6⟩
          · rw [hone] at w6
            simp only [sx, x_box, x_alloc, x_bslice, x_slice, x_append, x_appz, x_b2s, x_s2b, x_mark, xop, ev, evs, evParts, fillL, cellsL, Ai.get, Ai.put, stab, isNil?, if_false, if_true, addr?, int?, str?, agg?, bool?, shiftA, FnPost, xresL, xres1, tup, argEnv, ptr, Nat.reduceEqDiff, reduceIte, beq_self_eq_true, ne_eq, Nat.reduceAdd, Nat.reduceMul, Nat.reduceSub, abin_shl, abin_shr, load1V, loadV, storeV, cellsAt, getN, setN, allocV, lenL, lenS, bnd, oneC, Value.oneCell', Nat.reduceLeDiff, Nat.reduceLT, exists_eq_left', forall_const, reduceCtorEq, app_new, app_new0, List.append_assoc, Int.reduceToNat, Int.reduceLT, Int.reduceLE, Int.reduceEq, Int.reduceNe, Int.reduceBEq, IntKind.bits, bne_self_eq_false, Int.reducePow, r11, r5, hi', hi0, a1, b1, b2, b3, Nat.mul_one]
            refine xcall hj (by rfl) (by rfl) (by rfl) (by rfl) ?_
            rintro r g8 ⟨E8, P8⟩
            rcases P8 with ⟨w8, rfl⟩ | ⟨w8, -⟩
            · obtain ⟨a'', o'', qz'', cz'', ea2, d1, d2, d3, hfz''⟩ := (((hL5.ext E6).ext E7).ext E8).get hzz
              cases ea2
              simp only [sx, x_box, x_alloc, x_bslice, x_slice, x_append, x_appz, x_b2s, x_s2b, x_mark, xop, ev, evs, evParts, fillL, cellsL, Ai.get, Ai.put, stab, isNil?, if_false, if_true, addr?, int?, str?, agg?, bool?, shiftA, FnPost, xresL, xres1, tup, argEnv, ptr, Nat.reduceEqDiff, reduceIte, beq_self_eq_true, ne_eq, Nat.reduceAdd, Nat.reduceMul, Nat.reduceSub, abin_shl, abin_shr, load1V, loadV, storeV, cellsAt, getN, setN, allocV, lenL, lenS, bnd, oneC, Value.oneCell', Nat.reduceLeDiff, Nat.reduceLT, exists_eq_left', forall_const, reduceCtorEq, app_new, app_new0, List.append_assoc, Int.reduceToNat, Int.reduceLT, Int.reduceLE, Int.reduceEq, Int.reduceNe, Int.reduceBEq, IntKind.bits, bne_self_eq_false, Int.reducePow]
              refine xcall (same_ok (qa := none) (qb := none) (n := 0) (m := 0) (ca := 0) (cb := 0) (za := []) (zb := []) rfl rfl (by omega)) (by rfl) (by rfl) (by rfl) (by rfl) ?_
              rintro r g9 ⟨rfl, e0⟩
              subst e0
              unfold Wide at w6
              by_cases h5 : z.length < 5
              · have h5' : ¬ (5 : Int) ≤ (z.length : Nat) := by omega
                simp only [sx, x_box, x_alloc, x_bslice, x_slice, x_append, x_appz, x_b2s, x_s2b, x_mark, xop, ev, evs, evParts, fillL, cellsL, Ai.get, Ai.put, stab, isNil?, if_false, if_true, addr?, int?, str?, agg?, bool?, shiftA, FnPost, xresL, xres1, tup, argEnv, ptr, Nat.reduceEqDiff, reduceIte, beq_self_eq_true, ne_eq, Nat.reduceAdd, Nat.reduceMul, Nat.reduceSub, abin_shl, abin_shr, load1V, loadV, storeV, cellsAt, getN, setN, allocV, lenL, lenS, bnd, oneC, Value.oneCell', Nat.reduceLeDiff, Nat.reduceLT, exists_eq_left', forall_const, reduceCtorEq, app_new, app_new0, List.append_assoc, Int.reduceToNat, Int.reduceLT, Int.reduceLE, Int.reduceEq, Int.reduceNe, Int.reduceBEq, IntKind.bits, bne_self_eq_false, Int.reducePow, r11, r5, hi', hi0, a1, d1, d2, d3, Nat.mul_one, h5', wi]
                exact ⟨m - 1, by omega, i + 1, by omega, rfl, r5, E5.trans (E6.trans (E7.trans E8))⟩
              · have h5' : (5 : Int) ≤ (z.length : Nat) := by omega
                have h6' : ¬ ((z.length : Nat) : Int) ≤ 280 := by omega
                simp only [sx, x_box, x_alloc, x_bslice, x_slice, x_append, x_appz, x_b2s, x_s2b, x_mark, xop, ev, evs, evParts, fillL, cellsL, Ai.get, Ai.put, stab, isNil?, if_false, if_true, addr?, int?, str?, agg?, bool?, shiftA, FnPost, xresL, xres1, tup, argEnv, ptr, Nat.reduceEqDiff, reduceIte, beq_self_eq_true, ne_eq, Nat.reduceAdd, Nat.reduceMul, Nat.reduceSub, abin_shl, abin_shr, load1V, loadV, storeV, cellsAt, getN, setN, allocV, lenL, lenS, bnd, oneC, Value.oneCell', Nat.reduceLeDiff, Nat.reduceLT, exists_eq_left', forall_const, reduceCtorEq, app_new, app_new0, List.append_assoc, Int.reduceToNat, Int.reduceLT, Int.reduceLE, Int.reduceEq, Int.reduceNe, Int.reduceBEq, IntKind.bits, bne_self_eq_false, Int.reducePow, r11, r5, hi', hi0, a1, d1, d2, d3, Nat.mul_one, h5', h6', wi]
                exact ⟨m - 1, by omega, i + 1, by omega, rfl, r5, E5.trans (E6.trans (E7.trans E8))⟩
            · exact absurd (hone.2 w6) w8
          · rw [hone] at w6
            simp only [sx, x_box, x_alloc, x_bslice, x_slice, x_append, x_appz, x_b2s, x_s2b, x_mark, xop, ev, evs, evParts, fillL, cellsL, Ai.get, Ai.put, stab, isNil?, if_false, if_true, addr?, int?, str?, agg?, bool?, shiftA, FnPost, xresL, xres1, tup, argEnv, ptr, Nat.reduceEqDiff, reduceIte, beq_self_eq_true, ne_eq, Nat.reduceAdd, Nat.reduceMul, Nat.reduceSub, abin_shl, abin_shr, load1V, loadV, storeV, cellsAt, getN, setN, allocV, lenL, lenS, bnd, oneC, Value.oneCell', Nat.reduceLeDiff, Nat.reduceLT, exists_eq_left', forall_const, reduceCtorEq, app_new, app_new0, List.append_assoc, Int.reduceToNat, Int.reduceLT, Int.reduceLE, Int.reduceEq, Int.reduceNe, Int.reduceBEq, IntKind.bits, bne_self_eq_false, Int.reducePow, r11, r5, hi', hi0, a1, b1, b2, b3, Nat.mul_one]
            refine xcall hj (by rfl) (by rfl) (by rfl) (by rfl) ?_
            rintro r g8 ⟨E8, P8⟩
            rcases P8 with ⟨w8, -⟩ | ⟨w8, q8, rfl, hf8⟩
            · exact absurd (hone.1 w8) w6
            · obtain ⟨a'', o'', qz'', cz'', ea2, d1, d2, d3, hfz''⟩ := (((hL5.ext E6).ext E7).ext E8).get hzz
              cases ea2
              have hj1 := jn_len (ls := [z]) fun x hx => by rw [List.mem_singleton.1 hx]; exact w6
              simp only [List.length_cons, List.length_nil] at hj1
              simp only [sx, x_box, x_alloc, x_bslice, x_slice, x_append, x_appz, x_b2s, x_s2b, x_mark, xop, ev, evs, evParts, fillL, cellsL, Ai.get, Ai.put, stab, isNil?, if_false, if_true, addr?, int?, str?, agg?, bool?, shiftA, FnPost, xresL, xres1, tup, argEnv, ptr, Nat.reduceEqDiff, reduceIte, beq_self_eq_true, ne_eq, Nat.reduceAdd, Nat.reduceMul, Nat.reduceSub, abin_shl, abin_shr, load1V, loadV, storeV, cellsAt, getN, setN, allocV, lenL, lenS, bnd, oneC, Value.oneCell', Nat.reduceLeDiff, Nat.reduceLT, exists_eq_left', forall_const, reduceCtorEq, app_new, app_new0, List.append_assoc, Int.reduceToNat, Int.reduceLT, Int.reduceLE, Int.reduceEq, Int.reduceNe, Int.reduceBEq, IntKind.bits, bne_self_eq_false, Int.reducePow]
              refine xcall (same_ok (E8.first (E7.first hf6)) hf8 (by omega)) (by rfl) (by rfl) (by rfl) (by rfl) ?_
              rintro r g9 ⟨rfl, e0⟩
              subst e0
              unfold Wide at w6
              have h5' : (5 : Int) ≤ (z.length : Nat) := by omega
              have h6' : ((z.length : Nat) : Int) ≤ 280 := by omega
              simp only [sx, x_box, x_alloc, x_bslice, x_slice, x_append, x_appz, x_b2s, x_s2b, x_mark, xop, ev, evs, evParts, fillL, cellsL, Ai.get, Ai.put, stab, isNil?, if_false, if_true, addr?, int?, str?, agg?, bool?, shiftA, FnPost, xresL, xres1, tup, argEnv, ptr, Nat.reduceEqDiff, reduceIte, beq_self_eq_true, ne_eq, Nat.reduceAdd, Nat.reduceMul, Nat.reduceSub, abin_shl, abin_shr, load1V, loadV, storeV, cellsAt, getN, setN, allocV, lenL, lenS, bnd, oneC, Value.oneCell', Nat.reduceLeDiff, Nat.reduceLT, exists_eq_left', forall_const, reduceCtorEq, app_new, app_new0, List.append_assoc, Int.reduceToNat, Int.reduceLT, Int.reduceLE, Int.reduceEq, Int.reduceNe, Int.reduceBEq, IntKind.bits, bne_self_eq_false, Int.reducePow, r11, r5, hi', hi0, a1, d1, d2, d3, Nat.mul_one, h5', h6', wi]
              exact ⟨m - 1, by omega, i + 1, by omega, rfl, r5, E5.trans (E6.trans (E7.trans E8))⟩
        · have hi' : ¬ (i : Int) < (ls.length : Nat) := by omega
          simp only [sx, x_box, x_alloc, x_bslice, x_slice, x_append, x_appz, x_b2s, x_s2b, x_mark, xop, ev, evs, evParts, fillL, cellsL, Ai.get, Ai.put, stab, isNil?, if_false, if_true, addr?, int?, str?, agg?, bool?, shiftA, FnPost, xresL, xres1, tup, argEnv, ptr, Nat.reduceEqDiff, reduceIte, beq_self_eq_true, ne_eq, Nat.reduceAdd, Nat.reduceMul, Nat.reduceSub, abin_shl, abin_shr, load1V, loadV, storeV, cellsAt, getN, setN, allocV, lenL, lenS, bnd, oneC, Value.oneCell', Nat.reduceLeDiff, Nat.reduceLT, exists_eq_left', forall_const, reduceCtorEq, app_new, app_new0, List.append_assoc, Int.reduceToNat, Int.reduceLT, Int.reduceLE, Int.reduceEq, Int.reduceNe, Int.reduceBEq, IntKind.bits, bne_self_eq_false, Int.reducePow, r11, r5, hi']
          exact E5
      · intro ρ' g5 E5
        have E5 : Ext g2 g5 := E5
        simp only [sx, x_box, x_alloc, x_bslice, x_slice, x_append, x_appz, x_b2s, x_s2b, x_mark, xop, ev, evs, evParts, fillL, cellsL, Ai.get, Ai.put, stab, isNil?, if_false, if_true, addr?, int?, str?, agg?, bool?, shiftA, FnPost, xresL, xres1, tup, argEnv, ptr, Nat.reduceEqDiff, reduceIte, beq_self_eq_true, ne_eq, Nat.reduceAdd, Nat.reduceMul, Nat.reduceSub, abin_shl, abin_shr, load1V, loadV, storeV, cellsAt, getN, setN, allocV, lenL, lenS, bnd, oneC, Value.oneCell', Nat.reduceLeDiff, Nat.reduceLT, exists_eq_left', forall_const, reduceCtorEq, app_new, app_new0, List.append_assoc, Int.reduceToNat, Int.reduceLT, Int.reduceLE, Int.reduceEq, Int.reduceNe, Int.reduceBEq, IntKind.bits, bne_self_eq_false, Int.reducePow]
        refine xcall (lives_ok (hFG.ext E5)) (by rfl) (by rfl) (by rfl) (by rfl) ?_
        rintro r h' ⟨rfl, -⟩
        simp only [sx, x_box, x_alloc, x_bslice, x_slice, x_append, x_appz, x_b2s, x_s2b, x_mark, xop, ev, evs, evParts, fillL, cellsL, Ai.get, Ai.put, stab, isNil?, if_false, if_true, addr?, int?, str?, agg?, bool?, shiftA, FnPost, xresL, xres1, tup, argEnv, ptr, Nat.reduceEqDiff, reduceIte, beq_self_eq_true, ne_eq, Nat.reduceAdd, Nat.reduceMul, Nat.reduceSub, abin_shl, abin_shr, load1V, loadV, storeV, cellsAt, getN, setN, allocV, lenL, lenS, bnd, oneC, Value.oneCell', Nat.reduceLeDiff, Nat.reduceLT, exists_eq_left', forall_const, reduceCtorEq, app_new, app_new0, List.append_assoc, Int.reduceToNat, Int.reduceLT, Int.reduceLE, Int.reduceEq, Int.reduceNe, Int.reduceBEq, IntKind.bits, bne_self_eq_false, Int.reducePow]
    · have hw5 : wantOf ls = 0 := if_neg hw
      have hnw : ∀ x ∈ ls, ¬ Wide x := fun x hx h => hw ⟨x, hx, h⟩
      simp only [sx, x_box, x_alloc, x_bslice, x_slice, x_append, x_appz, x_b2s, x_s2b, x_mark, xop, ev, evs, evParts, fillL, cellsL, Ai.get, Ai.put, stab, isNil?, if_false, if_true, addr?, int?, str?, agg?, bool?, shiftA, FnPost, xresL, xres1, tup, argEnv, ptr, Nat.reduceEqDiff, reduceIte, beq_self_eq_true, ne_eq, Nat.reduceAdd, Nat.reduceMul, Nat.reduceSub, abin_shl, abin_shr, load1V, loadV, storeV, cellsAt, getN, setN, allocV, lenL, lenS, bnd, oneC, Value.oneCell', Nat.reduceLeDiff, Nat.reduceLT, exists_eq_left', forall_const, reduceCtorEq, app_new, app_new0, List.append_assoc, Int.reduceToNat, Int.reduceLT, Int.reduceLE, Int.reduceEq, Int.reduceNe, Int.reduceBEq, IntKind.bits, bne_self_eq_false, Int.reducePow, r5, r6, hw5]
      refine xcall (rjoin_ok (hL.ext E2) (by omega) hlb hnw) (by rfl) (by rfl) (by rfl) (by rfl) ?_
      rintro r g3 ⟨R3, E3⟩
      obtain ⟨q3, c3, rfl, hf3⟩ := R3.shp
      have hjl := jn_len hnw
      simp only [sx, x_box, x_alloc, x_bslice, x_slice, x_append, x_appz, x_b2s, x_s2b, x_mark, xop, ev, evs, evParts, fillL, cellsL, Ai.get, Ai.put, stab, isNil?, if_false, if_true, addr?, int?, str?, agg?, bool?, shiftA, FnPost, xresL, xres1, tup, argEnv, ptr, Nat.reduceEqDiff, reduceIte, beq_self_eq_true, ne_eq, Nat.reduceAdd, Nat.reduceMul, Nat.reduceSub, abin_shl, abin_shr, load1V, loadV, storeV, cellsAt, getN, setN, allocV, lenL, lenS, bnd, oneC, Value.oneCell', Nat.reduceLeDiff, Nat.reduceLT, exists_eq_left', forall_const, reduceCtorEq, app_new, app_new0, List.append_assoc, Int.reduceToNat, Int.reduceLT, Int.reduceLE, Int.reduceEq, Int.reduceNe, Int.reduceBEq, IntKind.bits, bne_self_eq_false, Int.reducePow]
      refine xcall (bytes_ok (E3.first hfj) hf3 (by omega) rfl) (by rfl) (by rfl) (by rfl) (by rfl) ?_
      rintro r g4 ⟨rfl, e0⟩
      subst e0
      rw [if_pos rfl]
      simp only [sx, x_box, x_alloc, x_bslice, x_slice, x_append, x_appz, x_b2s, x_s2b, x_mark, xop, ev, evs, evParts, fillL, cellsL, Ai.get, Ai.put, stab, isNil?, if_false, if_true, addr?, int?, str?, agg?, bool?, shiftA, FnPost, xresL, xres1, tup, argEnv, ptr, Nat.reduceEqDiff, reduceIte, beq_self_eq_true, ne_eq, Nat.reduceAdd, Nat.reduceMul, Nat.reduceSub, abin_shl, abin_shr, load1V, loadV, storeV, cellsAt, getN, setN, allocV, lenL, lenS, bnd, oneC, Value.oneCell', Nat.reduceLeDiff, Nat.reduceLT, exists_eq_left', forall_const, reduceCtorEq, app_new, app_new0, List.append_assoc, Int.reduceToNat, Int.reduceLT, Int.reduceLE, Int.reduceEq, Int.reduceNe, Int.reduceBEq, IntKind.bits, bne_self_eq_false, Int.reducePow, r5]
      have hFG := (hFg.ext E2).ext E3
      have hLG := (hL.ext E2).ext E3
      refine xloop_cut (FkE g4) ?_ ?_
      · refine xcode_loop (FkI g4 ql cl ls) ls.length ⟨0, by omega, rfl, r5, Ext.refl _⟩ ?_
        clear r5 r6 ρ
        rintro m ρ g5 ⟨i, him, r11, r5, E5⟩
        by_cases hi : i < ls.length
        · have hi' : (i : Int) < (ls.length : Nat) := by omega
          have hi0 : (0 : Int) ≤ (i : Int) := by omega
          have wi : IntKind.i64.wrap ((i : Int) + 1) = ((i + 1 : Nat) : Int) := by rw [i64_wrap] <;> omega
          have hzz := List.getElem?_eq_getElem hi
          have hbz := hlb _ (List.getElem_mem hi)
          have hL5 := hLG.ext E5
          obtain ⟨a, o, qz, cz, rfl, a1, a2, a3, hfz⟩ := hL5.get hzz
          generalize ls[i] = z at *
          simp only [sx, x_box, x_alloc, x_bslice, x_slice, x_append, x_appz, x_b2s, x_s2b, x_mark, xop, ev, evs, evParts, fillL, cellsL, Ai.get, Ai.put, stab, isNil?, if_false, if_true, addr?, int?, str?, agg?, bool?, shiftA, FnPost, xresL, xres1, tup, argEnv, ptr, Nat.reduceEqDiff, reduceIte, beq_self_eq_true, ne_eq, Nat.reduceAdd, Nat.reduceMul, Nat.reduceSub, abin_shl, abin_shr, load1V, loadV, storeV, cellsAt, getN, setN, allocV, lenL, lenS, bnd, oneC, Value.oneCell', Nat.reduceLeDiff, Nat.reduceLT, exists_eq_left', forall_const, reduceCtorEq, app_new, app_new0, List.append_assoc, Int.reduceToNat, Int.reduceLT, Int.reduceLE, Int.reduceEq, Int.reduceNe, Int.reduceBEq, IntKind.bits, bne_self_eq_false, Int.reducePow, r11, r5, hi', hi0, a1, a2, a3, Nat.mul_one]
          refine xcall (frame_ok (hFG.ext E5) hfz rfl hbz) (by rfl) (by rfl) (by rfl) (by rfl) ?_
          rintro r g6 ⟨E6, P6⟩
          obtain ⟨a', o', qz', cz', ea, b1, b2, b3, hfz'⟩ := (hL5.ext E6).get hzz
          cases ea
          have E7 := Ext.app g6 [some (AObj.mk true [.slice qz' z.length cz'])]
          have hL7 : LV (g6 ++ [some (AObj.mk true [.slice qz' z.length cz'])]) (some ⟨g6.length, 0, none⟩) 1 [z] := ⟨[.slice qz' z.length cz'], by
            simp only [firstV, cellsAt, app_new0]
            simp
            rfl, LsR.one (E7.first hfz')⟩
          have hj := join_ok (((hFG.ext E5).ext E6).ext E7) hL7 (by simp) (fun x hx => by rw [List.mem_singleton.1 hx]; exact hbz)
          have hone : (∃ b ∈ [z], Wide b) ↔ Wide z := by simp
          rcases P6 with ⟨w6, rfl⟩ | ⟨w6, q6, rfl, hf6⟩
          · rw [hone] at w6
            simp only [sx, x_box, x_alloc, x_bslice, x_slice, x_append, x_appz, x_b2s, x_s2b, x_mark, xop, ev, evs, evParts, fillL, cellsL, Ai.get, Ai.put, stab, isNil?, if_false, if_true, addr?, int?, str?, agg?, bool?, shiftA, FnPost, xresL, xres1, tup, argEnv, ptr, Nat.reduceEqDiff, reduceIte, beq_self_eq_true, ne_eq, Nat.reduceAdd, Nat.reduceMul, Nat.reduceSub, abin_shl, abin_shr, load1V, loadV, storeV, cellsAt, getN, setN, allocV, lenL, lenS, bnd, oneC, Value.oneCell', Nat.reduceLeDiff, Nat.reduceLT, exists_eq_left', forall_const, reduceCtorEq, app_new, app_new0, List.append_assoc, Int.reduceToNat, Int.reduceLT, Int.reduceLE, Int.reduceEq, Int.reduceNe, Int.reduceBEq, IntKind.bits, bne_self_eq_false, Int.reducePow, r11, r5, hi', hi0, a1, b1, b2, b3, Nat.mul_one]
            refine xcall hj (by rfl) (by rfl) (by rfl) (by rfl) ?_
            rintro r g8 ⟨E8, P8⟩
            rcases P8 with ⟨w8, rfl⟩ | ⟨w8, -⟩
            · obtain ⟨a'', o'', qz'', cz'', ea2, d1, d2, d3, hfz''⟩ := (((hL5.ext E6).ext E7).ext E8).get hzz
              cases ea2
              simp only [sx, x_box, x_alloc, x_bslice, x_slice, x_append, x_appz, x_b2s, x_s2b, x_mark, xop, ev, evs, evParts, fillL, cellsL, Ai.get, Ai.put, stab, isNil?, if_false, if_true, addr?, int?, str?, agg?, bool?, shiftA, FnPost, xresL, xres1, tup, argEnv, ptr, Nat.reduceEqDiff, reduceIte, beq_self_eq_true, ne_eq, Nat.reduceAdd, Nat.reduceMul, Nat.reduceSub, abin_shl, abin_shr, load1V, loadV, storeV, cellsAt, getN, setN, allocV, lenL, lenS, bnd, oneC, Value.oneCell', Nat.reduceLeDiff, Nat.reduceLT, exists_eq_left', forall_const, reduceCtorEq, app_new, app_new0, List.append_assoc, Int.reduceToNat, Int.reduceLT, Int.reduceLE, Int.reduceEq, Int.reduceNe, Int.reduceBEq, IntKind.bits, bne_self_eq_false, Int.reducePow]
              refine xcall (same_ok (qa := none) (qb := none) (n := 0) (m := 0) (ca := 0) (cb := 0) (za := []) (zb := []) rfl rfl (by omega)) (by rfl) (by rfl) (by rfl) (by rfl) ?_
              rintro r g9 ⟨rfl, e0⟩
              subst e0
              unfold Wide at w6
              by_cases h5 : z.length < 5
              · have h5' : ¬ (5 : Int) ≤ (z.length : Nat) := by omega
                simp only [sx, x_box, x_alloc, x_bslice, x_slice, x_append, x_appz, x_b2s, x_s2b, x_mark, xop, ev, evs, evParts, fillL, cellsL, Ai.get, Ai.put, stab, isNil?, if_false, if_true, addr?, int?, str?, agg?, bool?, shiftA, FnPost, xresL, xres1, tup, argEnv, ptr, Nat.reduceEqDiff, reduceIte, beq_self_eq_true, ne_eq, Nat.reduceAdd, Nat.reduceMul, Nat.reduceSub, abin_shl, abin_shr, load1V, loadV, storeV, cellsAt, getN, setN, allocV, lenL, lenS, bnd, oneC, Value.oneCell', Nat.reduceLeDiff, Nat.reduceLT, exists_eq_left', forall_const, reduceCtorEq, app_new, app_new0, List.append_assoc, Int.reduceToNat, Int.reduceLT, Int.reduceLE, Int.reduceEq, Int.reduceNe, Int.reduceBEq, IntKind.bits, bne_self_eq_false, Int.reducePow, r11, r5, hi', hi0, a1, d1, d2, d3, Nat.mul_one, h5', wi]
                exact ⟨m - 1, by omega, i + 1, by omega, rfl, r5, E5.trans (E6.trans (E7.trans E8))⟩
              · have h5' : (5 : Int) ≤ (z.length : Nat) := by omega
                have h6' : ¬ ((z.length : Nat) : Int) ≤ 280 := by omega
                simp only [sx, x_box, x_alloc, x_bslice, x_slice, x_append, x_appz, x_b2s, x_s2b, x_mark, xop, ev, evs, evParts, fillL, cellsL, Ai.get, Ai.put, stab, isNil?, if_false, if_true, addr?, int?, str?, agg?, bool?, shiftA, FnPost, xresL, xres1, tup, argEnv, ptr, Nat.reduceEqDiff, reduceIte, beq_self_eq_true, ne_eq, Nat.reduceAdd, Nat.reduceMul, Nat.reduceSub, abin_shl, abin_shr, load1V, loadV, storeV, cellsAt, getN, setN, allocV, lenL, lenS, bnd, oneC, Value.oneCell', Nat.reduceLeDiff, Nat.reduceLT, exists_eq_left', forall_const, reduceCtorEq, app_new, app_new0, List.append_assoc, Int.reduceToNat, Int.reduceLT, Int.reduceLE, Int.reduceEq, Int.reduceNe, Int.reduceBEq, IntKind.bits, bne_self_eq_false, Int.reducePow, r11, r5, hi', hi0, a1, d1, d2, d3, Nat.mul_one, h5', h6', wi]
                exact ⟨m - 1, by omega, i + 1, by omega, rfl, r5, E5.trans (E6.trans (E7.trans E8))⟩
            · exact absurd (hone.2 w6) w8
          · rw [hone] at w6
            simp only [sx, x_box, x_alloc, x_bslice, x_slice, x_append, x_appz, x_b2s, x_s2b, x_mark, xop, ev, evs, evParts, fillL, cellsL, Ai.get, Ai.put, stab, isNil?, if_false, if_true, addr?, int?, str?, agg?, bool?, shiftA, FnPost, xresL, xres1, tup, argEnv, ptr, Nat.reduceEqDiff, reduceIte, beq_self_eq_true, ne_eq, Nat.reduceAdd, Nat.reduceMul, Nat.reduceSub, abin_shl, abin_shr, load1V, loadV, storeV, cellsAt, getN, setN, allocV, lenL, lenS, bnd, oneC, Value.oneCell', Nat.reduceLeDiff, Nat.reduceLT, exists_eq_left', forall_const, reduceCtorEq, app_new, app_new0, List.append_assoc, Int.reduceToNat, Int.reduceLT, Int.reduceLE, Int.reduceEq, Int.reduceNe, Int.reduceBEq, IntKind.bits, bne_self_eq_false, Int.reducePow, r11, r5, hi', hi0, a1, b1, b2, b3, Nat.mul_one]
            refine xcall hj (by rfl) (by rfl) (by rfl) (by rfl) ?_
            rintro r g8 ⟨E8, P8⟩
            rcases P8 with ⟨w8, -⟩ | ⟨w8, q8, rfl, hf8⟩
            · exact absurd (hone.1 w8) w6
            · obtain ⟨a'', o'', qz'', cz'', ea2, d1, d2, d3, hfz''⟩ := (((hL5.ext E6).ext E7).ext E8).get hzz
              cases ea2
              have hj1 := jn_len (ls := [z]) fun x hx => by rw [List.mem_singleton.1 hx]; exact w6
              simp only [List.length_cons, List.length_nil] at hj1
              simp only [sx, x_box, x_alloc, x_bslice, x_slice, x_append, x_appz, x_b2s, x_s2b, x_mark, xop, ev, evs, evParts, fillL, cellsL, Ai.get, Ai.put, stab, isNil?, if_false, if_true, addr?, int?, str?, agg?, bool?, shiftA, FnPost, xresL, xres1, tup, argEnv, ptr, Nat.reduceEqDiff, reduceIte, beq_self_eq_true, ne_eq, Nat.reduceAdd, Nat.reduceMul, Nat.reduceSub, abin_shl, abin_shr, load1V, loadV, storeV, cellsAt, getN, setN, allocV, lenL, lenS, bnd, oneC, Value.oneCell', Nat.reduceLeDiff, Nat.reduceLT, exists_eq_left', forall_const, reduceCtorEq, app_new, app_new0, List.append_assoc, Int.reduceToNat, Int.reduceLT, Int.reduceLE, Int.reduceEq, Int.reduceNe, Int.reduceBEq, IntKind.bits, bne_self_eq_false, Int.reducePow]
              refine xcall (same_ok (E8.first (E7.first hf6)) hf8 (by omega)) (by rfl) (by rfl) (by rfl) (by rfl) ?_
              rintro r g9 ⟨rfl, e0⟩
              subst e0
              unfold Wide at w6
              have h5' : (5 : Int) ≤ (z.length : Nat) := by omega
              have h6' : ((z.length : Nat) : Int) ≤ 280 := by omega
              simp only [sx, x_box, x_alloc, x_bslice, x_slice, x_append, x_appz, x_b2s, x_s2b, x_mark, xop, ev, evs, evParts, fillL, cellsL, Ai.get, Ai.put, stab, isNil?, if_false, if_true, addr?, int?, str?, agg?, bool?, shiftA, FnPost, xresL, xres1, tup, argEnv, ptr, Nat.reduceEqDiff, reduceIte, beq_self_eq_true, ne_eq, Nat.reduceAdd, Nat.reduceMul, Nat.reduceSub, abin_shl, abin_shr, load1V, loadV, storeV, cellsAt, getN, setN, allocV, lenL, lenS, bnd, oneC, Value.oneCell', Nat.reduceLeDiff, Nat.reduceLT, exists_eq_left', forall_const, reduceCtorEq, app_new, app_new0, List.append_assoc, Int.reduceToNat, Int.reduceLT, Int.reduceLE, Int.reduceEq, Int.reduceNe, Int.reduceBEq, IntKind.bits, bne_self_eq_false, Int.reducePow, r11, r5, hi', hi0, a1, d1, d2, d3, Nat.mul_one, h5', h6', wi]
              exact ⟨m - 1, by omega, i + 1, by omega, rfl, r5, E5.trans (E6.trans (E7.trans E8))⟩
        · have hi' : ¬ (i : Int) < (ls.length : Nat) := by omega
          simp only [sx, x_box, x_alloc, x_bslice, x_slice, x_append, x_appz, x_b2s, x_s2b, x_mark, xop, ev, evs, evParts, fillL, cellsL, Ai.get, Ai.put, stab, isNil?, if_false, if_true, addr?, int?, str?, agg?, bool?, shiftA, FnPost, xresL, xres1, tup, argEnv, ptr, Nat.reduceEqDiff, reduceIte, beq_self_eq_true, ne_eq, Nat.reduceAdd, Nat.reduceMul, Nat.reduceSub, abin_shl, abin_shr, load1V, loadV, storeV, cellsAt, getN, setN, allocV, lenL, lenS, bnd, oneC, Value.oneCell', Nat.reduceLeDiff, Nat.reduceLT, exists_eq_left', forall_const, reduceCtorEq, app_new, app_new0, List.append_assoc, Int.reduceToNat, Int.reduceLT, Int.reduceLE, Int.reduceEq, Int.reduceNe, Int.reduceBEq, IntKind.bits, bne_self_eq_false, Int.reducePow, r11, r5, hi']
          exact E5
      · intro ρ' g5 E5
        have E5 : Ext g4 g5 := E5
        simp only [sx, x_box, x_alloc, x_bslice, x_slice, x_append, x_appz, x_b2s, x_s2b, x_mark, xop, ev, evs, evParts, fillL, cellsL, Ai.get, Ai.put, stab, isNil?, if_false, if_true, addr?, int?, str?, agg?, bool?, shiftA, FnPost, xresL, xres1, tup, argEnv, ptr, Nat.reduceEqDiff, reduceIte, beq_self_eq_true, ne_eq, Nat.reduceAdd, Nat.reduceMul, Nat.reduceSub, abin_shl, abin_shr, load1V, loadV, storeV, cellsAt, getN, setN, allocV, lenL, lenS, bnd, oneC, Value.oneCell', Nat.reduceLeDiff, Nat.reduceLT, exists_eq_left', forall_const, reduceCtorEq, app_new, app_new0, List.append_assoc, Int.reduceToNat, Int.reduceLT, Int.reduceLE, Int.reduceEq, Int.reduceNe, Int.reduceBEq, IntKind.bits, bne_self_eq_false, Int.reducePow]
        refine xcall (lives_ok (hFG.ext E5)) (by rfl) (by rfl) (by rfl) (by rfl) ?_
        rintro r h' ⟨rfl, -⟩
        simp only [sx, x_box, x_alloc, x_bslice, x_slice, x_append, x_appz, x_b2s, x_s2b, x_mark, xop, ev, evs, evParts, fillL, cellsL, Ai.get, Ai.put, stab, isNil?, if_false, if_true, addr?, int?, str?, agg?, bool?, shiftA, FnPost, xresL, xres1, tup, argEnv, ptr, Nat.reduceEqDiff, reduceIte, beq_self_eq_true, ne_eq, Nat.reduceAdd, Nat.reduceMul, Nat.reduceSub, abin_shl, abin_shr, load1V, loadV, storeV, cellsAt, getN, setN, allocV, lenL, lenS, bnd, oneC, Value.oneCell', Nat.reduceLeDiff, Nat.reduceLT, exists_eq_left', forall_const, reduceCtorEq, app_new, app_new0, List.append_assoc, Int.reduceToNat, Int.reduceLT, Int.reduceLE, Int.reduceEq, Int.reduceNe, Int.reduceBEq, IntKind.bits, bne_self_eq_false, Int.reducePow]
end Go.Proofs.YtimfgagdfmmeeaaDoor
