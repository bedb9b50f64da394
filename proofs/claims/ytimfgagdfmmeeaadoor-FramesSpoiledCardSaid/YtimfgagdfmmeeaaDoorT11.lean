import Derived.Test.YtimfgagdfmmeeaaDoorT2
import Derived.Test.YtimfgagdfmmeeaaDoorP2
set_option linter.unusedVariables false
set_option linter.unusedSimpArgs false
namespace Go.Proofs.YtimfgagdfmmeeaaDoor
open Go Go.Ai Go.Proofs

theorem LsR.take {h : AHeap} : ∀ {vs : List Value} {ls : List (List Int)} (k : Nat), LsR h vs ls → LsR h (vs.take k) (ls.take k)
  | [], [], k, _ => by simp; trivial
  | v :: vs, z :: zs, 0, _ => trivial
  | v :: vs, z :: zs, k + 1, ⟨a, b⟩ => ⟨a, LsR.take k b⟩
  | [], _ :: _, _, k => k.elim
  | _ :: _, [], _, k => k.elim
theorem LsR.drop {h : AHeap} : ∀ {vs : List Value} {ls : List (List Int)} (k : Nat), LsR h vs ls → LsR h (vs.drop k) (ls.drop k)
  | [], [], k, _ => by simp; trivial
  | v :: vs, z :: zs, 0, a => a
  | v :: vs, z :: zs, k + 1, ⟨a, b⟩ => LsR.drop k b
  | [], _ :: _, _, k => k.elim
  | _ :: _, [], _, k => k.elim
/-- a part of a list of lists that is appended to -/
theorem LN.part {P : Program} {K : Env → AHeap → Prop} {r : List XOper} {ρ : Env} {h : AHeap} {d : Option Nat} {x : XA} {lo hi : Option XA} {sl : Value} {ls : List (List Int)} {l u : Nat} (L : LN h sl ls) (h0 : ls ≠ [])
    (hx : ev ρ x = some sl) (hh : bnd ρ hi ls.length ls.length = some u) (hl : bnd ρ lo 0 u = some l) (hlu : l ≤ u) (hu : u ≤ ls.length)
    (hK : ∀ q', LV h q' (unk + 1) ((ls.drop l).take (u - l)) → xops P K r (put d (.slice q' (u - l) (unk + 1)) ρ) h) : xops P K (⟨d, none, .slice 1 x lo hi none, []⟩ :: r) ρ h := by
  rcases L with ⟨-, rfl⟩ | ⟨A, rows, rfl, hA, hR⟩
  · exact absurd rfl h0
  have hrl := hR.len
  rw [x_slice]
  simp only [xop, hx, Option.bind_some]
  rw [if_pos (by omega)]
  simp only [Option.isSome_none, Bool.false_eq_true, if_false, hh, hl, Option.bind_some, ne_eq, not_true_eq_false, or_self, xthen_some, stab, true_and, shiftA, Nat.mul_one]
  have hpl : ((ls.drop l).take (u - l)).length = u - l := by rw [List.length_take, List.length_drop]; omega
  refine hK _ ⟨(rows.drop l).take (u - l), ?_, (hR.view.drop l).take (u - l)⟩
  rw [hpl]
  simp only [firstV]
  by_cases h0 : u - l = 0
  · rw [if_pos h0, h0]; rfl
  · rw [if_neg h0]
    simp only [ne_eq, not_true_eq_false, if_false, cellsAt, hA, Option.bind_some, Nat.mul_one, Nat.zero_add]
    refine (getN_eq _ _ _ _).2 ⟨?_, rfl⟩
    split <;> omega
theorem two_LV {g : AHeap} {q0 q1 : Option Addr} {c0 c1 c : Nat} {l0 l1 : List Int} (h0 : firstV 1 g l0.length (.slice q0 l0.length c0) = some (bR l0)) (h1 : firstV 1 g l1.length (.slice q1 l1.length c1) = some (bR l1)) :
    LV (g ++ [some ⟨true, [.slice q0 l0.length c0, .slice q1 l1.length c1]⟩]) (some ⟨g.length, 0, none⟩) c [l0, l1] := by
  have E := Ext.app g [some (AObj.mk true [.slice q0 l0.length c0, .slice q1 l1.length c1])]
  refine ⟨[.slice q0 l0.length c0, .slice q1 l1.length c1], ?_, ⟨q0, c0, rfl, E.first h0⟩, ⟨q1, c1, rfl, E.first h1⟩, trivial⟩
  simp only [firstV, cellsAt, app_new0]
  rfl
/-- what is found around any bits -/
theorem feed_around {ls ms : List (List Int)} {zs : List Int} (hb : Bits zs) (hw : ∀ b ∈ ls, ¬ Wide b) (hz : ∀ b ∈ ls, ∀ z ∈ b, 0 ≤ z ∧ z ≤ 255) (hw2 : ∀ b ∈ ms, ¬ Wide b) (hz2 : ∀ b ∈ ms, ∀ z ∈ b, 0 ≤ z ∧ z ≤ 255) :
    ∃ T er, Sc.new.feed (jn ls ++ zs ++ jn ms) = bare er (ls ++ (T ++ ms)) := by
  rw [feed_app, feed_app, feed_new hw hz]
  have h1 := feed_fo zs (bare 0 []) ls
  have e1 : ({ bare 0 [] with fo := ls ++ (bare 0 []).fo } : Sc) = bare 0 ls := by simp [bare]
  rw [e1] at h1
  rw [h1]
  have hk : (Sc.feed (bare 0 []) zs).ke.length ≤ 2247 := by
    have o : (bare 0 []).Ok 0 := ⟨Nat.le_refl _, Nat.le_refl _, Nat.le_refl _, rfl, (fun z hz => by cases hz), Nat.le_refl _⟩
    have := (o.feed (s := bare 0 []) hb).ke
    omega
  obtain ⟨er, t, -, h2⟩ := feed_jn (s := { Sc.feed (bare 0 []) zs with fo := ls ++ (Sc.feed (bare 0 []) zs).fo }) hk hw2 hz2
  refine ⟨(Sc.feed (bare 0 []) zs).fo ++ t, er, h2.trans ?_⟩
  simp only [List.append_assoc]
def SsI (g : AHeap) (qb : Option Addr) (nb cb R : Nat) (s : ByteArray) (b zs : List Int) (m : Nat) (ρ : Env) (h : AHeap) : Prop := ∃ (i : Nat) (sl : Value), i + m = 4 ∧ get ρ 8 = some (.int .i64 (i : Nat)) ∧ get ρ 0 = some (.slice qb nb cb) ∧ get ρ 4 = some (.pointer (some ⟨R, 0, none⟩)) ∧ get ρ 2 = some (.string s) ∧ get ρ 7 = some sl ∧ LN h sl (lsB 16 b zs i) ∧ Ext g h ∧ (∀ A, slB sl = some A → g.length ≤ A)
def SsE (g : AHeap) (s : ByteArray) (b zs : List Int) (ρ : Env) (h : AHeap) : Prop := ∃ sl : Value, get ρ 2 = some (.string s) ∧ get ρ 7 = some sl ∧ LN h sl (lsB 16 b zs 4) ∧ Ext g h
theorem four {α : Type} {l : List α} (h : l.length = 4) : ∃ a b c d, l = [a, b, c, d] := by
  match l, h with
  | [a, b, c, d], _ => exact ⟨a, b, c, d, rfl⟩
set_option maxHeartbeats 8000000 in
set_option maxRecDepth 20000 in
theorem spoiled_law {h : AHeap} {qb : Option Addr} {nb cb : Nat} {b : List Int} {z0 z1 z2 z3 : Int} {s : ByteArray} (hF : Fl h) (hfb : firstV 1 h nb (.slice qb nb cb) = some (bR b)) (hnb : nb ≤ 9223372036854775807) (hbb : ∀ z ∈ b, 0 ≤ z ∧ z ≤ 255) (hcb : nb ≤ cb ∧ cb ≤ 9223372036854775807) (hspb : ∀ a, qb = some a → a.spot = none)
    (hz : ∀ z ∈ [z0, z1, z2, z3], 0 ≤ z ∧ z ≤ 255) :
    Valid Tryd.prog 6 [.slice qb nb cb, .agg #[.int .u8 z0, .int .u8 z1, .int .u8 z2, .int .u8 z3], .string s] h fun r h' => r = .bool true := by
  refine v6 (by simp) ?_
  have hbl := firstV_len hfb
  rw [bR_len, Nat.mul_one] at hbl
  simp only [X6, sx, x_alloc, x_bslice, x_slice, x_append, x_appz, x_b2s, x_s2b, x_mark, xop, ev, evs, evParts, fillL, cellsL, Ai.get, Ai.put, stab, isNil?, if_false, if_true, addr?, int?, str?, agg?, bool?, shiftA, FnPost, xresL, xres1, tup, argEnv, ptr, Nat.reduceEqDiff, reduceIte, beq_self_eq_true, ne_eq, Nat.reduceAdd, Nat.reduceMul, Nat.reduceSub, abin_shl, abin_shr, load1V, loadV, storeV, cellsAt, getN, setN, allocV, lenL, lenS, bnd, oneC, Value.oneCell', Nat.reduceLeDiff, Nat.reduceLT, exists_eq_left', forall_const, reduceCtorEq, app_new, app_new0, List.append_assoc, Int.reduceToNat, Int.reduceLT, Int.reduceLE, Int.reduceEq, Int.reduceNe, Int.reduceBEq, IntKind.bits, bne_self_eq_false, Int.reducePow]
  refine box_run rfl fun g R KR hR hRl _ => ⟨trivial, ?_⟩
  have hR : g[R]? = some (some ⟨true, bR [z0, z1, z2, z3]⟩) := hR
  have hFg := hF.ext KR
  have hfbg := KR.first hfb
  have hzl : [z0, z1, z2, z3].length = 4 := rfl
  generalize [z0, z1, z2, z3] = zs at *
  by_cases hbs : 400 < s.size
  · have hbs' : (400 : Int) < (s.size : Nat) := by omega
    simp only [sx, x_box, x_alloc, x_bslice, x_slice, x_append, x_appz, x_b2s, x_s2b, x_mark, xop, ev, evs, evParts, fillL, cellsL, Ai.get, Ai.put, stab, isNil?, if_false, if_true, addr?, int?, str?, agg?, bool?, shiftA, FnPost, xresL, xres1, tup, argEnv, ptr, Nat.reduceEqDiff, reduceIte, beq_self_eq_true, ne_eq, Nat.reduceAdd, Nat.reduceMul, Nat.reduceSub, abin_shl, abin_shr, load1V, loadV, storeV, cellsAt, getN, setN, allocV, lenL, lenS, bnd, oneC, Value.oneCell', Nat.reduceLeDiff, Nat.reduceLT, exists_eq_left', forall_const, reduceCtorEq, app_new, app_new0, List.append_assoc, Int.reduceToNat, Int.reduceLT, Int.reduceLE, Int.reduceEq, Int.reduceNe, Int.reduceBEq, IntKind.bits, bne_self_eq_false, Int.reducePow, hbs']
    refine xcall (lives_ok hFg) (by rfl) (by rfl) (by rfl) (by rfl) ?_
    rintro r h' ⟨rfl, -⟩
    simp only [sx, x_box, x_alloc, x_bslice, x_slice, x_append, x_appz, x_b2s, x_s2b, x_mark, xop, ev, evs, evParts, fillL, cellsL, Ai.get, Ai.put, stab, isNil?, if_false, if_true, addr?, int?, str?, agg?, bool?, shiftA, FnPost, xresL, xres1, tup, argEnv, ptr, Nat.reduceEqDiff, reduceIte, beq_self_eq_true, ne_eq, Nat.reduceAdd, Nat.reduceMul, Nat.reduceSub, abin_shl, abin_shr, load1V, loadV, storeV, cellsAt, getN, setN, allocV, lenL, lenS, bnd, oneC, Value.oneCell', Nat.reduceLeDiff, Nat.reduceLT, exists_eq_left', forall_const, reduceCtorEq, app_new, app_new0, List.append_assoc, Int.reduceToNat, Int.reduceLT, Int.reduceLE, Int.reduceEq, Int.reduceNe, Int.reduceBEq, IntKind.bits, bne_self_eq_false, Int.reducePow]
  have hbs' : ¬ (400 : Int) < (s.size : Nat) := by omega
  simp only [sx, x_box, x_alloc, x_bslice, x_slice, x_append, x_appz, x_b2s, x_s2b, x_mark, xop, ev, evs, evParts, fillL, cellsL, Ai.get, Ai.put, stab, isNil?, if_false, if_true, addr?, int?, str?, agg?, bool?, shiftA, FnPost, xresL, xres1, tup, argEnv, ptr, Nat.reduceEqDiff, reduceIte, beq_self_eq_true, ne_eq, Nat.reduceAdd, Nat.reduceMul, Nat.reduceSub, abin_shl, abin_shr, load1V, loadV, storeV, cellsAt, getN, setN, allocV, lenL, lenS, bnd, oneC, Value.oneCell', Nat.reduceLeDiff, Nat.reduceLT, exists_eq_left', forall_const, reduceCtorEq, app_new, app_new0, List.append_assoc, Int.reduceToNat, Int.reduceLT, Int.reduceLE, Int.reduceEq, Int.reduceNe, Int.reduceBEq, IntKind.bits, bne_self_eq_false, Int.reducePow, hbs']
  refine xloop_cut (SsE g s b zs) ?_ ?_
  · refine xcode_loop (SsI g qb nb cb R s b zs) 4 ⟨0, .slice none 0 0, by omega, rfl, rfl, rfl, rfl, rfl, .inl ⟨rfl, by simp [lsB]⟩, Ext.refl _, fun A hA => by cases hA⟩ ?_
    rintro m ρ g1 ⟨i, sl, him, r8, r0, r4, r2, r7, L, E, hgl⟩
    by_cases hi : i < 4
    · have hi' : (i : Int) < 4 := by omega
      have hi0 : (0 : Int) ≤ (i : Int) := by omega
      have wi : IntKind.i64.wrap ((i : Int) + 1) = ((i + 1 : Nat) : Int) := by rw [i64_wrap] <;> omega
      have hfbg := E.first hfbg
      have hR1 := E.get hR
      obtain ⟨z, hs⟩ : ∃ z, zs[i]? = some z := ⟨_, List.getElem?_eq_getElem (by omega)⟩
      have hsb := hz z (List.mem_of_getElem? hs)
      obtain ⟨z, rfl⟩ : ∃ k : Nat, z = k := ⟨z.toNat, by omega⟩
      have hcell : (bR zs)[i]? = some (.int .u8 (z : Int)) := by simp [bR, hs]
      have hrem : (z : Int).tmod 16 = ((z % 16 : Nat) : Int) := by rw [Int.tmod_eq_emod_of_nonneg (by omega)]; omega
      have wc : IntKind.i64.wrap ((z % 16 : Nat) : Int) = ((z % 16 : Nat) : Int) := by rw [i64_wrap] <;> omega
      have w5 : IntKind.i64.wrap ((5 : Int) + ((z % 16 : Nat) : Int)) = ((5 + z % 16 : Nat) : Int) := by rw [i64_wrap] <;> omega
      have hmin : (if ((nb : Nat) : Int) < (i : Int) then ((nb : Nat) : Int) else (i : Int)) = ((min i nb : Nat) : Int) := by split <;> omega
      have hgd : (zs.getD i 0).toNat = z := by rw [List.getD_eq_getElem?_getD, hs]; rfl
      have hsn : lsB 16 b zs (i + 1) = lsB 16 b zs i ++ [octL (b.drop (min i nb)) (5 + z % 16)] := by
        rw [lsB_succ, hgd, hbl]
      simp only [sx, x_box, x_alloc, x_bslice, x_append, x_appz, x_b2s, x_s2b, x_mark, xop, ev, evs, evParts, fillL, cellsL, Ai.get, Ai.put, stab, isNil?, if_false, if_true, addr?, int?, str?, agg?, bool?, shiftA, FnPost, xresL, xres1, tup, argEnv, ptr, Nat.reduceEqDiff, reduceIte, beq_self_eq_true, ne_eq, Nat.reduceAdd, Nat.reduceMul, Nat.reduceSub, abin_shl, abin_shr, load1V, loadV, storeV, cellsAt, getN, setN, allocV, lenL, lenS, bnd, oneC, Value.oneCell', Nat.reduceLeDiff, Nat.reduceLT, exists_eq_left', forall_const, reduceCtorEq, app_new, app_new0, List.append_assoc, Int.reduceToNat, Int.reduceLT, Int.reduceLE, Int.reduceEq, Int.reduceNe, Int.reduceBEq, IntKind.bits, bne_self_eq_false, Int.reducePow, r8, r0, r4, r7, hi', hi0, List.foldlM_cons, List.foldlM_nil, int?, hmin]
      refine slc_run (lo := some (.t 32)) (hi := none) (mx := none) (n := nb) (c := cb) (l := min i nb) (u := nb) (m := cb) rfl (by unfold unk; omega) rfl rfl (bnd_some rfl (by omega)) (by simp) (by omega) (Nat.le_refl _) hcb.1 hfbg hspb fun q' hf' hq' => ?_
      have hfp : firstV 1 g1 (nb - min i nb) (.slice q' (nb - min i nb) (cb - min i nb)) = some (bR (b.drop (min i nb))) := by
        rw [hf', List.take_of_length_le (by rw [List.length_drop, bR_len]; omega)]
        simp [bR, List.map_drop]
      simp only [sx, x_box, x_alloc, x_bslice, x_slice, x_append, x_appz, x_b2s, x_s2b, x_mark, xop, ev, evs, evParts, fillL, cellsL, Ai.get, Ai.put, stab, isNil?, if_false, if_true, addr?, int?, str?, agg?, bool?, shiftA, FnPost, xresL, xres1, tup, argEnv, ptr, Nat.reduceEqDiff, reduceIte, beq_self_eq_true, ne_eq, Nat.reduceAdd, Nat.reduceMul, Nat.reduceSub, abin_shl, abin_shr, load1V, loadV, storeV, cellsAt, getN, setN, allocV, lenL, lenS, bnd, oneC, Value.oneCell', Nat.reduceLeDiff, Nat.reduceLT, exists_eq_left', forall_const, reduceCtorEq, app_new, app_new0, List.append_assoc, Int.reduceToNat, Int.reduceLT, Int.reduceLE, Int.reduceEq, Int.reduceNe, Int.reduceBEq, IntKind.bits, bne_self_eq_false, Int.reducePow, r8, r0, r4, r7, hi', hi0, hR1, hcell, Nat.mul_one, hrem, wc, w5]
      refine xcall (octets11_ok (n := 5 + z % 16) hfp (by omega) (by omega)) (by rfl) (by rfl) (by rfl) (by rfl) ?_
      rintro r g2 ⟨rfl, rfl⟩
      have E2 := Ext.app g1 [some (AObj.mk true (bR (octL (b.drop (min i nb)) (5 + z % 16))))]
      have hX : (g1 ++ [some (AObj.mk true (bR (octL (b.drop (min i nb)) (5 + z % 16))))])[g1.length]? = some (some (AObj.mk true (bR (octL (b.drop (min i nb)) (5 + z % 16))))) := by rw [app_new0]; rfl
      have hXs : slB sl ≠ some g1.length := fun e => by
        rcases L with ⟨rfl, -⟩ | ⟨A, rows, rfl, hA, -⟩
        · cases e
        · cases e; have := lt_of_get hA; omega
      have hol := octL_len (b.drop (min i nb)) (5 + z % 16)
      have hll : (lsB 16 b zs i).length ≤ 1000000 := by rw [lsB_len]; omega
      have L2 := L.ext E2
      have E02 := E.trans E2
      generalize hgg : g1 ++ [some (AObj.mk true (bR (octL (b.drop (min i nb)) (5 + z % 16))))] = g3 at *
      simp only [sx, x_box, x_alloc, x_bslice, x_slice, x_appz, x_b2s, x_s2b, x_mark, xop, ev, evs, evParts, fillL, cellsL, Ai.get, Ai.put, stab, isNil?, if_false, if_true, addr?, int?, str?, agg?, bool?, shiftA, FnPost, xresL, xres1, tup, argEnv, ptr, Nat.reduceEqDiff, reduceIte, beq_self_eq_true, ne_eq, Nat.reduceAdd, Nat.reduceMul, Nat.reduceSub, abin_shl, abin_shr, load1V, loadV, storeV, cellsAt, getN, setN, allocV, lenL, lenS, bnd, oneC, Value.oneCell', Nat.reduceLeDiff, Nat.reduceLT, exists_eq_left', forall_const, reduceCtorEq, app_new, app_new0, List.append_assoc, Int.reduceToNat, Int.reduceLT, Int.reduceLE, Int.reduceEq, Int.reduceNe, Int.reduceBEq, IntKind.bits, bne_self_eq_false, Int.reducePow]
      rw [← hol]
      refine LN.push (z := octL (b.drop (min i nb)) (5 + z % 16)) L2 E02 hgl hX hXs rfl rfl hll fun sl4 g4 L4 E4 hgl4 => ?_
      rw [← hsn] at L4
      simp only [sx, x_box, x_alloc, x_bslice, x_slice, x_append, x_appz, x_b2s, x_s2b, x_mark, xop, ev, evs, evParts, fillL, cellsL, Ai.get, Ai.put, stab, isNil?, if_false, if_true, addr?, int?, str?, agg?, bool?, shiftA, FnPost, xresL, xres1, tup, argEnv, ptr, Nat.reduceEqDiff, reduceIte, beq_self_eq_true, ne_eq, Nat.reduceAdd, Nat.reduceMul, Nat.reduceSub, abin_shl, abin_shr, load1V, loadV, storeV, cellsAt, getN, setN, allocV, lenL, lenS, bnd, oneC, Value.oneCell', Nat.reduceLeDiff, Nat.reduceLT, exists_eq_left', forall_const, reduceCtorEq, app_new, app_new0, List.append_assoc, Int.reduceToNat, Int.reduceLT, Int.reduceLE, Int.reduceEq, Int.reduceNe, Int.reduceBEq, IntKind.bits, bne_self_eq_false, Int.reducePow, r8, wi]
      exact ⟨m - 1, by omega, i + 1, sl4, by omega, rfl, r0, r4, r2, rfl, L4, E4, hgl4⟩
    · have hi' : ¬ (i : Int) < 4 := by omega
      obtain rfl : i = 4 := by omega
      simp only [sx, x_box, x_alloc, x_bslice, x_slice, x_append, x_appz, x_b2s, x_s2b, x_mark, xop, ev, evs, evParts, fillL, cellsL, Ai.get, Ai.put, stab, isNil?, if_false, if_true, addr?, int?, str?, agg?, bool?, shiftA, FnPost, xresL, xres1, tup, argEnv, ptr, Nat.reduceEqDiff, reduceIte, beq_self_eq_true, ne_eq, Nat.reduceAdd, Nat.reduceMul, Nat.reduceSub, abin_shl, abin_shr, load1V, loadV, storeV, cellsAt, getN, setN, allocV, lenL, lenS, bnd, oneC, Value.oneCell', Nat.reduceLeDiff, Nat.reduceLT, exists_eq_left', forall_const, reduceCtorEq, app_new, app_new0, List.append_assoc, Int.reduceToNat, Int.reduceLT, Int.reduceLE, Int.reduceEq, Int.reduceNe, Int.reduceBEq, IntKind.bits, bne_self_eq_false, Int.reducePow, r8, hi']
      exact ⟨sl, r2, r7, L, E⟩
  · rintro ρ g1 ⟨sl, r2, r7, L, E⟩
    have hln : (lsB 16 b zs 4).length = 4 := lsB_len _ _ _ _
    have hlb := lsB_byte (m := 16) (zs := zs) (n := 4) hbb
    have hnw := lsB_wide (m := 16) (b := b) (zs := zs) (n := 4) (by omega) (by omega)
    have hls := lsB_size (m := 16) (b := b) (zs := zs) (n := 4) (by omega) (by omega)
    generalize lsB 16 b zs 4 = ls at *
    obtain ⟨l0, l1, l2, l3, rfl⟩ := four hln
    have hF1 := hFg.ext E
    obtain ⟨ql, cl, hsl, hL⟩ := L.view
    obtain ⟨a, o, x0, y0, rfl, a1, a2, c0, f0⟩ := hL.get (i := 0) (z := l0) rfl
    obtain ⟨_, o1, x1, y1, e1, -, b2, c1, f1⟩ := hL.get (i := 1) (z := l1) rfl
    cases e1
    rw [a2] at b2; cases b2
    obtain ⟨_, o1, x2, y2, e1, -, b2, c2, f2⟩ := hL.get (i := 2) (z := l2) rfl
    cases e1
    rw [a2] at b2; cases b2
    obtain ⟨_, o1, x3, y3, e1, -, b2, c3, f3⟩ := hL.get (i := 3) (z := l3) rfl
    cases e1
    rw [a2] at b2; cases b2
    rw [hsl] at r7
    rw [Nat.add_zero] at c0
    simp only [sx, x_box, x_alloc, x_bslice, x_slice, x_append, x_appz, x_b2s, x_s2b, x_mark, xop, ev, evs, evParts, fillL, cellsL, Ai.get, Ai.put, stab, isNil?, if_false, if_true, addr?, int?, str?, agg?, bool?, shiftA, FnPost, xresL, xres1, tup, argEnv, ptr, Nat.reduceEqDiff, reduceIte, beq_self_eq_true, ne_eq, Nat.reduceAdd, Nat.reduceMul, Nat.reduceSub, abin_shl, abin_shr, load1V, loadV, storeV, cellsAt, getN, setN, allocV, lenL, lenS, bnd, oneC, Value.oneCell', Nat.reduceLeDiff, Nat.reduceLT, exists_eq_left', forall_const, reduceCtorEq, app_new, app_new0, List.append_assoc, Int.reduceToNat, Int.reduceLT, Int.reduceLE, Int.reduceEq, Int.reduceNe, Int.reduceBEq, IntKind.bits, bne_self_eq_false, Int.reducePow, r7, a1, a2, c0, c1, c2, c3]
    have LA := two_LV (c := 2) f0 f1
    have E2 : Kp g1 (g1 ++ [some (AObj.mk true [.slice x0 l0.length y0, .slice x1 l1.length y1])]) := Kp.app _ _
    generalize g1 ++ [some (AObj.mk true [.slice x0 l0.length y0, .slice x1 l1.length y1])] = g2 at *
    have m0 : l0 ∈ [l0, l1, l2, l3] := by simp
    have m1 : l1 ∈ [l0, l1, l2, l3] := by simp
    have m2 : l2 ∈ [l0, l1, l2, l3] := by simp
    have m3 : l3 ∈ [l0, l1, l2, l3] := by simp
    have p01 : ∀ x ∈ [l0, l1], x ∈ [l0, l1, l2, l3] := fun x hx => by
      simp only [List.mem_cons, List.not_mem_nil, or_false] at hx ⊢
      rcases hx with rfl | rfl <;> simp
    have p23 : ∀ x ∈ [l2, l3], x ∈ [l0, l1, l2, l3] := fun x hx => by
      simp only [List.mem_cons, List.not_mem_nil, or_false] at hx ⊢
      rcases hx with rfl | rfl <;> simp
    have w01 : ∀ x ∈ [l0, l1], ¬ Wide x := fun x hx => hnw x (p01 x hx)
    have w23 : ∀ x ∈ [l2, l3], ¬ Wide x := fun x hx => hnw x (p23 x hx)
    have z01 : ∀ x ∈ [l0, l1], ∀ z ∈ x, 0 ≤ z ∧ z ≤ 255 := fun x hx => hlb x (p01 x hx)
    have z23 : ∀ x ∈ [l2, l3], ∀ z ∈ x, 0 ≤ z ∧ z ≤ 255 := fun x hx => hlb x (p23 x hx)
    have J1 := jn_len w01
    have J2 := jn_len w23
    have jb1 := jn_bits [l0, l1]
    have jb2 := jn_bits [l2, l3]
    simp only [List.length_cons, List.length_nil] at J1 J2
    refine xcall (join_ok (ls := [l0, l1]) (hF1.ext E2) LA (by simp) z01) (by rfl) (by rfl) (by rfl) (by rfl) ?_
    rintro r g3 ⟨E3, ⟨⟨x, hx, hw⟩, -⟩ | ⟨-, qj, rfl, hfj⟩⟩
    · exact absurd hw (w01 x hx)
    have E3 : Kp g2 g3 := E3
    have K13 := E2.trans E3
    simp only [sx, x_box, x_alloc, x_bslice, x_slice, x_append, x_appz, x_b2s, x_s2b, x_mark, xop, ev, evs, evParts, fillL, cellsL, Ai.get, Ai.put, stab, isNil?, if_false, if_true, addr?, int?, str?, agg?, bool?, shiftA, FnPost, xresL, xres1, tup, argEnv, ptr, Nat.reduceEqDiff, reduceIte, beq_self_eq_true, ne_eq, Nat.reduceAdd, Nat.reduceMul, Nat.reduceSub, abin_shl, abin_shr, load1V, loadV, storeV, cellsAt, getN, setN, allocV, lenL, lenS, bnd, oneC, Value.oneCell', Nat.reduceLeDiff, Nat.reduceLT, exists_eq_left', forall_const, reduceCtorEq, app_new, app_new0, List.append_assoc, Int.reduceToNat, Int.reduceLT, Int.reduceLE, Int.reduceEq, Int.reduceNe, Int.reduceBEq, IntKind.bits, bne_self_eq_false, Int.reducePow, r7, a1, K13.get a2, c0, c1, c2, c3]
    have LB := two_LV (c := 2) (K13.first f2) (K13.first f3)
    have E4 : Kp g3 (g3 ++ [some (AObj.mk true [.slice x2 l2.length y2, .slice x3 l3.length y3])]) := Kp.app _ _
    generalize g3 ++ [some (AObj.mk true [.slice x2 l2.length y2, .slice x3 l3.length y3])] = g4 at *
    have K14 := K13.trans E4
    refine xcall (join_ok (ls := [l2, l3]) (hF1.ext K14) LB (by simp) z23) (by rfl) (by rfl) (by rfl) (by rfl) ?_
    rintro r g5 ⟨E5, ⟨⟨x, hx, hw⟩, -⟩ | ⟨-, qk, rfl, hfk⟩⟩
    · exact absurd hw (w23 x hx)
    have E5 : Kp g4 g5 := E5
    have K15 := K14.trans E5
    have hfj5 := (E4.trans E5).first hfj
    simp only [sx, x_box, x_alloc, x_bslice, x_slice, x_append, x_appz, x_b2s, x_s2b, x_mark, xop, ev, evs, evParts, fillL, cellsL, Ai.get, Ai.put, stab, isNil?, if_false, if_true, addr?, int?, str?, agg?, bool?, shiftA, FnPost, xresL, xres1, tup, argEnv, ptr, Nat.reduceEqDiff, reduceIte, beq_self_eq_true, ne_eq, Nat.reduceAdd, Nat.reduceMul, Nat.reduceSub, abin_shl, abin_shr, load1V, loadV, storeV, cellsAt, getN, setN, allocV, lenL, lenS, bnd, oneC, Value.oneCell', Nat.reduceLeDiff, Nat.reduceLT, exists_eq_left', forall_const, reduceCtorEq, app_new, app_new0, List.append_assoc, Int.reduceToNat, Int.reduceLT, Int.reduceLE, Int.reduceEq, Int.reduceNe, Int.reduceBEq, IntKind.bits, bne_self_eq_false, Int.reducePow, r7]
    refine xcall newS_ok (by rfl) (by rfl) (by rfl) (by rfl) ?_
    rintro r g6 ⟨X, rfl, AX, K6, hX⟩
    have hXl := lt_of_get AX.obj
    simp only [sx, x_box, x_alloc, x_bslice, x_slice, x_appz, x_b2s, x_s2b, x_mark, xop, ev, evs, evParts, fillL, cellsL, Ai.get, Ai.put, stab, isNil?, if_false, if_true, addr?, int?, str?, agg?, bool?, shiftA, FnPost, xresL, xres1, tup, argEnv, ptr, Nat.reduceEqDiff, reduceIte, beq_self_eq_true, ne_eq, Nat.reduceAdd, Nat.reduceMul, Nat.reduceSub, abin_shl, abin_shr, load1V, loadV, storeV, cellsAt, getN, setN, allocV, lenL, lenS, bnd, oneC, Value.oneCell', Nat.reduceLeDiff, Nat.reduceLT, exists_eq_left', forall_const, reduceCtorEq, app_new, app_new0, List.append_assoc, Int.reduceToNat, Int.reduceLT, Int.reduceLE, Int.reduceEq, Int.reduceNe, Int.reduceBEq, IntKind.bits, bne_self_eq_false, Int.reducePow, r7, r2]
    refine RN.append (zs := []) (news := jn [l0, l1]) (.inl ⟨rfl, rfl⟩) rfl rfl rfl (K6.first hfj5) (by simp; omega) fun sl7 g7 R7 hl7 hk7 hA7 _ => ?_
    rw [List.nil_append] at R7
    have K7 : Kp g6 g7 := ⟨hl7, fun B hB => hk7 B hB (by simp [slB])⟩
    have hA7' : ∀ A, slB sl7 = some A → g6.length ≤ A := fun A hA => by
      rcases hA7 A hA with h | h
      · cases h
      · exact h
    simp only [sx, x_box, x_alloc, x_bslice, x_slice, x_appz, x_b2s, x_s2b, x_mark, xop, ev, evs, evParts, fillL, cellsL, Ai.get, Ai.put, stab, isNil?, if_false, if_true, addr?, int?, str?, agg?, bool?, shiftA, FnPost, xresL, xres1, tup, argEnv, ptr, Nat.reduceEqDiff, reduceIte, beq_self_eq_true, ne_eq, Nat.reduceAdd, Nat.reduceMul, Nat.reduceSub, abin_shl, abin_shr, load1V, loadV, storeV, cellsAt, getN, setN, allocV, lenL, lenS, bnd, oneC, Value.oneCell', Nat.reduceLeDiff, Nat.reduceLT, exists_eq_left', forall_const, reduceCtorEq, app_new, app_new0, List.append_assoc, Int.reduceToNat, Int.reduceLT, Int.reduceLE, Int.reduceEq, Int.reduceNe, Int.reduceBEq, IntKind.bits, bne_self_eq_false, Int.reducePow, r7, r2]
    refine xcall (stream_ok (s := s) (by omega)) (by rfl) (by rfl) (by rfl) (by rfl) ?_
    rintro r g8 ⟨rfl, e8⟩
    have K8 : Kp g7 g8 := by rw [e8]; exact Kp.app _ _
    have hS : firstV 1 g8 (streamOf s).length (.slice (some ⟨g7.length, 0, none⟩) s.size s.size) = some (bR (streamOf s)) := by
      rw [e8, streamOf_len]
      simp only [firstV, cellsAt, app_new0]
      split
      · rename_i h0
        have : streamOf s = [] := List.eq_nil_of_length_eq_zero (by rw [streamOf_len]; exact h0)
        rw [this]; rfl
      · simp only [ne_eq, not_true_eq_false, if_false, Option.map_some, Option.bind_some]
        rw [Nat.mul_one]
        exact getN_all _ _ (by rw [bR_len, streamOf_len])
    clear e8
    have hsb : Bits (streamOf s) := streamOf_bit s
    have hsl' := streamOf_len s
    generalize streamOf s = mid at *
    have R8 : RN g8 sl7 (jn [l0, l1]) := R7.keep fun A x _ hx => K8.get hx
    have h78 := K8.1
    simp only [sx, x_box, x_alloc, x_bslice, x_slice, x_appz, x_b2s, x_s2b, x_mark, xop, ev, evs, evParts, fillL, cellsL, Ai.get, Ai.put, stab, isNil?, if_false, if_true, addr?, int?, str?, agg?, bool?, shiftA, FnPost, xresL, xres1, tup, argEnv, ptr, Nat.reduceEqDiff, reduceIte, beq_self_eq_true, ne_eq, Nat.reduceAdd, Nat.reduceMul, Nat.reduceSub, abin_shl, abin_shr, load1V, loadV, storeV, cellsAt, getN, setN, allocV, lenL, lenS, bnd, oneC, Value.oneCell', Nat.reduceLeDiff, Nat.reduceLT, exists_eq_left', forall_const, reduceCtorEq, app_new, app_new0, List.append_assoc, Int.reduceToNat, Int.reduceLT, Int.reduceLE, Int.reduceEq, Int.reduceNe, Int.reduceBEq, IntKind.bits, bne_self_eq_false, Int.reducePow, r7, r2]
    refine RN.append R8 rfl rfl (by simp only [lenV, hsl']) hS (by omega) fun sl9 g9 R9 hl9 hk9 hA9 _ => ?_
    have hA9' : ∀ A, slB sl9 = some A → g6.length ≤ A := fun A hA => by
      rcases hA9 A hA with h | h
      · exact hA7' A h
      · omega
    have K9 : Kp g6 g9 := ⟨by omega, fun B hB => by rw [hk9 B (by omega) (fun e => by have := hA7' B e; omega), K8.2 B (by omega), K7.2 B hB]⟩
    have hfk9 := (K6.trans K9).first hfk
    simp only [sx, x_box, x_alloc, x_bslice, x_slice, x_appz, x_b2s, x_s2b, x_mark, xop, ev, evs, evParts, fillL, cellsL, Ai.get, Ai.put, stab, isNil?, if_false, if_true, addr?, int?, str?, agg?, bool?, shiftA, FnPost, xresL, xres1, tup, argEnv, ptr, Nat.reduceEqDiff, reduceIte, beq_self_eq_true, ne_eq, Nat.reduceAdd, Nat.reduceMul, Nat.reduceSub, abin_shl, abin_shr, load1V, loadV, storeV, cellsAt, getN, setN, allocV, lenL, lenS, bnd, oneC, Value.oneCell', Nat.reduceLeDiff, Nat.reduceLT, exists_eq_left', forall_const, reduceCtorEq, app_new, app_new0, List.append_assoc, Int.reduceToNat, Int.reduceLT, Int.reduceLE, Int.reduceEq, Int.reduceNe, Int.reduceBEq, IntKind.bits, bne_self_eq_false, Int.reducePow, r7, r2]
    refine RN.append R9 rfl rfl rfl hfk9 (by rw [List.length_append]; omega) fun slA gA RA hlA hkA hAA _ => ?_
    have hAA' : ∀ A, slB slA = some A → g6.length ≤ A := fun A hA => by
      rcases hAA A hA with h | h
      · exact hA9' A h
      · omega
    have KA : Kp g6 gA := ⟨by omega, fun B hB => by rw [hkA B (by omega) (fun e => by have := hA9' B e; omega), K9.2 B hB]⟩
    obtain ⟨T, er, hfeed⟩ := feed_around (ls := [l0, l1]) (ms := [l2, l3]) hsb w01 z01 w23 z23
    have hall : Bits (jn [l0, l1] ++ mid ++ jn [l2, l3]) := (jb1.app hsb).app jb2
    have hallL : (jn [l0, l1] ++ mid ++ jn [l2, l3]).length ≤ 1048576 := by simp only [List.length_append]; omega
    have oF := Sc.Ok.nw.feed (s := Sc.new) hall
    rw [hfeed] at oF
    have hTl := oF.fo
    obtain ⟨qs, cs, rfl, hfs⟩ := RA.shp
    have hqs : ∀ a, qs = some a → a.block < gA.length ∧ g6.length ≤ a.block := fun a ha => by
      subst ha
      refine ⟨?_, hAA' _ rfl⟩
      rcases RA with ⟨e, -⟩ | ⟨A, e, hA⟩
      · cases e
      · cases e; exact lt_of_get hA
    generalize jn [l0, l1] ++ mid ++ jn [l2, l3] = all at *
    simp only [sx, x_box, x_alloc, x_bslice, x_slice, x_append, x_appz, x_b2s, x_s2b, x_mark, xop, ev, evs, evParts, fillL, cellsL, Ai.get, Ai.put, stab, isNil?, if_false, if_true, addr?, int?, str?, agg?, bool?, shiftA, FnPost, xresL, xres1, tup, argEnv, ptr, Nat.reduceEqDiff, reduceIte, beq_self_eq_true, ne_eq, Nat.reduceAdd, Nat.reduceMul, Nat.reduceSub, abin_shl, abin_shr, load1V, loadV, storeV, cellsAt, getN, setN, allocV, lenL, lenS, bnd, oneC, Value.oneCell', Nat.reduceLeDiff, Nat.reduceLT, exists_eq_left', forall_const, reduceCtorEq, app_new, app_new0, List.append_assoc, Int.reduceToNat, Int.reduceLT, Int.reduceLE, Int.reduceEq, Int.reduceNe, Int.reduceBEq, IntKind.bits, bne_self_eq_false, Int.reducePow, r7, r2]
    refine xcall (fed_ok (AX.kp KA) Sc.Ok.nw (by omega) hfs hallL hall fun a ha => ⟨(hqs a ha).1, fun h => by have := ftS_nil h; have := (hqs a ha).2; omega⟩) (by rfl) (by rfl) (by rfl) (by rfl) ?_
    rintro r gB ⟨q1, kv1, rfl, V1, A1, F1, n1, b1⟩
    rw [hfeed] at V1 ⊢
    have KB : Kp g5 gB := kp_past (K6.trans KA) F1 fun B h => by have := ftS_nil h; omega
    have hfo : (bare er ([l0, l1] ++ (T ++ [l2, l3]))).fo = [l0, l1] ++ (T ++ [l2, l3]) := rfl
    rw [hfo] at V1 hTl
    simp only [hfo]
    have hM : ([l0, l1] ++ (T ++ [l2, l3])).length = T.length + 4 := by simp
    obtain ⟨rows, V1a, V1b⟩ := V1
    rw [hM] at V1a hTl ⊢
    have hd2 : ([l0, l1] ++ (T ++ [l2, l3])).drop (T.length + 2) = [l2, l3] := by
      rw [← List.append_assoc, List.drop_left' (by simp)]
    have ht2 : ([l0, l1] ++ (T ++ [l2, l3])).take 2 = [l0, l1] := List.take_left' rfl
    generalize [l0, l1] ++ (T ++ [l2, l3]) = got at *
    have hu1 : T.length + 4 < unk := by unfold unk; omega
    have hsp1 : ∀ a, q1 = some a → a.spot = none := fun a ha => (b1 a ha).2.2
    have hlt : ¬ (((T.length + 4 : Nat) : Nat) : Int) < 4 := by omega
    have wsub : IntKind.i64.wrap (((T.length + 4 : Nat) : Int) - 2) = ((T.length + 2 : Nat) : Int) := by rw [i64_wrap] <;> omega
    simp only [sx, x_box, x_alloc, x_bslice, x_append, x_appz, x_b2s, x_s2b, x_mark, xop, ev, evs, evParts, fillL, cellsL, Ai.get, Ai.put, stab, isNil?, if_false, if_true, addr?, int?, str?, agg?, bool?, shiftA, FnPost, xresL, xres1, tup, argEnv, ptr, Nat.reduceEqDiff, reduceIte, beq_self_eq_true, ne_eq, Nat.reduceAdd, Nat.reduceMul, Nat.reduceSub, abin_shl, abin_shr, load1V, loadV, storeV, cellsAt, getN, setN, allocV, lenL, lenS, bnd, oneC, Value.oneCell', Nat.reduceLeDiff, Nat.reduceLT, exists_eq_left', forall_const, reduceCtorEq, app_new, app_new0, List.append_assoc, Int.reduceToNat, Int.reduceLT, Int.reduceLE, Int.reduceEq, Int.reduceNe, Int.reduceBEq, IntKind.bits, bne_self_eq_false, Int.reducePow, r7, hlt]
    refine slc_run (lo := none) (hi := some (.c (.int .i64 2))) (mx := none) (n := T.length + 4) (c := T.length + 4) (l := 0) (u := 2) (m := T.length + 4) rfl hu1 rfl (bnd_some rfl (by omega)) rfl (by simp) (by omega) (by omega) (by omega) V1a hsp1 fun q2 hf2 hq2 => ?_
    rw [Nat.sub_zero, Nat.sub_zero] at hf2 ⊢
    simp only [sx, x_box, x_alloc, x_bslice, x_append, x_appz, x_b2s, x_s2b, x_mark, xop, ev, evs, evParts, fillL, cellsL, Ai.get, Ai.put, stab, isNil?, if_false, if_true, addr?, int?, str?, agg?, bool?, shiftA, FnPost, xresL, xres1, tup, argEnv, ptr, Nat.reduceEqDiff, reduceIte, beq_self_eq_true, ne_eq, Nat.reduceAdd, Nat.reduceMul, Nat.reduceSub, abin_shl, abin_shr, load1V, loadV, storeV, cellsAt, getN, setN, allocV, lenL, lenS, bnd, oneC, Value.oneCell', Nat.reduceLeDiff, Nat.reduceLT, exists_eq_left', forall_const, reduceCtorEq, app_new, app_new0, List.append_assoc, Int.reduceToNat, Int.reduceLT, Int.reduceLE, Int.reduceEq, Int.reduceNe, Int.reduceBEq, IntKind.bits, bne_self_eq_false, Int.reducePow, r7, wsub]
    refine slc_run (lo := some (.t 99)) (hi := none) (mx := none) (n := T.length + 4) (c := T.length + 4) (l := T.length + 2) (u := T.length + 4) (m := T.length + 4) rfl hu1 rfl rfl (bnd_some rfl (by omega)) (by simp) (by omega) (Nat.le_refl _) (Nat.le_refl _) V1a hsp1 fun q3 hf3 hq3 => ?_
    rw [show T.length + 4 - (T.length + 2) = 2 by omega] at hf3 ⊢
    simp only [sx, x_box, x_alloc, x_bslice, x_append, x_appz, x_b2s, x_s2b, x_mark, xop, ev, evs, evParts, fillL, cellsL, Ai.get, Ai.put, stab, isNil?, if_false, if_true, addr?, int?, str?, agg?, bool?, shiftA, FnPost, xresL, xres1, tup, argEnv, ptr, Nat.reduceEqDiff, reduceIte, beq_self_eq_true, ne_eq, Nat.reduceAdd, Nat.reduceMul, Nat.reduceSub, abin_shl, abin_shr, load1V, loadV, storeV, cellsAt, getN, setN, allocV, lenL, lenS, bnd, oneC, Value.oneCell', Nat.reduceLeDiff, Nat.reduceLT, exists_eq_left', forall_const, reduceCtorEq, app_new, app_new0, List.append_assoc, Int.reduceToNat, Int.reduceLT, Int.reduceLE, Int.reduceEq, Int.reduceNe, Int.reduceBEq, IntKind.bits, bne_self_eq_false, Int.reducePow, r7]
    refine slc_run (lo := none) (hi := some (.c (.int .i64 2))) (mx := some (.c (.int .i64 2))) (n := 2) (c := T.length + 4) (l := 0) (u := 2) (m := 2) rfl hu1 (bnd_some rfl (by omega)) (bnd_some rfl (by omega)) rfl (by simp) (by omega) (by omega) (by omega) hf2 (fun a ha => (hq2 a ha).1) fun q4 hf4 hq4 => ?_
    have V4 : FsV gB q4 [l0, l1] := ⟨_, hf4, by
      have := (((V1b.drop 0).take 2).drop 0).take 2
      simp only [List.drop_zero, ht2] at this
      exact this⟩
    have KBB := K15.trans KB
    have LB1 := L.ext KBB
    simp only [sx, x_box, x_alloc, x_bslice, x_append, x_appz, x_b2s, x_s2b, x_mark, xop, ev, evs, evParts, fillL, cellsL, Ai.get, Ai.put, stab, isNil?, if_false, if_true, addr?, int?, str?, agg?, bool?, shiftA, FnPost, xresL, xres1, tup, argEnv, ptr, Nat.reduceEqDiff, reduceIte, beq_self_eq_true, ne_eq, Nat.reduceAdd, Nat.reduceMul, Nat.reduceSub, abin_shl, abin_shr, load1V, loadV, storeV, cellsAt, getN, setN, allocV, lenL, lenS, bnd, oneC, Value.oneCell', Nat.reduceLeDiff, Nat.reduceLT, exists_eq_left', forall_const, reduceCtorEq, app_new, app_new0, List.append_assoc, Int.reduceToNat, Int.reduceLT, Int.reduceLE, Int.reduceEq, Int.reduceNe, Int.reduceBEq, IntKind.bits, bne_self_eq_false, Int.reducePow, r7]
    refine LN.part LB1 (by simp) (l := 0) (u := 2) (by rw [hsl]; rfl) (bnd_some rfl (by simp)) rfl (by omega) (by simp) fun q5 LV5 => ?_
    have LV5 : LV gB q5 (unk + 1) [l0, l1] := LV5
    simp only [sx, x_box, x_alloc, x_bslice, x_slice, x_append, x_appz, x_b2s, x_s2b, x_mark, xop, ev, evs, evParts, fillL, cellsL, Ai.get, Ai.put, stab, isNil?, if_false, if_true, addr?, int?, str?, agg?, bool?, shiftA, FnPost, xresL, xres1, tup, argEnv, ptr, Nat.reduceEqDiff, reduceIte, beq_self_eq_true, ne_eq, Nat.reduceAdd, Nat.reduceMul, Nat.reduceSub, abin_shl, abin_shr, load1V, loadV, storeV, cellsAt, getN, setN, allocV, lenL, lenS, bnd, oneC, Value.oneCell', Nat.reduceLeDiff, Nat.reduceLT, exists_eq_left', forall_const, reduceCtorEq, app_new, app_new0, List.append_assoc, Int.reduceToNat, Int.reduceLT, Int.reduceLE, Int.reduceEq, Int.reduceNe, Int.reduceBEq, IntKind.bits, bne_self_eq_false, Int.reducePow, r7]
    refine xcall (lists_ok (ls := [l0, l1]) V4 LV5 (by simp) fun x hx => hls x (p01 x hx)) (by rfl) (by rfl) (by rfl) (by rfl) ?_
    rintro r gC ⟨rfl, e0⟩
    subst e0
    simp only [sx, x_box, x_alloc, x_bslice, x_append, x_appz, x_b2s, x_s2b, x_mark, xop, ev, evs, evParts, fillL, cellsL, Ai.get, Ai.put, stab, isNil?, if_false, if_true, addr?, int?, str?, agg?, bool?, shiftA, FnPost, xresL, xres1, tup, argEnv, ptr, Nat.reduceEqDiff, reduceIte, beq_self_eq_true, ne_eq, Nat.reduceAdd, Nat.reduceMul, Nat.reduceSub, abin_shl, abin_shr, load1V, loadV, storeV, cellsAt, getN, setN, allocV, lenL, lenS, bnd, oneC, Value.oneCell', Nat.reduceLeDiff, Nat.reduceLT, exists_eq_left', forall_const, reduceCtorEq, app_new, app_new0, List.append_assoc, Int.reduceToNat, Int.reduceLT, Int.reduceLE, Int.reduceEq, Int.reduceNe, Int.reduceBEq, IntKind.bits, bne_self_eq_false, Int.reducePow, r7]
    refine slc_run (lo := none) (hi := some (.c (.int .i64 2))) (mx := some (.c (.int .i64 2))) (n := 2) (c := 2) (l := 0) (u := 2) (m := 2) rfl (by omega) (bnd_some rfl (by omega)) (bnd_some rfl (by omega)) rfl (by simp) (by omega) (by omega) (by omega) hf3 (fun a ha => (hq3 a ha).1) fun q6 hf6 hq6 => ?_
    have V6 : FsV gC q6 [l2, l3] := ⟨_, hf6, by
      have := (((V1b.drop (T.length + 2)).take 2).drop 0).take 2
      rw [hd2] at this
      exact this⟩
    simp only [sx, x_box, x_alloc, x_bslice, x_append, x_appz, x_b2s, x_s2b, x_mark, xop, ev, evs, evParts, fillL, cellsL, Ai.get, Ai.put, stab, isNil?, if_false, if_true, addr?, int?, str?, agg?, bool?, shiftA, FnPost, xresL, xres1, tup, argEnv, ptr, Nat.reduceEqDiff, reduceIte, beq_self_eq_true, ne_eq, Nat.reduceAdd, Nat.reduceMul, Nat.reduceSub, abin_shl, abin_shr, load1V, loadV, storeV, cellsAt, getN, setN, allocV, lenL, lenS, bnd, oneC, Value.oneCell', Nat.reduceLeDiff, Nat.reduceLT, exists_eq_left', forall_const, reduceCtorEq, app_new, app_new0, List.append_assoc, Int.reduceToNat, Int.reduceLT, Int.reduceLE, Int.reduceEq, Int.reduceNe, Int.reduceBEq, IntKind.bits, bne_self_eq_false, Int.reducePow, r7]
    refine LN.part LB1 (by simp) (l := 2) (u := 4) (by rw [hsl]; rfl) rfl (bnd_some rfl (by simp)) (by omega) (by simp) fun q7 LV7 => ?_
    have LV7 : LV gC q7 (unk + 1) [l2, l3] := LV7
    simp only [sx, x_box, x_alloc, x_bslice, x_slice, x_append, x_appz, x_b2s, x_s2b, x_mark, xop, ev, evs, evParts, fillL, cellsL, Ai.get, Ai.put, stab, isNil?, if_false, if_true, addr?, int?, str?, agg?, bool?, shiftA, FnPost, xresL, xres1, tup, argEnv, ptr, Nat.reduceEqDiff, reduceIte, beq_self_eq_true, ne_eq, Nat.reduceAdd, Nat.reduceMul, Nat.reduceSub, abin_shl, abin_shr, load1V, loadV, storeV, cellsAt, getN, setN, allocV, lenL, lenS, bnd, oneC, Value.oneCell', Nat.reduceLeDiff, Nat.reduceLT, exists_eq_left', forall_const, reduceCtorEq, app_new, app_new0, List.append_assoc, Int.reduceToNat, Int.reduceLT, Int.reduceLE, Int.reduceEq, Int.reduceNe, Int.reduceBEq, IntKind.bits, bne_self_eq_false, Int.reducePow, r7]
    refine xcall (lists_ok (ls := [l2, l3]) V6 LV7 (by simp) fun x hx => hls x (p23 x hx)) (by rfl) (by rfl) (by rfl) (by rfl) ?_
    rintro r gD ⟨rfl, e0⟩
    subst e0
    simp only [sx, x_box, x_alloc, x_bslice, x_slice, x_append, x_appz, x_b2s, x_s2b, x_mark, xop, ev, evs, evParts, fillL, cellsL, Ai.get, Ai.put, stab, isNil?, if_false, if_true, addr?, int?, str?, agg?, bool?, shiftA, FnPost, xresL, xres1, tup, argEnv, ptr, Nat.reduceEqDiff, reduceIte, beq_self_eq_true, ne_eq, Nat.reduceAdd, Nat.reduceMul, Nat.reduceSub, abin_shl, abin_shr, load1V, loadV, storeV, cellsAt, getN, setN, allocV, lenL, lenS, bnd, oneC, Value.oneCell', Nat.reduceLeDiff, Nat.reduceLT, exists_eq_left', forall_const, reduceCtorEq, app_new, app_new0, List.append_assoc, Int.reduceToNat, Int.reduceLT, Int.reduceLE, Int.reduceEq, Int.reduceNe, Int.reduceBEq, IntKind.bits, bne_self_eq_false, Int.reducePow, r7]
    refine xcall (lives_ok (hF1.ext KBB)) (by rfl) (by rfl) (by rfl) (by rfl) ?_
    rintro r gE ⟨rfl, e0⟩
    subst e0
    simp only [sx, x_box, x_alloc, x_bslice, x_slice, x_append, x_appz, x_b2s, x_s2b, x_mark, xop, ev, evs, evParts, fillL, cellsL, Ai.get, Ai.put, stab, isNil?, if_false, if_true, addr?, int?, str?, agg?, bool?, shiftA, FnPost, xresL, xres1, tup, argEnv, ptr, Nat.reduceEqDiff, reduceIte, beq_self_eq_true, ne_eq, Nat.reduceAdd, Nat.reduceMul, Nat.reduceSub, abin_shl, abin_shr, load1V, loadV, storeV, cellsAt, getN, setN, allocV, lenL, lenS, bnd, oneC, Value.oneCell', Nat.reduceLeDiff, Nat.reduceLT, exists_eq_left', forall_const, reduceCtorEq, app_new, app_new0, List.append_assoc, Int.reduceToNat, Int.reduceLT, Int.reduceLE, Int.reduceEq, Int.reduceNe, Int.reduceBEq, IntKind.bits, bne_self_eq_false, Int.reducePow, r7]
end Go.Proofs.YtimfgagdfmmeeaaDoor
