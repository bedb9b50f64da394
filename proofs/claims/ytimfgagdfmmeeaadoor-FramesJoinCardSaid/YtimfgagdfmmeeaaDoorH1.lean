import Derived.Test.YtimfgagdfmmeeaaDoorG4
import Derived.Test.YtimfgagdfmmeeaaDoorRun
set_option linter.unusedVariables false
set_option linter.unusedSimpArgs false
namespace Go.Proofs.YtimfgagdfmmeeaaDoor
open Go Go.Ai Go.Proofs

/-- the flag -/
def fl : List Int := [0, 1, 1, 1, 1, 1, 1, 0]
theorem Fl.ext {h h' : AHeap} (F : Fl h) (E : Ext h h') : Fl h' := E.get F
theorem Fl.first {h : AHeap} (F : Fl h) (c : Nat) : firstV 1 h 8 (.slice (some ⟨0, 0, none⟩) 8 c) = some (bR fl) := by
  have F : h[0]? = some (some ⟨false, flagV⟩) := F
  simp only [firstV]
  rw [if_neg (by decide), if_neg (by simp)]
  simp only [cellsAt, F, Option.bind_some]; rfl
/-- octets, repeated -/
def octL (b : List Int) (n : Nat) : List Int := (List.range n).map fun i => b.getD (i % b.length) 0
theorem octL_len (b : List Int) (n : Nat) : (octL b n).length = n := by simp [octL]
theorem octL_get {b : List Int} {n i : Nat} (h : i < n) : (octL b n)[i]? = some (b.getD (i % b.length) 0) := by
  unfold octL; rw [List.getElem?_map, List.getElem?_range h]; rfl
theorem octL_byte {b : List Int} (hb : ∀ z ∈ b, 0 ≤ z ∧ z ≤ 255) (n : Nat) : ∀ z ∈ octL b n, 0 ≤ z ∧ z ≤ 255 := by
  intro z hz
  obtain ⟨i, -, rfl⟩ := List.mem_map.1 hz
  rw [List.getD_eq_getElem?_getD]
  cases h : b[i % b.length]? with
  | none => decide
  | some x => exact hb x (List.mem_of_getElem? h)
def OcI (g : AHeap) (qb : Option Addr) (nb cb n : Nat) (b : List Int) (m : Nat) (ρ : Env) (h : AHeap) : Prop := ∃ i : Nat, i + m = n ∧ get ρ 6 = some (.int .i64 (i : Nat)) ∧ get ρ 0 = some (.slice qb nb cb) ∧ get ρ 1 = some (.int .i64 (n : Nat)) ∧ get ρ 5 = some (.slice (some ⟨g.length, 0, none⟩) n n) ∧ h = g ++ [some ⟨true, bR ((octL b n).take i ++ List.replicate (n - i) 0)⟩]
def OcE (g : AHeap) (n : Nat) (b : List Int) (ρ : Env) (h : AHeap) : Prop := get ρ 5 = some (.slice (some ⟨g.length, 0, none⟩) n n) ∧ h = g ++ [some ⟨true, bR (octL b n)⟩]
theorem octets11_ok {h : AHeap} {qb : Option Addr} {nb cb n : Nat} {b : List Int} (hf : firstV 1 h nb (.slice qb nb cb) = some (bR b)) (hn : n ≤ 2000000) (hnb : nb ≤ 9223372036854775807) :
    Valid Tryd.prog 11 [.slice qb nb cb, .int .i64 (n : Int)] h fun r h' => r = .slice (some ⟨h.length, 0, none⟩) n n ∧ h' = h ++ [some ⟨true, bR (octL b n)⟩] := by
  refine v11 (by simp) ?_
  have hbl := firstV_len hf
  rw [bR_len, Nat.mul_one] at hbl
  have h1 : (n : Int) * 1 ≤ 140737488355328 := by omega
  have h2 : (n : Int) ≤ 9223372036854775807 := by omega
  have h3 : (0 : Int) ≤ (n : Int) := by omega
  simp only [X11, sx, x_box, x_alloc, x_bslice, x_slice, x_append, x_appz, x_b2s, x_s2b, x_mark, xop, ev, evs, evParts, fillL, cellsL, Ai.get, Ai.put, stab, isNil?, if_false, if_true, addr?, int?, str?, agg?, bool?, shiftA, FnPost, xresL, xres1, tup, argEnv, ptr, Nat.reduceEqDiff, reduceIte, beq_self_eq_true, ne_eq, Nat.reduceAdd, Nat.reduceMul, Nat.reduceSub, abin_shl, abin_shr, load1V, loadV, storeV, cellsAt, getN, setN, allocV, lenL, lenS, bnd, oneC, Value.oneCell', Nat.reduceLeDiff, Nat.reduceLT, exists_eq_left', forall_const, reduceCtorEq, app_new, app_new0, List.append_assoc, Int.reduceToNat, Int.reduceLT, Int.reduceLE, Int.reduceEq, Int.reduceNe, Int.reduceBEq, IntKind.bits, bne_self_eq_false, Int.reducePow, h1, h2, h3, Int.le_refl, zeros_bR]
  refine xloop_cut (OcE h n b) ?_ ?_
  · refine xcode_loop (OcI h qb nb cb n b) n ⟨0, by omega, rfl, rfl, rfl, rfl, by simp⟩ ?_
    rintro m ρ g ⟨i, him, r6, r0, r1, r5, e0⟩
    subst e0
    by_cases hi : i < n
    · have hi' : (i : Int) < (n : Nat) := by omega
      have hi0 : (0 : Int) ≤ (i : Int) := by omega
      have wi : IntKind.i64.wrap ((i : Int) + 1) = ((i + 1 : Nat) : Int) := by rw [i64_wrap] <;> omega
      by_cases hb0 : 0 < nb
      · have hb0' : (0 : Int) < (nb : Nat) := by omega
        have hml : i % nb < nb := Nat.mod_lt _ hb0
        have E := Ext.app h [some (AObj.mk true (bR ((octL b n).take i ++ List.replicate (n - i) 0)))]
        obtain ⟨a, o, z, rfl, a1, a2, a3, a4⟩ := elemB (E.first hf) hml
        have hrem : (i : Int).tmod (nb : Nat) = ((i % nb : Nat) : Int) := by rw [Int.tmod_eq_emod_of_nonneg (by omega)]; omega
        have hne : ¬ (nb : Int) = 0 := by omega
        have hm0 : (0 : Int) ≤ ((i % nb : Nat) : Int) := by omega
        have hml' : ((i % nb : Nat) : Int) < (nb : Nat) := by omega
        have hlen : (bR ((octL b n).take i ++ List.replicate (n - i) 0)).length = n := by rw [bR_len, List.length_append, List.length_take, octL_len, List.length_replicate]; omega
        have hle : i + 1 ≤ n := hi
        have hset : (bR ((octL b n).take i ++ List.replicate (n - i) (0 : Int))).set i (.int .u8 z) = bR ((octL b n).take (i + 1) ++ List.replicate (n - (i + 1)) 0) := by
          have hz : (octL b n)[i]? = some z := by
            rw [octL_get hi, List.getD_eq_getElem?_getD, hbl, a4]; rfl
          rw [take_snoc hz]
          unfold bR
          rw [← List.map_set, List.set_append_right _ _ (by rw [List.length_take, octL_len]; omega), List.length_take, octL_len, Nat.min_eq_left (by omega), Nat.sub_self, show n - i = (n - (i + 1)) + 1 by omega, List.replicate_succ, List.set_cons_zero]
          simp
        have hself : (h ++ [some (AObj.mk true (bR ((octL b n).take i ++ List.replicate (n - i) 0)))])[h.length]? = some (some (AObj.mk true (bR ((octL b n).take i ++ List.replicate (n - i) 0)))) := by rw [app_new0]; rfl
        have hset2 : ∀ x : Option AObj, (h ++ [some (AObj.mk true (bR ((octL b n).take i ++ List.replicate (n - i) 0)))]).set h.length x = h ++ [x] := fun x => by
          rw [List.set_append_right _ _ (Nat.le_refl _), Nat.sub_self]; rfl
        simp only [sx, x_box, x_alloc, x_bslice, x_slice, x_append, x_appz, x_b2s, x_s2b, x_mark, xop, ev, evs, evParts, fillL, cellsL, Ai.get, Ai.put, stab, isNil?, if_false, if_true, addr?, int?, str?, agg?, bool?, shiftA, FnPost, xresL, xres1, tup, argEnv, ptr, Nat.reduceEqDiff, reduceIte, beq_self_eq_true, ne_eq, Nat.reduceAdd, Nat.reduceMul, Nat.reduceSub, abin_shl, abin_shr, load1V, loadV, storeV, cellsAt, getN, setN, allocV, lenL, lenS, bnd, oneC, Value.oneCell', Nat.reduceLeDiff, Nat.reduceLT, exists_eq_left', forall_const, reduceCtorEq, app_new, app_new0, List.append_assoc, Int.reduceToNat, Int.reduceLT, Int.reduceLE, Int.reduceEq, Int.reduceNe, Int.reduceBEq, IntKind.bits, bne_self_eq_false, Int.reducePow, r6, r0, r1, r5, hi', hi0, hb0', hrem, hne, hm0, hml', a1, a2, a3, Nat.mul_one, hlen, hle, hset, hset2, wi]
        exact ⟨m - 1, by omega, i + 1, by omega, rfl, r0, r1, r5, rfl⟩
      · have hb0' : ¬ (0 : Int) < (nb : Nat) := by omega
        have hz : octL b n = List.replicate n 0 := by
          have : b = [] := List.eq_nil_of_length_eq_zero (by omega)
          subst this
          apply List.ext_getElem?
          intro j
          by_cases hj : j < n
          · rw [octL_get hj, List.getElem?_replicate, if_pos hj]; rfl
          · rw [List.getElem?_eq_none (by rw [octL_len]; omega), List.getElem?_eq_none (by simp; omega)]
        simp only [sx, x_box, x_alloc, x_bslice, x_slice, x_append, x_appz, x_b2s, x_s2b, x_mark, xop, ev, evs, evParts, fillL, cellsL, Ai.get, Ai.put, stab, isNil?, if_false, if_true, addr?, int?, str?, agg?, bool?, shiftA, FnPost, xresL, xres1, tup, argEnv, ptr, Nat.reduceEqDiff, reduceIte, beq_self_eq_true, ne_eq, Nat.reduceAdd, Nat.reduceMul, Nat.reduceSub, abin_shl, abin_shr, load1V, loadV, storeV, cellsAt, getN, setN, allocV, lenL, lenS, bnd, oneC, Value.oneCell', Nat.reduceLeDiff, Nat.reduceLT, exists_eq_left', forall_const, reduceCtorEq, app_new, app_new0, List.append_assoc, Int.reduceToNat, Int.reduceLT, Int.reduceLE, Int.reduceEq, Int.reduceNe, Int.reduceBEq, IntKind.bits, bne_self_eq_false, Int.reducePow, r6, r0, r1, hi', hb0']
        refine ⟨r5, ?_⟩
        rw [hz, List.take_replicate, List.replicate_append_replicate, show min i n + (n - i) = n by omega]
    · have hi' : ¬ (i : Int) < (n : Nat) := by omega
      have hin : i = n := by omega
      subst hin
      simp only [sx, x_box, x_alloc, x_bslice, x_slice, x_append, x_appz, x_b2s, x_s2b, x_mark, xop, ev, evs, evParts, fillL, cellsL, Ai.get, Ai.put, stab, isNil?, if_false, if_true, addr?, int?, str?, agg?, bool?, shiftA, FnPost, xresL, xres1, tup, argEnv, ptr, Nat.reduceEqDiff, reduceIte, beq_self_eq_true, ne_eq, Nat.reduceAdd, Nat.reduceMul, Nat.reduceSub, abin_shl, abin_shr, load1V, loadV, storeV, cellsAt, getN, setN, allocV, lenL, lenS, bnd, oneC, Value.oneCell', Nat.reduceLeDiff, Nat.reduceLT, exists_eq_left', forall_const, reduceCtorEq, app_new, app_new0, List.append_assoc, Int.reduceToNat, Int.reduceLT, Int.reduceLE, Int.reduceEq, Int.reduceNe, Int.reduceBEq, IntKind.bits, bne_self_eq_false, Int.reducePow, r6, r0, r1, hi']
      refine ⟨r5, ?_⟩
      rw [Nat.sub_self, List.replicate_zero, List.append_nil, List.take_of_length_le (by rw [octL_len]; exact Nat.le_refl _)]
  · rintro ρ g ⟨r5, e0⟩
    subst e0
    simp only [sx, x_box, x_alloc, x_bslice, x_slice, x_append, x_appz, x_b2s, x_s2b, x_mark, xop, ev, evs, evParts, fillL, cellsL, Ai.get, Ai.put, stab, isNil?, if_false, if_true, addr?, int?, str?, agg?, bool?, shiftA, FnPost, xresL, xres1, tup, argEnv, ptr, Nat.reduceEqDiff, reduceIte, beq_self_eq_true, ne_eq, Nat.reduceAdd, Nat.reduceMul, Nat.reduceSub, abin_shl, abin_shr, load1V, loadV, storeV, cellsAt, getN, setN, allocV, lenL, lenS, bnd, oneC, Value.oneCell', Nat.reduceLeDiff, Nat.reduceLT, exists_eq_left', forall_const, reduceCtorEq, app_new, app_new0, List.append_assoc, Int.reduceToNat, Int.reduceLT, Int.reduceLE, Int.reduceEq, Int.reduceNe, Int.reduceBEq, IntKind.bits, bne_self_eq_false, Int.reducePow, r5]
/-- lists of bytes -/
def LsR (h : AHeap) : List Value → List (List Int) → Prop
  | [], [] => True
  | v :: vs, z :: zs => (∃ q c, v = .slice q z.length c ∧ firstV 1 h z.length v = some (bR z)) ∧ LsR h vs zs
  | _, _ => False
theorem LsR.len {h : AHeap} : ∀ {vs : List Value} {ls : List (List Int)}, LsR h vs ls → vs.length = ls.length
  | [], [], _ => rfl
  | v :: vs, z :: zs, k => by simp only [List.length_cons, LsR.len k.2]
  | [], _ :: _, k => k.elim
  | _ :: _, [], k => k.elim
theorem LsR.get {h : AHeap} : ∀ {vs : List Value} {ls : List (List Int)} {i : Nat} {z : List Int}, LsR h vs ls → ls[i]? = some z → ∃ q c, vs[i]? = some (.slice q z.length c) ∧ firstV 1 h z.length (.slice q z.length c) = some (bR z)
  | [], [], i, z, _, e => by simp at e
  | v :: vs, x :: zs, 0, z, k, e => by
    simp at e; subst e
    obtain ⟨⟨q, c, rfl, hf⟩, -⟩ := k
    exact ⟨q, c, rfl, hf⟩
  | v :: vs, x :: zs, i + 1, z, k, e => by simpa using LsR.get k.2 (i := i) (by simpa using e)
  | [], _ :: _, _, _, k, _ => k.elim
  | _ :: _, [], _, _, k, _ => k.elim
theorem LsR.ext {h h' : AHeap} (E : Ext h h') : ∀ {vs : List Value} {ls : List (List Int)}, LsR h vs ls → LsR h' vs ls
  | [], [], _ => trivial
  | v :: vs, z :: zs, ⟨⟨q, c, e, hf⟩, k⟩ => ⟨⟨q, c, e, E.first hf⟩, LsR.ext E k⟩
  | [], _ :: _, k => k.elim
  | _ :: _, [], k => k.elim
theorem LsR.one {h : AHeap} {q : Option Addr} {c : Nat} {z : List Int} (hf : firstV 1 h z.length (.slice q z.length c) = some (bR z)) : LsR h [.slice q z.length c] [z] := ⟨⟨q, c, rfl, hf⟩, trivial⟩
theorem LsR.app {h : AHeap} : ∀ {vs : List Value} {ls : List (List Int)} {vs' : List Value} {ls' : List (List Int)}, LsR h vs ls → LsR h vs' ls' → LsR h (vs ++ vs') (ls ++ ls')
  | [], [], _, _, _, k => k
  | v :: vs, z :: zs, _, _, k, k' => ⟨k.1, LsR.app k.2 k'⟩
  | [], _ :: _, _, _, k, _ => k.elim
  | _ :: _, [], _, _, k, _ => k.elim
theorem LsR.all {h : AHeap} : ∀ {vs : List Value} {ls : List (List Int)}, LsR h vs ls → vs.all oneC = true
  | [], [], _ => rfl
  | v :: vs, z :: zs, ⟨⟨q, c, e, hf⟩, k⟩ => by
    subst e
    rw [List.all_cons, LsR.all k]; rfl
  | [], _ :: _, k => k.elim
  | _ :: _, [], k => k.elim
/-- a list of lists of bytes in view -/
def LV (h : AHeap) (q : Option Addr) (c : Nat) (ls : List (List Int)) : Prop := ∃ rows, firstV 1 h ls.length (.slice q ls.length c) = some rows ∧ LsR h rows ls
theorem LV.ext {h h' : AHeap} {q : Option Addr} {c : Nat} {ls : List (List Int)} (E : Ext h h') (l : LV h q c ls) : LV h' q c ls := by
  obtain ⟨rows, h1, h2⟩ := l; exact ⟨rows, E.first h1, h2.ext E⟩
theorem LV.get {h : AHeap} {q : Option Addr} {c : Nat} {ls : List (List Int)} (l : LV h q c ls) {i : Nat} {z : List Int} (hz : ls[i]? = some z) : ∃ a o qz cz, q = some a ∧ a.spot = none ∧ h[a.block]? = some (some o) ∧ o.cells[a.off + i]? = some (.slice qz z.length cz) ∧ firstV 1 h z.length (.slice qz z.length cz) = some (bR z) := by
  obtain ⟨rows, h1, h2⟩ := l
  have hi := (List.getElem?_eq_some_iff.1 hz).1
  obtain ⟨qz, cz, k1, k2⟩ := h2.get hz
  cases q with
  | none => simp only [firstV] at h1; rw [if_neg (by omega)] at h1; cases h1
  | some a =>
    obtain ⟨s1, o, v, s2, s3, s4⟩ := firstV_elem1 h1 hi
    rw [k1] at s4; cases s4
    exact ⟨a, o, qz, cz, rfl, s1, s2, s3, k2⟩
/-- the joined stream -/
def jn (ls : List (List Int)) : List Int := fl ++ ls.flatMap fun b => stf (ofL b) 0 ++ fl
theorem jn_snoc (ls : List (List Int)) (b : List Int) : jn (ls ++ [b]) = jn ls ++ stf (ofL b) 0 ++ fl := by unfold jn; simp
def Wide (b : List Int) : Prop := b.length < 5 ∨ 280 < b.length
instance (b : List Int) : Decidable (Wide b) := by unfold Wide; infer_instance
theorem jn_len {ls : List (List Int)} (h : ∀ b ∈ ls, ¬ Wide b) : (jn ls).length ≤ 8 + 2696 * ls.length := by
  unfold jn
  induction ls with
  | nil => simp [fl]
  | cons b ls ih =>
    have hb := h b List.mem_cons_self
    unfold Wide at hb
    have h1 := stf_len (ofL b) 0 (ofL_bit b) (by decide)
    rw [ofL_len] at h1
    have h2 := ih fun x hx => h x (List.mem_cons_of_mem _ hx)
    simp only [List.flatMap_cons, List.length_append, List.length_cons] at h2 ⊢
    have : fl.length = 8 := rfl
    omega
end Go.Proofs.YtimfgagdfmmeeaaDoor
