import Derived.Test.YtimfgagdfmmeeaaDoorGA
import Derived.Test.YtimfgagdfmmeeaaDoorRun
set_option linter.unusedVariables false
set_option linter.unusedSimpArgs false
namespace Go.Proofs.YtimfgagdfmmeeaaDoor
open Go Go.Ai Go.Proofs

/-- the flag -/
def fl : List Int := [0, 1, 1, 1, 1, 1, 1, 0]
theorem Fl.ext {h h' : AHeap} (F : Fl h) (E : Ext h h') : Fl h' := E.get F
theorem Fl.first {h : AHeap} (F : Fl h) (c : Nat) : firstV 1 h 8 (.slice (some ⟨0, 0, none⟩) 8 c) = some (bR fl) := by
  have F : h[0]? = some (some ⟨false, flagV⟩) := F
  simp only [firstV]
  rw [if_neg (by decide), if_neg (by simp)]
  simp only [cellsAt, F, Option.bind_some]; rfl
/-- octets, repeated -/
def octL (b : List Int) (n : Nat) : List Int := (List.range n).map fun i => b.getD (i % b.length) 0
theorem octL_len (b : List Int) (n : Nat) : (octL b n).length = n := by simp [octL]
theorem octL_get {b : List Int} {n i : Nat} (h : i < n) : (octL b n)[i]? = some (b.getD (i % b.length) 0) := by
  unfold octL; rw [List.getElem?_map, List.getElem?_range h]; rfl
theorem octL_byte {b : List Int} (hb : ∀ z ∈ b, 0 ≤ z ∧ z ≤ 255) (n : Nat) : ∀ z ∈ octL b n, 0 ≤ z ∧ z ≤ 255 := by
  intro z hz
  obtain ⟨i, -, rfl⟩ := List.mem_map.1 hz
  rw [List.getD_eq_getElem?_getD]
  cases h : b[i % b.length]? with
  | none => decide
  | some x => exact hb x (List.mem_of_getElem? h)
def OcI (g : AHeap) (qb : Option Addr) (nb cb n : Nat) (b : List Int) (m : Nat) (ρ : Env) (h : AHeap) : Prop := ∃ i : Nat, i + m = n ∧ get ρ 6 = some (.int .i64 (i : Nat)) ∧ get ρ 0 = some (.slice qb nb cb) ∧ get ρ 1 = some (.int .i64 (n : Nat)) ∧ get ρ 5 = some (.slice (some ⟨g.length, 0, none⟩) n n) ∧ h = g ++ [some ⟨true, bR ((octL b n).take i ++ List.replicate (n - i) 0)⟩]
def OcE (g : AHeap) (n : Nat) (b : List Int) (ρ : Env) (h : AHeap) : Prop := get ρ 5 = some (.slice (some ⟨g.length, 0, none⟩) n n) ∧ h = g ++ [some ⟨true, bR (octL b n)⟩]
theorem octets11_ok {h : AHeap} {qb : Option Addr} {nb cb n : Nat} {b : List Int} (hf : firstV 1 h nb (.slice qb nb cb) = some (bR b)) (hn : n ≤ 2000000) (hnb : nb ≤ 9223372036854775807) :
    Valid Tryd.prog 11 [.slice qb nb cb, .int .i64 (n : Int)] h fun r h' => r = .slice (some ⟨h.length, 0, none⟩) n n ∧ h' = h ++ [some ⟨true, bR (octL b n)⟩] := by
  refine v11 (by simp) ?_
  have hbl := firstV_len hf
  rw [bR_len, Nat.mul_one] at hbl
  have h1 : (n : Int) * 1 ≤ 140737488355328 := by omega
  have h2 : (n : Int) ≤ 9223372036854775807 := by omega
  have h3 : (0 : Int) ≤ (n : Int) := by omega
  simp only [X11, sx, x_box, x_alloc, x_bslice, x_slice, x_append, x_appz, x_b2s, x_s2b, x_mark, xop, ev, evs, evParts, fillL, cellsL, Ai.get, Ai.put, stab, isNil?, if_false, if_true, addr?, int?, str?, agg?, bool?, shiftA, FnPost, xresL, xres1, tup, argEnv, ptr, Nat.reduceEqDiff, reduceIte, beq_self_eq_true, ne_eq, Nat.reduceAdd, Nat.reduceMul, Nat.reduceSub, abin_shl, abin_shr, load1V, loadV, storeV, cellsAt, getN, setN, allocV, lenL, lenS, bnd, oneC, Value.oneCell', Nat.reduceLeDiff, Nat.reduceLT, exists_eq_left', forall_const, reduceCtorEq, app_new, app_new0, List.append_assoc, Int.reduceToNat, Int.reduceLT, Int.reduceLE, Int.reduceEq, Int.reduceNe, Int.reduceBEq, IntKind.bits, bne_self_eq_false, Int.reducePow, h1, h2, h3, Int.le_refl, zeros_bR]
  refine xloop_cut (OcE h n b) ?_ ?_
  · refine xcode_loop (OcI h qb nb cb n b) n ⟨0, by omega, rfl, rfl, rfl, rfl, by simp⟩ ?_
    rintro m ρ g ⟨i, him, r6, r0, r1, r5, e0⟩
    subst e0
    by_cases hi : i < n
    · have hi' : (i : Int) < (n : Nat) := by omega
      have hi0 : (0 : Int) ≤ (i : Int) := by omega
      have wi : IntKind.i64.wrap ((i : Int) + 1) = ((i + 1 : Nat) : Int) := by rw [i64_wrap] <;> omega
      by_cases hb0 : 0 < nb
      · have hb0' : (0 : Int) < (nb : Nat) := by omega
        have hml : i % nb < nb := Nat.mod_lt _ hb0
        have E := Ext.app h [some (AObj.mk true (bR ((octL b n).take i ++ List.replicate (n - i) 0)))]
        obtain ⟨a, o, z, rfl, a1, a2, a3, a4⟩ := elemB (E.first hf) hml
        have hrem : (i : Int).tmod (nb : Nat) = ((i % nb : Nat) : Int) := by rw [Int.tmod_eq_emod_of_nonneg (by omega)]; omega
        have hne : ¬ (nb : Int) = 0 := by omega
        have hm0 : (0 : Int) ≤ ((i % nb : Nat) : Int) := by omega
        have hml' : ((i % nb : Nat) : Int) < (nb : Nat) := by omega
        have hlen : (bR ((octL b n).take i ++ List.replicate (n - i) 0)).length = n := by rw [bR_len, List.length_append, List.length_take, octL_len, List.length_replicate]; omega
        have hle : i + 1 ≤ n := hi
        have hset : (bR ((octL b n).take i ++ List.replicate (n - i) (0 : Int))).set i (.int .u8 z) = bR ((octL b n).take (i + 1) ++ List.replicate (n - (i + 1)) 0) := by
          have hz : (octL b n)[i]? = some z := by
            rw [octL_get hi, List.getD_eq_getElem?_getD, hbl, a4]; rfl
          rw [take_snoc hz]
          unfold bR
          rw [← List.map_set, List.set_append_right _ _ (by rw [List.length_take, octL_len]; omega), List.length_take, octL_len, Nat.min_eq_left (by omega), Nat.sub_self, show n - i = (n - (i + 1)) + 1 by omega, List.replicate_succ, List.set_cons_zero]
          simp
        have hself : (h ++ [some (AObj.mk true (bR ((octL b n).take i ++ List.replicate (n - i) 0)))])[h.length]? = some (some (AObj.mk true (bR ((octL b n).take i ++ List.replicate (n - i) 0)))) := by rw [app_new0]; rfl
        have hset2 : ∀ x : Option AObj, (h ++ [some (AObj.mk true (bR ((octL b n).take i ++ List.replicate (n - i) 0)))]).set h.length x = h ++ [x] := fun x => by
          rw [List.set_append_right _ _ (Nat.le_refl _), Nat.sub_self]; rfl
        simp only [sx, x_box, x_alloc, x_bslice, x_slice, x_append, x_appz, x_b2s, x_s2b, x_mark, xop, ev, evs, evParts, fillL, cellsL, Ai.get, Ai.put, stab, isNil?, if_false, if_true, addr?, int?, str?, agg?, bool?, shiftA, FnPost, xresL, xres1, tup, argEnv, ptr, Nat.reduceEqDiff, reduceIte, beq_self_eq_true, ne_eq, Nat.reduceAdd, Nat.reduceMul, Nat.reduceSub, abin_shl, abin_shr, load1V, loadV, storeV, cellsAt, getN, setN, allocV, lenL, lenS, bnd, oneC, Value.oneCell', Nat.reduceLeDiff, Nat.reduceLT, exists_eq_left', forall_const, reduceCtorEq, app_new, app_new0, List.append_assoc, Int.reduceToNat, Int.reduceLT, Int.reduceLE, Int.reduceEq, Int.reduceNe, Int.reduceBEq, IntKind.bits, bne_self_eq_false, Int.reducePow, r6, r0, r1, r5, hi', hi0, hb0', hrem, hne, hm0, hml', a1, a2, a3, Nat.mul_one, hlen, hle, hset, hset2, wi]
        exact ⟨m - 1, by omega, i + 1, by omega, rfl, r0, r1, r5, rfl⟩
      · have hb0' : ¬ (0 : Int) < (nb : Nat) := by omega
        have hz : octL b n = List.replicate n 0 := by
          have : b = [] := List.eq_nil_of_length_eq_zero (by omega)
          subst this
          apply List.ext_getElem?
          intro j
          by_cases hj : j < n
          · rw [octL_get hj, List.getElem?_replicate, if_pos hj]; rfl
          · rw [List.getElem?_eq_none (by rw [octL_len]; omega), List.getElem?_eq_none (by simp; omega)]
        simp only [sx, x_box, x_alloc, x_bslice, x_slice, x_append, x_appz, x_b2s, x_s2b, x_mark, xop, ev, evs, evParts, fillL, cellsL, Ai.get, Ai.put, stab, isNil?, if_false, if_true, addr?, int?, str?, agg?, bool?, shiftA, FnPost, xresL, xres1, tup, argEnv, ptr, Nat.reduceEqDiff, reduceIte, beq_self_eq_true, ne_eq, Nat.reduceAdd, Nat.reduceMul, Nat.reduceSub, abin_shl, abin_shr, load1V, loadV, storeV, cellsAt, getN, setN, allocV, lenL, lenS, bnd, oneC, Value.oneCell', Nat.reduceLeDiff, Nat.reduceLT, exists_eq_left', forall_const, reduceCtorEq, app_new, app_new0, List.append_assoc, Int.reduceToNat, Int.reduceLT, Int.reduceLE, Int.reduceEq, Int.reduceNe, Int.reduceBEq, IntKind.bits, bne_self_eq_false, Int.reducePow, r6, r0, r1, hi', hb0']
        refine ⟨r5, ?_⟩
        rw [hz, List.take_replicate, List.replicate_append_replicate, show min i n + (n - i) = n by omega]
    · have hi' : ¬ (i : Int) < (n : Nat) := by omega
      have hin : i = n := by omega
      subst hin
      simp only [sx, x_box, x_alloc, x_bslice, x_slice, x_append, x_appz, x_b2s, x_s2b, x_mark, xop, ev, evs, evParts, fillL, cellsL, Ai.get, Ai.put, stab, isNil?, if_false, if_true, addr?, int?, str?, agg?, bool?, shiftA, FnPost, xresL, xres1, tup, argEnv, ptr, Nat.reduceEqDiff, reduceIte, beq_self_eq_true, ne_eq, Nat.reduceAdd, Nat.reduceMul, Nat.reduceSub, abin_shl, abin_shr, load1V, loadV, storeV, cellsAt, getN, setN, allocV, lenL, lenS, bnd, oneC, Value.oneCell', Nat.reduceLeDiff, Nat.reduceLT, exists_eq_left', forall_const, reduceCtorEq, app_new, app_new0, List.append_assoc, Int.reduceToNat, Int.reduceLT, Int.reduceLE, Int.reduceEq, Int.reduceNe, Int.reduceBEq, IntKind.bits, bne_self_eq_false, Int.reducePow, r6, r0, r1, hi']
      refine ⟨r5, ?_⟩
      rw [Nat.sub_self, List.replicate_zero, List.append_nil, List.take_of_length_le (by rw [octL_len]; exact Nat.le_refl _)]
  · rintro ρ g ⟨r5, e0⟩
    subst e0
    simp only [sx, x_box, x_alloc, x_bslice, x_slice, x_append, x_appz, x_b2s, x_s2b, x_mark, xop, ev, evs, evParts, fillL, cellsL, Ai.get, Ai.put, stab, isNil?, if_false, if_true, addr?, int?, str?, agg?, bool?, shiftA, FnPost, xresL, xres1, tup, argEnv, ptr, Nat.reduceEqDiff, reduceIte, beq_self_eq_true, ne_eq, Nat.reduceAdd, Nat.reduceMul, Nat.reduceSub, abin_shl, abin_shr, load1V, loadV, storeV, cellsAt, getN, setN, allocV, lenL, lenS, bnd, oneC, Value.oneCell', Nat.reduceLeDiff, Nat.reduceLT, exists_eq_left', forall_const, reduceCtorEq, app_new, app_new0, List.append_assoc, Int.reduceToNat, Int.reduceLT, Int.reduceLE, Int.reduceEq, Int.reduceNe, Int.reduceBEq, IntKind.bits, bne_self_eq_false, Int.reducePow, r5]
/-- lists of bytes -/
def LsR (h : AHeap) : List Value → List (List Int) → Prop
  | [], [] => True
  | v :: vs, z :: zs => (∃ q c, v = .slice q z.length c ∧ firstV 1 h z.length v = some (bR z)) ∧ LsR h vs zs
  | _, _ => False
theorem LsR.len {h : AHeap} : ∀ {vs : List Value} {ls : List (List Int)}, LsR h vs ls → vs.length = ls.length
  | [], [], _ => rfl
  | v :: vs, z :: zs, k => by simp only [List.length_cons, LsR.len k.2]
  | [], _ :: _, k => k.elim
  | _ :: _, [], k => k.elim
theorem LsR.get {h : AHeap} : ∀ {vs : List Value} {ls : List (List Int)} {i : Nat} {z : List Int}, LsR h vs ls → ls[i]? = some z → ∃ q c, vs[i]? = some (.slice q z.length c) ∧ firstV 1 h z.length (.slice q z.length c) = some (bR z)
  | [], [], i, z, _, e => by simp at e
  | v :: vs, x :: zs, 0, z, k, e => by
    simp at e; subst e
    obtain ⟨⟨q, c, rfl, hf⟩, -⟩ := k
    exact ⟨q, c, rfl, hf⟩
  | v :: vs, x :: zs, i + 1, z, k, e => by simpa using LsR.get k.2 (i := i) (by simpa using e)
  | [], _ :: _, _, _, k, _ => k.elim
  | _ :: _, [], _, _, k, _ => k.elim
theorem LsR.ext {h h' : AHeap} (E : Ext h h') : ∀ {vs : List Value} {ls : List (List Int)}, LsR h vs ls → LsR h' vs ls
  | [], [], _ => trivial
  | v :: vs, z :: zs, ⟨⟨q, c, e, hf⟩, k⟩ => ⟨⟨q, c, e, E.first hf⟩, LsR.ext E k⟩
  | [], _ :: _, k => k.elim
  | _ :: _, [], k => k.elim
theorem LsR.one {h : AHeap} {q : Option Addr} {c : Nat} {z : List Int} (hf : firstV 1 h z.length (.slice q z.length c) = some (bR z)) : LsR h [.slice q z.length c] [z] := ⟨⟨q, c, rfl, hf⟩, trivial⟩
theorem LsR.app {h : AHeap} : ∀ {vs : List Value} {ls : List (List Int)} {vs' : List Value} {ls' : List (List Int)}, LsR h vs ls → LsR h vs' ls' → LsR h (vs ++ vs') (ls ++ ls')
  | [], [], _, _, _, k => k
  | v :: vs, z :: zs, _, _, k, k' => ⟨k.1, LsR.app k.2 k'⟩
  | [], _ :: _, _, _, k, _ => k.elim
  | _ :: _, [], _, _, k, _ => k.elim
theorem LsR.all {h : AHeap} : ∀ {vs : List Value} {ls : List (List Int)}, LsR h vs ls → vs.all oneC = true
  | [], [], _ => rfl
  | v :: vs, z :: zs, ⟨⟨q, c, e, hf⟩, k⟩ => by
    subst e
    rw [List.all_cons, LsR.all k]; rfl
  | [], _ :: _, k => k.elim
  | _ :: _, [], k => k.elim
/-- a list of lists of bytes in view -/
def LV (h : AHeap) (q : Option Addr) (c : Nat) (ls : List (List Int)) : Prop := ∃ rows, firstV 1 h ls.length (.slice q ls.length c) = some rows ∧ LsR h rows ls
theorem LV.ext {h h' : AHeap} {q : Option Addr} {c : Nat} {ls : List (List Int)} (E : Ext h h') (l : LV h q c ls) : LV h' q c ls := by
  obtain ⟨rows, h1, h2⟩ := l; exact ⟨rows, E.first h1, h2.ext E⟩
theorem LV.get {h : AHeap} {q : Option Addr} {c : Nat} {ls : List (List Int)} (l : LV h q c ls) {i : Nat} {z : List Int} (hz : ls[i]? = some z) : ∃ a o qz cz, q = some a ∧ a.spot = none ∧ h[a.block]? = some (some o) ∧ o.cells[a.off + i]? = some (.slice qz z.length cz) ∧ firstV 1 h z.length (.slice qz z.length cz) = some (bR z) := by
  obtain ⟨rows, h1, h2⟩ := l
  have hi := (List.getElem?_eq_some_iff.1 hz).1
  obtain ⟨qz, cz, k1, k2⟩ := h2.get hz
  cases q with
  | none => simp only [firstV] at h1; rw [if_neg (by omega)] at h1; cases h1
  | some a =>
    obtain ⟨s1, o, v, s2, s3, s4⟩ := firstV_elem1 h1 hi
    rw [k1] at s4; cases s4
    exact ⟨a, o, qz, cz, rfl, s1, s2, s3, k2⟩
/-- the joined stream -/
def jn (ls : List (List Int)) : List Int := fl ++ ls.flatMap fun b => stf (ofL b) 0 ++ fl
theorem jn_snoc (ls : List (List Int)) (b : List Int) : jn (ls ++ [b]) = jn ls ++ stf (ofL b) 0 ++ fl := by unfold jn; simp
def Wide (b : List Int) : Prop := b.length < 5 ∨ 280 < b.length
instance (b : List Int) : Decidable (Wide b) := by unfold Wide; infer_instance
theorem jn_len {ls : List (List Int)} (h : ∀ b ∈ ls, ¬ Wide b) : (jn ls).length ≤ 8 + 2696 * ls.length := by
  unfold jn
  induction ls with
  | nil => simp [fl]
  | cons b ls ih =>
    have hb := h b List.mem_cons_self
    unfold Wide at hb
    have h1 := stf_len (ofL b) 0 (ofL_bit b) (by decide)
    rw [ofL_len] at h1
    have h2 := ih fun x hx => h x (List.mem_cons_of_mem _ hx)
    simp only [List.flatMap_cons, List.length_append, List.length_cons] at h2 ⊢
    have : fl.length = 8 := rfl
    omega

theorem wide_ok {h : AHeap} {q : Option Addr} {n c : Nat} : Valid Tryd.prog 32 [.slice q n c] h fun r h' => r = .bool (decide (n < 5 ∨ 280 < n)) ∧ h' = h := by
  refine v32 (by simp) ?_
  by_cases h1 : n < 5
  · have h1' : (n : Int) < 5 := by omega
    simp only [X32, sx, x_box, x_alloc, x_bslice, x_slice, x_append, x_appz, x_b2s, x_s2b, x_mark, xop, ev, evs, evParts, fillL, cellsL, Ai.get, Ai.put, stab, isNil?, if_false, if_true, addr?, int?, str?, agg?, bool?, shiftA, FnPost, xresL, xres1, tup, argEnv, ptr, Nat.reduceEqDiff, reduceIte, beq_self_eq_true, ne_eq, Nat.reduceAdd, Nat.reduceMul, Nat.reduceSub, abin_shl, abin_shr, load1V, loadV, storeV, cellsAt, getN, setN, allocV, lenL, lenS, bnd, oneC, Value.oneCell', Nat.reduceLeDiff, Nat.reduceLT, exists_eq_left', forall_const, reduceCtorEq, app_new, app_new0, List.append_assoc, Int.reduceToNat, Int.reduceLT, Int.reduceLE, Int.reduceEq, Int.reduceNe, Int.reduceBEq, IntKind.bits, bne_self_eq_false, Int.reducePow, h1', h1]
    simp
  · have h1' : ¬ (n : Int) < 5 := by omega
    by_cases h2 : 280 < n
    · have h2' : (280 : Int) < (n : Nat) := by omega
      simp only [X32, sx, x_box, x_alloc, x_bslice, x_slice, x_append, x_appz, x_b2s, x_s2b, x_mark, xop, ev, evs, evParts, fillL, cellsL, Ai.get, Ai.put, stab, isNil?, if_false, if_true, addr?, int?, str?, agg?, bool?, shiftA, FnPost, xresL, xres1, tup, argEnv, ptr, Nat.reduceEqDiff, reduceIte, beq_self_eq_true, ne_eq, Nat.reduceAdd, Nat.reduceMul, Nat.reduceSub, abin_shl, abin_shr, load1V, loadV, storeV, cellsAt, getN, setN, allocV, lenL, lenS, bnd, oneC, Value.oneCell', Nat.reduceLeDiff, Nat.reduceLT, exists_eq_left', forall_const, reduceCtorEq, app_new, app_new0, List.append_assoc, Int.reduceToNat, Int.reduceLT, Int.reduceLE, Int.reduceEq, Int.reduceNe, Int.reduceBEq, IntKind.bits, bne_self_eq_false, Int.reducePow, h1', h1, h2', h2]
      simp
    · have h2' : ¬ (280 : Int) < (n : Nat) := by omega
      simp only [X32, sx, x_box, x_alloc, x_bslice, x_slice, x_append, x_appz, x_b2s, x_s2b, x_mark, xop, ev, evs, evParts, fillL, cellsL, Ai.get, Ai.put, stab, isNil?, if_false, if_true, addr?, int?, str?, agg?, bool?, shiftA, FnPost, xresL, xres1, tup, argEnv, ptr, Nat.reduceEqDiff, reduceIte, beq_self_eq_true, ne_eq, Nat.reduceAdd, Nat.reduceMul, Nat.reduceSub, abin_shl, abin_shr, load1V, loadV, storeV, cellsAt, getN, setN, allocV, lenL, lenS, bnd, oneC, Value.oneCell', Nat.reduceLeDiff, Nat.reduceLT, exists_eq_left', forall_const, reduceCtorEq, app_new, app_new0, List.append_assoc, Int.reduceToNat, Int.reduceLT, Int.reduceLE, Int.reduceEq, Int.reduceNe, Int.reduceBEq, IntKind.bits, bne_self_eq_false, Int.reducePow, h1', h1, h2', h2]
      simp
theorem anyWide_ok {h : AHeap} {q : Option Addr} {c : Nat} {ls : List (List Int)} (hL : LV h q c ls) (hn : ls.length ≤ 1000000) :
    Valid Tryd.prog 31 [.slice q ls.length c, .func (.func 32) #[] #[]] h fun r h' => r = .bool (decide (∃ b ∈ ls, Wide b)) ∧ h' = h := by
  obtain ⟨rows, hf, hR⟩ := hL
  refine (contains_still v31 (index1_still v47 (by omega) hf (fun i => decide (Wide (ls.getD i []))) fun i v hi hv => ?_)).mono ?_
  · have hz := List.getElem?_eq_getElem hi
    obtain ⟨qz, cz, k1, -⟩ := hR.get hz
    rw [k1] at hv; cases hv
    refine wide_ok.mono ?_
    rintro r h' ⟨rfl, e⟩
    refine ⟨?_, e⟩
    have : ls.getD i [] = ls[i] := by rw [List.getD_eq_getElem?_getD, hz]; rfl
    unfold Wide
    rw [this]
  · rintro r h' ⟨rfl, e⟩
    refine ⟨?_, e⟩
    congr 1
    rw [decide_eq_decide]
    constructor
    · rintro ⟨i, hi, h1⟩
      have : ls.getD i [] = ls[i] := by rw [List.getD_eq_getElem?_getD, List.getElem?_eq_getElem hi]; rfl
      rw [this, decide_eq_true_iff] at h1
      exact ⟨_, List.getElem_mem hi, h1⟩
    · rintro ⟨b, hb, h1⟩
      obtain ⟨i, hi, rfl⟩ := List.getElem_of_mem hb
      refine ⟨i, hi, ?_⟩
      have : ls.getD i [] = ls[i] := by rw [List.getD_eq_getElem?_getD, List.getElem?_eq_getElem hi]; rfl
      rw [this, decide_eq_true_iff]; exact h1
/-- a slice of an array of bytes -/
theorem sliceA_fl {ρ : Env} {h : AHeap} : xop (.sliceA 8 1 (.c (.pointer (some ⟨0, 0, none⟩))) none none none) ρ h = some (.slice (some ⟨0, 0, none⟩) 8 8, h) := by
  rfl
def JnI (g : AHeap) (q : Option Addr) (c : Nat) (ls : List (List Int)) (m : Nat) (ρ : Env) (h : AHeap) : Prop := ∃ (i : Nat) (sl : Value), i + m = ls.length ∧ get ρ 13 = some (.int .i64 (i : Nat)) ∧ get ρ 12 = some (.int .i64 (ls.length : Nat)) ∧ get ρ 11 = some (.slice q ls.length c) ∧ get ρ 4 = some sl ∧ RN h sl (jn (ls.take i)) ∧ Ext g h ∧ (∀ A, slB sl = some A → g.length ≤ A)
def JnE (g : AHeap) (ls : List (List Int)) (ρ : Env) (h : AHeap) : Prop := ∃ sl : Value, get ρ 4 = some sl ∧ RN h sl (jn ls) ∧ Ext g h
def JoinP (h : AHeap) (ls : List (List Int)) (r : Value) (h' : AHeap) : Prop := Ext h h' ∧ (((∃ b ∈ ls, Wide b) ∧ r = .tuple #[.slice none 0 0, .int .i64 5]) ∨ ((¬ ∃ b ∈ ls, Wide b) ∧ ∃ q, r = .tuple #[.slice q (jn ls).length (jn ls).length, .int .i64 0] ∧ firstV 1 h' (jn ls).length (.slice q (jn ls).length (jn ls).length) = some (bR (jn ls))))
set_option maxHeartbeats 2000000 in
theorem join_ok {h : AHeap} {q : Option Addr} {c : Nat} {ls : List (List Int)} (hF : Fl h) (hL : LV h q c ls) (hn : ls.length ≤ 100) (hb : ∀ b ∈ ls, ∀ z ∈ b, 0 ≤ z ∧ z ≤ 255) :
    Valid Tryd.prog 12 [.slice q ls.length c] h fun r h' => JoinP h ls r h' := by
  refine v12 (by simp) ?_
  simp only [X12, sx, x_box, x_alloc, x_bslice, x_slice, x_append, x_appz, x_b2s, x_s2b, x_mark, xop, ev, evs, evParts, fillL, cellsL, Ai.get, Ai.put, stab, isNil?, if_false, if_true, addr?, int?, str?, agg?, bool?, shiftA, FnPost, xresL, xres1, tup, argEnv, ptr, Nat.reduceEqDiff, reduceIte, beq_self_eq_true, ne_eq, Nat.reduceAdd, Nat.reduceMul, Nat.reduceSub, abin_shl, abin_shr, load1V, loadV, storeV, cellsAt, getN, setN, allocV, lenL, lenS, bnd, oneC, Value.oneCell', Nat.reduceLeDiff, Nat.reduceLT, exists_eq_left', forall_const, reduceCtorEq, app_new, app_new0, List.append_assoc, Int.reduceToNat, Int.reduceLT, Int.reduceLE, Int.reduceEq, Int.reduceNe, Int.reduceBEq, IntKind.bits, bne_self_eq_false, Int.reducePow]
  refine xcall (anyWide_ok hL (by omega)) (by rfl) (by rfl) (by rfl) (by rfl) ?_
  rintro r g ⟨rfl, e0⟩
  subst e0
  by_cases hw : ∃ b ∈ ls, Wide b
  · simp only [sx, x_box, x_alloc, x_bslice, x_slice, x_append, x_appz, x_b2s, x_s2b, x_mark, xop, ev, evs, evParts, fillL, cellsL, Ai.get, Ai.put, stab, isNil?, if_false, if_true, addr?, int?, str?, agg?, bool?, shiftA, FnPost, xresL, xres1, tup, argEnv, ptr, Nat.reduceEqDiff, reduceIte, beq_self_eq_true, ne_eq, Nat.reduceAdd, Nat.reduceMul, Nat.reduceSub, abin_shl, abin_shr, load1V, loadV, storeV, cellsAt, getN, setN, allocV, lenL, lenS, bnd, oneC, Value.oneCell', Nat.reduceLeDiff, Nat.reduceLT, exists_eq_left', forall_const, reduceCtorEq, app_new, app_new0, List.append_assoc, Int.reduceToNat, Int.reduceLT, Int.reduceLE, Int.reduceEq, Int.reduceNe, Int.reduceBEq, IntKind.bits, bne_self_eq_false, Int.reducePow, hw]
    exact ⟨Ext.refl _, .inl ⟨hw, rfl⟩⟩
  have hnw : ∀ b ∈ ls, ¬ Wide b := fun b hb h => hw ⟨b, hb, h⟩
  have hu8 : ¬ unk ≤ 8 := by decide
  simp only [sx, x_box, x_alloc, x_bslice, x_slice, x_append, x_appz, x_b2s, x_s2b, x_mark, xop, ev, evs, evParts, fillL, cellsL, Ai.get, Ai.put, stab, isNil?, if_false, if_true, addr?, int?, str?, agg?, bool?, shiftA, FnPost, xresL, xres1, tup, argEnv, ptr, Nat.reduceEqDiff, reduceIte, beq_self_eq_true, ne_eq, Nat.reduceAdd, Nat.reduceMul, Nat.reduceSub, abin_shl, abin_shr, load1V, loadV, storeV, cellsAt, getN, setN, allocV, lenL, lenS, bnd, oneC, Value.oneCell', Nat.reduceLeDiff, Nat.reduceLT, exists_eq_left', forall_const, reduceCtorEq, app_new, app_new0, List.append_assoc, Int.reduceToNat, Int.reduceLT, Int.reduceLE, Int.reduceEq, Int.reduceNe, Int.reduceBEq, IntKind.bits, bne_self_eq_false, Int.reducePow, hw, hu8, false_or]
  refine xcall (clone_ok (k := 1) (by_ := 1) (z := [.int .u8 0]) rfl (by decide) v33 (hF.first 8) (by decide) (by decide)) (by rfl) (by rfl) (by rfl) (by rfl) ?_
  rintro r g2 (⟨h0, -⟩ | ⟨h0, -⟩ | ⟨-, rfl, rfl⟩)
  · cases h0
  · cases h0
  have R0 : RN (g ++ [some (AObj.mk true []), some (AObj.mk true (bR fl))]) (.slice (some ⟨g.length + 1, 0, none⟩) 8 (unk + 1)) (jn []) := .inr ⟨g.length + 1, rfl, by rw [List.getElem?_append_right (by omega)]; simp [jn]⟩
  have E0 := Ext.app g [some (AObj.mk true []), some (AObj.mk true (bR fl))]
  generalize g ++ [some (AObj.mk true []), some (AObj.mk true (bR fl))] = g3 at *
  simp only [sx, x_box, x_alloc, x_bslice, x_slice, x_append, x_appz, x_b2s, x_s2b, x_mark, xop, ev, evs, evParts, fillL, cellsL, Ai.get, Ai.put, stab, isNil?, if_false, if_true, addr?, int?, str?, agg?, bool?, shiftA, FnPost, xresL, xres1, tup, argEnv, ptr, Nat.reduceEqDiff, reduceIte, beq_self_eq_true, ne_eq, Nat.reduceAdd, Nat.reduceMul, Nat.reduceSub, abin_shl, abin_shr, load1V, loadV, storeV, cellsAt, getN, setN, allocV, lenL, lenS, bnd, oneC, Value.oneCell', Nat.reduceLeDiff, Nat.reduceLT, exists_eq_left', forall_const, reduceCtorEq, app_new, app_new0, List.append_assoc, Int.reduceToNat, Int.reduceLT, Int.reduceLE, Int.reduceEq, Int.reduceNe, Int.reduceBEq, IntKind.bits, bne_self_eq_false, Int.reducePow]
  refine xloop_cut2 (JnE g ls) (fun _ _ => False) ?_ ?_ ?_
  rotate_left
  · rintro ρ g4 ⟨sl, r4, R, E⟩
    have hjl := jn_len hnw
    simp only [sx, x_box, x_alloc, x_bslice, x_slice, x_append, x_appz, x_b2s, x_s2b, x_mark, xop, ev, evs, evParts, fillL, cellsL, Ai.get, Ai.put, stab, isNil?, if_false, if_true, addr?, int?, str?, agg?, bool?, shiftA, FnPost, xresL, xres1, tup, argEnv, ptr, Nat.reduceEqDiff, reduceIte, beq_self_eq_true, ne_eq, Nat.reduceAdd, Nat.reduceMul, Nat.reduceSub, abin_shl, abin_shr, load1V, loadV, storeV, cellsAt, getN, setN, allocV, lenL, lenS, bnd, oneC, Value.oneCell', Nat.reduceLeDiff, Nat.reduceLT, exists_eq_left', forall_const, reduceCtorEq, app_new, app_new0, List.append_assoc, Int.reduceToNat, Int.reduceLT, Int.reduceLE, Int.reduceEq, Int.reduceNe, Int.reduceBEq, IntKind.bits, bne_self_eq_false, Int.reducePow, r4]
    refine xcall (clipR_ok R.cr (by omega)) (by rfl) (by rfl) (by rfl) (by rfl) ?_
    rintro r g5 ⟨⟨qr, rfl, -⟩, hf2, -, e0⟩
    subst e0
    simp only [sx, x_box, x_alloc, x_bslice, x_slice, x_append, x_appz, x_b2s, x_s2b, x_mark, xop, ev, evs, evParts, fillL, cellsL, Ai.get, Ai.put, stab, isNil?, if_false, if_true, addr?, int?, str?, agg?, bool?, shiftA, FnPost, xresL, xres1, tup, argEnv, ptr, Nat.reduceEqDiff, reduceIte, beq_self_eq_true, ne_eq, Nat.reduceAdd, Nat.reduceMul, Nat.reduceSub, abin_shl, abin_shr, load1V, loadV, storeV, cellsAt, getN, setN, allocV, lenL, lenS, bnd, oneC, Value.oneCell', Nat.reduceLeDiff, Nat.reduceLT, exists_eq_left', forall_const, reduceCtorEq, app_new, app_new0, List.append_assoc, Int.reduceToNat, Int.reduceLT, Int.reduceLE, Int.reduceEq, Int.reduceNe, Int.reduceBEq, IntKind.bits, bne_self_eq_false, Int.reducePow]
    exact ⟨E, .inr ⟨hw, qr, rfl, hf2⟩⟩
  · intro ρ g4 hf; exact hf.elim
  refine xcode_loop (JnI g q c ls) ls.length ⟨0, _, by omega, rfl, rfl, rfl, rfl, R0, E0, fun A hA => by cases hA; exact Nat.le_succ _⟩ ?_
  clear R0 E0 g3
  rintro m ρ g3 ⟨i, sl, him, r13, r12, r11, r4, R, E, hgl⟩
  by_cases hi : i < ls.length
  · have hi' : (i : Int) < (ls.length : Nat) := by omega
    have hi0 : (0 : Int) ≤ (i : Int) := by omega
    have wi : IntKind.i64.wrap ((i : Int) + 1) = ((i + 1 : Nat) : Int) := by rw [i64_wrap] <;> omega
    have hz := List.getElem?_eq_getElem hi
    obtain ⟨a, o, qz, cz, rfl, a1, a2, a3, hfz⟩ := (hL.ext E).get hz
    have hbz := hb _ (List.getElem_mem hi)
    have hnz := hnw _ (List.getElem_mem hi)
    have hsn : ls.take (i + 1) = ls.take i ++ [ls[i]] := by rw [List.take_add_one, hz]; rfl
    generalize ls[i] = z at *
    unfold Wide at hnz
    simp only [sx, x_box, x_alloc, x_bslice, x_slice, x_append, x_appz, x_b2s, x_s2b, x_mark, xop, ev, evs, evParts, fillL, cellsL, Ai.get, Ai.put, stab, isNil?, if_false, if_true, addr?, int?, str?, agg?, bool?, shiftA, FnPost, xresL, xres1, tup, argEnv, ptr, Nat.reduceEqDiff, reduceIte, beq_self_eq_true, ne_eq, Nat.reduceAdd, Nat.reduceMul, Nat.reduceSub, abin_shl, abin_shr, load1V, loadV, storeV, cellsAt, getN, setN, allocV, lenL, lenS, bnd, oneC, Value.oneCell', Nat.reduceLeDiff, Nat.reduceLT, exists_eq_left', forall_const, reduceCtorEq, app_new, app_new0, List.append_assoc, Int.reduceToNat, Int.reduceLT, Int.reduceLE, Int.reduceEq, Int.reduceNe, Int.reduceBEq, IntKind.bits, bne_self_eq_false, Int.reducePow, r13, r12, r11, r4, hi', hi0, a1, a2, a3, Nat.mul_one, hu8, false_or]
    refine xcall (of_ok hfz (by omega) hbz) (by rfl) (by rfl) (by rfl) (by rfl) ?_
    rintro r g4 ⟨R1, rfl, hR1, hR1l, E1, hO⟩
    have hfo : firstV 1 g4 (8 * z.length) (.slice (some ⟨R1, 0, none⟩) (8 * z.length) (8 * z.length)) = some (bR (ofL z)) := first_pre (t := []) (by rw [List.append_nil]; exact hO) (ofL_len z)
    simp only [sx, x_box, x_alloc, x_bslice, x_slice, x_append, x_appz, x_b2s, x_s2b, x_mark, xop, ev, evs, evParts, fillL, cellsL, Ai.get, Ai.put, stab, isNil?, if_false, if_true, addr?, int?, str?, agg?, bool?, shiftA, FnPost, xresL, xres1, tup, argEnv, ptr, Nat.reduceEqDiff, reduceIte, beq_self_eq_true, ne_eq, Nat.reduceAdd, Nat.reduceMul, Nat.reduceSub, abin_shl, abin_shr, load1V, loadV, storeV, cellsAt, getN, setN, allocV, lenL, lenS, bnd, oneC, Value.oneCell', Nat.reduceLeDiff, Nat.reduceLT, exists_eq_left', forall_const, reduceCtorEq, app_new, app_new0, List.append_assoc, Int.reduceToNat, Int.reduceLT, Int.reduceLE, Int.reduceEq, Int.reduceNe, Int.reduceBEq, IntKind.bits, bne_self_eq_false, Int.reducePow]
    refine xcall (stuffed_ok hfo (by omega) (ofL_bit z)) (by rfl) (by rfl) (by rfl) (by rfl) ?_
    rintro r g5 ⟨R2, rfl, hfs, E2, hR2, hR2l⟩
    have hsl := stf_len (ofL z) 0 (ofL_bit z) (by decide)
    rw [ofL_len] at hsl
    have hjl := jn_len (ls := ls.take i) fun b hb => hnw b (List.mem_of_mem_take hb)
    rw [List.length_take] at hjl
    have R5 := (R.ext E1).ext E2
    simp only [sx, x_box, x_alloc, x_bslice, x_slice, x_appz, x_b2s, x_s2b, x_mark, xop, ev, evs, evParts, fillL, cellsL, Ai.get, Ai.put, stab, isNil?, if_false, if_true, addr?, int?, str?, agg?, bool?, shiftA, FnPost, xresL, xres1, tup, argEnv, ptr, Nat.reduceEqDiff, reduceIte, beq_self_eq_true, ne_eq, Nat.reduceAdd, Nat.reduceMul, Nat.reduceSub, abin_shl, abin_shr, load1V, loadV, storeV, cellsAt, getN, setN, allocV, lenL, lenS, bnd, oneC, Value.oneCell', Nat.reduceLeDiff, Nat.reduceLT, exists_eq_left', forall_const, reduceCtorEq, app_new, app_new0, List.append_assoc, Int.reduceToNat, Int.reduceLT, Int.reduceLE, Int.reduceEq, Int.reduceNe, Int.reduceBEq, IntKind.bits, bne_self_eq_false, Int.reducePow]
    refine R5.append rfl rfl rfl hfs (by omega) fun sl6 g6 R6 hl6 hk6 hs6 _ => ?_
    have E36 : Ext g g6 := ⟨Nat.le_trans (E.trans (E1.trans E2)).1 hl6, fun B hB => by
      have hB5 : B < g5.length := Nat.lt_of_lt_of_le hB (E.trans (E1.trans E2)).1
      rw [hk6 B hB5 (fun e => by have := hgl B e; omega), (E.trans (E1.trans E2)).2 B hB]⟩
    have hgl6 : ∀ A, slB sl6 = some A → g.length ≤ A := fun A hA => by
      have := (E.trans (E1.trans E2)).1
      rcases hs6 A hA with h | h
      · exact hgl A h
      · omega
    simp only [sx, x_box, x_alloc, x_bslice, x_slice, x_appz, x_b2s, x_s2b, x_mark, xop, ev, evs, evParts, fillL, cellsL, Ai.get, Ai.put, stab, isNil?, if_false, if_true, addr?, int?, str?, agg?, bool?, shiftA, FnPost, xresL, xres1, tup, argEnv, ptr, Nat.reduceEqDiff, reduceIte, beq_self_eq_true, ne_eq, Nat.reduceAdd, Nat.reduceMul, Nat.reduceSub, abin_shl, abin_shr, load1V, loadV, storeV, cellsAt, getN, setN, allocV, lenL, lenS, bnd, oneC, Value.oneCell', Nat.reduceLeDiff, Nat.reduceLT, exists_eq_left', forall_const, reduceCtorEq, app_new, app_new0, List.append_assoc, Int.reduceToNat, Int.reduceLT, Int.reduceLE, Int.reduceEq, Int.reduceNe, Int.reduceBEq, IntKind.bits, bne_self_eq_false, Int.reducePow]
    refine R6.append (news := fl) (xv := .slice (some ⟨0, 0, none⟩) 8 8) rfl rfl rfl ((hF.ext E36).first 8) (by simp [fl]; omega) fun sl7 g7 R7 hl7 hk7 hs7 _ => ?_
    have E37 : Ext g g7 := ⟨Nat.le_trans E36.1 hl7, fun B hB => by
      have hB6 : B < g6.length := Nat.lt_of_lt_of_le hB E36.1
      rw [hk7 B hB6 (fun e => by have := hgl6 B e; omega), E36.2 B hB]⟩
    have hgl7 : ∀ A, slB sl7 = some A → g.length ≤ A := fun A hA => by
      have := E36.1
      rcases hs7 A hA with h | h
      · exact hgl6 A h
      · omega
    rw [← jn_snoc, ← hsn] at R7
    have hjl2 := jn_len (ls := ls.take (i + 1)) fun b hb => hnw b (List.mem_of_mem_take hb)
    rw [List.length_take] at hjl2
    obtain ⟨q7, c7, rfl, -⟩ := R7.shp
    have hlim : ¬ (1048576 : Int) < ((jn (ls.take (i + 1))).length : Nat) := by omega
    simp only [sx, x_box, x_alloc, x_bslice, x_slice, x_append, x_appz, x_b2s, x_s2b, x_mark, xop, ev, evs, evParts, fillL, cellsL, Ai.get, Ai.put, stab, isNil?, if_false, if_true, addr?, int?, str?, agg?, bool?, shiftA, FnPost, xresL, xres1, tup, argEnv, ptr, Nat.reduceEqDiff, reduceIte, beq_self_eq_true, ne_eq, Nat.reduceAdd, Nat.reduceMul, Nat.reduceSub, abin_shl, abin_shr, load1V, loadV, storeV, cellsAt, getN, setN, allocV, lenL, lenS, bnd, oneC, Value.oneCell', Nat.reduceLeDiff, Nat.reduceLT, exists_eq_left', forall_const, reduceCtorEq, app_new, app_new0, List.append_assoc, Int.reduceToNat, Int.reduceLT, Int.reduceLE, Int.reduceEq, Int.reduceNe, Int.reduceBEq, IntKind.bits, bne_self_eq_false, Int.reducePow, r13, hlim, wi]
    exact ⟨m - 1, by omega, i + 1, _, by omega, rfl, r12, r11, rfl, R7, E37, hgl7⟩
  · have hi' : ¬ (i : Int) < (ls.length : Nat) := by omega
    simp only [sx, x_box, x_alloc, x_bslice, x_slice, x_append, x_appz, x_b2s, x_s2b, x_mark, xop, ev, evs, evParts, fillL, cellsL, Ai.get, Ai.put, stab, isNil?, if_false, if_true, addr?, int?, str?, agg?, bool?, shiftA, FnPost, xresL, xres1, tup, argEnv, ptr, Nat.reduceEqDiff, reduceIte, beq_self_eq_true, ne_eq, Nat.reduceAdd, Nat.reduceMul, Nat.reduceSub, abin_shl, abin_shr, load1V, loadV, storeV, cellsAt, getN, setN, allocV, lenL, lenS, bnd, oneC, Value.oneCell', Nat.reduceLeDiff, Nat.reduceLT, exists_eq_left', forall_const, reduceCtorEq, app_new, app_new0, List.append_assoc, Int.reduceToNat, Int.reduceLT, Int.reduceLE, Int.reduceEq, Int.reduceNe, Int.reduceBEq, IntKind.bits, bne_self_eq_false, Int.reducePow, r13, r12, hi']
    rw [List.take_of_length_le (by omega)] at R
    exact .inl ⟨sl, r4, R, E⟩
/-- Frame is Join of one -/
theorem frame_ok {h : AHeap} {q : Option Addr} {n c : Nat} {b : List Int} (hF : Fl h) (hf : firstV 1 h n (.slice q n c) = some (bR b)) (hbn : b.length = n) (hb : ∀ z ∈ b, 0 ≤ z ∧ z ≤ 255) :
    Valid Tryd.prog 15 [.slice q n c] h fun r h' => JoinP h [b] r h' := by
  subst hbn
  refine v15 (by simp) ?_
  simp only [X15, sx, x_box, x_alloc, x_bslice, x_slice, x_append, x_appz, x_b2s, x_s2b, x_mark, xop, ev, evs, evParts, fillL, cellsL, Ai.get, Ai.put, stab, isNil?, if_false, if_true, addr?, int?, str?, agg?, bool?, shiftA, FnPost, xresL, xres1, tup, argEnv, ptr, Nat.reduceEqDiff, reduceIte, beq_self_eq_true, ne_eq, Nat.reduceAdd, Nat.reduceMul, Nat.reduceSub, abin_shl, abin_shr, load1V, loadV, storeV, cellsAt, getN, setN, allocV, lenL, lenS, bnd, oneC, Value.oneCell', Nat.reduceLeDiff, Nat.reduceLT, exists_eq_left', forall_const, reduceCtorEq, app_new, app_new0, List.append_assoc, Int.reduceToNat, Int.reduceLT, Int.reduceLE, Int.reduceEq, Int.reduceNe, Int.reduceBEq, IntKind.bits, bne_self_eq_false, Int.reducePow]
  have E := Ext.app h [some (AObj.mk true [.slice q b.length c])]
  have hL : LV (h ++ [some (AObj.mk true [.slice q b.length c])]) (some ⟨h.length, 0, none⟩) 1 [b] := ⟨[.slice q b.length c], by
    simp only [firstV, cellsAt, app_new0]
    simp
    rfl, LsR.one (E.first hf)⟩
  refine xcall (join_ok (hF.ext E) hL (by simp) fun x hx => by rw [List.mem_singleton.1 hx]; exact hb) (by rfl) (by rfl) (by rfl) (by rfl) ?_
  rintro r g ⟨E2, P⟩
  rcases P with ⟨hw, rfl⟩ | ⟨hw, q2, rfl, hf2⟩
  · simp only [sx, x_box, x_alloc, x_bslice, x_slice, x_append, x_appz, x_b2s, x_s2b, x_mark, xop, ev, evs, evParts, fillL, cellsL, Ai.get, Ai.put, stab, isNil?, if_false, if_true, addr?, int?, str?, agg?, bool?, shiftA, FnPost, xresL, xres1, tup, argEnv, ptr, Nat.reduceEqDiff, reduceIte, beq_self_eq_true, ne_eq, Nat.reduceAdd, Nat.reduceMul, Nat.reduceSub, abin_shl, abin_shr, load1V, loadV, storeV, cellsAt, getN, setN, allocV, lenL, lenS, bnd, oneC, Value.oneCell', Nat.reduceLeDiff, Nat.reduceLT, exists_eq_left', forall_const, reduceCtorEq, app_new, app_new0, List.append_assoc, Int.reduceToNat, Int.reduceLT, Int.reduceLE, Int.reduceEq, Int.reduceNe, Int.reduceBEq, IntKind.bits, bne_self_eq_false, Int.reducePow]
    exact ⟨E.trans E2, .inl ⟨hw, rfl⟩⟩
  · simp only [sx, x_box, x_alloc, x_bslice, x_slice, x_append, x_appz, x_b2s, x_s2b, x_mark, xop, ev, evs, evParts, fillL, cellsL, Ai.get, Ai.put, stab, isNil?, if_false, if_true, addr?, int?, str?, agg?, bool?, shiftA, FnPost, xresL, xres1, tup, argEnv, ptr, Nat.reduceEqDiff, reduceIte, beq_self_eq_true, ne_eq, Nat.reduceAdd, Nat.reduceMul, Nat.reduceSub, abin_shl, abin_shr, load1V, loadV, storeV, cellsAt, getN, setN, allocV, lenL, lenS, bnd, oneC, Value.oneCell', Nat.reduceLeDiff, Nat.reduceLT, exists_eq_left', forall_const, reduceCtorEq, app_new, app_new0, List.append_assoc, Int.reduceToNat, Int.reduceLT, Int.reduceLE, Int.reduceEq, Int.reduceNe, Int.reduceBEq, IntKind.bits, bne_self_eq_false, Int.reducePow]
    exact ⟨E.trans E2, .inr ⟨hw, q2, rfl, hf2⟩⟩

theorem flag37_ok {h : AHeap} : Valid Tryd.prog 37 [] h fun r h' => r = .slice (some ⟨h.length, 0, none⟩) 8 8 ∧ h' = h ++ [some ⟨true, bR fl⟩] := by
  refine v37 (by simp) ?_
  simp only [X37, sx, x_box, x_alloc, x_bslice, x_slice, x_append, x_appz, x_b2s, x_s2b, x_mark, xop, ev, evs, evParts, fillL, cellsL, Ai.get, Ai.put, stab, isNil?, if_false, if_true, addr?, int?, str?, agg?, bool?, shiftA, FnPost, xresL, xres1, tup, argEnv, ptr, Nat.reduceEqDiff, reduceIte, beq_self_eq_true, ne_eq, Nat.reduceAdd, Nat.reduceMul, Nat.reduceSub, abin_shl, abin_shr, load1V, loadV, storeV, cellsAt, getN, setN, allocV, lenL, lenS, bnd, oneC, Value.oneCell', Nat.reduceLeDiff, Nat.reduceLT, exists_eq_left', forall_const, reduceCtorEq, app_new, app_new0, List.append_assoc, Int.reduceToNat, Int.reduceLT, Int.reduceLE, Int.reduceEq, Int.reduceNe, Int.reduceBEq, IntKind.bits, bne_self_eq_false, Int.reducePow]
  rfl
/-- a slice that is full is appended to -/
theorem append_full {P : Program} {K : Env → AHeap → Prop} {r : List XOper} {ρ : Env} {h : AHeap} {d : Option Nat} {s x : XA} {A n m : Nat} {w : Bool} {xv : Value} {rows news z : List Value} {by_ : Nat} (hz : z.length = 1) (hs : ev ρ s = some (.slice (some ⟨A, 0, none⟩) n n)) (hx : ev ρ x = some xv) (hl : lenV xv = some m) (hf : firstV 1 h m xv = some news)
    (hA : h[A]? = some (some ⟨w, rows⟩)) (hr : rows.length = n) (hn : n ≠ 0) (hm : m ≠ 0) (hb : (n + m) * by_ ≤ 140737488355328) (hb2 : n + m ≤ 9223372036854775807) (hK : xops P K r (put d (.slice (some ⟨h.length, 0, none⟩) (n + m) (unk + 1)) ρ) (h ++ [some ⟨true, rows ++ news⟩])) :
    xops P K (⟨d, none, .append 1 by_ z s x, []⟩ :: r) ρ h := by
  rw [x_append]
  have h1 : ¬ unk ≤ n := by unfold unk; omega
  have h2 : ¬ n + m ≤ n := by omega
  have h3 : ¬ ((n + m) * by_ > 140737488355328 ∨ n + m > 9223372036854775807) := by omega
  have hg := getN_all rows n hr.symm
  simp only [xop, hs, hx, Option.bind_some, hl, hf, hz, and_self, if_true, Nat.lt_add_one, Nat.zero_lt_one, appendV, ne_eq, not_true_eq_false, if_false, hm, h1, h2, h3, hn, cellsAt, hA, Nat.mul_one, hg, xthen_some, stab, true_and]
  exact hK
/-- a slice that is appended to: as RN, or a full one -/
def RK (h : AHeap) (sl : Value) (zs : List Int) : Prop := RN h sl zs ∨ ∃ A, sl = .slice (some ⟨A, 0, none⟩) zs.length zs.length ∧ h[A]? = some (some ⟨true, bR zs⟩) ∧ zs ≠ []
theorem RK.keep {h h' : AHeap} {sl : Value} {zs : List Int} (r : RK h sl zs) (hk : ∀ A x, slB sl = some A → h[A]? = some x → h'[A]? = some x) : RK h' sl zs := by
  rcases r with r | ⟨A, rfl, h1, h2⟩
  · exact .inl (r.keep hk)
  · exact .inr ⟨A, rfl, hk A _ rfl h1, h2⟩
theorem RK.ext {h h' : AHeap} {sl : Value} {zs : List Int} (r : RK h sl zs) (E : Ext h h') : RK h' sl zs := r.keep fun A x _ hx => E.get hx
theorem RK.shp {h : AHeap} {sl : Value} {zs : List Int} (r : RK h sl zs) : ∃ q c, sl = .slice q zs.length c ∧ firstV 1 h zs.length (.slice q zs.length c) = some (bR zs) := by
  rcases r with r | ⟨A, rfl, h1, h2⟩
  · exact r.shp
  · exact ⟨_, _, rfl, first_pre (t := []) (by rw [List.append_nil]; exact h1) rfl⟩
theorem RK.append {K : Env → AHeap → Prop} {r : List XOper} {ρ : Env} {h : AHeap} {zs news : List Int} {d : Option Nat} {s x : XA} {sl xv : Value} (R : RK h sl zs)
    (hs : ev ρ s = some sl) (hx : ev ρ x = some xv) (hl : lenV xv = some news.length) (hf : firstV 1 h news.length xv = some (bR news)) (hb : zs.length + news.length ≤ 1048576)
    (hK : ∀ sl' h', RK h' sl' (zs ++ news) → h.length ≤ h'.length → (∀ B, B < h.length → slB sl ≠ some B → h'[B]? = h[B]?) → (∀ A, slB sl' = some A → slB sl = some A ∨ (h.length ≤ A)) → xops Tryd.prog K r (put d sl' ρ) h') :
    xops Tryd.prog K (⟨d, none, .append 1 1 [.int .u8 0] s x, []⟩ :: r) ρ h := by
  rcases R with R | ⟨A, rfl, hA, hne⟩
  · exact R.append hs hx hl hf hb fun sl' h' R' a b c _ => hK sl' h' (.inl R') a b c
  · by_cases hm : news.length = 0
    · have : news = [] := List.eq_nil_of_length_eq_zero hm
      subst this
      refine append_room (R := A) (n := zs.length) (m := 0) (c := zs.length) (zs := zs) (news := []) rfl hs hx hl hf rfl hA (by simp at hb; unfold unk; omega) (by omega) (Nat.le_refl _) (by simp at hb; omega) (by simp at hb; omega) ?_
      have e : zs.take zs.length ++ [] ++ zs.drop (zs.length + 0) = zs := by simp
      rw [e, set_self hA]
      exact hK _ h (.inr ⟨A, by rw [List.append_nil]; rfl, by rw [List.append_nil]; exact hA, by rw [List.append_nil]; exact hne⟩) (Nat.le_refl _) (fun _ _ _ => rfl) (fun B hB => .inl hB)
    · refine append_full (by_ := 1) rfl hs hx hl hf hA (bR_len _) (fun e => hne (List.eq_nil_of_length_eq_zero e)) hm (by omega) (by omega) ?_
      have := hK (.slice (some ⟨h.length, 0, none⟩) (zs.length + news.length) (unk + 1)) (h ++ [some ⟨true, bR zs ++ bR news⟩]) (.inl (.inr ⟨h.length, by rw [List.length_append], by rw [app_new0, bR_append]; rfl⟩)) (by simp) (fun B hB _ => List.getElem?_append_left hB) (fun B hB => by cases hB; exact .inr (Nat.le_refl _))
      exact this
def RjI (g : AHeap) (q : Option Addr) (c : Nat) (ls : List (List Int)) (m : Nat) (ρ : Env) (h : AHeap) : Prop := ∃ (i : Nat) (sl : Value), i + m = ls.length ∧ get ρ 4 = some (.int .i64 (i : Nat)) ∧ get ρ 0 = some (.slice q ls.length c) ∧ get ρ 3 = some sl ∧ RK h sl (jn (ls.take i)) ∧ Ext g h ∧ (∀ A, slB sl = some A → g.length ≤ A)
def RjE (g : AHeap) (ls : List (List Int)) (ρ : Env) (h : AHeap) : Prop := ∃ sl : Value, get ρ 3 = some sl ∧ RK h sl (jn ls) ∧ Ext g h
set_option maxHeartbeats 2000000 in
/-- the reference's Join -/
theorem rjoin_ok {h : AHeap} {q : Option Addr} {c : Nat} {ls : List (List Int)} (hL : LV h q c ls) (hn : ls.length ≤ 100) (hb : ∀ b ∈ ls, ∀ z ∈ b, 0 ≤ z ∧ z ≤ 255) (hnw : ∀ b ∈ ls, ¬ Wide b) :
    Valid Tryd.prog 14 [.slice q ls.length c] h fun r h' => RK h' r (jn ls) ∧ Ext h h' := by
  refine v14 (by simp) ?_
  simp only [X14, sx, x_box, x_alloc, x_bslice, x_slice, x_append, x_appz, x_b2s, x_s2b, x_mark, xop, ev, evs, evParts, fillL, cellsL, Ai.get, Ai.put, stab, isNil?, if_false, if_true, addr?, int?, str?, agg?, bool?, shiftA, FnPost, xresL, xres1, tup, argEnv, ptr, Nat.reduceEqDiff, reduceIte, beq_self_eq_true, ne_eq, Nat.reduceAdd, Nat.reduceMul, Nat.reduceSub, abin_shl, abin_shr, load1V, loadV, storeV, cellsAt, getN, setN, allocV, lenL, lenS, bnd, oneC, Value.oneCell', Nat.reduceLeDiff, Nat.reduceLT, exists_eq_left', forall_const, reduceCtorEq, app_new, app_new0, List.append_assoc, Int.reduceToNat, Int.reduceLT, Int.reduceLE, Int.reduceEq, Int.reduceNe, Int.reduceBEq, IntKind.bits, bne_self_eq_false, Int.reducePow]
  refine xcall flag37_ok (by rfl) (by rfl) (by rfl) (by rfl) ?_
  rintro r g2 ⟨rfl, rfl⟩
  have R0 : RK (h ++ [some (AObj.mk true (bR fl))]) (.slice (some ⟨h.length, 0, none⟩) 8 8) (jn []) := .inr ⟨h.length, rfl, by rw [app_new0]; simp [jn], by decide⟩
  have E0 := Ext.app h [some (AObj.mk true (bR fl))]
  generalize h ++ [some (AObj.mk true (bR fl))] = g3 at *
  simp only [sx, x_box, x_alloc, x_bslice, x_slice, x_append, x_appz, x_b2s, x_s2b, x_mark, xop, ev, evs, evParts, fillL, cellsL, Ai.get, Ai.put, stab, isNil?, if_false, if_true, addr?, int?, str?, agg?, bool?, shiftA, FnPost, xresL, xres1, tup, argEnv, ptr, Nat.reduceEqDiff, reduceIte, beq_self_eq_true, ne_eq, Nat.reduceAdd, Nat.reduceMul, Nat.reduceSub, abin_shl, abin_shr, load1V, loadV, storeV, cellsAt, getN, setN, allocV, lenL, lenS, bnd, oneC, Value.oneCell', Nat.reduceLeDiff, Nat.reduceLT, exists_eq_left', forall_const, reduceCtorEq, app_new, app_new0, List.append_assoc, Int.reduceToNat, Int.reduceLT, Int.reduceLE, Int.reduceEq, Int.reduceNe, Int.reduceBEq, IntKind.bits, bne_self_eq_false, Int.reducePow]
  refine xloop_cut (RjE h ls) ?_ ?_
  rotate_left
  · rintro ρ g4 ⟨sl, r3, R, E⟩
    simp only [sx, x_box, x_alloc, x_bslice, x_slice, x_append, x_appz, x_b2s, x_s2b, x_mark, xop, ev, evs, evParts, fillL, cellsL, Ai.get, Ai.put, stab, isNil?, if_false, if_true, addr?, int?, str?, agg?, bool?, shiftA, FnPost, xresL, xres1, tup, argEnv, ptr, Nat.reduceEqDiff, reduceIte, beq_self_eq_true, ne_eq, Nat.reduceAdd, Nat.reduceMul, Nat.reduceSub, abin_shl, abin_shr, load1V, loadV, storeV, cellsAt, getN, setN, allocV, lenL, lenS, bnd, oneC, Value.oneCell', Nat.reduceLeDiff, Nat.reduceLT, exists_eq_left', forall_const, reduceCtorEq, app_new, app_new0, List.append_assoc, Int.reduceToNat, Int.reduceLT, Int.reduceLE, Int.reduceEq, Int.reduceNe, Int.reduceBEq, IntKind.bits, bne_self_eq_false, Int.reducePow, r3]
    exact ⟨R, E⟩
  refine xcode_loop (RjI h q c ls) ls.length ⟨0, _, by omega, rfl, rfl, rfl, R0, E0, fun A hA => by cases hA; exact Nat.le_refl _⟩ ?_
  clear R0 E0 g3
  rintro m ρ g3 ⟨i, sl, him, r4, r0, r3, R, E, hgl⟩
  by_cases hi : i < ls.length
  · have hi' : (i : Int) < (ls.length : Nat) := by omega
    have hi0 : (0 : Int) ≤ (i : Int) := by omega
    have wi : IntKind.i64.wrap ((i : Int) + 1) = ((i + 1 : Nat) : Int) := by rw [i64_wrap] <;> omega
    have hz := List.getElem?_eq_getElem hi
    obtain ⟨a, o, qz, cz, rfl, a1, a2, a3, hfz⟩ := (hL.ext E).get hz
    have hbz := hb _ (List.getElem_mem hi)
    have hnz := hnw _ (List.getElem_mem hi)
    have hsn : ls.take (i + 1) = ls.take i ++ [ls[i]] := by rw [List.take_add_one, hz]; rfl
    generalize ls[i] = z at *
    unfold Wide at hnz
    simp only [sx, x_box, x_alloc, x_bslice, x_slice, x_append, x_appz, x_b2s, x_s2b, x_mark, xop, ev, evs, evParts, fillL, cellsL, Ai.get, Ai.put, stab, isNil?, if_false, if_true, addr?, int?, str?, agg?, bool?, shiftA, FnPost, xresL, xres1, tup, argEnv, ptr, Nat.reduceEqDiff, reduceIte, beq_self_eq_true, ne_eq, Nat.reduceAdd, Nat.reduceMul, Nat.reduceSub, abin_shl, abin_shr, load1V, loadV, storeV, cellsAt, getN, setN, allocV, lenL, lenS, bnd, oneC, Value.oneCell', Nat.reduceLeDiff, Nat.reduceLT, exists_eq_left', forall_const, reduceCtorEq, app_new, app_new0, List.append_assoc, Int.reduceToNat, Int.reduceLT, Int.reduceLE, Int.reduceEq, Int.reduceNe, Int.reduceBEq, IntKind.bits, bne_self_eq_false, Int.reducePow, r4, r0, r3, hi', hi0, a1, a2, a3, Nat.mul_one]
    refine xcall (rof_ok hfz (by omega) hbz) (by rfl) (by rfl) (by rfl) (by rfl) ?_
    rintro r g4 ⟨Ro, E1, -⟩
    obtain ⟨qo, co, rfl, hfo⟩ := Ro.shp
    have hol := ofL_len z
    simp only [sx, x_box, x_alloc, x_bslice, x_slice, x_append, x_appz, x_b2s, x_s2b, x_mark, xop, ev, evs, evParts, fillL, cellsL, Ai.get, Ai.put, stab, isNil?, if_false, if_true, addr?, int?, str?, agg?, bool?, shiftA, FnPost, xresL, xres1, tup, argEnv, ptr, Nat.reduceEqDiff, reduceIte, beq_self_eq_true, ne_eq, Nat.reduceAdd, Nat.reduceMul, Nat.reduceSub, abin_shl, abin_shr, load1V, loadV, storeV, cellsAt, getN, setN, allocV, lenL, lenS, bnd, oneC, Value.oneCell', Nat.reduceLeDiff, Nat.reduceLT, exists_eq_left', forall_const, reduceCtorEq, app_new, app_new0, List.append_assoc, Int.reduceToNat, Int.reduceLT, Int.reduceLE, Int.reduceEq, Int.reduceNe, Int.reduceBEq, IntKind.bits, bne_self_eq_false, Int.reducePow]
    refine xcall (rstuff_ok hfo (by omega) (ofL_bit z)) (by rfl) (by rfl) (by rfl) (by rfl) ?_
    rintro r g5 ⟨Rs, E2, -⟩
    obtain ⟨qs, cs, rfl, hfs⟩ := Rs.shp
    have hsl := stf_len (ofL z) 0 (ofL_bit z) (by decide)
    rw [ofL_len] at hsl
    have hjl := jn_len (ls := ls.take i) fun b hb => hnw b (List.mem_of_mem_take hb)
    rw [List.length_take] at hjl
    have R5 := (R.ext E1).ext E2
    simp only [sx, x_box, x_alloc, x_bslice, x_slice, x_appz, x_b2s, x_s2b, x_mark, xop, ev, evs, evParts, fillL, cellsL, Ai.get, Ai.put, stab, isNil?, if_false, if_true, addr?, int?, str?, agg?, bool?, shiftA, FnPost, xresL, xres1, tup, argEnv, ptr, Nat.reduceEqDiff, reduceIte, beq_self_eq_true, ne_eq, Nat.reduceAdd, Nat.reduceMul, Nat.reduceSub, abin_shl, abin_shr, load1V, loadV, storeV, cellsAt, getN, setN, allocV, lenL, lenS, bnd, oneC, Value.oneCell', Nat.reduceLeDiff, Nat.reduceLT, exists_eq_left', forall_const, reduceCtorEq, app_new, app_new0, List.append_assoc, Int.reduceToNat, Int.reduceLT, Int.reduceLE, Int.reduceEq, Int.reduceNe, Int.reduceBEq, IntKind.bits, bne_self_eq_false, Int.reducePow]
    refine R5.append rfl rfl rfl hfs (by omega) fun sl6 g6 R6 hl6 hk6 hs6 => ?_
    have E36 : Ext h g6 := ⟨Nat.le_trans (E.trans (E1.trans E2)).1 hl6, fun B hB => by
      have hB5 : B < g5.length := Nat.lt_of_lt_of_le hB (E.trans (E1.trans E2)).1
      rw [hk6 B hB5 (fun e => by have := hgl B e; omega), (E.trans (E1.trans E2)).2 B hB]⟩
    have hgl6 : ∀ A, slB sl6 = some A → h.length ≤ A := fun A hA => by
      have := (E.trans (E1.trans E2)).1
      rcases hs6 A hA with h | h
      · exact hgl A h
      · omega
    simp only [sx, x_box, x_alloc, x_bslice, x_slice, x_appz, x_b2s, x_s2b, x_mark, xop, ev, evs, evParts, fillL, cellsL, Ai.get, Ai.put, stab, isNil?, if_false, if_true, addr?, int?, str?, agg?, bool?, shiftA, FnPost, xresL, xres1, tup, argEnv, ptr, Nat.reduceEqDiff, reduceIte, beq_self_eq_true, ne_eq, Nat.reduceAdd, Nat.reduceMul, Nat.reduceSub, abin_shl, abin_shr, load1V, loadV, storeV, cellsAt, getN, setN, allocV, lenL, lenS, bnd, oneC, Value.oneCell', Nat.reduceLeDiff, Nat.reduceLT, exists_eq_left', forall_const, reduceCtorEq, app_new, app_new0, List.append_assoc, Int.reduceToNat, Int.reduceLT, Int.reduceLE, Int.reduceEq, Int.reduceNe, Int.reduceBEq, IntKind.bits, bne_self_eq_false, Int.reducePow]
    refine xcall flag37_ok (by rfl) (by rfl) (by rfl) (by rfl) ?_
    rintro r g7 ⟨rfl, rfl⟩
    have E7 := Ext.app g6 [some (AObj.mk true (bR fl))]
    have hfl : firstV 1 (g6 ++ [some (AObj.mk true (bR fl))]) fl.length (.slice (some ⟨g6.length, 0, none⟩) 8 8) = some (bR fl) := first_pre (t := []) (by rw [List.append_nil, app_new0]; rfl) rfl
    simp only [sx, x_box, x_alloc, x_bslice, x_slice, x_appz, x_b2s, x_s2b, x_mark, xop, ev, evs, evParts, fillL, cellsL, Ai.get, Ai.put, stab, isNil?, if_false, if_true, addr?, int?, str?, agg?, bool?, shiftA, FnPost, xresL, xres1, tup, argEnv, ptr, Nat.reduceEqDiff, reduceIte, beq_self_eq_true, ne_eq, Nat.reduceAdd, Nat.reduceMul, Nat.reduceSub, abin_shl, abin_shr, load1V, loadV, storeV, cellsAt, getN, setN, allocV, lenL, lenS, bnd, oneC, Value.oneCell', Nat.reduceLeDiff, Nat.reduceLT, exists_eq_left', forall_const, reduceCtorEq, app_new, app_new0, List.append_assoc, Int.reduceToNat, Int.reduceLT, Int.reduceLE, Int.reduceEq, Int.reduceNe, Int.reduceBEq, IntKind.bits, bne_self_eq_false, Int.reducePow]
    refine (R6.ext E7).append (news := fl) (xv := .slice (some ⟨g6.length, 0, none⟩) 8 8) rfl rfl rfl hfl (by simp [fl]; omega) fun sl8 g8 R8 hl8 hk8 hs8 => ?_
    have E38 : Ext h g8 := ⟨Nat.le_trans (E36.trans E7).1 hl8, fun B hB => by
      have hB7 : B < (g6 ++ [some (AObj.mk true (bR fl))]).length := Nat.lt_of_lt_of_le hB (E36.trans E7).1
      rw [hk8 B hB7 (fun e => by have := hgl6 B e; omega), (E36.trans E7).2 B hB]⟩
    have hgl8 : ∀ A, slB sl8 = some A → h.length ≤ A := fun A hA => by
      have := (E36.trans E7).1
      rcases hs8 A hA with h | h
      · exact hgl6 A h
      · omega
    rw [← jn_snoc, ← hsn] at R8
    simp only [sx, x_box, x_alloc, x_bslice, x_slice, x_append, x_appz, x_b2s, x_s2b, x_mark, xop, ev, evs, evParts, fillL, cellsL, Ai.get, Ai.put, stab, isNil?, if_false, if_true, addr?, int?, str?, agg?, bool?, shiftA, FnPost, xresL, xres1, tup, argEnv, ptr, Nat.reduceEqDiff, reduceIte, beq_self_eq_true, ne_eq, Nat.reduceAdd, Nat.reduceMul, Nat.reduceSub, abin_shl, abin_shr, load1V, loadV, storeV, cellsAt, getN, setN, allocV, lenL, lenS, bnd, oneC, Value.oneCell', Nat.reduceLeDiff, Nat.reduceLT, exists_eq_left', forall_const, reduceCtorEq, app_new, app_new0, List.append_assoc, Int.reduceToNat, Int.reduceLT, Int.reduceLE, Int.reduceEq, Int.reduceNe, Int.reduceBEq, IntKind.bits, bne_self_eq_false, Int.reducePow, r4, wi]
    exact ⟨m - 1, by omega, i + 1, _, by omega, rfl, r0, rfl, R8, E38, hgl8⟩
  · have hi' : ¬ (i : Int) < (ls.length : Nat) := by omega
    simp only [sx, x_box, x_alloc, x_bslice, x_slice, x_append, x_appz, x_b2s, x_s2b, x_mark, xop, ev, evs, evParts, fillL, cellsL, Ai.get, Ai.put, stab, isNil?, if_false, if_true, addr?, int?, str?, agg?, bool?, shiftA, FnPost, xresL, xres1, tup, argEnv, ptr, Nat.reduceEqDiff, reduceIte, beq_self_eq_true, ne_eq, Nat.reduceAdd, Nat.reduceMul, Nat.reduceSub, abin_shl, abin_shr, load1V, loadV, storeV, cellsAt, getN, setN, allocV, lenL, lenS, bnd, oneC, Value.oneCell', Nat.reduceLeDiff, Nat.reduceLT, exists_eq_left', forall_const, reduceCtorEq, app_new, app_new0, List.append_assoc, Int.reduceToNat, Int.reduceLT, Int.reduceLE, Int.reduceEq, Int.reduceNe, Int.reduceBEq, IntKind.bits, bne_self_eq_false, Int.reducePow, r4, r0, hi']
    rw [List.take_of_length_le (by omega)] at R
    exact ⟨sl, r3, R, E⟩
end Go.Proofs.YtimfgagdfmmeeaaDoor
