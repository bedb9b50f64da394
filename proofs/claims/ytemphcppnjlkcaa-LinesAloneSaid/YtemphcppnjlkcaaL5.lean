import Derived.Test.YtemphcppnjlkcaaL4
set_option linter.unusedVariables false
set_option linter.unusedSimpArgs false
namespace Go.Proofs.Ytemphcppnjlkcaa
open Go Go.Ai Go.Proofs

def flip1 (sent : Int) (zs : List Int) (x : Nz) : List Int := if x.at_ = sent ∧ x.kind = 1 then zs.set (x.bit.tmod zs.length).toNat (1 - zs.getD (x.bit.tmod zs.length).toNat 0) else zs
def flipZ (l : List Nz) (sent : Int) (zs : List Int) : List Int := l.foldl (flip1 sent) zs
def remZ (l : List Nz) (sent : Int) (zs : List Int) : List Int := if hasN l sent 0 then [] else if hasN l sent 2 then flipZ l sent zs ++ flipZ l sent zs else flipZ l sent zs

theorem flip1_len (sent : Int) (zs : List Int) (x : Nz) : (flip1 sent zs x).length = zs.length := by unfold flip1; split <;> simp
theorem flipZ_len (l : List Nz) (sent : Int) : ∀ zs : List Int, (flipZ l sent zs).length = zs.length := by
  induction l with
  | nil => intro zs; rfl
  | cons x l ih => intro zs; simp only [flipZ, List.foldl_cons] at ih ⊢; rw [ih, flip1_len]
theorem flip1_bit {sent : Int} {zs : List Int} {x : Nz} (h : ∀ z ∈ zs, z = 0 ∨ z = 1) : ∀ z ∈ flip1 sent zs x, z = 0 ∨ z = 1 := by
  unfold flip1
  split
  · intro z hz
    rcases List.mem_or_eq_of_mem_set hz with h1 | rfl
    · exact h z h1
    · rcases Nat.lt_or_ge (x.bit.tmod zs.length).toNat zs.length with hk | hk
      · have := h _ (List.getElem_mem hk)
        have e : zs.getD (x.bit.tmod zs.length).toNat 0 = zs[(x.bit.tmod zs.length).toNat] := by simp [List.getD_eq_getElem?_getD, hk]
        rw [e]; omega
      · rw [List.set_eq_of_length_le hk] at hz; exact h _ hz
  · exact h
theorem flipZ_bit {sent : Int} (l : List Nz) : ∀ {zs : List Int}, (∀ z ∈ zs, z = 0 ∨ z = 1) → ∀ z ∈ flipZ l sent zs, z = 0 ∨ z = 1 := by
  induction l with
  | nil => intro zs h; exact h
  | cons x l ih => intro zs h; exact ih (flip1_bit h)
theorem flipZ_none {l : List Nz} {sent : Int} (hn : ¬ hasN l sent 1) (zs : List Int) : flipZ l sent zs = zs := by
  induction l generalizing zs with
  | nil => rfl
  | cons x l ih =>
    have h1 : ¬ (x.at_ = sent ∧ x.kind = 1) := fun h => hn ⟨x, by simp, h⟩
    simp only [flipZ, List.foldl_cons] at ih ⊢
    rw [show flip1 sent zs x = zs by unfold flip1; rw [if_neg h1]]
    exact ih (fun ⟨y, hy, h⟩ => hn ⟨y, by simp [hy], h⟩) zs
theorem flipZ_snoc (l : List Nz) (sent : Int) (zs : List Int) (i : Nat) (x : Nz) (hx : l[i]? = some x) : flipZ (l.take (i + 1)) sent zs = flip1 sent (flipZ (l.take i) sent zs) x := by
  have : l.take (i + 1) = l.take i ++ [x] := by rw [List.take_add_one, hx]; rfl
  rw [this]; simp [flipZ, List.foldl_append]

theorem setN_front (a b c : List Int) (h : b.length ≤ a.length) : setN (bR a) 0 (bR b) = bR (b ++ a.drop b.length) := by
  rw [setN_eq _ _ _ (by simp [bR_len]; exact h)]
  simp [bR, List.map_drop]
theorem setN_mid {n : Nat} {a b c : List Int} (h : b.length = c.length) (ha : a.length = n) : setN (bR (a ++ b)) n (bR c) = bR (a ++ c) := by
  subst ha
  rw [setN_eq _ _ _ (by simp [bR_len]; omega)]
  simp [bR, h]

set_option maxHeartbeats 2000000 in
theorem remains_ok {h : AHeap} {X : Nat} {delay now sent waiting : Int} {l : List Nz} {nq : Option Addr} {nc : Nat} {usl : Value} {us : List Bu} (L : LineAt h X delay now sent waiting l nq nc usl us) (hll : l.length ≤ 1024)
    {qs : Option Addr} {n cs : Nat} {zs : List Int} (hs : firstV 1 h n (.slice qs n cs) = some (bR zs)) (hn : n ≤ 1048576) (hbit : ∀ z ∈ zs, z = 0 ∨ z = 1) (hnz : ∀ x ∈ l, 0 ≤ x.bit) :
    Valid Try.prog 27 [ptr X 0, .slice qs n cs] h fun r h' => Ext h h' ∧ BV h' r (remZ l sent zs) ∧ ∀ A, slB r = some A → h.length ≤ A ∧ A < h'.length := by
  refine v27 (by simp) ?_
  have hzl := firstV_len hs
  rw [bR_len, Nat.mul_one] at hzl
  have hw : IntKind.i64.wrap (2 * (n : Int)) = ((2 * n : Nat) : Int) := by rw [i64_wrap] <;> omega
  have h1 : (0 : Int) ≤ n := by omega
  have h2 : (n : Int) ≤ ((2 * n : Nat) : Int) := by omega
  have h3 : ((2 * n : Nat) : Int) * 1 ≤ 140737488355328 := by omega
  have h4 : ((2 * n : Nat) : Int) ≤ 9223372036854775807 := by omega
  have hs2 := fun t => firstV_app (t := t) hs
  simp only [X27, sx, x_box, x_alloc, x_bslice, x_slice, x_append, x_b2s, xop, ev, evs, evParts, fillL, cellsL, Ai.get, Ai.put, stab, isNil?, if_false, if_true, addr?, int?, str?, agg?, bool?, shiftA, FnPost, xresL, xres1, tup, argEnv, ptr, Nat.reduceEqDiff, reduceIte, beq_self_eq_true, ne_eq, Nat.reduceAdd, Nat.reduceMul, Nat.reduceSub, abin_shl, abin_shr, load1V, loadV, cellsAt, getN, allocV, lenL, lenS, bnd, oneC, Value.oneCell', Nat.reduceLeDiff, Nat.reduceLT, exists_eq_left', forall_const, reduceCtorEq, app_new, app_new0, List.append_assoc, Int.reduceToNat, Int.reduceLT, Int.reduceLE, Int.reduceEq, Int.reduceNe, Int.reduceBEq, IntKind.bits, bne_self_eq_false, Int.reducePow, hw, h1, h2, h3, h4, lenV, Nat.min_self, hs2, zeros_bR]
  refine xthen_cut (fun ρ h' => get ρ 2 = some (ptr h.length 0) ∧ get ρ 5 = some (.slice (some ⟨h.length + 1, 0, none⟩) n (2 * n)) ∧ get ρ 1 = some (.slice qs n cs) ∧ get ρ 4 = some (.slice none 0 0) ∧
    h' = h ++ [some ⟨true, [ptr X 0]⟩, some ⟨true, bR (zs ++ List.replicate n 0)⟩]) ?_ ?_
  · by_cases h0 : n = 0
    · subst h0
      have : zs = [] := List.eq_nil_of_length_eq_zero hzl
      subst this
      simp [sx, x_box, x_alloc, x_bslice, x_slice, x_append, x_b2s, xop, ev, evs, evParts, fillL, cellsL, Ai.get, Ai.put, stab, isNil?, if_false, if_true, addr?, int?, str?, agg?, bool?, shiftA, FnPost, xresL, xres1, tup, argEnv, ptr, Nat.reduceEqDiff, reduceIte, beq_self_eq_true, ne_eq, Nat.reduceAdd, Nat.reduceMul, Nat.reduceSub, abin_shl, abin_shr, load1V, loadV, storeV, cellsAt, getN, setN, allocV, lenL, lenS, bnd, oneC, Value.oneCell', Nat.reduceLeDiff, Nat.reduceLT, exists_eq_left', forall_const, reduceCtorEq, app_new, app_new0, List.append_assoc, Int.reduceToNat, Int.reduceLT, Int.reduceLE, Int.reduceEq, Int.reduceNe, Int.reduceBEq, IntKind.bits, bne_self_eq_false, Int.reducePow, bR, ptr]
    · have hne : ¬ bR zs = [] := fun e => h0 (by rw [← hzl, ← bR_len, e]; rfl)
      have hle : (bR zs).length ≤ (bR (List.replicate (2 * n) 0)).length := by simp [bR_len]; omega
      have hst : setN (bR (List.replicate (2 * n) 0)) 0 (bR zs) = bR (zs ++ List.replicate n 0) := by
        rw [setN_front _ _ [] (by simp; omega)]
        congr 2
        rw [List.drop_replicate]; congr 1; omega
      simp only [sx, x_box, x_alloc, x_bslice, x_slice, x_append, x_b2s, xop, ev, evs, evParts, fillL, cellsL, Ai.get, Ai.put, stab, isNil?, if_false, if_true, addr?, int?, str?, agg?, bool?, shiftA, FnPost, xresL, xres1, tup, argEnv, ptr, Nat.reduceEqDiff, reduceIte, beq_self_eq_true, ne_eq, Nat.reduceAdd, Nat.reduceMul, Nat.reduceSub, abin_shl, abin_shr, load1V, loadV, storeV, cellsAt, getN, allocV, lenL, lenS, bnd, oneC, Value.oneCell', Nat.reduceLeDiff, Nat.reduceLT, exists_eq_left', forall_const, reduceCtorEq, app_new, app_new0, List.append_assoc, Int.reduceToNat, Int.reduceLT, Int.reduceLE, Int.reduceEq, Int.reduceNe, Int.reduceBEq, IntKind.bits, bne_self_eq_false, Int.reducePow, hne, bR_one, hle, hst, ptr]
  rintro ρ h1 ⟨g2, g5, g1, g4, e1⟩
  have hE1 : Ext h h1 := by rw [e1]; exact Ext.app _ _
  have hR1 : h1[h.length + 1]? = some (some ⟨true, bR (zs ++ List.replicate n 0)⟩) := by rw [e1, app_new]; rfl
  have hb1 : h1[h.length]? = some (some ⟨true, [ptr X 0]⟩) := by rw [e1, app_new0]; rfl
  clear e1
  have L1 := L.ext hE1
  have hl1 : h.length + 2 ≤ h1.length := by have := lt_of_get hR1; omega
  simp only [kSeq_normal, xcode_seq, xcode_region, x_mkfunc, x_mv, xop, ev, evs, g2, Ai.get, Option.bind_some, Option.map_some, xthen_some, stab, true_and, put, reduceIte, xops_nil, Nat.reduceEqDiff]
  rw [xcode_block, xcode_seq]
  have hRne : ∀ {h2 : AHeap}, Ext h1 h2 → h2[h.length + 1]? = some (some ⟨true, bR (zs ++ List.replicate n 0)⟩) := fun e => e.get hR1
  refine xcode_cut2 (fun ρ h' => get ρ 2 = some (ptr h.length 0) ∧ get ρ 5 = some (.slice (some ⟨h.length + 1, 0, none⟩) n (2 * n)) ∧ get ρ 6 = some (.func (.func 32) #[] #[ptr h.length 0]) ∧ Ext h h' ∧ ¬ hasN l sent 0 ∧
      h'[h.length + 1]? = some (some ⟨true, bR (flipZ l sent zs ++ List.replicate n 0)⟩) ∧ h'[h.length]? = some (some ⟨true, [ptr X 0]⟩))
    (fun ρ h' => get ρ 4 = some (.slice none 0 0) ∧ Ext h h' ∧ hasN l sent 0) ?_ ?_ ?_
  · unfold ptr at g2
    simp only [sx, x_box, x_alloc, x_bslice, x_slice, x_append, x_b2s, xop, ev, evs, evParts, fillL, cellsL, Ai.get, Ai.put, stab, isNil?, if_false, if_true, addr?, int?, str?, agg?, bool?, shiftA, FnPost, xresL, xres1, tup, argEnv, ptr, Nat.reduceEqDiff, reduceIte, beq_self_eq_true, ne_eq, Nat.reduceAdd, Nat.reduceMul, Nat.reduceSub, abin_shl, abin_shr, load1V, loadV, storeV, cellsAt, getN, setN, allocV, lenL, lenS, bnd, oneC, Value.oneCell', Nat.reduceLeDiff, Nat.reduceLT, exists_eq_left', forall_const, reduceCtorEq, app_new, app_new0, List.append_assoc, Int.reduceToNat, Int.reduceLT, Int.reduceLE, Int.reduceEq, Int.reduceNe, Int.reduceBEq, IntKind.bits, bne_self_eq_false, Int.reducePow, g2, g5, g1, g4]
    refine xcall (has_ok (k := 0) L1.obj hb1 L1.noise (by omega)) (by rfl) (by rfl) (by rfl) (by rfl) ?_
    rintro r k2 ⟨rfl, E2⟩
    have L2 := L1.ext E2
    by_cases hd : hasN l sent 0
    · simp only [sx, x_box, x_alloc, x_bslice, x_slice, x_append, x_b2s, xop, ev, evs, evParts, fillL, cellsL, Ai.get, Ai.put, stab, isNil?, if_false, if_true, addr?, int?, str?, agg?, bool?, shiftA, FnPost, xresL, xres1, tup, argEnv, ptr, Nat.reduceEqDiff, reduceIte, beq_self_eq_true, ne_eq, Nat.reduceAdd, Nat.reduceMul, Nat.reduceSub, abin_shl, abin_shr, load1V, loadV, storeV, cellsAt, getN, setN, allocV, lenL, lenS, bnd, oneC, Value.oneCell', Nat.reduceLeDiff, Nat.reduceLT, exists_eq_left', forall_const, reduceCtorEq, app_new, app_new0, List.append_assoc, Int.reduceToNat, Int.reduceLT, Int.reduceLE, Int.reduceEq, Int.reduceNe, Int.reduceBEq, IntKind.bits, bne_self_eq_false, Int.reducePow, hd, g2, g5, g1, g4, false_and, false_or]
      exact hE1.trans E2
    · simp only [sx, x_box, x_alloc, x_bslice, x_slice, x_append, x_b2s, xop, ev, evs, evParts, fillL, cellsL, Ai.get, Ai.put, stab, isNil?, if_false, if_true, addr?, int?, str?, agg?, bool?, shiftA, FnPost, xresL, xres1, tup, argEnv, ptr, Nat.reduceEqDiff, reduceIte, beq_self_eq_true, ne_eq, Nat.reduceAdd, Nat.reduceMul, Nat.reduceSub, abin_shl, abin_shr, load1V, loadV, storeV, cellsAt, getN, setN, allocV, lenL, lenS, bnd, oneC, Value.oneCell', Nat.reduceLeDiff, Nat.reduceLT, exists_eq_left', forall_const, reduceCtorEq, app_new, app_new0, List.append_assoc, Int.reduceToNat, Int.reduceLT, Int.reduceLE, Int.reduceEq, Int.reduceNe, Int.reduceBEq, IntKind.bits, bne_self_eq_false, Int.reducePow, hd, g2, g5, g1, g4]
      refine xcall (has_ok (k := 1) L2.obj (E2.get hb1) L2.noise (by omega)) (by rfl) (by rfl) (by rfl) (by rfl) ?_
      rintro r k3 ⟨rfl, E3⟩
      have L3 := L2.ext E3
      by_cases hf : hasN l sent 1
      · by_cases h0 : n = 0
        · subst h0
          have hz0 : zs = [] := List.eq_nil_of_length_eq_zero hzl
          subst hz0
          have hz1 : flipZ l sent [] = [] := List.eq_nil_of_length_eq_zero (flipZ_len l sent [])
          simp only [sx, x_box, x_alloc, x_bslice, x_slice, x_append, x_b2s, xop, ev, evs, evParts, fillL, cellsL, Ai.get, Ai.put, stab, isNil?, if_false, if_true, addr?, int?, str?, agg?, bool?, shiftA, FnPost, xresL, xres1, tup, argEnv, ptr, Nat.reduceEqDiff, reduceIte, beq_self_eq_true, ne_eq, Nat.reduceAdd, Nat.reduceMul, Nat.reduceSub, abin_shl, abin_shr, load1V, loadV, storeV, cellsAt, getN, setN, allocV, lenL, lenS, bnd, oneC, Value.oneCell', Nat.reduceLeDiff, Nat.reduceLT, exists_eq_left', forall_const, reduceCtorEq, app_new, app_new0, List.append_assoc, Int.reduceToNat, Int.reduceLT, Int.reduceLE, Int.reduceEq, Int.reduceNe, Int.reduceBEq, IntKind.bits, bne_self_eq_false, Int.reducePow, hd, hf, g2, g5, g1, g4, false_and, or_false, Int.natCast_zero, Int.lt_irrefl]
          exact ⟨hE1.trans (E2.trans E3), by rw [hz1]; exact (E2.trans E3).get hR1, (E2.trans E3).get hb1⟩
        · have hpos : (0 : Int) < n := by omega
          have hX3 := L3.obj
          have hb3 := (E2.trans E3).get hb1
          unfold lineC at hX3
          unfold ptr at hb3
          simp only [sx, x_box, x_alloc, x_bslice, x_slice, x_append, x_b2s, xop, ev, evs, evParts, fillL, cellsL, Ai.get, Ai.put, stab, isNil?, if_false, if_true, addr?, int?, str?, agg?, bool?, shiftA, FnPost, xresL, xres1, tup, argEnv, ptr, Nat.reduceEqDiff, reduceIte, beq_self_eq_true, ne_eq, Nat.reduceAdd, Nat.reduceMul, Nat.reduceSub, abin_shl, abin_shr, load1V, loadV, storeV, cellsAt, getN, setN, allocV, lenL, lenS, bnd, oneC, Value.oneCell', Nat.reduceLeDiff, Nat.reduceLT, exists_eq_left', forall_const, reduceCtorEq, app_new, app_new0, List.append_assoc, Int.reduceToNat, Int.reduceLT, Int.reduceLE, Int.reduceEq, Int.reduceNe, Int.reduceBEq, IntKind.bits, bne_self_eq_false, Int.reducePow, hd, hf, g2, g5, g1, g4, hpos, hX3, hb3]
          refine xcode_loop (fun m ρ h' => ∃ i, i + m = l.length ∧ get ρ 35 = some (.int .i64 (i : Nat)) ∧ get ρ 34 = some (.int .i64 l.length) ∧ get ρ 33 = some (.slice nq l.length nc) ∧ get ρ 2 = some (ptr h.length 0) ∧ get ρ 5 = some (.slice (some ⟨h.length + 1, 0, none⟩) n (2 * n)) ∧
            get ρ 1 = some (.slice qs n cs) ∧ get ρ 6 = some (.func (.func 32) #[] #[ptr h.length 0]) ∧ Ext h h' ∧ h'[h.length + 1]? = some (some ⟨true, bR (flipZ (l.take i) sent zs ++ List.replicate n 0)⟩) ∧ h'[h.length]? = some (some ⟨true, [ptr X 0]⟩)) l.length
            ⟨0, by simp, rfl, rfl, rfl, g2, g5, g1, rfl, hE1.trans (E2.trans E3), (E2.trans E3).get hR1, hb3⟩ ?_
          clear hX3 hb3 L1 L2 L3 g2 g5 g1 g4 E2 E3 hE1 hR1 hb1 hRne ρ k2 k3 h1 hl1
          rintro m ρ h5 ⟨i, him, g35, g34, g33, g2, g5, g1, g6, E5, hR5, hb5⟩
          have L5 := L.ext E5
          by_cases hlt : i < l.length
          · have hlt' : (i : Int) < l.length := by omega
            have hge : (0 : Int) ≤ i := by omega
            have hw1 : IntKind.i64.wrap ((i : Int) + 1) = ((i + 1 : Nat) : Int) := by rw [i64_wrap] <;> omega
            have hx : l[i]? = some l[i] := List.getElem?_eq_getElem hlt
            have hsn := flipZ_snoc l sent zs i _ hx
            have hxb := hnz _ (List.getElem_mem hlt)
            generalize l[i] = x at hx hsn hxb
            cases nq with
            | none =>
              have h9 := L.noise
              simp only [firstV] at h9
              rw [if_neg (by omega)] at h9
              cases h9
            | some a =>
              obtain ⟨a1, o, a2, a3⟩ := firstV_elem L5.noise (by decide) hlt
              rw [rowsN_get hx] at a3
              have hX5 := L5.obj
              have hlen : (flipZ (l.take i) sent zs).length = n := by rw [flipZ_len, hzl]
              have hbt := flipZ_bit (l.take i) (sent := sent) hbit
              generalize flipZ (l.take i) sent zs = fz at hR5 hsn hlen hbt
              have hRl := lt_of_get hR5
              have E6 : ∀ o : Option AObj, Ext h (h5 ++ [o]) := fun o => E5.trans (Ext.app _ _)
              unfold lineC at hX5
              unfold ptr at g2 hb5
              unfold Nz.cells at a3
              by_cases ha : x.at_ = sent
              · by_cases hk : x.kind = 1
                · have hn0 : ¬ (n : Int) = 0 := by omega
                  have hm1 : 0 ≤ x.bit.tmod n := Int.tmod_nonneg _ hxb
                  have hm2 : x.bit.tmod n < n := Int.tmod_lt_of_pos _ hpos
                  have hk2 : (x.bit.tmod n).toNat < fz.length := by omega
                  obtain ⟨z, hz1, hz2⟩ : ∃ z, fz[(x.bit.tmod n).toNat]? = some z ∧ (z = 0 ∨ z = 1) := ⟨_, List.getElem?_eq_getElem hk2, hbt _ (List.getElem_mem hk2)⟩
                  have hz3 : (bR (fz ++ List.replicate n 0))[(x.bit.tmod n).toNat]? = some (.int .u8 z) := by rw [bR_get, List.getElem?_append_left hk2, hz1]; rfl
                  have hle : (x.bit.tmod n).toNat + 1 ≤ (bR (fz ++ List.replicate n 0)).length := by simp [bR_len]; omega
                  have hset : ∀ y, (fz ++ List.replicate n 0).set (x.bit.tmod n).toNat y = fz.set (x.bit.tmod n).toNat y ++ List.replicate n 0 := fun y => List.set_append_left _ _ hk2
                  have hfl : flip1 sent fz x = fz.set (x.bit.tmod n).toNat (1 - z) := by
                    unfold flip1; rw [if_pos ⟨ha, hk⟩, hlen]; congr 2; simp [List.getD_eq_getElem?_getD, hz1]
                  rcases hz2 with rfl | rfl
                  · simp only [sx, x_box, x_alloc, x_bslice, x_slice, x_append, x_b2s, xop, ev, evs, evParts, fillL, cellsL, Ai.get, Ai.put, stab, isNil?, if_false, if_true, addr?, int?, str?, agg?, bool?, shiftA, FnPost, xresL, xres1, tup, argEnv, ptr, Nat.reduceEqDiff, reduceIte, beq_self_eq_true, ne_eq, Nat.reduceAdd, Nat.reduceMul, Nat.reduceSub, abin_shl, abin_shr, load1V, loadV, storeV, cellsAt, setN, allocV, lenL, lenS, bnd, oneC, Value.oneCell', Nat.reduceLeDiff, Nat.reduceLT, exists_eq_left', forall_const, reduceCtorEq, app_new, app_new0, List.append_assoc, Int.reduceToNat, Int.reduceLT, Int.reduceLE, Int.reduceEq, Int.reduceNe, Int.reduceBEq, IntKind.bits, bne_self_eq_false, Int.reducePow, g35, g34, g33, g2, g5, g1, g6, hlt', hge, a1, a2, a3, app_old hb5, app_old hX5, app_old hR5, ha, hk, hn0, hm1, hm2, hz3, abin_xor0, Nat.mul_one, hle, bR_set, app_set hR5, hset, hw1, false_and, or_false]
                    refine ⟨m - 1, by omega, i + 1, by omega, rfl, ((E5.set (by omega) _).trans (Ext.app _ _)), ?_, ?_⟩
                    · rw [app_old (set_same hR5 _), hsn, hfl]; rfl
                    · rw [app_old ((set_ne (by omega) _).trans hb5)]
                  · simp only [sx, x_box, x_alloc, x_bslice, x_slice, x_append, x_b2s, xop, ev, evs, evParts, fillL, cellsL, Ai.get, Ai.put, stab, isNil?, if_false, if_true, addr?, int?, str?, agg?, bool?, shiftA, FnPost, xresL, xres1, tup, argEnv, ptr, Nat.reduceEqDiff, reduceIte, beq_self_eq_true, ne_eq, Nat.reduceAdd, Nat.reduceMul, Nat.reduceSub, abin_shl, abin_shr, load1V, loadV, storeV, cellsAt, setN, allocV, lenL, lenS, bnd, oneC, Value.oneCell', Nat.reduceLeDiff, Nat.reduceLT, exists_eq_left', forall_const, reduceCtorEq, app_new, app_new0, List.append_assoc, Int.reduceToNat, Int.reduceLT, Int.reduceLE, Int.reduceEq, Int.reduceNe, Int.reduceBEq, IntKind.bits, bne_self_eq_false, Int.reducePow, g35, g34, g33, g2, g5, g1, g6, hlt', hge, a1, a2, a3, app_old hb5, app_old hX5, app_old hR5, ha, hk, hn0, hm1, hm2, hz3, abin_xor1, Nat.mul_one, hle, bR_set, app_set hR5, hset, hw1, false_and, or_false]
                    refine ⟨m - 1, by omega, i + 1, by omega, rfl, ((E5.set (by omega) _).trans (Ext.app _ _)), ?_, ?_⟩
                    · rw [app_old (set_same hR5 _), hsn, hfl]; rfl
                    · rw [app_old ((set_ne (by omega) _).trans hb5)]
                · have hfl : flip1 sent fz x = fz := by unfold flip1; rw [if_neg (fun h => hk h.2)]
                  simp only [sx, x_box, x_alloc, x_bslice, x_slice, x_append, x_b2s, xop, ev, evs, evParts, fillL, cellsL, Ai.get, Ai.put, stab, isNil?, if_false, if_true, addr?, int?, str?, agg?, bool?, shiftA, FnPost, xresL, xres1, tup, argEnv, ptr, Nat.reduceEqDiff, reduceIte, beq_self_eq_true, ne_eq, Nat.reduceAdd, Nat.reduceMul, Nat.reduceSub, abin_shl, abin_shr, load1V, loadV, storeV, cellsAt, setN, allocV, lenL, lenS, bnd, oneC, Value.oneCell', Nat.reduceLeDiff, Nat.reduceLT, exists_eq_left', forall_const, reduceCtorEq, app_new, app_new0, List.append_assoc, Int.reduceToNat, Int.reduceLT, Int.reduceLE, Int.reduceEq, Int.reduceNe, Int.reduceBEq, IntKind.bits, bne_self_eq_false, Int.reducePow, g35, g34, g33, g2, g5, g1, g6, hlt', hge, a1, a2, a3, app_old hb5, app_old hX5, ha, hk, hw1, false_and, or_false]
                  exact ⟨m - 1, by omega, i + 1, by omega, rfl, E6 _, by rw [app_old hR5, hsn, hfl]⟩
              · have hfl : flip1 sent fz x = fz := by unfold flip1; rw [if_neg (fun h => ha h.1)]
                simp only [sx, x_box, x_alloc, x_bslice, x_slice, x_append, x_b2s, xop, ev, evs, evParts, fillL, cellsL, Ai.get, Ai.put, stab, isNil?, if_false, if_true, addr?, int?, str?, agg?, bool?, shiftA, FnPost, xresL, xres1, tup, argEnv, ptr, Nat.reduceEqDiff, reduceIte, beq_self_eq_true, ne_eq, Nat.reduceAdd, Nat.reduceMul, Nat.reduceSub, abin_shl, abin_shr, load1V, loadV, storeV, cellsAt, setN, allocV, lenL, lenS, bnd, oneC, Value.oneCell', Nat.reduceLeDiff, Nat.reduceLT, exists_eq_left', forall_const, reduceCtorEq, app_new, app_new0, List.append_assoc, Int.reduceToNat, Int.reduceLT, Int.reduceLE, Int.reduceEq, Int.reduceNe, Int.reduceBEq, IntKind.bits, bne_self_eq_false, Int.reducePow, g35, g34, g33, g2, g5, g1, g6, hlt', hge, a1, a2, a3, app_old hb5, app_old hX5, ha, hw1, false_and, or_false]
                exact ⟨m - 1, by omega, i + 1, by omega, rfl, E6 _, by rw [app_old hR5, hsn, hfl]⟩
          · have hlt' : ¬ (i : Int) < l.length := by omega
            have : i = l.length := by omega
            subst this
            rw [List.take_length] at hR5
            simp only [sx, x_box, x_alloc, x_bslice, x_slice, x_append, x_b2s, xop, ev, evs, evParts, fillL, cellsL, Ai.get, Ai.put, stab, isNil?, if_false, if_true, addr?, int?, str?, agg?, bool?, shiftA, FnPost, xresL, xres1, tup, argEnv, ptr, Nat.reduceEqDiff, reduceIte, beq_self_eq_true, ne_eq, Nat.reduceAdd, Nat.reduceMul, Nat.reduceSub, abin_shl, abin_shr, load1V, loadV, storeV, cellsAt, getN, setN, allocV, lenL, lenS, bnd, oneC, Value.oneCell', Nat.reduceLeDiff, Nat.reduceLT, exists_eq_left', forall_const, reduceCtorEq, app_new, app_new0, List.append_assoc, Int.reduceToNat, Int.reduceLT, Int.reduceLE, Int.reduceEq, Int.reduceNe, Int.reduceBEq, IntKind.bits, bne_self_eq_false, Int.reducePow, hd, g35, g34, g33, g2, g5, g1, g6, hlt', false_and, or_false]
            exact ⟨E5, hR5, hb5⟩
      · simp only [sx, x_box, x_alloc, x_bslice, x_slice, x_append, x_b2s, xop, ev, evs, evParts, fillL, cellsL, Ai.get, Ai.put, stab, isNil?, if_false, if_true, addr?, int?, str?, agg?, bool?, shiftA, FnPost, xresL, xres1, tup, argEnv, ptr, Nat.reduceEqDiff, reduceIte, beq_self_eq_true, ne_eq, Nat.reduceAdd, Nat.reduceMul, Nat.reduceSub, abin_shl, abin_shr, load1V, loadV, storeV, cellsAt, getN, setN, allocV, lenL, lenS, bnd, oneC, Value.oneCell', Nat.reduceLeDiff, Nat.reduceLT, exists_eq_left', forall_const, reduceCtorEq, app_new, app_new0, List.append_assoc, Int.reduceToNat, Int.reduceLT, Int.reduceLE, Int.reduceEq, Int.reduceNe, Int.reduceBEq, IntKind.bits, bne_self_eq_false, Int.reducePow, hd, hf, g2, g5, g1, g4, false_and, or_false]
        exact ⟨hE1.trans (E2.trans E3), by rw [flipZ_none hf]; exact (E2.trans E3).get hR1, (E2.trans E3).get hb1⟩
  · rintro ρ h2 ⟨g2, g5, g6, E2, hd, hR2, hb2⟩
    have L2 := L.ext E2
    have hfl := flipZ_len l sent zs
    rw [hzl] at hfl
    have hfb := flipZ_bit l (sent := sent) hbit
    simp only [sx, x_box, x_alloc, x_bslice, x_slice, x_append, x_b2s, xop, ev, evs, evParts, fillL, cellsL, Ai.get, Ai.put, stab, isNil?, if_false, if_true, addr?, int?, str?, agg?, bool?, shiftA, FnPost, xresL, xres1, tup, argEnv, ptr, Nat.reduceEqDiff, reduceIte, beq_self_eq_true, ne_eq, Nat.reduceAdd, Nat.reduceMul, Nat.reduceSub, abin_shl, abin_shr, load1V, loadV, storeV, cellsAt, getN, setN, allocV, lenL, lenS, bnd, oneC, Value.oneCell', Nat.reduceLeDiff, Nat.reduceLT, exists_eq_left', forall_const, reduceCtorEq, app_new, app_new0, List.append_assoc, Int.reduceToNat, Int.reduceLT, Int.reduceLE, Int.reduceEq, Int.reduceNe, Int.reduceBEq, IntKind.bits, bne_self_eq_false, Int.reducePow, g2, g5, g6]
    refine xcall (has_ok (k := 2) L2.obj hb2 L2.noise (by omega)) (by rfl) (by rfl) (by rfl) (by rfl) ?_
    rintro r h3 ⟨rfl, E3⟩
    have hR3 := E3.get hR2
    have hRl := lt_of_get hR3
    have hu : ¬ unk ≤ 2 * n := by unfold unk; omega
    by_cases ht : hasN l sent 2
    · have hrem : remZ l sent zs = flipZ l sent zs ++ flipZ l sent zs := by unfold remZ; rw [if_neg hd, if_pos ht]
      rw [hrem]
      by_cases h0 : n = 0
      · subst h0
        have hz1 : flipZ l sent zs = [] := List.eq_nil_of_length_eq_zero hfl
        rw [hz1] at hR3 ⊢
        simp only [sx, x_box, x_alloc, x_bslice, x_slice, x_append, x_b2s, xop, ev, evs, evParts, fillL, cellsL, Ai.get, Ai.put, stab, isNil?, if_false, if_true, addr?, int?, str?, agg?, bool?, shiftA, FnPost, xresL, xres1, tup, argEnv, ptr, Nat.reduceEqDiff, reduceIte, beq_self_eq_true, ne_eq, Nat.reduceAdd, Nat.reduceMul, Nat.reduceSub, abin_shl, abin_shr, load1V, loadV, storeV, cellsAt, getN, setN, allocV, lenL, lenS, bnd, oneC, Value.oneCell', Nat.reduceLeDiff, Nat.reduceLT, exists_eq_left', forall_const, reduceCtorEq, app_new, app_new0, List.append_assoc, Int.reduceToNat, Int.reduceLT, Int.reduceLE, Int.reduceEq, Int.reduceNe, Int.reduceBEq, IntKind.bits, bne_self_eq_false, Int.reducePow, ht, g5, lenV, firstV, appendV, Nat.zero_le]
        exact ⟨E2.trans E3, .inr ⟨h.length + 1, 2 * 0, _, rfl, by decide, hR3, rfl⟩, fun A hA => by cases hA; exact ⟨(by show h.length ≤ h.length + 1; omega), hRl⟩⟩
      · have hf3 : firstV 1 h3 n (.slice (some ⟨h.length + 1, 0, none⟩) n (2 * n)) = some (bR (flipZ l sent zs)) := by
          simp only [firstV]
          rw [if_neg h0]
          simp only [ne_eq, not_true_eq_false, if_false, cellsAt, hR3, Option.bind_some]
          refine (getN_eq _ _ _ _).2 ⟨by simp only [bR_len, List.length_append, hfl]; split <;> omega, ?_⟩
          rw [Nat.mul_one, List.drop_zero, bR_take, List.take_left' hfl]
        have c1 : (n + n) * 1 ≤ 140737488355328 := by omega
        have c2 : n + n ≤ 2 * n := by omega
        have c3 : ¬ ((n + n) * 1 > 140737488355328 ∨ n + n > 9223372036854775807) := by omega
        have c4 : n * 1 + (bR (flipZ l sent zs)).length ≤ (bR (flipZ l sent zs ++ List.replicate n 0)).length := by simp [bR_len]; omega
        have c5 : setN (bR (flipZ l sent zs ++ List.replicate n 0)) (n * 1) (bR (flipZ l sent zs)) = bR (flipZ l sent zs ++ flipZ l sent zs) := by
          rw [Nat.mul_one]; exact setN_mid (by simp [hfl]) hfl
        simp only [sx, x_box, x_alloc, x_bslice, x_slice, x_append, x_b2s, xop, ev, evs, evParts, fillL, cellsL, Ai.get, Ai.put, stab, isNil?, if_false, if_true, addr?, int?, str?, agg?, bool?, shiftA, FnPost, xresL, xres1, tup, argEnv, ptr, Nat.reduceEqDiff, reduceIte, beq_self_eq_true, ne_eq, Nat.reduceAdd, Nat.reduceMul, Nat.reduceSub, abin_shl, abin_shr, load1V, loadV, storeV, cellsAt, getN, allocV, lenL, lenS, bnd, oneC, Value.oneCell', Nat.reduceLeDiff, Nat.reduceLT, exists_eq_left', forall_const, reduceCtorEq, app_new, app_new0, List.append_assoc, Int.reduceToNat, Int.reduceLT, Int.reduceLE, Int.reduceEq, Int.reduceNe, Int.reduceBEq, IntKind.bits, bne_self_eq_false, Int.reducePow, ht, g5, lenV, hf3, appendV, h0, hu, c2, c3, hR3, bR_one, c4, c5, Nat.lt_add_one]
        have hlen2 : (flipZ l sent zs ++ flipZ l sent zs).length = n + n := by simp [hfl]
        exact ⟨(E2.trans E3).set (by omega) _, .inr ⟨h.length + 1, 2 * n, _, by rw [hlen2], by unfold unk; omega, set_same hR3 _, getN_all _ _ (by rw [bR_len])⟩, fun A hA => by cases hA; exact ⟨(by show h.length ≤ h.length + 1; omega), hRl⟩⟩
    · have hrem : remZ l sent zs = flipZ l sent zs := by unfold remZ; rw [if_neg hd, if_neg ht]
      rw [hrem]
      simp only [sx, x_box, x_alloc, x_bslice, x_slice, x_append, x_b2s, xop, ev, evs, evParts, fillL, cellsL, Ai.get, Ai.put, stab, isNil?, if_false, if_true, addr?, int?, str?, agg?, bool?, shiftA, FnPost, xresL, xres1, tup, argEnv, ptr, Nat.reduceEqDiff, reduceIte, beq_self_eq_true, ne_eq, Nat.reduceAdd, Nat.reduceMul, Nat.reduceSub, abin_shl, abin_shr, load1V, loadV, storeV, cellsAt, getN, setN, allocV, lenL, lenS, bnd, oneC, Value.oneCell', Nat.reduceLeDiff, Nat.reduceLT, exists_eq_left', forall_const, reduceCtorEq, app_new, app_new0, List.append_assoc, Int.reduceToNat, Int.reduceLT, Int.reduceLE, Int.reduceEq, Int.reduceNe, Int.reduceBEq, IntKind.bits, bne_self_eq_false, Int.reducePow, ht, g5]
      refine ⟨E2.trans E3, .inr ⟨h.length + 1, 2 * n, _, by rw [hfl], by unfold unk; omega, hR3, ?_⟩, fun A hA => by cases hA; exact ⟨(by show h.length ≤ h.length + 1; omega), hRl⟩⟩
      refine (getN_eq _ _ _ _).2 ⟨by simp only [bR_len, List.length_append]; split <;> omega, ?_⟩
      rw [List.drop_zero, bR_take, List.take_left]
  · rintro ρ h2 ⟨g4, E2, hd⟩
    simp only [sx, x_box, x_alloc, x_bslice, x_slice, x_append, x_b2s, xop, ev, evs, evParts, fillL, cellsL, Ai.get, Ai.put, stab, isNil?, if_false, if_true, addr?, int?, str?, agg?, bool?, shiftA, FnPost, xresL, xres1, tup, argEnv, ptr, Nat.reduceEqDiff, reduceIte, beq_self_eq_true, ne_eq, Nat.reduceAdd, Nat.reduceMul, Nat.reduceSub, abin_shl, abin_shr, load1V, loadV, storeV, cellsAt, getN, setN, allocV, lenL, lenS, bnd, oneC, Value.oneCell', Nat.reduceLeDiff, Nat.reduceLT, exists_eq_left', forall_const, reduceCtorEq, app_new, app_new0, List.append_assoc, Int.reduceToNat, Int.reduceLT, Int.reduceLE, Int.reduceEq, Int.reduceNe, Int.reduceBEq, IntKind.bits, bne_self_eq_false, Int.reducePow, g4]
    exact ⟨E2, .inl ⟨rfl, by unfold remZ; rw [if_pos hd]⟩, fun A hA => by cases hA⟩
end Go.Proofs.Ytemphcppnjlkcaa
