import Derived.Test.YtimfgagdfmmeeaaDoorT6
import Derived.Test.YtimfgagdfmmeeaaDoorT2
set_option linter.unusedVariables false
set_option linter.unusedSimpArgs false
namespace Go.Proofs.YtimfgagdfmmeeaaDoor
open Go Go.Ai Go.Proofs

theorem read_small {s : Sc} {N : Nat} {b : Int} (o : s.Ok N) (h : ∀ z ∈ s.fo, z.length ≤ 300) : ∀ z ∈ (s.read b).fo, z.length ≤ 300 := by
  unfold Sc.read
  split
  · unfold Sc.one Sc.keep
    split <;> exact h
  · unfold Sc.zero Sc.fin Sc.keep
    split
    · exact h
    split
    · split
      · exact h
      split
      · exact h
      · intro z hz
        rcases List.mem_append.1 hz with hz | hz
        · exact h z hz
        · rw [List.mem_singleton.1 hz, octs_len, List.length_take]
          have := o.ke
          simp only at this ⊢
          omega
    · exact h
theorem feed_small : ∀ {zs : List Int} {s : Sc} {N : Nat}, s.Ok N → Bits zs → (∀ z ∈ s.fo, z.length ≤ 300) → ∀ z ∈ (s.feed zs).fo, z.length ≤ 300
  | [], s, N, _, _, h => h
  | b :: zs, s, N, o, hb, h => feed_small (zs := zs) (o.read (hb b List.mem_cons_self)) hb.tail (read_small o h)
/-- contents appended -/
theorem FN.append {K : Env → AHeap → Prop} {r : List XOper} {ρ : Env} {h : AHeap} {ls news : List (List Int)} {d : Option Nat} {s x : XA} {sl : Value} {q : Option Addr} {c : Nat} (L : FN h sl ls)
    (hs : ev ρ s = some sl) (hx : ev ρ x = some (.slice q news.length c)) (V : FsV h q news) (hb : ls.length + news.length ≤ 1000000000)
    (hK : ∀ sl' h', FN h' sl' (ls ++ news) → Fr (fun B => slB sl = some B) h h' → Frz h h' → (∀ A, slB sl' = some A → slB sl = some A ∨ h.length ≤ A) → xops Tryd.prog K r (put d sl' ρ) h') :
    xops Tryd.prog K (⟨d, none, .append 1 24 [.slice none 0 0] s x, []⟩ :: r) ρ h := by
  obtain ⟨rows, hf, hR⟩ := V
  have hrl := hR.len
  obtain ⟨rs, hrs, hO⟩ : ∃ rs, FsR h rs ls ∧ RetO 1 h sl ls.length rs := by
    rcases L with ⟨rfl, rfl⟩ | ⟨A, rs, rfl, hA, hR2⟩
    · exact ⟨[], trivial, rfl, .inl ⟨rfl, rfl⟩⟩
    · exact ⟨rs, hR2, by rw [hR2.len, Nat.mul_one], .inr (.inr ⟨A, 0, rs, rfl, hA, getN_all _ _ (by rw [hR2.len, Nat.mul_one])⟩)⟩
  have hfz : ∀ A cs, slB sl = some A → h[A]? ≠ some (some ⟨false, cs⟩) := fun A cs hA e => by
    obtain ⟨c2, h2⟩ := L.own hA
    rw [h2] at e; cases e
  refine append_run (k := 1) (by_ := 24) (n := ls.length) (m := news.length) (rows := rs) (news := rows) (sl := sl) (xv := .slice q news.length c) rfl (by decide) hs hx rfl (show firstV 1 h news.length (.slice q news.length c) = some rows from by cases q <;> exact hf) (by rw [hrl, Nat.mul_one]) hR.all hO (by omega) (by omega) (fun h0 => ?_) (fun h0 h' A' hA' hg hl' hfr => ?_)
  · have : news = [] := List.eq_nil_of_length_eq_zero h0
    subst this
    exact hK sl h (by rw [List.append_nil]; exact L) (Fr.refl _ _) (Frz.refl _) fun A hA => .inl hA
  · have F : Fr (fun B => slB sl = some B) h h' := ⟨by omega, fun B hB hn => hfr B hB hn⟩
    have z : Frz h h' := F.frz fun B cs hB => hfz B cs hB
    refine hK _ h' (.inr ⟨A', rs ++ rows, by rw [List.length_append], hg, (hrs.frz z).app (hR.frz z)⟩) F z fun A hA => ?_
    cases hA; exact .inr hA'
theorem FN.full {K : Env → AHeap → Prop} {r : List XOper} {ρ : Env} {h : AHeap} {ls : List (List Int)} {d : Option Nat} {x hi mx : XA} {sl : Value} (L : FN h sl ls)
    (hx : ev ρ x = some sl) (hhi : ev ρ hi = some (.int .i64 (ls.length : Nat))) (hmx : ev ρ mx = some (.int .i64 (ls.length : Nat))) (hl : ls.length ≤ 1000000000)
    (hK : ∀ q, FsV h q ls → xops Tryd.prog K r (put d (.slice q ls.length ls.length) ρ) h) :
    xops Tryd.prog K (⟨d, none, .slice 1 x none (some hi) (some mx), []⟩ :: r) ρ h := by
  have b1 : bnd ρ (some mx) 0 ls.length = some ls.length := bnd_some hmx (Nat.le_refl _)
  have b2 : bnd ρ (some hi) 0 ls.length = some ls.length := bnd_some hhi (Nat.le_refl _)
  have b3 : ∀ t, bnd ρ none 0 t = some 0 := fun _ => rfl
  have hu : ¬ unk ≤ ls.length := by unfold unk; omega
  rw [x_slice]
  rcases L with ⟨rfl, rfl⟩ | ⟨A, rows, rfl, hA, hR⟩
  · simp only [xop, hx, Option.bind_some]
    rw [if_neg (by decide)]
    have b1 : bnd ρ (some mx) 0 0 = some 0 := bnd_some hmx (Nat.le_refl _)
    have b2 : bnd ρ (some hi) 0 0 = some 0 := bnd_some hhi (Nat.le_refl _)
    simp only [b1, b2, b3, Option.bind_some]
    simp only [reduceCtorEq, and_false, if_false, xthen_some, stab, true_and]
    exact hK none ⟨[], rfl, trivial⟩
  · simp only [xop, hx, Option.bind_some]
    rw [if_pos (by omega)]
    simp only [Option.isSome_some, if_true, b1, b2, b3, Option.bind_some]
    simp only [ne_eq, not_true_eq_false, reduceCtorEq, false_or, or_self, hu, if_false, xthen_some, stab, true_and, Nat.zero_mul, shiftA, Nat.add_zero, Nat.sub_zero, ite_self]
    refine hK _ ⟨rows, ?_, hR⟩
    simp only [firstV]
    split
    · rename_i h0
      have e : rows = [] := List.eq_nil_of_length_eq_zero (by rw [hR.len]; exact h0)
      rw [e]
    · simp only [ne_eq, not_true_eq_false, if_false, cellsAt, hA, Option.bind_some, Nat.mul_one]
      exact getN_all _ _ hR.len.symm
theorem FN.shp {h : AHeap} {sl : Value} {ls : List (List Int)} (l : FN h sl ls) : ∃ q c, sl = .slice q ls.length c := by
  rcases l with ⟨rfl, rfl⟩ | ⟨A, rows, rfl, -⟩
  · exact ⟨none, 0, rfl⟩
  · exact ⟨_, _, rfl⟩
def SpI (g3 : AHeap) (Y : Nat) (q : Option Addr) (n c S : Nat) (all : List Int) (vw ve vh : Value) (m : Nat) (ρ : Env) (h : AHeap) : Prop :=
  ∃ (i k : Nat) (kv fv : Value) (qr : Option Addr), i + m = n + 1 ∧ get ρ 15 = some (.int .i64 (i : Nat)) ∧ get ρ 1 = some (.slice q n c) ∧ get ρ 12 = some (.pointer (some ⟨Y, 0, none⟩)) ∧ get ρ 13 = some fv ∧ get ρ 14 = some (.slice qr (S - k) (S - k)) ∧ get ρ 6 = some vw ∧ get ρ 7 = some ve ∧ get ρ 8 = some vh ∧
  k ≤ S ∧ (i = n + 1 → k = S) ∧ Kp g3 h ∧ SAt h Y { Sc.new.feed (all.take k) with fo := [] } kv (.slice none 0 0) ∧ FN h fv (Sc.new.feed (all.take k)).fo ∧ (∀ B, ftS Y kv (.slice none 0 0) B → g3.length ≤ B) ∧ (∀ A, slB fv = some A → g3.length ≤ A ∧ ¬ ftS Y kv (.slice none 0 0) A) ∧ firstV 1 g3 (S - k) (.slice qr (S - k) (S - k)) = some (bR (all.drop k)) ∧ ∀ a, qr = some a → a.spot = none ∧ a.block < g3.length
def SpM (g : AHeap) (Y : Nat) (q : Option Addr) (n c S i k : Nat) (fv : Value) (qr : Option Addr) (vw ve vh : Value) (ρ : Env) (h : AHeap) : Prop :=
  ∃ u : Nat, get ρ 16 = some (.int .i64 (u : Nat)) ∧ u ≤ S - k ∧ (i = n → u = S - k) ∧ get ρ 15 = some (.int .i64 (i : Nat)) ∧ get ρ 1 = some (.slice q n c) ∧ get ρ 12 = some (.pointer (some ⟨Y, 0, none⟩)) ∧ get ρ 13 = some fv ∧ get ρ 14 = some (.slice qr (S - k) (S - k)) ∧ get ρ 6 = some vw ∧ get ρ 7 = some ve ∧ get ρ 8 = some vh ∧ h = g
def SpE (g3 : AHeap) (Y : Nat) (all : List Int) (vw ve vh : Value) (ρ : Env) (h : AHeap) : Prop :=
  ∃ (kv fv : Value), get ρ 12 = some (.pointer (some ⟨Y, 0, none⟩)) ∧ get ρ 13 = some fv ∧ get ρ 6 = some vw ∧ get ρ 7 = some ve ∧ get ρ 8 = some vh ∧
  Kp g3 h ∧ SAt h Y { Sc.new.feed all with fo := [] } kv (.slice none 0 0) ∧ FN h fv (Sc.new.feed all).fo
set_option maxHeartbeats 8000000 in
set_option maxRecDepth 20000 in
theorem scan_law {h : AHeap} {q : Option Addr} {n c : Nat} {zs : List Int} {s : ByteArray} (hF : Fl h)
    (hf : firstV 1 h n (.slice q n c) = some (bR zs)) (hn : n ≤ 9223372036854775807) (hz : ∀ z ∈ zs, 0 ≤ z ∧ z ≤ 255) :
    Valid Tryd.prog 4 [.string s, .slice q n c] h fun r h' => r = .bool true := by
  refine v4 (by simp) ?_
  have hzl := firstV_len hf
  rw [bR_len, Nat.mul_one] at hzl
  by_cases hbs : 1500 < s.size
  · have hbs' : (1500 : Int) < (s.size : Nat) := by omega
    simp only [X4, sx, x_box, x_alloc, x_bslice, x_slice, x_append, x_appz, x_b2s, x_s2b, x_mark, xop, ev, evs, evParts, fillL, cellsL, Ai.get, Ai.put, stab, isNil?, if_false, if_true, addr?, int?, str?, agg?, bool?, shiftA, FnPost, xresL, xres1, tup, argEnv, ptr, Nat.reduceEqDiff, reduceIte, beq_self_eq_true, ne_eq, Nat.reduceAdd, Nat.reduceMul, Nat.reduceSub, abin_shl, abin_shr, load1V, loadV, storeV, cellsAt, getN, setN, allocV, lenL, lenS, bnd, oneC, Value.oneCell', Nat.reduceLeDiff, Nat.reduceLT, exists_eq_left', forall_const, reduceCtorEq, app_new, app_new0, List.append_assoc, Int.reduceToNat, Int.reduceLT, Int.reduceLE, Int.reduceEq, Int.reduceNe, Int.reduceBEq, IntKind.bits, bne_self_eq_false, Int.reducePow, hbs']
    refine xcall (lives_ok hF) (by rfl) (by rfl) (by rfl) (by rfl) ?_
    rintro r h' ⟨rfl, -⟩
    simp only [sx, x_box, x_alloc, x_bslice, x_slice, x_append, x_appz, x_b2s, x_s2b, x_mark, xop, ev, evs, evParts, fillL, cellsL, Ai.get, Ai.put, stab, isNil?, if_false, if_true, addr?, int?, str?, agg?, bool?, shiftA, FnPost, xresL, xres1, tup, argEnv, ptr, Nat.reduceEqDiff, reduceIte, beq_self_eq_true, ne_eq, Nat.reduceAdd, Nat.reduceMul, Nat.reduceSub, abin_shl, abin_shr, load1V, loadV, storeV, cellsAt, getN, setN, allocV, lenL, lenS, bnd, oneC, Value.oneCell', Nat.reduceLeDiff, Nat.reduceLT, exists_eq_left', forall_const, reduceCtorEq, app_new, app_new0, List.append_assoc, Int.reduceToNat, Int.reduceLT, Int.reduceLE, Int.reduceEq, Int.reduceNe, Int.reduceBEq, IntKind.bits, bne_self_eq_false, Int.reducePow]
  have hbs' : ¬ (1500 : Int) < (s.size : Nat) := by omega
  by_cases hbig : 20 < n
  · have hbig' : (20 : Int) < (n : Nat) := by omega
    simp only [X4, sx, x_box, x_alloc, x_bslice, x_slice, x_append, x_appz, x_b2s, x_s2b, x_mark, xop, ev, evs, evParts, fillL, cellsL, Ai.get, Ai.put, stab, isNil?, if_false, if_true, addr?, int?, str?, agg?, bool?, shiftA, FnPost, xresL, xres1, tup, argEnv, ptr, Nat.reduceEqDiff, reduceIte, beq_self_eq_true, ne_eq, Nat.reduceAdd, Nat.reduceMul, Nat.reduceSub, abin_shl, abin_shr, load1V, loadV, storeV, cellsAt, getN, setN, allocV, lenL, lenS, bnd, oneC, Value.oneCell', Nat.reduceLeDiff, Nat.reduceLT, exists_eq_left', forall_const, reduceCtorEq, app_new, app_new0, List.append_assoc, Int.reduceToNat, Int.reduceLT, Int.reduceLE, Int.reduceEq, Int.reduceNe, Int.reduceBEq, IntKind.bits, bne_self_eq_false, Int.reducePow, hbs', hbig']
    refine xcall (lives_ok hF) (by rfl) (by rfl) (by rfl) (by rfl) ?_
    rintro r h' ⟨rfl, -⟩
    simp only [sx, x_box, x_alloc, x_bslice, x_slice, x_append, x_appz, x_b2s, x_s2b, x_mark, xop, ev, evs, evParts, fillL, cellsL, Ai.get, Ai.put, stab, isNil?, if_false, if_true, addr?, int?, str?, agg?, bool?, shiftA, FnPost, xresL, xres1, tup, argEnv, ptr, Nat.reduceEqDiff, reduceIte, beq_self_eq_true, ne_eq, Nat.reduceAdd, Nat.reduceMul, Nat.reduceSub, abin_shl, abin_shr, load1V, loadV, storeV, cellsAt, getN, setN, allocV, lenL, lenS, bnd, oneC, Value.oneCell', Nat.reduceLeDiff, Nat.reduceLT, exists_eq_left', forall_const, reduceCtorEq, app_new, app_new0, List.append_assoc, Int.reduceToNat, Int.reduceLT, Int.reduceLE, Int.reduceEq, Int.reduceNe, Int.reduceBEq, IntKind.bits, bne_self_eq_false, Int.reducePow]
  have hbig' : ¬ (20 : Int) < (n : Nat) := by omega
  simp only [X4, sx, x_box, x_alloc, x_bslice, x_slice, x_append, x_appz, x_b2s, x_s2b, x_mark, xop, ev, evs, evParts, fillL, cellsL, Ai.get, Ai.put, stab, isNil?, if_false, if_true, addr?, int?, str?, agg?, bool?, shiftA, FnPost, xresL, xres1, tup, argEnv, ptr, Nat.reduceEqDiff, reduceIte, beq_self_eq_true, ne_eq, Nat.reduceAdd, Nat.reduceMul, Nat.reduceSub, abin_shl, abin_shr, load1V, loadV, storeV, cellsAt, getN, setN, allocV, lenL, lenS, bnd, oneC, Value.oneCell', Nat.reduceLeDiff, Nat.reduceLT, exists_eq_left', forall_const, reduceCtorEq, app_new, app_new0, List.append_assoc, Int.reduceToNat, Int.reduceLT, Int.reduceLE, Int.reduceEq, Int.reduceNe, Int.reduceBEq, IntKind.bits, bne_self_eq_false, Int.reducePow, hbs', hbig']
  refine xcall (stream_ok (s := s) (by omega)) (by rfl) (by rfl) (by rfl) (by rfl) ?_
  rintro r g ⟨rfl, eg⟩
  have Kg : Kp h g := by rw [eg]; exact Kp.app _ _
  have hlg : h.length < g.length := by rw [eg]; simp
  have hS : firstV 1 g s.size (.slice (some ⟨h.length, 0, none⟩) s.size s.size) = some (bR (streamOf s)) := by
    rw [eg]
    simp only [firstV, cellsAt, app_new0]
    split
    · rename_i h0
      have : streamOf s = [] := List.eq_nil_of_length_eq_zero (by rw [streamOf_len]; exact h0)
      rw [this]; rfl
    · simp only [ne_eq, not_true_eq_false, if_false, Option.map_some, Option.bind_some]
      rw [Nat.mul_one]
      exact getN_all _ _ (by rw [bR_len, streamOf_len])
  clear eg
  have hsb : Bits (streamOf s) := streamOf_bit s
  have hsl := streamOf_len s
  generalize streamOf s = all at *
  obtain ⟨e1, e2, e3⟩ := scan_eq hsb
  have hu : s.size < unk := by unfold unk; omega
  have hscan := scan_ok hS (by omega) hsb ⟨Nat.le_refl _, hu⟩ fun a ha => by cases ha; rfl
  rw [← e1, ← e2, ← e3] at hscan
  have oA := Sc.Ok.nw.feed (s := Sc.new) hsb
  have sA := feed_small Sc.Ok.nw hsb (fun z hz => by cases hz)
  have hsA : ∀ z ∈ (Sc.new.feed all).fo, z.length ≤ 1000000000 := fun z hz => by have := sA z hz; omega
  have hfl := oA.fo
  simp only [sx, x_box, x_alloc, x_bslice, x_slice, x_append, x_appz, x_b2s, x_s2b, x_mark, xop, ev, evs, evParts, fillL, cellsL, Ai.get, Ai.put, stab, isNil?, if_false, if_true, addr?, int?, str?, agg?, bool?, shiftA, FnPost, xresL, xres1, tup, argEnv, ptr, Nat.reduceEqDiff, reduceIte, beq_self_eq_true, ne_eq, Nat.reduceAdd, Nat.reduceMul, Nat.reduceSub, abin_shl, abin_shr, load1V, loadV, storeV, cellsAt, getN, setN, allocV, lenL, lenS, bnd, oneC, Value.oneCell', Nat.reduceLeDiff, Nat.reduceLT, exists_eq_left', forall_const, reduceCtorEq, app_new, app_new0, List.append_assoc, Int.reduceToNat, Int.reduceLT, Int.reduceLE, Int.reduceEq, Int.reduceNe, Int.reduceBEq, IntKind.bits, bne_self_eq_false, Int.reducePow]
  refine xcall hscan (by rfl) (by rfl) (by rfl) (by rfl) ?_
  rintro r g1 ⟨sl, rfl, LW, E1⟩
  have E1 : Kp g g1 := E1
  obtain ⟨qw, cw, rfl, W⟩ := LW.view
  simp only [sx, x_box, x_alloc, x_bslice, x_slice, x_append, x_appz, x_b2s, x_s2b, x_mark, xop, ev, evs, evParts, fillL, cellsL, Ai.get, Ai.put, stab, isNil?, if_false, if_true, addr?, int?, str?, agg?, bool?, shiftA, FnPost, xresL, xres1, tup, argEnv, ptr, Nat.reduceEqDiff, reduceIte, beq_self_eq_true, ne_eq, Nat.reduceAdd, Nat.reduceMul, Nat.reduceSub, abin_shl, abin_shr, load1V, loadV, storeV, cellsAt, getN, setN, allocV, lenL, lenS, bnd, oneC, Value.oneCell', Nat.reduceLeDiff, Nat.reduceLT, exists_eq_left', forall_const, reduceCtorEq, app_new, app_new0, List.append_assoc, Int.reduceToNat, Int.reduceLT, Int.reduceLE, Int.reduceEq, Int.reduceNe, Int.reduceBEq, IntKind.bits, bne_self_eq_false, Int.reducePow]
  refine xcall newS_ok (by rfl) (by rfl) (by rfl) (by rfl) ?_
  rintro r g2 ⟨X, rfl, AX, K2, hX⟩
  have h12 := K2.1
  have h01 := E1.1
  have K02 := E1.trans K2
  simp only [sx, x_box, x_alloc, x_bslice, x_slice, x_append, x_appz, x_b2s, x_s2b, x_mark, xop, ev, evs, evParts, fillL, cellsL, Ai.get, Ai.put, stab, isNil?, if_false, if_true, addr?, int?, str?, agg?, bool?, shiftA, FnPost, xresL, xres1, tup, argEnv, ptr, Nat.reduceEqDiff, reduceIte, beq_self_eq_true, ne_eq, Nat.reduceAdd, Nat.reduceMul, Nat.reduceSub, abin_shl, abin_shr, load1V, loadV, storeV, cellsAt, getN, setN, allocV, lenL, lenS, bnd, oneC, Value.oneCell', Nat.reduceLeDiff, Nat.reduceLT, exists_eq_left', forall_const, reduceCtorEq, app_new, app_new0, List.append_assoc, Int.reduceToNat, Int.reduceLT, Int.reduceLE, Int.reduceEq, Int.reduceNe, Int.reduceBEq, IntKind.bits, bne_self_eq_false, Int.reducePow]
  refine xcall (fed_ok AX Sc.Ok.nw (by omega) (K02.first hS) (by omega) hsb fun a ha => ⟨by cases ha; simp only; omega, fun h => by cases ha; have := ftS_nil h; simp only at this; omega⟩) (by rfl) (by rfl) (by rfl) (by rfl) ?_
  rintro r g3 ⟨q1, kv1, rfl, V1, A1, F1, n1, b1⟩
  have K13 : Kp g1 g3 := kp_past K2 F1 fun B h => by have := ftS_nil h; omega
  have W3 := W.ext K13
  have h13 := K13.1
  have K03 := E1.trans K13
  simp only [sx, x_box, x_alloc, x_bslice, x_slice, x_append, x_appz, x_b2s, x_s2b, x_mark, xop, ev, evs, evParts, fillL, cellsL, Ai.get, Ai.put, stab, isNil?, if_false, if_true, addr?, int?, str?, agg?, bool?, shiftA, FnPost, xresL, xres1, tup, argEnv, ptr, Nat.reduceEqDiff, reduceIte, beq_self_eq_true, ne_eq, Nat.reduceAdd, Nat.reduceMul, Nat.reduceSub, abin_shl, abin_shr, load1V, loadV, storeV, cellsAt, getN, setN, allocV, lenL, lenS, bnd, oneC, Value.oneCell', Nat.reduceLeDiff, Nat.reduceLT, exists_eq_left', forall_const, reduceCtorEq, app_new, app_new0, List.append_assoc, Int.reduceToNat, Int.reduceLT, Int.reduceLE, Int.reduceEq, Int.reduceNe, Int.reduceBEq, IntKind.bits, bne_self_eq_false, Int.reducePow]
  refine xcall (lists_ok V1 W3 (by omega) hsA) (by rfl) (by rfl) (by rfl) (by rfl) ?_
  rintro r g4 ⟨rfl, e0⟩
  subst e0
  simp only [sx, x_box, x_alloc, x_bslice, x_slice, x_append, x_appz, x_b2s, x_s2b, x_mark, xop, ev, evs, evParts, fillL, cellsL, Ai.get, Ai.put, stab, isNil?, if_false, if_true, addr?, int?, str?, agg?, bool?, shiftA, FnPost, xresL, xres1, tup, argEnv, ptr, Nat.reduceEqDiff, reduceIte, beq_self_eq_true, ne_eq, Nat.reduceAdd, Nat.reduceMul, Nat.reduceSub, abin_shl, abin_shr, load1V, loadV, storeV, cellsAt, getN, setN, allocV, lenL, lenS, bnd, oneC, Value.oneCell', Nat.reduceLeDiff, Nat.reduceLT, exists_eq_left', forall_const, reduceCtorEq, app_new, app_new0, List.append_assoc, Int.reduceToNat, Int.reduceLT, Int.reduceLE, Int.reduceEq, Int.reduceNe, Int.reduceBEq, IntKind.bits, bne_self_eq_false, Int.reducePow]
  refine xcall (errors_ok A1) (by rfl) (by rfl) (by rfl) (by rfl) ?_
  rintro r g4 ⟨rfl, e0⟩
  subst e0
  simp only [sx, x_box, x_alloc, x_bslice, x_slice, x_append, x_appz, x_b2s, x_s2b, x_mark, xop, ev, evs, evParts, fillL, cellsL, Ai.get, Ai.put, stab, isNil?, if_false, if_true, addr?, int?, str?, agg?, bool?, shiftA, FnPost, xresL, xres1, tup, argEnv, ptr, Nat.reduceEqDiff, reduceIte, beq_self_eq_true, ne_eq, Nat.reduceAdd, Nat.reduceMul, Nat.reduceSub, abin_shl, abin_shr, load1V, loadV, storeV, cellsAt, getN, setN, allocV, lenL, lenS, bnd, oneC, Value.oneCell', Nat.reduceLeDiff, Nat.reduceLT, exists_eq_left', forall_const, reduceCtorEq, app_new, app_new0, List.append_assoc, Int.reduceToNat, Int.reduceLT, Int.reduceLE, Int.reduceEq, Int.reduceNe, Int.reduceBEq, IntKind.bits, bne_self_eq_false, Int.reducePow]
  refine xcall (hunting_ok A1) (by rfl) (by rfl) (by rfl) (by rfl) ?_
  rintro r g4 ⟨rfl, e0⟩
  subst e0
  simp only [sx, x_box, x_alloc, x_bslice, x_slice, x_append, x_appz, x_b2s, x_s2b, x_mark, xop, ev, evs, evParts, fillL, cellsL, Ai.get, Ai.put, stab, isNil?, if_false, if_true, addr?, int?, str?, agg?, bool?, shiftA, FnPost, xresL, xres1, tup, argEnv, ptr, Nat.reduceEqDiff, reduceIte, beq_self_eq_true, ne_eq, Nat.reduceAdd, Nat.reduceMul, Nat.reduceSub, abin_shl, abin_shr, load1V, loadV, storeV, cellsAt, getN, setN, allocV, lenL, lenS, bnd, oneC, Value.oneCell', Nat.reduceLeDiff, Nat.reduceLT, exists_eq_left', forall_const, reduceCtorEq, app_new, app_new0, List.append_assoc, Int.reduceToNat, Int.reduceLT, Int.reduceLE, Int.reduceEq, Int.reduceNe, Int.reduceBEq, IntKind.bits, bne_self_eq_false, Int.reducePow]
  refine xcall newS_ok (by rfl) (by rfl) (by rfl) (by rfl) ?_
  rintro r g5 ⟨Y, rfl, AY, K4, hY⟩
  have hS4 := K03.first hS
  have hbl : h.length < g4.length := by have := K03.1; omega
  simp only [sx, x_box, x_alloc, x_bslice, x_slice, x_append, x_appz, x_b2s, x_s2b, x_mark, xop, ev, evs, evParts, fillL, cellsL, Ai.get, Ai.put, stab, isNil?, if_false, if_true, addr?, int?, str?, agg?, bool?, shiftA, FnPost, xresL, xres1, tup, argEnv, ptr, Nat.reduceEqDiff, reduceIte, beq_self_eq_true, ne_eq, Nat.reduceAdd, Nat.reduceMul, Nat.reduceSub, abin_shl, abin_shr, load1V, loadV, storeV, cellsAt, getN, setN, allocV, lenL, lenS, bnd, oneC, Value.oneCell', Nat.reduceLeDiff, Nat.reduceLT, exists_eq_left', forall_const, reduceCtorEq, app_new, app_new0, List.append_assoc, Int.reduceToNat, Int.reduceLT, Int.reduceLE, Int.reduceEq, Int.reduceNe, Int.reduceBEq, IntKind.bits, bne_self_eq_false, Int.reducePow]
  refine xloop_cut2 (SpE g4 Y all (.slice qw (Sc.new.feed all).fo.length cw) (.int .i64 (((Sc.new.feed all).er : Nat) : Int)) (.bool (Sc.new.feed all).hu)) (fun _ _ => False) ?_ ?_ ?_
  rotate_left
  · rintro ρ g ⟨kv, fv, r12, r13, r6, r7, r8, K, A, L⟩
    obtain ⟨qv, cv, rfl⟩ := L.shp
    simp only [sx, x_box, x_alloc, x_bslice, x_append, x_appz, x_b2s, x_s2b, x_mark, xop, ev, evs, evParts, fillL, cellsL, Ai.get, Ai.put, stab, isNil?, if_false, if_true, addr?, int?, str?, agg?, bool?, shiftA, FnPost, xresL, xres1, tup, argEnv, ptr, Nat.reduceEqDiff, reduceIte, beq_self_eq_true, ne_eq, Nat.reduceAdd, Nat.reduceMul, Nat.reduceSub, abin_shl, abin_shr, load1V, loadV, storeV, cellsAt, getN, setN, allocV, lenL, lenS, bnd, oneC, Value.oneCell', Nat.reduceLeDiff, Nat.reduceLT, exists_eq_left', forall_const, reduceCtorEq, app_new, app_new0, List.append_assoc, Int.reduceToNat, Int.reduceLT, Int.reduceLE, Int.reduceEq, Int.reduceNe, Int.reduceBEq, IntKind.bits, bne_self_eq_false, Int.reducePow, r12, r13, r6, r7, r8]
    refine L.full rfl rfl rfl (by omega) fun q5 V5 => ?_
    have W5 := W3.ext K
    simp only [sx, x_box, x_alloc, x_bslice, x_slice, x_append, x_appz, x_b2s, x_s2b, x_mark, xop, ev, evs, evParts, fillL, cellsL, Ai.get, Ai.put, stab, isNil?, if_false, if_true, addr?, int?, str?, agg?, bool?, shiftA, FnPost, xresL, xres1, tup, argEnv, ptr, Nat.reduceEqDiff, reduceIte, beq_self_eq_true, ne_eq, Nat.reduceAdd, Nat.reduceMul, Nat.reduceSub, abin_shl, abin_shr, load1V, loadV, storeV, cellsAt, getN, setN, allocV, lenL, lenS, bnd, oneC, Value.oneCell', Nat.reduceLeDiff, Nat.reduceLT, exists_eq_left', forall_const, reduceCtorEq, app_new, app_new0, List.append_assoc, Int.reduceToNat, Int.reduceLT, Int.reduceLE, Int.reduceEq, Int.reduceNe, Int.reduceBEq, IntKind.bits, bne_self_eq_false, Int.reducePow, r12, r13, r6, r7, r8]
    refine xcall (lists_ok V5 W5 (by omega) hsA) (by rfl) (by rfl) (by rfl) (by rfl) ?_
    rintro r g5 ⟨rfl, e0⟩
    subst e0
    simp only [sx, x_box, x_alloc, x_bslice, x_slice, x_append, x_appz, x_b2s, x_s2b, x_mark, xop, ev, evs, evParts, fillL, cellsL, Ai.get, Ai.put, stab, isNil?, if_false, if_true, addr?, int?, str?, agg?, bool?, shiftA, FnPost, xresL, xres1, tup, argEnv, ptr, Nat.reduceEqDiff, reduceIte, beq_self_eq_true, ne_eq, Nat.reduceAdd, Nat.reduceMul, Nat.reduceSub, abin_shl, abin_shr, load1V, loadV, storeV, cellsAt, getN, setN, allocV, lenL, lenS, bnd, oneC, Value.oneCell', Nat.reduceLeDiff, Nat.reduceLT, exists_eq_left', forall_const, reduceCtorEq, app_new, app_new0, List.append_assoc, Int.reduceToNat, Int.reduceLT, Int.reduceLE, Int.reduceEq, Int.reduceNe, Int.reduceBEq, IntKind.bits, bne_self_eq_false, Int.reducePow, r12, r13, r6, r7, r8]
    refine xcall (errors_ok A) (by rfl) (by rfl) (by rfl) (by rfl) ?_
    rintro r g5 ⟨rfl, e0⟩
    subst e0
    simp only [sx, x_box, x_alloc, x_bslice, x_slice, x_append, x_appz, x_b2s, x_s2b, x_mark, xop, ev, evs, evParts, fillL, cellsL, Ai.get, Ai.put, stab, isNil?, if_false, if_true, addr?, int?, str?, agg?, bool?, shiftA, FnPost, xresL, xres1, tup, argEnv, ptr, Nat.reduceEqDiff, reduceIte, beq_self_eq_true, ne_eq, Nat.reduceAdd, Nat.reduceMul, Nat.reduceSub, abin_shl, abin_shr, load1V, loadV, storeV, cellsAt, getN, setN, allocV, lenL, lenS, bnd, oneC, Value.oneCell', Nat.reduceLeDiff, Nat.reduceLT, exists_eq_left', forall_const, reduceCtorEq, app_new, app_new0, List.append_assoc, Int.reduceToNat, Int.reduceLT, Int.reduceLE, Int.reduceEq, Int.reduceNe, Int.reduceBEq, IntKind.bits, bne_self_eq_false, Int.reducePow, r12, r13, r6, r7, r8]
    refine xcall (hunting_ok A) (by rfl) (by rfl) (by rfl) (by rfl) ?_
    rintro r g5 ⟨rfl, e0⟩
    subst e0
    simp only [sx, x_box, x_alloc, x_bslice, x_slice, x_append, x_appz, x_b2s, x_s2b, x_mark, xop, ev, evs, evParts, fillL, cellsL, Ai.get, Ai.put, stab, isNil?, if_false, if_true, addr?, int?, str?, agg?, bool?, shiftA, FnPost, xresL, xres1, tup, argEnv, ptr, Nat.reduceEqDiff, reduceIte, beq_self_eq_true, ne_eq, Nat.reduceAdd, Nat.reduceMul, Nat.reduceSub, abin_shl, abin_shr, load1V, loadV, storeV, cellsAt, getN, setN, allocV, lenL, lenS, bnd, oneC, Value.oneCell', Nat.reduceLeDiff, Nat.reduceLT, exists_eq_left', forall_const, reduceCtorEq, app_new, app_new0, List.append_assoc, Int.reduceToNat, Int.reduceLT, Int.reduceLE, Int.reduceEq, Int.reduceNe, Int.reduceBEq, IntKind.bits, bne_self_eq_false, Int.reducePow, r12, r13, r6, r7, r8]
    refine xcall (lives_ok (hF.ext ((Kg.trans K03).trans K))) (by rfl) (by rfl) (by rfl) (by rfl) ?_
    rintro r g6 ⟨rfl, e0⟩
    subst e0
    simp only [sx, x_box, x_alloc, x_bslice, x_slice, x_append, x_appz, x_b2s, x_s2b, x_mark, xop, ev, evs, evParts, fillL, cellsL, Ai.get, Ai.put, stab, isNil?, if_false, if_true, addr?, int?, str?, agg?, bool?, shiftA, FnPost, xresL, xres1, tup, argEnv, ptr, Nat.reduceEqDiff, reduceIte, beq_self_eq_true, ne_eq, Nat.reduceAdd, Nat.reduceMul, Nat.reduceSub, abin_shl, abin_shr, load1V, loadV, storeV, cellsAt, getN, setN, allocV, lenL, lenS, bnd, oneC, Value.oneCell', Nat.reduceLeDiff, Nat.reduceLT, exists_eq_left', forall_const, reduceCtorEq, app_new, app_new0, List.append_assoc, Int.reduceToNat, Int.reduceLT, Int.reduceLE, Int.reduceEq, Int.reduceNe, Int.reduceBEq, IntKind.bits, bne_self_eq_false, Int.reducePow]
  · intro ρ g hf; exact hf.elim
  refine xcode_loop (SpI g4 Y q n c s.size all (.slice qw (Sc.new.feed all).fo.length cw) (.int .i64 (((Sc.new.feed all).er : Nat) : Int)) (.bool (Sc.new.feed all).hu)) (n + 1) ⟨0, 0, _, _, _, by omega, rfl, rfl, rfl, rfl, rfl, rfl, rfl, rfl, by omega, by omega, K4, by rw [List.take_zero]; exact AY, .inl ⟨rfl, rfl⟩, fun B h => by have := ftS_nil h; omega, (fun A hA => by cases hA), by simpa using hS4, fun a ha => by cases ha; exact ⟨rfl, hbl⟩⟩ ?_
  rintro m ρ g ⟨i, k, kv, fv, qr, him, r15, r1, r12, r13, r14, r6, r7, r8, hk, hik, K, A, L, hft, hfv, hfr, hqr⟩
  by_cases hi : i ≤ n
  · have hi' : (i : Int) ≤ (n : Nat) := by omega
    have wi : IntKind.i64.wrap ((i : Int) + 1) = ((i + 1 : Nat) : Int) := by rw [i64_wrap] <;> omega
    simp only [sx, x_box, x_alloc, x_bslice, x_slice, x_append, x_appz, x_b2s, x_s2b, x_mark, xop, ev, evs, evParts, fillL, cellsL, Ai.get, Ai.put, stab, isNil?, if_false, if_true, addr?, int?, str?, agg?, bool?, shiftA, FnPost, xresL, xres1, tup, argEnv, ptr, Nat.reduceEqDiff, reduceIte, beq_self_eq_true, ne_eq, Nat.reduceAdd, Nat.reduceMul, Nat.reduceSub, abin_shl, abin_shr, load1V, loadV, storeV, cellsAt, getN, setN, allocV, lenL, lenS, bnd, oneC, Value.oneCell', Nat.reduceLeDiff, Nat.reduceLT, exists_eq_left', forall_const, reduceCtorEq, app_new, app_new0, List.append_assoc, Int.reduceToNat, Int.reduceLT, Int.reduceLE, Int.reduceEq, Int.reduceNe, Int.reduceBEq, IntKind.bits, bne_self_eq_false, Int.reducePow, r15, r1, r12, r13, r14, hi']
    refine xcond_cut (SpM g Y q n c s.size i k fv qr (.slice qw (Sc.new.feed all).fo.length cw) (.int .i64 (((Sc.new.feed all).er : Nat) : Int)) (.bool (Sc.new.feed all).hu)) ?_ ?_
    · by_cases hin : i < n
      · have hin' : (i : Int) < (n : Nat) := by omega
        have hi0 : (0 : Int) ≤ (i : Int) := by omega
        obtain ⟨a, o, z, rfl, a1, a2, a3, a4⟩ := elemB (K.first (K03.first (Kg.first hf))) hin
        have hzb := hz z (List.mem_of_getElem? a4)
        obtain ⟨z, rfl⟩ : ∃ k : Nat, z = k := ⟨z.toNat, by omega⟩
        have wc : IntKind.i64.wrap (z : Int) = (z : Int) := by rw [i64_wrap] <;> omega
        have hmin : (if (z : Int) < ((s.size - k : Nat) : Int) then (z : Int) else ((s.size - k : Nat) : Int)) = ((min z (s.size - k) : Nat) : Int) := by split <;> omega
        simp only [sx, x_box, x_alloc, x_bslice, x_slice, x_append, x_appz, x_b2s, x_s2b, x_mark, xop, ev, evs, evParts, fillL, cellsL, Ai.get, Ai.put, stab, isNil?, if_false, if_true, addr?, int?, str?, agg?, bool?, shiftA, FnPost, xresL, xres1, tup, argEnv, ptr, Nat.reduceEqDiff, reduceIte, beq_self_eq_true, ne_eq, Nat.reduceAdd, Nat.reduceMul, Nat.reduceSub, abin_shl, abin_shr, load1V, loadV, storeV, cellsAt, getN, setN, allocV, lenL, lenS, bnd, oneC, Value.oneCell', Nat.reduceLeDiff, Nat.reduceLT, exists_eq_left', forall_const, reduceCtorEq, app_new, app_new0, List.append_assoc, Int.reduceToNat, Int.reduceLT, Int.reduceLE, Int.reduceEq, Int.reduceNe, Int.reduceBEq, IntKind.bits, bne_self_eq_false, Int.reducePow, hin', hi0, r15, r1, a1, a2, a3, wc, Nat.mul_one, List.foldlM_cons, List.foldlM_nil, int?, if_false, hmin]
        exact ⟨min z (s.size - k), rfl, by omega, by omega, r15, r1, r12, r13, r14, r6, r7, r8, rfl⟩
      · have hin' : ¬ (i : Int) < (n : Nat) := by omega
        simp only [sx, x_box, x_alloc, x_bslice, x_slice, x_append, x_appz, x_b2s, x_s2b, x_mark, xop, ev, evs, evParts, fillL, cellsL, Ai.get, Ai.put, stab, isNil?, if_false, if_true, addr?, int?, str?, agg?, bool?, shiftA, FnPost, xresL, xres1, tup, argEnv, ptr, Nat.reduceEqDiff, reduceIte, beq_self_eq_true, ne_eq, Nat.reduceAdd, Nat.reduceMul, Nat.reduceSub, abin_shl, abin_shr, load1V, loadV, storeV, cellsAt, getN, setN, allocV, lenL, lenS, bnd, oneC, Value.oneCell', Nat.reduceLeDiff, Nat.reduceLT, exists_eq_left', forall_const, reduceCtorEq, app_new, app_new0, List.append_assoc, Int.reduceToNat, Int.reduceLT, Int.reduceLE, Int.reduceEq, Int.reduceNe, Int.reduceBEq, IntKind.bits, bne_self_eq_false, Int.reducePow, hin']
        exact ⟨s.size - k, rfl, Nat.le_refl _, fun _ => rfl, r15, r1, r12, r13, r14, r6, r7, r8, rfl⟩
    · rintro ρ g2 ⟨u, r16, hu1, hu2, r15, r1, r12, r13, r14, r6, r7, r8, e0⟩
      subst e0
      have hux : s.size - k < unk := by omega
      have hsp : ∀ a, qr = some a → a.spot = none := fun a ha => (hqr a ha).1
      have hqb : ∀ a, qr = some a → a.block < g4.length := fun a ha => (hqr a ha).2
      have hgk := K.1
      simp only [sx, x_box, x_alloc, x_bslice, x_append, x_appz, x_b2s, x_s2b, x_mark, xop, ev, evs, evParts, fillL, cellsL, Ai.get, Ai.put, stab, isNil?, if_false, if_true, addr?, int?, str?, agg?, bool?, shiftA, FnPost, xresL, xres1, tup, argEnv, ptr, Nat.reduceEqDiff, reduceIte, beq_self_eq_true, ne_eq, Nat.reduceAdd, Nat.reduceMul, Nat.reduceSub, abin_shl, abin_shr, load1V, loadV, storeV, cellsAt, getN, setN, allocV, lenL, lenS, bnd, oneC, Value.oneCell', Nat.reduceLeDiff, Nat.reduceLT, exists_eq_left', forall_const, reduceCtorEq, app_new, app_new0, List.append_assoc, Int.reduceToNat, Int.reduceLT, Int.reduceLE, Int.reduceEq, Int.reduceNe, Int.reduceBEq, IntKind.bits, bne_self_eq_false, Int.reducePow, r12, r14, r16]
      refine slc_run (lo := none) (hi := some (.t 87)) (mx := none) (n := s.size - k) (c := s.size - k) (l := 0) (u := u) (m := s.size - k) rfl hux rfl (bnd_some rfl hu1) rfl (by simp) (by omega) hu1 hu1 (K.first hfr) hsp fun q2 hf2 hq2 => ?_
      rw [Nat.sub_zero, Nat.sub_zero] at hf2 ⊢
      have hf2' : firstV 1 g2 u (.slice q2 u (s.size - k)) = some (bR ((all.drop k).take u)) := by
        rw [hf2, List.drop_zero]; simp [bR, List.map_take]
      have hpb : Bits ((all.drop k).take u) := fun z hz => hsb z (List.mem_of_mem_drop (List.mem_of_mem_take hz))
      have htb : Bits (all.take k) := fun z hz => hsb z (List.mem_of_mem_take hz)
      have hpl : ((all.drop k).take u).length = u := by rw [List.length_take, List.length_drop]; omega
      have htl : (all.take k).length = k := by rw [List.length_take]; omega
      have o2 := Sc.Ok.nw.feed (s := Sc.new) htb
      have hcc : Sc.new.feed (all.take (k + u)) = (Sc.new.feed (all.take k)).feed ((all.drop k).take u) := by rw [List.take_add, feed_app]
      generalize (all.drop k).take u = part at *
      generalize Sc.new.feed (all.take k) = s0 at *
      rw [htl] at o2
      have o3 : ({ s0 with fo := [] } : Sc).Ok (0 + k) := ⟨o2.er, o2.on, o2.ma, o2.ke, o2.bi, by simp⟩
      have o4 := o3.feed (s := { s0 with fo := [] }) hpb
      have hfl0 := o2.fo
      have hfl4 := o4.fo
      have hrest := feed_rest part s0
      rw [hrest] at hcc
      simp only [sx, x_box, x_alloc, x_bslice, x_slice, x_append, x_appz, x_b2s, x_s2b, x_mark, xop, ev, evs, evParts, fillL, cellsL, Ai.get, Ai.put, stab, isNil?, if_false, if_true, addr?, int?, str?, agg?, bool?, shiftA, FnPost, xresL, xres1, tup, argEnv, ptr, Nat.reduceEqDiff, reduceIte, beq_self_eq_true, ne_eq, Nat.reduceAdd, Nat.reduceMul, Nat.reduceSub, abin_shl, abin_shr, load1V, loadV, storeV, cellsAt, getN, setN, allocV, lenL, lenS, bnd, oneC, Value.oneCell', Nat.reduceLeDiff, Nat.reduceLT, exists_eq_left', forall_const, reduceCtorEq, app_new, app_new0, List.append_assoc, Int.reduceToNat, Int.reduceLT, Int.reduceLE, Int.reduceEq, Int.reduceNe, Int.reduceBEq, IntKind.bits, bne_self_eq_false, Int.reducePow, r12, r14, r16]
      refine xcall (fed_ok A o3 (by omega) hf2' (by omega) hpb fun a ha => by
        obtain ⟨h1, a0, h2, h3⟩ := hq2 a ha
        have := hqb a0 h2
        rw [h3]
        exact ⟨by omega, fun h => by have := hft _ h; omega⟩) (by rfl) (by rfl) (by rfl) (by rfl) ?_
      rintro r g5 ⟨q3, kv3, rfl, V3, A3, F3, n3, b3⟩
      have L3 := L.keep (F3.frz A.own) fun B hB => F3.2 B (by obtain ⟨cs, e⟩ := L.own hB; exact lt_of_get e) (hfv B hB).2
      have hg25 := F3.1
      have hnf : ∀ B, slB fv = some B → ¬ ftS Y kv3 (.slice none 0 0) B := fun B hB h => by
        obtain ⟨cs, e⟩ := L.own hB
        have := lt_of_get e
        rcases n3 B h with h | h
        · exact (hfv B hB).2 h
        · omega
      have hn3 : ∀ B, ftS Y kv3 (.slice none 0 0) B → g4.length ≤ B := fun B h => by
        rcases n3 B h with h | h
        · exact hft B h
        · omega
      generalize Sc.feed { s0 with fo := [] } part = s5 at *
      simp only [sx, x_box, x_alloc, x_bslice, x_slice, x_appz, x_b2s, x_s2b, x_mark, xop, ev, evs, evParts, fillL, cellsL, Ai.get, Ai.put, stab, isNil?, if_false, if_true, addr?, int?, str?, agg?, bool?, shiftA, FnPost, xresL, xres1, tup, argEnv, ptr, Nat.reduceEqDiff, reduceIte, beq_self_eq_true, ne_eq, Nat.reduceAdd, Nat.reduceMul, Nat.reduceSub, abin_shl, abin_shr, load1V, loadV, storeV, cellsAt, getN, setN, allocV, lenL, lenS, bnd, oneC, Value.oneCell', Nat.reduceLeDiff, Nat.reduceLT, exists_eq_left', forall_const, reduceCtorEq, app_new, app_new0, List.append_assoc, Int.reduceToNat, Int.reduceLT, Int.reduceLE, Int.reduceEq, Int.reduceNe, Int.reduceBEq, IntKind.bits, bne_self_eq_false, Int.reducePow, r13]
      refine FN.append L3 rfl rfl V3 (by omega) fun sl6 g6 L6 F6 z6 hA6 => ?_
      have A6 := A3.keep z6 fun B hB => F6.2 B (A3.lt hB) fun h => hnf B h hB
      have K6 : Kp g4 g6 := kp_past (kp_past K F3 hft) F6 fun B h => (hfv B h).1
      simp only [sx, x_box, x_alloc, x_bslice, x_append, x_appz, x_b2s, x_s2b, x_mark, xop, ev, evs, evParts, fillL, cellsL, Ai.get, Ai.put, stab, isNil?, if_false, if_true, addr?, int?, str?, agg?, bool?, shiftA, FnPost, xresL, xres1, tup, argEnv, ptr, Nat.reduceEqDiff, reduceIte, beq_self_eq_true, ne_eq, Nat.reduceAdd, Nat.reduceMul, Nat.reduceSub, abin_shl, abin_shr, load1V, loadV, storeV, cellsAt, getN, setN, allocV, lenL, lenS, bnd, oneC, Value.oneCell', Nat.reduceLeDiff, Nat.reduceLT, exists_eq_left', forall_const, reduceCtorEq, app_new, app_new0, List.append_assoc, Int.reduceToNat, Int.reduceLT, Int.reduceLE, Int.reduceEq, Int.reduceNe, Int.reduceBEq, IntKind.bits, bne_self_eq_false, Int.reducePow, r14, r16]
      refine slc_run (lo := some (.t 98)) (hi := none) (mx := none) (n := s.size - k) (c := s.size - k) (l := u) (u := s.size - k) (m := s.size - k) rfl hux rfl rfl (bnd_some rfl hu1) (by simp) hu1 (Nat.le_refl _) (Nat.le_refl _) (K6.first hfr) hsp fun q7 hf7 hq7 => ?_
      simp only [sx, x_box, x_alloc, x_bslice, x_slice, x_append, x_appz, x_b2s, x_s2b, x_mark, xop, ev, evs, evParts, fillL, cellsL, Ai.get, Ai.put, stab, isNil?, if_false, if_true, addr?, int?, str?, agg?, bool?, shiftA, FnPost, xresL, xres1, tup, argEnv, ptr, Nat.reduceEqDiff, reduceIte, beq_self_eq_true, ne_eq, Nat.reduceAdd, Nat.reduceMul, Nat.reduceSub, abin_shl, abin_shr, load1V, loadV, storeV, cellsAt, getN, setN, allocV, lenL, lenS, bnd, oneC, Value.oneCell', Nat.reduceLeDiff, Nat.reduceLT, exists_eq_left', forall_const, reduceCtorEq, app_new, app_new0, List.append_assoc, Int.reduceToNat, Int.reduceLT, Int.reduceLE, Int.reduceEq, Int.reduceNe, Int.reduceBEq, IntKind.bits, bne_self_eq_false, Int.reducePow, r15, wi]
      refine ⟨m - 1, by omega, i + 1, k + u, kv3, sl6, q7, by omega, rfl, r1, r12, rfl, (by rw [Nat.sub_add_eq]; rfl), r6, r7, r8, by omega, fun h => by have := hu2 (by omega); omega, K6, by rw [hcc]; exact A6, by rw [hcc]; exact L6, hn3, fun B hB => ?_, ?_, fun a ha => ?_⟩
      · rcases hA6 B hB with h | h
        · exact ⟨(hfv B h).1, hnf B h⟩
        · exact ⟨by omega, fun hy => by have := A3.lt hy; omega⟩
      · rw [Nat.sub_add_eq, ← firstV_at (h := g4) (h' := g6) fun a ha => ?_, hf7, List.take_of_length_le (by rw [List.length_drop, bR_len, List.length_drop]; omega)]
        · simp [bR, List.map_drop, List.drop_drop]
        · obtain ⟨h1, a0, h2, h3⟩ := hq7 a ha
          rw [h3]; exact K6.2 _ (hqb a0 h2)
      · obtain ⟨h1, a0, h2, h3⟩ := hq7 a ha
        exact ⟨h1, by rw [h3]; exact hqb a0 h2⟩
  · have hi' : ¬ (i : Int) ≤ (n : Nat) := by omega
    have hkS := hik (by omega)
    rw [List.take_of_length_le (by omega)] at A L
    simp only [sx, x_box, x_alloc, x_bslice, x_slice, x_append, x_appz, x_b2s, x_s2b, x_mark, xop, ev, evs, evParts, fillL, cellsL, Ai.get, Ai.put, stab, isNil?, if_false, if_true, addr?, int?, str?, agg?, bool?, shiftA, FnPost, xresL, xres1, tup, argEnv, ptr, Nat.reduceEqDiff, reduceIte, beq_self_eq_true, ne_eq, Nat.reduceAdd, Nat.reduceMul, Nat.reduceSub, abin_shl, abin_shr, load1V, loadV, storeV, cellsAt, getN, setN, allocV, lenL, lenS, bnd, oneC, Value.oneCell', Nat.reduceLeDiff, Nat.reduceLT, exists_eq_left', forall_const, reduceCtorEq, app_new, app_new0, List.append_assoc, Int.reduceToNat, Int.reduceLT, Int.reduceLE, Int.reduceEq, Int.reduceNe, Int.reduceBEq, IntKind.bits, bne_self_eq_false, Int.reducePow, r15, r1, hi']
    exact .inl ⟨kv, fv, r12, r13, r6, r7, r8, K, A, L⟩
end Go.Proofs.YtimfgagdfmmeeaaDoor
