import Derived.Test.YtimfgagdfmmeeaaDoorF2
set_option linter.unusedVariables false
set_option linter.unusedSimpArgs false
namespace Go.Proofs.YtimfgagdfmmeeaaDoor
open Go Go.Ai Go.Proofs

/-- the bits of octets; the octets of bits -/
def ofL (zs : List Int) : List Int := zs.flatMap fun z => digs z.toNat 8
theorem ofL_len (zs : List Int) : (ofL zs).length = 8 * zs.length := by
  induction zs with
  | nil => rfl
  | cons z zs ih => simp only [ofL, List.flatMap_cons, List.length_append, digs_len, List.length_cons] at ih ⊢; omega
theorem ofL_snoc {zs : List Int} {i : Nat} {z : Int} (h : zs[i]? = some z) : ofL (zs.take (i + 1)) = ofL (zs.take i) ++ digs z.toNat 8 := by
  unfold ofL; rw [take_snoc h, List.flatMap_append]; simp
theorem ofL_app (a b : List Int) : ofL (a ++ b) = ofL a ++ ofL b := by simp [ofL]
theorem ofL_bit (zs : List Int) : ∀ z ∈ ofL zs, z = 0 ∨ z = 1 := by
  intro z hz
  simp only [ofL, List.mem_flatMap] at hz
  obtain ⟨x, _, hx⟩ := hz
  exact digs_bit _ _ z hx
def grp (zs : List Int) (i : Nat) : List Int := (zs.drop (8 * i)).take 8
def octs (zs : List Int) : List Int := (List.range (zs.length / 8)).map fun i => ((valN (grp zs i) : Nat) : Int)
theorem octs_len (zs : List Int) : (octs zs).length = zs.length / 8 := by simp [octs]
theorem octs_get {zs : List Int} {i : Nat} (h : i < zs.length / 8) : (octs zs)[i]'(by rw [octs_len]; exact h) = ((valN (grp zs i) : Nat) : Int) := by simp [octs]
theorem grp_len {zs : List Int} {i : Nat} (h : i < zs.length / 8) : (grp zs i).length = 8 := by simp [grp]; omega
theorem grp_bit {zs : List Int} (hb : ∀ z ∈ zs, z = 0 ∨ z = 1) (i : Nat) : ∀ z ∈ grp zs i, z = 0 ∨ z = 1 := fun z hz => hb z (List.mem_of_mem_drop (List.mem_of_mem_take hz))
theorem octs_byte {zs : List Int} (hb : ∀ z ∈ zs, z = 0 ∨ z = 1) : ∀ z ∈ octs zs, 0 ≤ z ∧ z ≤ 255 := by
  intro z hz
  simp only [octs, List.mem_map, List.mem_range] at hz
  obtain ⟨i, hi, rfl⟩ := hz
  have := valN_lt (grp_bit hb i)
  rw [grp_len hi] at this
  omega

/-- a part of a slice -/
theorem firstV_part {n c c2 : Nat} {h : AHeap} {a : Addr} {zs : List Int} (hf : firstV 1 h n (.slice (some a) n c) = some (bR zs)) {lo len : Nat} (hl : lo + len ≤ n) : firstV 1 h len (.slice (some ⟨a.block, a.off + lo, none⟩) len c2) = some (bR ((zs.drop lo).take len)) := by
  simp only [firstV] at hf ⊢
  by_cases h0 : len = 0
  · rw [if_pos h0, h0]; rfl
  · rw [if_neg h0]
    rw [if_neg (by omega)] at hf
    split at hf
    · cases hf
    · rename_i h1
      simp only [ne_eq, not_true_eq_false, if_false]
      obtain ⟨cs, h2, h3⟩ := Option.bind_eq_some_iff.1 hf
      rw [h2]
      obtain ⟨h4, h5⟩ := (getN_eq _ _ _ _).1 h3
      refine (getN_eq _ _ _ _).2 ⟨by split at h4 <;> split <;> omega, ?_⟩
      rw [Nat.mul_one] at h5 ⊢
      rw [← List.drop_drop, ← bR_take]
      have e : bR (zs.drop lo) = (bR zs).drop lo := by simp [bR, List.map_drop]
      rw [e, h5, List.drop_take, List.take_take]
      congr 1; omega

/-- a part of a slice is taken -/
theorem part_run {P : Program} {K : Env → AHeap → Prop} {r : List XOper} {ρ : Env} {h : AHeap} {d : Option Nat} {x lo hi : XA} {q : Option Addr} {n c l u : Nat} {zs : List Int}
    (hx : ev ρ x = some (.slice q n c)) (hlo : ev ρ lo = some (.int .i64 (l : Int))) (hhi : ev ρ hi = some (.int .i64 (u : Int))) (hl : l ≤ u) (hu : u ≤ n) (hf : firstV 1 h n (.slice q n c) = some (bR zs))
    (hcap : (n ≤ c ∧ c < unk) ∨ (c = unk + 1 ∧ q ≠ none)) (hsp : ∀ a, q = some a → a.spot = none)
    (hK : ∀ q' c', firstV 1 h (u - l) (.slice q' (u - l) c') = some (bR ((zs.drop l).take (u - l))) → xops P K r (put d (.slice q' (u - l) c') ρ) h) : xops P K (⟨d, none, .slice 1 x (some lo) (some hi) none, []⟩ :: r) ρ h := by
  rw [x_slice]
  have b1 : ∀ top, u ≤ top → bnd ρ (some hi) n top = some u := fun top ht => by simp [bnd, hhi, int?]; omega
  have b2 : bnd ρ (some lo) 0 u = some l := by simp [bnd, hlo, int?]; omega
  have b3 : bnd ρ none c c = some c := rfl
  simp only [xop, hx, Option.bind_some]
  rcases hcap with ⟨h1, h2⟩ | ⟨rfl, h2⟩
  · rw [if_neg (by omega)]
    simp only [b3, b1 c (by omega), b2, Option.bind_some, Option.isSome_none, Bool.false_eq_true, false_and, if_false, xthen_some, stab, true_and]
    cases q with
    | none =>
      simp only [firstV] at hf
      by_cases h0 : n = 0
      · have hul : u - l = 0 := by omega
        simp only [xthen_some, stab, true_and]
        have := hK none (c - l) (by simp only [firstV]; rw [if_pos hul, hul]; rfl)
        exact this
      · rw [if_neg h0] at hf; cases hf
    | some a =>
      have hs := hsp a rfl
      simp only [hs, ne_eq, not_true_eq_false, if_false, xthen_some, stab, true_and, Nat.mul_one]
      refine hK _ _ ?_
      by_cases hcl : c = l
      · have hul : u - l = 0 := by omega
        simp only [firstV]; rw [if_pos hul, hul]; rfl
      · rw [if_neg hcl]
        exact firstV_part hf (by omega)
  · rw [if_pos (by omega)]
    simp only [Option.isSome_none, Bool.false_eq_true, if_false, b1 n hu, b2, Option.bind_some]
    cases q with
    | none => exact absurd rfl h2
    | some a =>
      have hs := hsp a rfl
      simp only [hs, ne_eq, not_true_eq_false, or_self, if_false, xthen_some, stab, true_and, Nat.mul_one]
      exact hK _ _ (firstV_part hf (by omega))

theorem set_self {h : AHeap} {X : Nat} {x : Option AObj} (hX : h[X]? = some x) : h.set X x = h := by
  apply List.ext_getElem?
  intro i
  by_cases hi : X = i
  · subst hi; rw [set_same hX, hX]
  · rw [set_ne hi]
/-- appended where there is room -/
theorem append_room {P : Program} {by_ : Nat} {z : List Value} (hz : z.length = 1) {K : Env → AHeap → Prop} {r : List XOper} {ρ : Env} {h : AHeap} {R n m c : Nat} {zs news : List Int} {d : Option Nat} {s x : XA} {xv : Value}
    (hs : ev ρ s = some (.slice (some ⟨R, 0, none⟩) n c)) (hx : ev ρ x = some xv) (hl : lenV xv = some m) (hf : firstV 1 h m xv = some (bR news)) (hnl : news.length = m) (hR : h[R]? = some (some ⟨true, bR zs⟩))
    (hc : c < unk) (hroom : n + m ≤ c) (hzl : c ≤ zs.length) (hb : (n + m) * by_ ≤ 140737488355328) (hb2 : n + m ≤ 9223372036854775807)
    (hK : xops P K r (put d (.slice (some ⟨R, 0, none⟩) (n + m) c) ρ) (h.set R (some ⟨true, bR (zs.take n ++ news ++ zs.drop (n + m))⟩))) : xops P K (⟨d, none, .append 1 by_ z s x, []⟩ :: r) ρ h := by
  have hu : ¬ unk ≤ c := by omega
  rw [x_append]
  simp only [xop, hs, hx, Option.bind_some, hl, hf, hz, Nat.lt_add_one, and_self, if_true, appendV, ne_eq, not_true_eq_false, if_false]
  by_cases hm : m = 0
  · subst hm
    have : news = [] := List.eq_nil_of_length_eq_zero hnl
    subst this
    rw [if_pos rfl, if_pos (by omega)]
    simp only [xthen_some, stab, true_and]
    rw [List.append_nil, Nat.add_zero, List.take_append_drop, set_self hR] at hK
    exact hK
  · rw [if_neg hm, if_neg (by omega), if_neg hu, if_pos hroom]
    simp only [hR]
    have h1 : 0 + n * 1 + (bR news).length ≤ (bR zs).length := by simp only [bR_len]; omega
    have h2 : setN (bR zs) (0 + n * 1) (bR news) = bR (zs.take n ++ news ++ zs.drop (n + m)) := by
      rw [setN_eq _ _ _ h1]
      simp only [bR, List.map_append, List.map_take, List.map_drop, List.length_map, Nat.zero_add, Nat.mul_one, hnl, List.append_assoc]
    rw [if_pos ⟨trivial, bR_one _, h1⟩, h2]
    simp only [xthen_some, stab, true_and]
    exact hK

set_option maxHeartbeats 1000000 in
theorem of_ok {h : AHeap} {q : Option Addr} {n c : Nat} {zs : List Int} (hf : firstV 1 h n (.slice q n c) = some (bR zs)) (hn : n ≤ 1048576) (hb : ∀ z ∈ zs, 0 ≤ z ∧ z ≤ 255) :
    Valid Tryd.prog 35 [.slice q n c] h fun r h' => ∃ R, r = .slice (some ⟨R, 0, none⟩) (8 * n) (8 * n) ∧ h.length ≤ R ∧ R < h'.length ∧ Ext h h' ∧ h'[R]? = some (some ⟨true, bR (ofL zs)⟩) := by
  refine v35 (by simp) ?_
  have hzl := firstV_len hf
  rw [bR_len, Nat.mul_one] at hzl
  have hw0 : IntKind.i64.wrap (8 * (n : Int)) = ((8 * n : Nat) : Int) := by rw [i64_wrap] <;> omega
  have h1 : ((8 * n : Nat) : Int) * 1 ≤ 140737488355328 := by omega
  have h2 : ((8 * n : Nat) : Int) ≤ 9223372036854775807 := by omega
  have h3 : (0 : Int) ≤ ((8 * n : Nat) : Int) := by omega
  simp only [X35, sx, x_box, x_alloc, x_bslice, x_slice, x_append, x_appz, x_b2s, x_s2b, x_mark, xop, ev, evs, evParts, fillL, cellsL, Ai.get, Ai.put, stab, isNil?, if_false, if_true, addr?, int?, str?, agg?, bool?, shiftA, FnPost, xresL, xres1, tup, argEnv, ptr, Nat.reduceEqDiff, reduceIte, beq_self_eq_true, ne_eq, Nat.reduceAdd, Nat.reduceMul, Nat.reduceSub, abin_shl, abin_shr, load1V, loadV, storeV, cellsAt, getN, setN, allocV, lenL, lenS, bnd, oneC, Value.oneCell', Nat.reduceLeDiff, Nat.reduceLT, exists_eq_left', forall_const, reduceCtorEq, app_new, app_new0, List.append_assoc, Int.reduceToNat, Int.reduceLT, Int.reduceLE, Int.reduceEq, Int.reduceNe, Int.reduceBEq, IntKind.bits, bne_self_eq_false, Int.reducePow, hw0, h1, h2, h3, Int.le_refl, zeros_bR]
  refine xcode_loop (fun m ρ h' => ∃ i, i + m = n ∧ get ρ 12 = some (.int .i64 (i : Nat)) ∧ get ρ 11 = some (.int .i64 (n : Nat)) ∧ get ρ 10 = some (.slice q n c) ∧ get ρ 3 = some (.slice (some ⟨h.length, 0, none⟩) (8 * i) (8 * n)) ∧ Ext h h' ∧
    h'[h.length]? = some (some ⟨true, bR (ofL (zs.take i) ++ List.replicate (8 * n - 8 * i) 0)⟩)) n ⟨0, by simp, rfl, rfl, rfl, rfl, Ext.app _ _, by rw [app_new0]; simp [ofL]⟩ ?_
  rintro m ρ h' ⟨i, him, g12, g11, g10, g3, E, hR⟩
  by_cases hlt : i < n
  · have hlt' : (i : Int) < n := by omega
    have hge : (0 : Int) ≤ i := by omega
    have hwi : IntKind.i64.wrap ((i : Int) + 1) = ((i + 1 : Nat) : Int) := by rw [i64_wrap] <;> omega
    obtain ⟨a, o, z, rfl, a1, a2, a3, a4⟩ := elemB (E.first hf) hlt
    have hz := hb z (List.mem_of_getElem? a4)
    have hsn := ofL_snoc a4
    obtain ⟨z, rfl⟩ : ∃ m : Nat, z = m := ⟨z.toNat, by omega⟩
    rw [Int.toNat_natCast] at hsn
    have hzw : IntKind.u64.wrap (z : Int) = (z : Int) := u64_wrap (by omega) (by omega)
    simp only [sx, x_box, x_alloc, x_bslice, x_slice, x_append, x_appz, x_b2s, x_s2b, x_mark, xop, ev, evs, evParts, fillL, cellsL, Ai.get, Ai.put, stab, isNil?, if_false, if_true, addr?, int?, str?, agg?, bool?, shiftA, FnPost, xresL, xres1, tup, argEnv, ptr, Nat.reduceEqDiff, reduceIte, beq_self_eq_true, ne_eq, Nat.reduceAdd, Nat.reduceMul, Nat.reduceSub, abin_shl, abin_shr, load1V, loadV, storeV, cellsAt, getN, setN, allocV, lenL, lenS, bnd, oneC, Value.oneCell', Nat.reduceLeDiff, Nat.reduceLT, exists_eq_left', forall_const, reduceCtorEq, app_new, app_new0, List.append_assoc, Int.reduceToNat, Int.reduceLT, Int.reduceLE, Int.reduceEq, Int.reduceNe, Int.reduceBEq, IntKind.bits, bne_self_eq_false, Int.reducePow, g12, g11, g10, g3, hlt', hge, a1, a2, a3, Nat.mul_one, hzw]
    refine xcall (digits_ok (v := z) (w := 8) (by omega)) (by rfl) (by rfl) (by rfl) (by rfl) ?_
    rintro r h2 ⟨rfl, rfl⟩
    have hRl := lt_of_get hR
    have hR2 : (h' ++ [some ⟨true, bR (digs z 8)⟩])[h.length]? = some (some ⟨true, bR (ofL (zs.take i) ++ List.replicate (8 * n - 8 * i) 0)⟩) := by rw [List.getElem?_append_left hRl]; exact hR
    have hlen : (ofL (zs.take i)).length = 8 * i := by rw [ofL_len]; simp; omega
    have hfd : firstV 1 (h' ++ [some ⟨true, bR (digs z 8)⟩]) 8 (.slice (some ⟨h'.length, 0, none⟩) 8 8) = some (bR (digs z 8)) := by
      simp only [firstV, cellsAt, app_new0]
      simp
      exact getN_all _ _ (by rw [bR_len, digs_len])
    simp only [sx, x_box, x_alloc, x_bslice, x_slice, x_appz, x_b2s, x_s2b, x_mark, xop, ev, evs, evParts, fillL, cellsL, Ai.get, Ai.put, stab, isNil?, if_false, if_true, addr?, int?, str?, agg?, bool?, shiftA, FnPost, xresL, xres1, tup, argEnv, ptr, Nat.reduceEqDiff, reduceIte, beq_self_eq_true, ne_eq, Nat.reduceAdd, Nat.reduceMul, Nat.reduceSub, abin_shl, abin_shr, load1V, loadV, storeV, cellsAt, getN, setN, allocV, lenL, lenS, bnd, oneC, Value.oneCell', Nat.reduceLeDiff, Nat.reduceLT, exists_eq_left', forall_const, reduceCtorEq, app_new, app_new0, List.append_assoc, Int.reduceToNat, Int.reduceLT, Int.reduceLE, Int.reduceEq, Int.reduceNe, Int.reduceBEq, IntKind.bits, bne_self_eq_false, Int.reducePow, g12, g11, g10, g3]
    refine append_room (R := h.length) (n := 8 * i) (m := 8) (c := 8 * n) (zs := ofL (zs.take i) ++ List.replicate (8 * n - 8 * i) 0) (news := digs z 8) rfl rfl rfl rfl hfd (digs_len _ _) hR2 (by unfold unk; omega) (by omega) (by simp [hlen]; omega) (by omega) (by omega) ?_
    have e1 : (ofL (zs.take i) ++ List.replicate (8 * n - 8 * i) (0 : Int)).take (8 * i) ++ digs z 8 ++ (ofL (zs.take i) ++ List.replicate (8 * n - 8 * i) (0 : Int)).drop (8 * i + 8) = ofL (zs.take (i + 1)) ++ List.replicate (8 * n - 8 * (i + 1)) 0 := by
      rw [List.take_left' hlen, hsn, ← List.drop_drop, List.drop_left' hlen, List.drop_replicate, show 8 * n - 8 * i - 8 = 8 * n - 8 * (i + 1) by omega]
    rw [e1]
    simp only [sx, x_box, x_alloc, x_bslice, x_slice, x_append, x_appz, x_b2s, x_s2b, x_mark, xop, ev, evs, evParts, fillL, cellsL, Ai.get, Ai.put, stab, isNil?, if_false, if_true, addr?, int?, str?, agg?, bool?, shiftA, FnPost, xresL, xres1, tup, argEnv, ptr, Nat.reduceEqDiff, reduceIte, beq_self_eq_true, ne_eq, Nat.reduceAdd, Nat.reduceMul, Nat.reduceSub, abin_shl, abin_shr, load1V, loadV, storeV, cellsAt, getN, setN, allocV, lenL, lenS, bnd, oneC, Value.oneCell', Nat.reduceLeDiff, Nat.reduceLT, exists_eq_left', forall_const, reduceCtorEq, app_new, app_new0, List.append_assoc, Int.reduceToNat, Int.reduceLT, Int.reduceLE, Int.reduceEq, Int.reduceNe, Int.reduceBEq, IntKind.bits, bne_self_eq_false, Int.reducePow, g12, g11, g10, g3, hwi]
    refine ⟨m - 1, by omega, i + 1, by omega, rfl, by rw [show 8 * (i + 1) = 8 * i + 8 by omega], (E.trans (Ext.app _ _)).set (Nat.le_refl _) _, set_same hR2 _⟩
  · have hlt' : ¬ (i : Int) < n := by omega
    have hin : i = n := by omega
    subst hin
    have ht : zs.take i = zs := by rw [← hzl, List.take_length]
    rw [ht, Nat.sub_self, List.replicate_zero, List.append_nil] at hR
    simp only [sx, x_box, x_alloc, x_bslice, x_slice, x_append, x_appz, x_b2s, x_s2b, x_mark, xop, ev, evs, evParts, fillL, cellsL, Ai.get, Ai.put, stab, isNil?, if_false, if_true, addr?, int?, str?, agg?, bool?, shiftA, FnPost, xresL, xres1, tup, argEnv, ptr, Nat.reduceEqDiff, reduceIte, beq_self_eq_true, ne_eq, Nat.reduceAdd, Nat.reduceMul, Nat.reduceSub, abin_shl, abin_shr, load1V, loadV, storeV, cellsAt, getN, setN, allocV, lenL, lenS, bnd, oneC, Value.oneCell', Nat.reduceLeDiff, Nat.reduceLT, exists_eq_left', forall_const, reduceCtorEq, app_new, app_new0, List.append_assoc, Int.reduceToNat, Int.reduceLT, Int.reduceLE, Int.reduceEq, Int.reduceNe, Int.reduceBEq, IntKind.bits, bne_self_eq_false, Int.reducePow, g12, g11, g10, g3, hlt']
    exact ⟨h.length, rfl, Nat.le_refl _, lt_of_get hR, E, hR⟩
end Go.Proofs.YtimfgagdfmmeeaaDoor
