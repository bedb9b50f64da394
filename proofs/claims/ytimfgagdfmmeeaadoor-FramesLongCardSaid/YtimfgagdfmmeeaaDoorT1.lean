import Derived.Test.YtimfgagdfmmeeaaDoorP1
import Derived.Test.YtimfgagdfmmeeaaDoorH5
set_option linter.unusedVariables false
set_option linter.unusedSimpArgs false
namespace Go.Proofs.YtimfgagdfmmeeaaDoor
open Go Go.Ai Go.Proofs

theorem first_lt {k n c : Nat} {h : AHeap} {q : Option Addr} {rows : List Value} (hf : firstV k h n (.slice q n c) = some rows) (h0 : n ≠ 0) : ∃ a, q = some a ∧ a.block < h.length ∧ a.spot = none := by
  cases q with
  | none => simp only [firstV] at hf; rw [if_neg h0] at hf; cases hf
  | some a =>
    simp only [firstV] at hf
    rw [if_neg h0] at hf
    split at hf
    · cases hf
    · rename_i h1
      refine ⟨a, rfl, ?_, by simpa using h1⟩
      unfold cellsAt at hf
      cases hb : h[a.block]? with
      | none => rw [hb] at hf; cases hf
      | some x => exact lt_of_get hb
/-- a part of a view -/
theorem first_part {n c c2 : Nat} {h : AHeap} {a : Addr} {rows : List Value} (hf : firstV 1 h n (.slice (some a) n c) = some rows) {lo len : Nat} (hl : lo + len ≤ n) : firstV 1 h len (.slice (some ⟨a.block, a.off + lo, none⟩) len c2) = some ((rows.drop lo).take len) := by
  simp only [firstV] at hf ⊢
  by_cases h0 : len = 0
  · rw [if_pos h0, h0]; rfl
  · rw [if_neg h0]
    rw [if_neg (by omega)] at hf
    split at hf
    · cases hf
    · rename_i h1
      simp only [ne_eq, not_true_eq_false, if_false]
      obtain ⟨cs, h2, h3⟩ := Option.bind_eq_some_iff.1 hf
      rw [h2]
      obtain ⟨h4, h5⟩ := (getN_eq _ _ _ _).1 h3
      refine (getN_eq _ _ _ _).2 ⟨by split at h4 <;> split <;> omega, ?_⟩
      rw [Nat.mul_one] at h5 ⊢
      rw [← List.drop_drop, h5, List.drop_take, List.take_take]
      congr 1; omega
theorem bnd_some {ρ : Env} {x : XA} {dflt top l : Nat} (hx : ev ρ x = some (.int .i64 (l : Nat))) (hl : l ≤ top) : bnd ρ (some x) dflt top = some l := by
  simp only [bnd, hx, Option.bind_some, int?]
  rw [if_pos ⟨by omega, by omega⟩, Int.toNat_natCast]
/-- a slice of a slice whose room is known -/
theorem slc_run {P : Program} {K : Env → AHeap → Prop} {r : List XOper} {ρ : Env} {h : AHeap} {d : Option Nat} {x : XA} {lo hi mx : Option XA} {q : Option Addr} {n c l u m : Nat} {rows : List Value}
    (hx : ev ρ x = some (.slice q n c)) (hc : c < unk) (hm : bnd ρ mx c c = some m) (hh : bnd ρ hi n m = some u) (hl : bnd ρ lo 0 u = some l) (hmh : ¬ (mx.isSome = true ∧ hi = none)) (hul : l ≤ u) (hu : u ≤ n) (hum : u ≤ m)
    (hf : firstV 1 h n (.slice q n c) = some rows) (hsp : ∀ a, q = some a → a.spot = none)
    (hK : ∀ q', firstV 1 h (u - l) (.slice q' (u - l) (m - l)) = some ((rows.drop l).take (u - l)) → (∀ a, q' = some a → a.spot = none ∧ ∃ a0, q = some a0 ∧ a.block = a0.block) → xops P K r (put d (.slice q' (u - l) (m - l)) ρ) h) : xops P K (⟨d, none, .slice 1 x lo hi mx, []⟩ :: r) ρ h := by
  rw [x_slice]
  simp only [xop, hx, Option.bind_some]
  rw [if_neg (by omega)]
  simp only [hm, hh, hl, Option.bind_some]
  rw [if_neg hmh]
  cases q with
  | none =>
    simp only [firstV] at hf
    by_cases h0 : n = 0
    · have hul : u - l = 0 := by omega
      simp only [xthen_some, stab, true_and]
      rw [if_pos h0] at hf; cases hf
      exact hK none (by simp only [firstV]; rw [if_pos hul, hul]; rfl) fun a h => by cases h
    · rw [if_neg h0] at hf; cases hf
  | some a =>
    have hs := hsp a rfl
    simp only [hs, ne_eq, not_true_eq_false, if_false, xthen_some, stab, true_and, Nat.mul_one]
    by_cases hcl : m = l
    · rw [if_pos hcl]
      have hul : u - l = 0 := by omega
      exact hK _ (by simp only [firstV]; rw [if_pos hul, hul]; rfl) fun b hb => by cases hb; exact ⟨hs, a, rfl, rfl⟩
    · rw [if_neg hcl]
      exact hK _ (first_part hf (by omega)) fun b hb => by cases hb; exact ⟨rfl, a, rfl, rfl⟩
theorem FsR.take {h : AHeap} : ∀ {vs : List Value} {ls : List (List Int)} (k : Nat), FsR h vs ls → FsR h (vs.take k) (ls.take k)
  | [], [], k, _ => by simp; trivial
  | v :: vs, z :: zs, 0, _ => trivial
  | v :: vs, z :: zs, k + 1, ⟨a, b⟩ => ⟨a, FsR.take k b⟩
  | [], _ :: _, _, k => k.elim
  | _ :: _, [], _, k => k.elim
theorem FsR.drop {h : AHeap} : ∀ {vs : List Value} {ls : List (List Int)} (k : Nat), FsR h vs ls → FsR h (vs.drop k) (ls.drop k)
  | [], [], k, _ => by simp; trivial
  | v :: vs, z :: zs, 0, a => a
  | v :: vs, z :: zs, k + 1, ⟨a, b⟩ => FsR.drop k b
  | [], _ :: _, _, k => k.elim
  | _ :: _, [], _, k => k.elim
theorem FsV.keep {h h' : AHeap} {q : Option Addr} {ls : List (List Int)} (l : FsV h q ls) (z : Frz h h') (hk : ∀ a, q = some a → h'[a.block]? = h[a.block]?) : FsV h' q ls := by
  obtain ⟨rows, h1, h2⟩ := l
  exact ⟨rows, by rw [firstV_at hk]; exact h1, h2.frz z⟩
theorem FsV.len {h : AHeap} {q : Option Addr} {ls : List (List Int)} (l : FsV h q ls) (h0 : ls ≠ []) : ∃ a, q = some a ∧ a.block < h.length ∧ a.spot = none := by
  obtain ⟨rows, h1, h2⟩ := l
  exact first_lt h1 fun e => h0 (List.eq_nil_of_length_eq_zero e)
theorem fl_bits : Bits fl := fun z hz => by
  simp only [fl, List.mem_cons, List.not_mem_nil, or_false] at hz
  omega
theorem jn_bits (ls : List (List Int)) : Bits (jn ls) := by
  unfold jn
  refine fl_bits.app ?_
  intro z hz
  obtain ⟨b, -, hb⟩ := List.mem_flatMap.1 hz
  exact ((stf_bits (ofL_bit b)).app fl_bits) z hb
theorem jn_pos (ls : List (List Int)) : (jn ls).length ≠ 0 := by
  unfold jn; rw [List.length_append]; simp [fl]
/-- contents made of octets -/
def lsB (m : Nat) (b zs : List Int) (n : Nat) : List (List Int) := (List.range n).map fun i => octL (b.drop (min i b.length)) (5 + (zs.getD i 0).toNat % m)
theorem lsB_len (m : Nat) (b zs : List Int) (n : Nat) : (lsB m b zs n).length = n := by simp [lsB]
theorem lsB_succ (m : Nat) (b zs : List Int) (n : Nat) : lsB m b zs (n + 1) = lsB m b zs n ++ [octL (b.drop (min n b.length)) (5 + (zs.getD n 0).toNat % m)] := by
  unfold lsB; rw [List.range_succ, List.map_append]; rfl
theorem lsB_byte {m : Nat} {b zs : List Int} {n : Nat} (hb : ∀ z ∈ b, 0 ≤ z ∧ z ≤ 255) : ∀ x ∈ lsB m b zs n, ∀ z ∈ x, 0 ≤ z ∧ z ≤ 255 := fun x hx => by
  obtain ⟨i, -, rfl⟩ := List.mem_map.1 hx
  exact octL_byte (fun z hz => hb z (List.mem_of_mem_drop hz)) _
theorem lsB_wide {m : Nat} {b zs : List Int} {n : Nat} (hm : m ≤ 200) (hm0 : 0 < m) : ∀ x ∈ lsB m b zs n, ¬ Wide x := fun x hx => by
  obtain ⟨i, -, rfl⟩ := List.mem_map.1 hx
  unfold Wide
  rw [octL_len]
  have := Nat.mod_lt (zs.getD i 0).toNat hm0
  omega
theorem lsB_size {m : Nat} {b zs : List Int} {n : Nat} (hm : m ≤ 200) (hm0 : 0 < m) : ∀ x ∈ lsB m b zs n, x.length ≤ 1000000000 := fun x hx => by
  have := lsB_wide hm hm0 x hx
  unfold Wide at this
  omega
end Go.Proofs.YtimfgagdfmmeeaaDoor
