import Derived.Test.YtimfgagdfmmeeaaDoorT4
set_option linter.unusedVariables false
set_option linter.unusedSimpArgs false
namespace Go.Proofs.YtimfgagdfmmeeaaDoor
open Go Go.Ai Go.Proofs

theorem endsL_inc (s : List Int) : ∀ j, j + 1 < (endsL s).length → (endsL s).getD j 0 < (endsL s).getD (j + 1) 0 := by
  refine snoc_ind (C := fun s => ∀ j, j + 1 < (endsL s).length → (endsL s).getD j 0 < (endsL s).getD (j + 1) 0) (fun j h => by simp [endsL, acc, accN] at h) (fun s b ih j h => ?_) s
  rw [endsL_snoc] at h ⊢
  unfold gE at h ⊢
  split
  · rename_i hc
    rw [if_pos hc, List.length_append] at h
    have gl : ∀ j, j < (endsL s).length → (endsL s ++ [s.length + 1]).getD j 0 = (endsL s).getD j 0 := fun j hj => by
      rw [List.getD_eq_getElem?_getD, List.getD_eq_getElem?_getD, List.getElem?_append_left hj]
    by_cases hj : j + 1 < (endsL s).length
    · rw [gl _ hj, gl _ (by omega)]; exact ih j hj
    · have e : j + 1 = (endsL s).length := by simp at h; omega
      rw [gl j (by omega), e]
      have : (endsL s ++ [s.length + 1]).getD (endsL s).length 0 = s.length + 1 := by
        rw [List.getD_eq_getElem?_getD, List.getElem?_append_right (Nat.le_refl _), Nat.sub_self]; rfl
      rw [this]
      have := getD_le (endsL_le s) j
      omega
  · rename_i hc
    rw [if_neg hc, List.append_nil] at h
    rw [List.append_nil]; exact ih j h
noncomputable def jN (s : List Int) (k : Nat) : Nat × List (List Int) := ((partsL s (endsL s)).take k).foldl jud (0, [])
theorem jN_zero (s : List Int) : jN s 0 = (0, []) := rfl
theorem jN_all {s : List Int} {k : Nat} (h : (endsL s).length - 1 ≤ k) : jN s k = jf s := by
  unfold jN jf; rw [List.take_of_length_le (by unfold partsL; simpa using h)]
def partAt (s : List Int) (k : Nat) : List Int := (s.drop ((endsL s).getD k 0)).take ((endsL s).getD (k + 1) 0 - (endsL s).getD k 0)
theorem jN_succ {s : List Int} {k : Nat} (h : k + 1 < (endsL s).length) : jN s (k + 1) = jud (jN s k) (partAt s k) := by
  have hp : (partsL s (endsL s))[k]? = some (partAt s k) := by
    unfold partsL
    rw [List.getElem?_map, List.getElem?_range (by omega)]; rfl
  unfold jN
  rw [List.take_add_one, hp, List.foldl_append]; rfl
theorem jud_le (x : Nat × List (List Int)) (p : List Int) : (jud x p).1 ≤ x.1 + 1 ∧ (jud x p).2.length ≤ x.2.length + 1 := by
  unfold jud
  split
  · exact ⟨Nat.le_refl _, by simp⟩
  split
  · exact ⟨by omega, by omega⟩
  split
  · exact ⟨Nat.le_refl _, by simp⟩
  · exact ⟨by simp, by simp⟩
theorem jN_le (s : List Int) : ∀ k, (jN s k).1 ≤ k ∧ (jN s k).2.length ≤ k
  | 0 => ⟨Nat.le_refl _, Nat.le_refl _⟩
  | k + 1 => by
    obtain ⟨h1, h2⟩ := jN_le s k
    by_cases h : k + 1 < (endsL s).length
    · rw [jN_succ h]
      obtain ⟨h3, h4⟩ := jud_le (jN s k) (partAt s k)
      exact ⟨by omega, by omega⟩
    · rw [jN_all (k := k + 1) (by omega), ← jN_all (k := k) (by omega)]
      exact ⟨by omega, by omega⟩
/-- the front of a slice that was appended to -/
theorem cut_run {P : Program} {K : Env → AHeap → Prop} {r : List XOper} {ρ : Env} {h : AHeap} {d : Option Nat} {x hi : XA} {sl : Value} {u : Nat} {zs : List Int}
    (hx : ev ρ x = some sl) (R : RN h sl zs) (hhi : ev ρ hi = some (.int .i64 (u : Nat))) (hu : u ≤ zs.length)
    (hK : ∀ q' c', firstV 1 h u (.slice q' u c') = some (bR (zs.take u)) → ((u ≤ c' ∧ c' < unk) ∨ (c' = unk + 1 ∧ q' ≠ none)) → (∀ a, q' = some a → a.spot = none) → xops P K r (put d (.slice q' u c') ρ) h) : xops P K (⟨d, none, .slice 1 x none (some hi) none, []⟩ :: r) ρ h := by
  have bn : ∀ top d, bnd ρ none d top = some d := fun _ _ => rfl
  rw [x_slice]
  rcases R with ⟨rfl, rfl⟩ | ⟨A, rfl, hA⟩
  · simp only [xop, hx, Option.bind_some]
    have h0 : u = 0 := by simpa using hu
    subst h0
    rw [if_neg (by decide)]
    have b1 : bnd ρ (some hi) 0 0 = some 0 := bnd_some hhi (Nat.le_refl _)
    simp only [bn, b1, Option.bind_some, Option.isSome_none, Bool.false_eq_true, false_and, if_false, xthen_some, stab, true_and]
    exact hK none 0 rfl (.inl ⟨Nat.le_refl _, by decide⟩) fun a h => by cases h
  · simp only [xop, hx, Option.bind_some]
    rw [if_pos (by omega)]
    have b1 : bnd ρ (some hi) zs.length zs.length = some u := bnd_some hhi hu
    simp only [Option.isSome_none, Bool.false_eq_true, if_false, b1, Option.bind_some, bn, ne_eq, not_true_eq_false, or_self, xthen_some, stab, true_and, Nat.zero_mul, shiftA, Nat.add_zero, Nat.sub_zero]
    refine hK (some ⟨A, 0, none⟩) (unk + 1) ?_ (.inr ⟨rfl, by simp⟩) fun a h => by cases h; rfl
    have := firstV_part (c2 := unk + 1) (first_pre (t := []) (c := unk + 1) (by rw [List.append_nil]; exact hA) rfl : firstV 1 h zs.length (.slice (some ⟨A, 0, none⟩) zs.length (unk + 1)) = some (bR zs)) (lo := 0) (len := u) (by omega)
    simpa using this
end Go.Proofs.YtimfgagdfmmeeaaDoor
