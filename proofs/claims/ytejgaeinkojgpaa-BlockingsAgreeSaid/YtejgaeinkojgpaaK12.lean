import Derived.Test.YtejgaeinkojgpaaK11
set_option linter.unusedVariables false
set_option linter.unusedSimpArgs false
namespace Go.Proofs.Ytejgaeinkojgpaa
open Go Go.Ai Go.Proofs

/-- a slice that is full is appended to -/
theorem append_full {P : Program} {K : Env → AHeap → Prop} {r : List XOper} {ρ : Env} {h : AHeap} {d : Option Nat} {s x : XA} {A n m : Nat} {w : Bool} {xv : Value} {rows news z : List Value} {by_ : Nat} (hz : z.length = 1) (hs : ev ρ s = some (.slice (some ⟨A, 0, none⟩) n n)) (hx : ev ρ x = some xv) (hl : lenV xv = some m) (hf : firstV 1 h m xv = some news)
    (hA : h[A]? = some (some ⟨w, rows⟩)) (hr : rows.length = n) (hn : n ≠ 0) (hm : m ≠ 0) (hb : (n + m) * by_ ≤ 140737488355328) (hb2 : n + m ≤ 9223372036854775807) (hK : xops P K r (put d (.slice (some ⟨h.length, 0, none⟩) (n + m) (unk + 1)) ρ) (h ++ [some ⟨true, rows ++ news⟩])) :
    xops P K (⟨d, none, .append 1 by_ z s x, []⟩ :: r) ρ h := by
  rw [x_append]
  have h1 : ¬ unk ≤ n := by unfold unk; omega
  have h2 : ¬ n + m ≤ n := by omega
  have h3 : ¬ ((n + m) * by_ > 140737488355328 ∨ n + m > 9223372036854775807) := by omega
  have hg := getN_all rows n hr.symm
  simp only [xop, hs, hx, Option.bind_some, hl, hf, hz, and_self, if_true, Nat.lt_add_one, Nat.zero_lt_one, appendV, ne_eq, not_true_eq_false, if_false, hm, h1, h2, h3, hn, cellsAt, hA, Nat.mul_one, hg, xthen_some, stab, true_and]
  exact hK
theorem flat1 (z0 : Value) : ∀ m : Nat, (List.replicate m [z0]).flatten = List.replicate m z0
  | 0 => rfl
  | m + 1 => by rw [List.replicate_succ, List.flatten_cons, flat1 z0 m, List.replicate_succ]; rfl
/-- zeros are appended -/
theorem appz_run {P : Program} {K : Env → AHeap → Prop} {r : List XOper} {ρ : Env} {h : AHeap} {d : Option Nat} {s x : XA} {sl : Value} {n m : Nat} {rows : List Value} {z0 : Value} {by_ : Nat} (hz1 : oneC z0 = true) (hs : ev ρ s = some sl) (hx : ev ρ x = some (.int .i64 (m : Nat))) (R : RetN 1 h sl n rows) (hm : m ≠ 0) (hb : (n + m) * by_ ≤ 140737488355328) (hb2 : n + m ≤ 9223372036854775807)
    (hK : ∀ h' A', h.length ≤ A' → h'[A']? = some (some ⟨true, rows ++ List.replicate m z0⟩) → h'.length = h.length + 1 → (∀ B, B < h.length → slB sl ≠ some B → h'[B]? = h[B]?) → xops P K r (put d (.slice (some ⟨A', 0, none⟩) (n + m) (unk + 1)) ρ) h') :
    xops P K (⟨d, none, .appz 1 by_ [z0] s x, []⟩ :: r) ρ h := by
  rw [x_appz]
  have hfl := flat1 z0 m
  obtain ⟨hl, ⟨rfl, rfl⟩ | ⟨X, off, cs, rfl, hX, hg⟩⟩ := R
  · have : rows = [] := List.eq_nil_of_length_eq_zero (by simpa using hl)
    subst this
    have h0 : (0 : Int) < (m : Nat) := by omega
    have h1 : ((m : Nat) : Int) * (by_ : Nat) ≤ 140737488355328 := by
      have : m * by_ ≤ 140737488355328 := by simpa using hb
      have h3 : ((m * by_ : Nat) : Int) ≤ 140737488355328 := by omega
      rw [Int.natCast_mul] at h3; exact h3
    have h2 : ((m : Nat) : Int) ≤ 9223372036854775807 := by omega
    simp only [xop, hs, hx, Option.bind_some, int?, h0, h1, h2, List.length_cons, List.length_nil, Nat.zero_add, Nat.lt_add_one, Nat.zero_lt_one, and_self, if_true, Int.toNat_natCast, xthen_some, stab, true_and, hfl]
    have := hK (h ++ [some ⟨true, [] ++ List.replicate m z0⟩]) h.length (Nat.le_refl _) (by simp) (by simp) fun B hB _ => List.getElem?_append_left hB
    rw [Nat.zero_add] at this
    exact this
  · have h0 : ¬ (unk + 1 < unk) := by omega
    have h1 : ¬ ((m : Nat) : Int) = 0 := by omega
    have h2 : (0 : Int) ≤ (m : Nat) := by omega
    have ho : [z0].all oneC = true := by simp [hz1]
    simp only [xop, hs, hx, Option.bind_some, int?]
    rw [if_neg (fun h => h0 h.2.1), if_pos ⟨trivial, trivial, rfl, Nat.one_pos, h2, by simpa using hb, by simpa using hb2⟩, if_neg h1]
    simp only [hX]
    rw [if_pos ⟨trivial, ho⟩]
    simp only [hg, Option.map_some, xthen_some, stab, true_and, hfl, Int.toNat_natCast]
    refine hK (h.set X none ++ [some ⟨true, rows ++ List.replicate m z0⟩]) h.length (Nat.le_refl _) (by simp) (by simp) fun B hB hn => ?_
    rw [List.getElem?_append_left (by simpa using hB), set_ne (fun e => hn (by simp [slB, e]))]
end Go.Proofs.Ytejgaeinkojgpaa
