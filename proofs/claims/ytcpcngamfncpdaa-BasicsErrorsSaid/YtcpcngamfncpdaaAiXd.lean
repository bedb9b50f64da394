/- New objects under names of their own. Generic. -/
import Derived.Test.YtcpcngamfncpdaaAiXc
set_option linter.unusedVariables false
namespace Go.Ai
open Go
section
variable {P : Program} {K : Env → AHeap → Prop} {r : List XOper} {ρ : Env} {h : AHeap} {d : Option Nat} {st : List (Nat × Option (Nat × Bool) × XOp)}
theorem alloc_run {z : List Value} (hK : ∀ g R, Kp h g → g[R]? = some (some ⟨true, z⟩) → h.length ≤ R → g.length = R + 1 → stab ρ g st ∧ xops P K r (put d (.pointer (some ⟨R, 0, none⟩)) ρ) g) : xops P K (⟨d, none, .alloc z, st⟩ :: r) ρ h := by
  rw [x_alloc]
  exact hK (h ++ [some ⟨true, z⟩]) h.length (Kp.app _ _) (by rw [app_new0]; rfl) (Nat.le_refl _) (by simp)
theorem box_run {x : XA} {v : Value} (hx : ev ρ x = some v) (hK : ∀ g R, Kp h g → g[R]? = some (some ⟨true, cellsL v⟩) → h.length ≤ R → g.length = R + 1 → stab ρ g st ∧ xops P K r (put d (.pointer (some ⟨R, 0, none⟩)) ρ) g) : xops P K (⟨d, none, .box x, st⟩ :: r) ρ h := by
  rw [x_box]
  simp only [xop, hx, Option.map_some]
  exact hK (h ++ [some ⟨true, cellsL v⟩]) h.length (Kp.app _ _) (by rw [app_new0]; rfl) (Nat.le_refl _) (by simp)
theorem bslice_run {x : XA} {v z0 : Value} (hx : ev ρ x = some v) (hc : cellsL v = [v]) (hK : ∀ g R, Kp h g → g[R]? = some (some ⟨true, [v]⟩) → h.length ≤ R → g.length = R + 1 → stab ρ g st ∧ xops P K r (put d (.slice (some ⟨R, 0, none⟩) 1 1) ρ) g) : xops P K (⟨d, none, .bslice 1 [z0] [(0, (1, x))], st⟩ :: r) ρ h := by
  rw [x_bslice]
  simp only [xop, evParts, hx, Option.bind_some, Option.map_some, fillL, hc, List.length_cons, List.length_nil, setN, List.set_cons_zero]
  exact hK (h ++ [some ⟨true, [v]⟩]) h.length (Kp.app _ _) (by rw [app_new0]; rfl) (Nat.le_refl _) (by simp)
/-- reads that may still come are told apart -/
theorem xops_st {op : XOp} (hx : xops P (fun ρ' h' => stab ρ h' st ∧ xops P K r ρ' h') [⟨d, none, op, []⟩] ρ h) : xops P K (⟨d, none, op, st⟩ :: r) ρ h := by
  rw [xops_cons] at hx ⊢
  obtain ⟨t, h1, h2, h3⟩ := hx
  refine ⟨t, h1, fun ht => xstep_mono (h2 ht) fun v h' k => k.2, fun ht => ?_⟩
  simp only [guardv, Option.some.injEq] at h1
  rw [← h1] at ht; cases ht
end
theorem set_far {U X : Nat} (h : U ≠ X) (g : AHeap) (o : Option AObj) : (g.set U o)[X]? = g[X]? := List.getElem?_set_ne h
theorem set_here (X : Nat) (g : AHeap) (o : Option AObj) : (g.set X o)[X]? = g[X]?.map fun _ => o := by
  rw [List.getElem?_set_self']; rfl
theorem Fr.aside {S : Nat → Prop} {h h2 : AHeap} (F : Fr S h h2) {U : Nat} (hU : h.length ≤ U) (o : Option AObj) : Fr S h (h2.set U o) := ⟨by simpa using F.1, fun B hB hn => by rw [set_ne (by omega)]; exact F.2 B hB hn⟩
theorem Fr.kp {S : Nat → Prop} {h h2 h3 : AHeap} (F : Fr S h h2) (K : Kp h2 h3) : Fr S h h3 := ⟨Nat.le_trans F.1 K.1, fun B hB hn => by rw [K.2 B (Nat.lt_of_lt_of_le hB F.1)]; exact F.2 B hB hn⟩
end Go.Ai
