/- From a triple of a law's function to the law's statement. Generic. -/
import Derived.Test.YtcpcngamfncpdaaAiV
import Derived.ProofKit
import Derived.OpenShut
set_option linter.unusedVariables false
namespace Go.Ai
open Go Go.ChangeShapes Go.WideShapes Go.ChangeAt Go.RowKit

theorem kept_of {w w' : World} (ho : w'.os = w.os) (hp : w'.output = w.output) (h : ∀ B, B < w.heap.size → w'.heap[B]? = w.heap[B]?) (may : MemPlace → Prop) : w.keptBut w' may :=
  ⟨ho, hp, fun i hi => by rw [h i hi]; exact (World.keptBut_refl w may).2.2 i hi⟩

theorem post_of_kept {H : Type} {enc : TypeId × Value → H} {P : Program} {f : Func} {s : ChangeSpec} {apart fresh handsOn : Bool} {W W' : World} {args : Array Value} {v : Value} {ds gs : List (DataW H)} {before : List MemPlace}
    (hW : DataW.Whole enc P f.params.toList s.vars apart W args.toList ds gs before)
    (hres : ∀ (b : Nat) (sp : Nat → Bool) (hd : Bool), DataW.TrodAll enc P W' b sp hd f.resultTypes.toList (v.resultList f.resultTypes.size) (s.fn H (ds ++ gs)).results [])
    (hargs : ∀ sp : Nat → Bool, (∀ p ∈ before, sp p.block = true) → ∃ pa, DataW.TrodAll enc P W' 0 sp true f.params.toList args.toList (s.fn H (ds ++ gs)).args pa)
    (hvars : ∀ sp : Nat → Bool, (∀ p ∈ before, sp p.block = true) → ∃ pv, DataW.TrodVars enc P W' sp s.vars (s.fn H (ds ++ gs)).vars pv)
    (hk : ∀ may, W.keptBut W' may) :
    s.post enc P f apart fresh handsOn false W args v W' := by
  have hold : ∀ p ∈ before, (fun b => decide (b < W.heap.size)) p.block = true := fun p hp => by simpa using hW.lt p hp
  obtain ⟨pa, ha⟩ := hargs (fun b => decide (b < W.heap.size)) hold
  obtain ⟨pv, hv⟩ := hvars (fun b => decide (b < W.heap.size)) hold
  exact ⟨ds, gs, before, [], pa, pv, hW, hres _ _ _, ha, hv, hk _, fun h => by cases h⟩

/-- a function that is given no place of the heap -/
theorem calls_plain {P : Program} {f : FuncId} {args : List Value} {b : Bool} (v : Valid P f args [] fun r _ => r = .bool b) (ha : ∀ φ, LR φ args args) (w : World) (hgv : gv = none := by rfl) :
    Calls P f args.toArray w fun e w' => e = .returned (.bool b) ∧ (∀ may, w.keptBut w' may) := by
  have h0 : HR (fun _ => none) [] w := ⟨fun A o h => by simp at h, fun A A' o o' B s s' n n' h => by simp at h, fun _ _ => rfl⟩
  refine (v.2 _ w args h0 (GR.none hgv _) (ha _)).mono ?_
  rintro e w' ⟨φ', h', r, r', he, st, hv, rfl⟩
  have hno : ∀ B, ¬ ownB (fun _ => none) [] B := fun B ⟨A, o, s, n, h, _⟩ => by simp at h
  have hv' : r' = .bool b := by cases hv; rfl
  subst hv'
  exact ⟨he, fun may => kept_of st.os st.output (fun B hB => st.keep B hB (hno B)) may⟩
end Go.Ai
