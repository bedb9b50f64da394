import Derived.Test.YtkonlakldafbeaaTx
set_option linter.unusedVariables false
set_option linter.unusedSimpArgs false
namespace Go.Proofs.Ytkonlakldafbeaa
open Go Go.Ai Go.Proofs

/-- bits.Text as an oracle of closed runs -/
def asB : List Value → Option (List Int)
  | [] => some []
  | .int .u8 (.ofNat z) :: r => (asB r).map ((z : Int) :: ·)
  | _ => none
theorem asB_sound : ∀ {l : List Value} {zs : List Int}, asB l = some zs → l = bR zs ∧ ∀ z ∈ zs, 0 ≤ z
  | [], zs, h => by cases h; exact ⟨rfl, by simp⟩
  | .int .u8 (.ofNat z) :: r, zs, h => by
    simp only [asB, Option.map_eq_some_iff] at h
    obtain ⟨zs', h1, rfl⟩ := h
    obtain ⟨h2, h3⟩ := asB_sound h1
    refine ⟨by rw [h2]; rfl, fun y hy => ?_⟩
    rcases List.mem_cons.1 hy with rfl | hy
    · exact Int.natCast_nonneg z
    · exact h3 y hy
def textO : Orc := fun f args h =>
  if f = 22 then
    match args with
    | [.slice q n c] => if n ≤ 1000 then
        match (firstV 1 h n (.slice q n c)).bind asB with
        | some zs => some (.tuple #[.string ⟨(if checkV zs = 0 then txt zs else []).toArray⟩, .int .i64 (checkV zs)], h)
        | none => none
      else none
    | _ => none
  else none
theorem textO_sure : Sure Try.prog textO := by
  intro f args h r h' hr
  unfold textO at hr
  split at hr
  · rename_i hf
    subst hf
    split at hr
    · rename_i q n c
      split at hr
      · rename_i hn
        split at hr
        · rename_i zs hz
          cases hr
          obtain ⟨rows, h1, h2⟩ := Option.bind_eq_some_iff.1 hz
          obtain ⟨h3, h4⟩ := asB_sound h2
          rw [h3] at h1
          exact text_still h1 (by omega) h4
        · cases hr
      · cases hr
    · cases hr
  · cases hr
end Go.Proofs.Ytkonlakldafbeaa
