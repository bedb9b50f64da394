import Derived.Test.YtjhpohgghbimcaaT7
import Derived.Test.YtjhpohgghbimcaaRun
import Derived.Test.YtjhpohgghbimcaaAiV
set_option linter.unusedVariables false
set_option linter.unusedSimpArgs false
namespace Go.Proofs.Ytjhpohgghbimcaa
open Go Go.Ai Go.Proofs

theorem lives_ok (h : AHeap) : Valid Try.prog 13 [] h fun r h' => r = .bool true ∧ h' = h := by
  refine Valid.closed (Valid.mono (?_ : Valid Try.prog 13 [] [] fun r h' => r = .bool true) fun r h' e => e) h
  have hs := funRun_sure tab_ok 40
  have hr := lives_run
  cases e : funRun tab 40 13 [] [] with
  | none => rw [e] at hr; cases hr
  | some p =>
    rw [e] at hr
    obtain ⟨r, h'⟩ := p
    refine (hs 13 [] [] r h' e).mono ?_
    rintro v h2 ⟨rfl, rfl⟩
    cases v with
    | bool b => cases b <;> simp [isTrue] at hr ⊢
    | _ => simp [isTrue] at hr

/-- an end that has sent item 1 -/
def Sent1 (h : AHeap) (X : Nat) (st since : Int) : Prop := ∃ q c B, h[X]? = some (some ⟨true, endC st 1 0 0 since (.slice q 1 c)⟩) ∧
  firstV 8 h 1 (.slice q 1 c) = some (itC 1 5 0 0 0 0 0 (.slice (some ⟨B, 0, none⟩) 2 2)) ∧ h[B]? = some (some ⟨true, dataOf 1⟩) ∧ B ≠ X ∧ (∀ ad, q = some ad → ad.block ≠ X)

theorem send1_ok {h : AHeap} {x : Option AObj} : Valid Try.prog 9 [ptr h.length 0, .agg (itC 1 5 0 0 0 0 0 (.slice (some ⟨h.length + 2, 0, none⟩) 2 2)).toArray] (h ++ [some ⟨true, endC 0 0 0 0 0 (.slice none 0 0)⟩, x, some ⟨true, dataOf 1⟩]) fun r h' => r = .tuple #[.int .i64 1, .int .i64 0] ∧ Sent1 h' h.length 0 0 := by
  refine (send_ok (X := h.length) (sent := 0) (n := 0) (rows := []) (drows := dataOf 1) (by rw [app_new0]; rfl) ⟨rfl, .inl ⟨rfl, rfl⟩⟩ (by omega) (by simp [slB]) (by simp [slB]) ?_ (by omega) ?_).mono ?_
  · simp [firstV, cellsAt, dataOf]
    rfl
  · rintro ad h1
    cases h1
    simp
  · rintro r h' ⟨rfl, hl, sl', d', h1, h2, ⟨A', h3, h3'⟩, h4, h5⟩
    refine ⟨by rfl, ?_⟩
    obtain ⟨q, c, rfl, _⟩ := h2.shape
    have hf := h2.first
    rcases h4 with ⟨_, h4⟩ | ⟨B, n, rfl, h6, h7, h8, h9⟩
    · cases h4
    · have : n = 2 := by simpa [dataOf] using h7.symm
      subst this
      refine ⟨q, c, B, h1, hf, h9 (by decide), ?_, ?_⟩
      · simp at h6; omega
      · rintro ad rfl
        simp [slB] at h3
        simp at h3'
        omega
end Go.Proofs.Ytjhpohgghbimcaa
