import Derived.Test.YtjpjnidgcmkdbaaAiT
import Derived.Test.YtjpjnidgcmkdbaaAiV
import Derived.Test.YtjpjnidgcmkdbaaX
set_option linter.unusedVariables false
set_option maxRecDepth 100000
namespace Go.Proofs.Ytjpjnidgcmkdbaa
open Go Go.Ai Go.Proofs
def tab : Tab := fun f => match f with
  | 3 => some (X3, [(.tmp 6)], 176)
  | 4 => some (X4, [(.tmp 6)], 156)
  | 5 => some (X5, [(.tmp 6)], 124)
  | 6 => some (X6, [(.tmp 0)], 132)
  | 7 => some (X7, [(.cellN 3 2)], 19)
  | 8 => some (X8, [(.tmp 4), (.tmp 5)], 32)
  | 9 => some (X9, [(.tmp 4)], 43)
  | 10 => some (X10, [], 86)
  | 11 => some (X11, [(.tmp 2)], 15)
  | 12 => some (X12, [(.tmp 4)], 10)
  | 13 => some (X13, [(.tmp 4)], 17)
  | 14 => some (X14, [(.tmp 4)], 18)
  | 15 => some (X15, [(.tmp 4)], 9)
  | 16 => some (X16, [(.tmp 4)], 9)
  | 17 => some (X17, [(.tmp 4)], 9)
  | 18 => some (X18, [(.tmp 4)], 17)
  | 19 => some (X19, [(.tmp 2)], 13)
  | 20 => some (X20, [(.tmp 2)], 15)
  | 21 => some (X21, [], 23)
  | 22 => some (X22, [], 21)
  | 23 => some (X23, [], 11)
  | 24 => some (X24, [(.tmp 2)], 9)
  | 25 => some (X25, [(.tmp 6)], 23)
  | 26 => some (X26, [(.tmp 4)], 48)
  | 27 => some (X27, [(.tmp 4)], 21)
  | 28 => some (X28, [(.tmp 4)], 19)
  | 29 => some (X29, [(.tmp 4)], 15)
  | 30 => some (X30, [(.tmp 4)], 22)
  | _ => none
theorem tab_ok : TabOk Try.prog tab := by
  intro f x rs nt h args hp Q hl hq
  unfold tab at h
  split at h
  · cases h; exact v3 hl hq
  · cases h; exact v4 hl hq
  · cases h; exact v5 hl hq
  · cases h; exact v6 hl hq
  · cases h; exact v7 hl hq
  · cases h; exact v8 hl hq
  · cases h; exact v9 hl hq
  · cases h; exact v10 hl hq
  · cases h; exact v11 hl hq
  · cases h; exact v12 hl hq
  · cases h; exact v13 hl hq
  · cases h; exact v14 hl hq
  · cases h; exact v15 hl hq
  · cases h; exact v16 hl hq
  · cases h; exact v17 hl hq
  · cases h; exact v18 hl hq
  · cases h; exact v19 hl hq
  · cases h; exact v20 hl hq
  · cases h; exact v21 hl hq
  · cases h; exact v22 hl hq
  · cases h; exact v23 hl hq
  · cases h; exact v24 hl hq
  · cases h; exact v25 hl hq
  · cases h; exact v26 hl hq
  · cases h; exact v27 hl hq
  · cases h; exact v28 hl hq
  · cases h; exact v29 hl hq
  · cases h; exact v30 hl hq
  · cases h
def isTrue : Option (Value × AHeap) → Bool
  | some (.bool true, _) => true
  | _ => false
theorem lives_run : isTrue (funRun tab 40 6 [] []) = true := by kernel_rfl
theorem lives_ok (h : AHeap) : Valid Try.prog 6 [] h fun r h' => r = .bool true ∧ h' = h := by
  refine Valid.closed (Valid.mono (?_ : Valid Try.prog 6 [] [] fun r h' => r = .bool true) fun r h' e => e) h
  have hs := funRun_sure tab_ok 40
  have hr := lives_run
  cases e : funRun tab 40 6 [] [] with
  | none => rw [e] at hr; cases hr
  | some p =>
    rw [e] at hr
    obtain ⟨r, h'⟩ := p
    refine (hs 6 [] [] r h' e).mono ?_
    rintro v h2 ⟨rfl, rfl⟩
    cases v with
    | bool b => cases b <;> simp [isTrue] at hr ⊢
    | _ => simp [isTrue] at hr
end Go.Proofs.Ytjpjnidgcmkdbaa
