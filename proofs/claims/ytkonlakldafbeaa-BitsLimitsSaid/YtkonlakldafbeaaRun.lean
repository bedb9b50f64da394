import Derived.Test.YtkonlakldafbeaaAiT
import Derived.Test.YtkonlakldafbeaaAiV
import Derived.Test.YtkonlakldafbeaaX
import Derived.Test.YtkonlakldafbeaaAiX
import Derived.Test.YtkonlakldafbeaaTxO
set_option linter.unusedVariables false
set_option maxRecDepth 100000
namespace Go.Proofs.Ytkonlakldafbeaa
open Go Go.Ai Go.Proofs
def tab : Tab := fun f => match f with
  | 3 => some (X3, [(.tmp 4)], 80)
  | 4 => some (X4, [(.tmp 6)], 164)
  | 5 => some (X5, [(.tmp 4)], 148)
  | 6 => some (X6, [(.tmp 6)], 192)
  | 7 => some (X7, [(.tmp 4)], 53)
  | 8 => some (X8, [(.tmp 4)], 94)
  | 9 => some (X9, [(.tmp 4)], 152)
  | 10 => some (X10, [(.tmp 0)], 174)
  | 11 => some (X11, [(.tmp 2)], 23)
  | 12 => some (X12, [(.tmp 2), (.tmp 3)], 39)
  | 13 => some (X13, [(.tmp 2)], 18)
  | 14 => some (X14, [(.tmp 4)], 16)
  | 15 => some (X15, [(.tmp 2)], 27)
  | 16 => some (X16, [(.tmp 2)], 10)
  | 17 => some (X17, [(.tmp 4)], 26)
  | 18 => some (X18, [(.tmp 2)], 23)
  | 19 => some (X19, [(.tmp 4)], 16)
  | 20 => some (X20, [(.tmp 6), (.tmp 7)], 45)
  | 21 => some (X21, [(.tmp 6), (.tmp 7)], 40)
  | 23 => some (X23, [(.tmp 2), (.tmp 3)], 36)
  | 24 => some (X24, [(.tmp 2)], 21)
  | 25 => some (X25, [(.tmp 4), (.tmp 5)], 35)
  | 26 => some (X26, [(.tmp 4), (.tmp 5)], 46)
  | 27 => some (X27, [(.tmp 4)], 25)
  | 28 => some (X28, [(.tmp 2)], 22)
  | 29 => some (X29, [(.tmp 4)], 23)
  | 30 => some (X30, [(.tmp 2)], 21)
  | 31 => some (X31, [(.tmp 4)], 9)
  | 32 => some (X32, [(.tmp 2)], 5)
  | 33 => some (X33, [(.tmp 2)], 9)
  | 34 => some (X34, [(.tmp 2)], 36)
  | 35 => some (X35, [(.tmp 4)], 17)
  | 36 => some (X36, [(.tmp 2)], 14)
  | 37 => some (X37, [(.tmp 4)], 9)
  | 38 => some (X38, [(.tmp 3)], 12)
  | 39 => some (X39, [(.tmp 2)], 8)
  | 40 => some (X40, [(.tmp 2)], 9)
  | 41 => some (X41, [(.tmp 4)], 19)
  | 42 => some (X42, [(.tmp 4)], 27)
  | 43 => some (X43, [], 20)
  | 44 => some (X44, [(.tmp 4)], 19)
  | _ => none
theorem tab_ok : TabOk Try.prog tab := by
  intro f x rs nt h args hp Q hl hq
  unfold tab at h
  split at h
  · cases h; exact v3 hl hq
  · cases h; exact v4 hl hq
  · cases h; exact v5 hl hq
  · cases h; exact v6 hl hq
  · cases h; exact v7 hl hq
  · cases h; exact v8 hl hq
  · cases h; exact v9 hl hq
  · cases h; exact v10 hl hq
  · cases h; exact v11 hl hq
  · cases h; exact v12 hl hq
  · cases h; exact v13 hl hq
  · cases h; exact v14 hl hq
  · cases h; exact v15 hl hq
  · cases h; exact v16 hl hq
  · cases h; exact v17 hl hq
  · cases h; exact v18 hl hq
  · cases h; exact v19 hl hq
  · cases h; exact v20 hl hq
  · cases h; exact v21 hl hq
  · cases h; exact v23 hl hq
  · cases h; exact v24 hl hq
  · cases h; exact v25 hl hq
  · cases h; exact v26 hl hq
  · cases h; exact v27 hl hq
  · cases h; exact v28 hl hq
  · cases h; exact v29 hl hq
  · cases h; exact v30 hl hq
  · cases h; exact v31 hl hq
  · cases h; exact v32 hl hq
  · cases h; exact v33 hl hq
  · cases h; exact v34 hl hq
  · cases h; exact v35 hl hq
  · cases h; exact v36 hl hq
  · cases h; exact v37 hl hq
  · cases h; exact v38 hl hq
  · cases h; exact v39 hl hq
  · cases h; exact v40 hl hq
  · cases h; exact v41 hl hq
  · cases h; exact v42 hl hq
  · cases h; exact v43 hl hq
  · cases h; exact v44 hl hq
  · cases h
def isTrue : Option (Value × AHeap) → Bool
  | some (.bool true, _) => true
  | _ => false
theorem lives_run : isTrue (funRunO tab textO 60 10 [] []) = true := by kernel_rfl
theorem lives_ok (h : AHeap) : Valid Try.prog 10 [] h fun r h' => r = .bool true ∧ h' = h := by
  refine Valid.closed (Valid.mono (?_ : Valid Try.prog 10 [] [] fun r h' => r = .bool true) fun r h' e => e) h
  have hs := funRunO_sure tab_ok textO_sure 60
  have hr := lives_run
  cases e : funRunO tab textO 60 10 [] [] with
  | none => rw [e] at hr; cases hr
  | some p =>
    rw [e] at hr
    obtain ⟨r, h'⟩ := p
    refine (hs 10 [] [] r h' e).mono ?_
    rintro v h2 ⟨rfl, rfl⟩
    cases v with
    | bool b => cases b <;> simp [isTrue] at hr ⊢
    | _ => simp [isTrue] at hr
end Go.Proofs.Ytkonlakldafbeaa
