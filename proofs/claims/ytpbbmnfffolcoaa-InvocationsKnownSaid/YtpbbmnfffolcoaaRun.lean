import Derived.Test.YtpbbmnfffolcoaaAiT
import Derived.Test.YtpbbmnfffolcoaaAiV
import Derived.Test.YtpbbmnfffolcoaaX
set_option linter.unusedVariables false
set_option maxRecDepth 100000
namespace Go.Proofs.Ytpbbmnfffolcoaa
open Go Go.Ai Go.Proofs
def tab : Tab := fun f => match f with
  | 3 => some (X3, [(.tmp 2)], 110)
  | 4 => some (X4, [(.tmp 2)], 315)
  | 5 => some (X5, [(.tmp 6)], 173)
  | 6 => some (X6, [(.tmp 0)], 193)
  | 7 => some (X7, [(.tmp 0)], 236)
  | 8 => some (X8, [(.tmp 0)], 3)
  | 9 => some (X9, [(.tmp 6)], 184)
  | 10 => some (X10, [(.tmp 2)], 14)
  | 11 => some (X11, [(.tmp 2)], 15)
  | 12 => some (X12, [(.tmp 4)], 33)
  | 13 => some (X13, [(.tmp 4)], 25)
  | 14 => some (X14, [(.tmp 4)], 26)
  | 15 => some (X15, [(.tmp 8), (.tmp 9)], 67)
  | 16 => some (X16, [(.cellN 6 2)], 36)
  | 17 => some (X17, [(.cellN 6 4), (.tmp 5), (.tmp 6)], 113)
  | 18 => some (X18, [(.tmp 4)], 16)
  | 19 => some (X19, [], 13)
  | 20 => some (X20, [], 49)
  | 21 => some (X21, [(.tmp 2)], 81)
  | 22 => some (X22, [(.tmp 8)], 83)
  | 23 => some (X23, [(.tmp 4)], 110)
  | 24 => some (X24, [], 51)
  | 25 => some (X25, [], 59)
  | 26 => some (X26, [(.tmp 2)], 9)
  | 27 => some (X27, [], 32)
  | 28 => some (X28, [(.cellN 6 4), (.tmp 5), (.tmp 6)], 10)
  | 29 => some (X29, [(.tmp 4)], 42)
  | 30 => some (X30, [(.tmp 2)], 36)
  | 31 => some (X31, [(.tmp 6)], 15)
  | 32 => some (X32, [(.tmp 2)], 9)
  | 33 => some (X33, [(.tmp 4)], 27)
  | _ => none
theorem tab_ok : TabOk Try.prog tab := by
  intro f x rs nt h args hp Q hl hq
  unfold tab at h
  split at h
  · cases h; exact v3 hl hq
  · cases h; exact v4 hl hq
  · cases h; exact v5 hl hq
  · cases h; exact v6 hl hq
  · cases h; exact v7 hl hq
  · cases h; exact v8 hl hq
  · cases h; exact v9 hl hq
  · cases h; exact v10 hl hq
  · cases h; exact v11 hl hq
  · cases h; exact v12 hl hq
  · cases h; exact v13 hl hq
  · cases h; exact v14 hl hq
  · cases h; exact v15 hl hq
  · cases h; exact v16 hl hq
  · cases h; exact v17 hl hq
  · cases h; exact v18 hl hq
  · cases h; exact v19 hl hq
  · cases h; exact v20 hl hq
  · cases h; exact v21 hl hq
  · cases h; exact v22 hl hq
  · cases h; exact v23 hl hq
  · cases h; exact v24 hl hq
  · cases h; exact v25 hl hq
  · cases h; exact v26 hl hq
  · cases h; exact v27 hl hq
  · cases h; exact v28 hl hq
  · cases h; exact v29 hl hq
  · cases h; exact v30 hl hq
  · cases h; exact v31 hl hq
  · cases h; exact v32 hl hq
  · cases h; exact v33 hl hq
  · cases h
def isTrue : Option (Value × AHeap) → Bool
  | some (.bool true, _) => true
  | _ => false
theorem lives_run : isTrue (funRun tab 200 7 [] []) = true := by kernel_rfl
theorem lives_ok (h : AHeap) : Valid Try.prog 7 [] h fun r h' => r = .bool true ∧ h' = h := by
  refine Valid.closed (Valid.mono (?_ : Valid Try.prog 7 [] [] fun r h' => r = .bool true) fun r h' e => e) h
  have hs := funRun_sure tab_ok 200
  have hr := lives_run
  cases e : funRun tab 200 7 [] [] with
  | none => rw [e] at hr; cases hr
  | some p =>
    rw [e] at hr
    obtain ⟨r, h'⟩ := p
    refine (hs 7 [] [] r h' e).mono ?_
    rintro v h2 ⟨rfl, rfl⟩
    cases v with
    | bool b => cases b <;> simp [isTrue] at hr ⊢
    | _ => simp [isTrue] at hr
end Go.Proofs.Ytpbbmnfffolcoaa
