import Derived.Test.YtemphcppnjlkcaaAiT
import Derived.Test.YtemphcppnjlkcaaAiV
import Derived.Test.YtemphcppnjlkcaaX
set_option linter.unusedVariables false
set_option maxRecDepth 100000
namespace Go.Proofs.Ytemphcppnjlkcaa
open Go Go.Ai Go.Proofs
def tab : Tab := fun f => match f with
  | 3 => some (X3, [(.tmp 4)], 157)
  | 4 => some (X4, [(.tmp 6)], 141)
  | 5 => some (X5, [(.tmp 4)], 61)
  | 7 => some (X7, [(.tmp 6)], 163)
  | 8 => some (X8, [(.tmp 4)], 121)
  | 9 => some (X9, [(.tmp 0)], 90)
  | 10 => some (X10, [(.tmp 2), (.tmp 3)], 48)
  | 11 => some (X11, [(.tmp 4), (.tmp 5)], 28)
  | 12 => some (X12, [(.tmp 2)], 22)
  | 13 => some (X13, [(.tmp 6)], 81)
  | 14 => some (X14, [(.tmp 4)], 68)
  | 15 => some (X15, [(.tmp 2)], 24)
  | 16 => some (X16, [(.tmp 4)], 16)
  | 17 => some (X17, [(.tmp 2)], 61)
  | 18 => some (X18, [(.tmp 2)], 9)
  | 19 => some (X19, [(.tmp 2)], 9)
  | 20 => some (X20, [(.tmp 2)], 9)
  | 21 => some (X21, [(.tmp 4)], 26)
  | 22 => some (X22, [(.tmp 2)], 18)
  | 23 => some (X23, [(.tmp 2)], 16)
  | 24 => some (X24, [(.tmp 4)], 9)
  | 25 => some (X25, [(.tmp 2)], 8)
  | 26 => some (X26, [(.tmp 2)], 10)
  | 27 => some (X27, [(.tmp 4)], 68)
  | 28 => some (X28, [(.tmp 2)], 9)
  | 29 => some (X29, [(.tmp 4)], 19)
  | 30 => some (X30, [(.tmp 4)], 9)
  | 31 => some (X31, [(.tmp 2)], 5)
  | 32 => some (X32, [(.tmp 3)], 10)
  | 33 => some (X33, [(.tmp 4)], 18)
  | 34 => some (X34, [(.tmp 4)], 19)
  | _ => none
theorem tab_ok : TabOk Try.prog tab := by
  intro f x rs nt h args hp Q hl hq
  unfold tab at h
  split at h
  · cases h; exact v3 hl hq
  · cases h; exact v4 hl hq
  · cases h; exact v5 hl hq
  · cases h; exact v7 hl hq
  · cases h; exact v8 hl hq
  · cases h; exact v9 hl hq
  · cases h; exact v10 hl hq
  · cases h; exact v11 hl hq
  · cases h; exact v12 hl hq
  · cases h; exact v13 hl hq
  · cases h; exact v14 hl hq
  · cases h; exact v15 hl hq
  · cases h; exact v16 hl hq
  · cases h; exact v17 hl hq
  · cases h; exact v18 hl hq
  · cases h; exact v19 hl hq
  · cases h; exact v20 hl hq
  · cases h; exact v21 hl hq
  · cases h; exact v22 hl hq
  · cases h; exact v23 hl hq
  · cases h; exact v24 hl hq
  · cases h; exact v25 hl hq
  · cases h; exact v26 hl hq
  · cases h; exact v27 hl hq
  · cases h; exact v28 hl hq
  · cases h; exact v29 hl hq
  · cases h; exact v30 hl hq
  · cases h; exact v31 hl hq
  · cases h; exact v32 hl hq
  · cases h; exact v33 hl hq
  · cases h; exact v34 hl hq
  · cases h
def isTrue : Option (Value × AHeap) → Bool
  | some (.bool true, _) => true
  | _ => false
theorem lives_run : isTrue (funRun tab 40 9 [] []) = true := by kernel_rfl
theorem lives_ok (h : AHeap) : Valid Try.prog 9 [] h fun r h' => r = .bool true ∧ h' = h := by
  refine Valid.closed (Valid.mono (?_ : Valid Try.prog 9 [] [] fun r h' => r = .bool true) fun r h' e => e) h
  have hs := funRun_sure tab_ok 40
  have hr := lives_run
  cases e : funRun tab 40 9 [] [] with
  | none => rw [e] at hr; cases hr
  | some p =>
    rw [e] at hr
    obtain ⟨r, h'⟩ := p
    refine (hs 9 [] [] r h' e).mono ?_
    rintro v h2 ⟨rfl, rfl⟩
    cases v with
    | bool b => cases b <;> simp [isTrue] at hr ⊢
    | _ => simp [isTrue] at hr
end Go.Proofs.Ytemphcppnjlkcaa
