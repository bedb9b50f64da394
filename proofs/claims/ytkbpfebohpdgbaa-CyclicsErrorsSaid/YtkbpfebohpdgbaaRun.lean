import Derived.Test.YtkbpfebohpdgbaaAiT
import Derived.Test.YtkbpfebohpdgbaaAiV
import Derived.Test.YtkbpfebohpdgbaaX
set_option linter.unusedVariables false
set_option maxRecDepth 100000
namespace Go.Proofs.Ytkbpfebohpdgbaa
open Go Go.Ai Go.Proofs
def tab : Tab := fun f => match f with
  | 3 => some (X3, [(.tmp 6)], 132)
  | 4 => some (X4, [(.tmp 4)], 140)
  | 5 => some (X5, [(.tmp 4)], 40)
  | 6 => some (X6, [(.tmp 4)], 128)
  | 7 => some (X7, [(.tmp 6)], 284)
  | 8 => some (X8, [(.tmp 4)], 252)
  | 9 => some (X9, [(.tmp 4), (.tmp 5)], 26)
  | 10 => some (X10, [(.tmp 4)], 38)
  | 11 => some (X11, [(.tmp 2)], 14)
  | 12 => some (X12, [(.tmp 4)], 42)
  | 13 => some (X13, [(.cellN 7 2), (.tmp 3)], 35)
  | 14 => some (X14, [(.tmp 4), (.tmp 5)], 100)
  | 15 => some (X15, [(.tmp 2)], 7)
  | 16 => some (X16, [(.tmp 0)], 84)
  | 17 => some (X17, [(.tmp 2), (.tmp 3)], 14)
  | 18 => some (X18, [(.tmp 4)], 16)
  | 19 => some (X19, [(.tmp 2), (.tmp 3)], 18)
  | 20 => some (X20, [(.tmp 2)], 35)
  | 21 => some (X21, [], 51)
  | 22 => some (X22, [(.tmp 4)], 85)
  | 23 => some (X23, [], 43)
  | 24 => some (X24, [], 73)
  | 25 => some (X25, [(.tmp 4), (.tmp 5)], 59)
  | 26 => some (X26, [(.tmp 2)], 11)
  | 27 => some (X27, [(.tmp 2)], 9)
  | 28 => some (X28, [(.tmp 2)], 59)
  | 29 => some (X29, [(.tmp 4)], 54)
  | 30 => some (X30, [(.cellN 7 2)], 147)
  | 31 => some (X31, [(.cellN 7 2)], 37)
  | 32 => some (X32, [(.tmp 4)], 108)
  | 33 => some (X33, [(.tmp 4)], 34)
  | 34 => some (X34, [(.tmp 4)], 19)
  | 35 => some (X35, [(.tmp 2)], 20)
  | 36 => some (X36, [(.tmp 2)], 6)
  | 37 => some (X37, [(.tmp 2), (.tmp 3)], 146)
  | 38 => some (X38, [(.tmp 4)], 10)
  | 39 => some (X39, [], 34)
  | 40 => some (X40, [(.tmp 4)], 11)
  | 41 => some (X41, [(.tmp 4)], 14)
  | 42 => some (X42, [(.tmp 4)], 26)
  | 43 => some (X43, [(.tmp 2)], 36)
  | 44 => some (X44, [(.tmp 2)], 9)
  | 45 => some (X45, [(.tmp 4)], 26)
  | 46 => some (X46, [(.tmp 2)], 44)
  | 47 => some (X47, [(.tmp 4)], 34)
  | 48 => some (X48, [(.tmp 2)], 9)
  | 49 => some (X49, [(.tmp 2)], 8)
  | 50 => some (X50, [(.tmp 2)], 40)
  | 51 => some (X51, [(.tmp 4)], 27)
  | _ => none
theorem tab_ok : TabOk Try.prog tab := by
  intro f x rs nt h args hp Q hl hq
  unfold tab at h
  split at h
  · cases h; exact v3 hl hq
  · cases h; exact v4 hl hq
  · cases h; exact v5 hl hq
  · cases h; exact v6 hl hq
  · cases h; exact v7 hl hq
  · cases h; exact v8 hl hq
  · cases h; exact v9 hl hq
  · cases h; exact v10 hl hq
  · cases h; exact v11 hl hq
  · cases h; exact v12 hl hq
  · cases h; exact v13 hl hq
  · cases h; exact v14 hl hq
  · cases h; exact v15 hl hq
  · cases h; exact v16 hl hq
  · cases h; exact v17 hl hq
  · cases h; exact v18 hl hq
  · cases h; exact v19 hl hq
  · cases h; exact v20 hl hq
  · cases h; exact v21 hl hq
  · cases h; exact v22 hl hq
  · cases h; exact v23 hl hq
  · cases h; exact v24 hl hq
  · cases h; exact v25 hl hq
  · cases h; exact v26 hl hq
  · cases h; exact v27 hl hq
  · cases h; exact v28 hl hq
  · cases h; exact v29 hl hq
  · cases h; exact v30 hl hq
  · cases h; exact v31 hl hq
  · cases h; exact v32 hl hq
  · cases h; exact v33 hl hq
  · cases h; exact v34 hl hq
  · cases h; exact v35 hl hq
  · cases h; exact v36 hl hq
  · cases h; exact v37 hl hq
  · cases h; exact v38 hl hq
  · cases h; exact v39 hl hq
  · cases h; exact v40 hl hq
  · cases h; exact v41 hl hq
  · cases h; exact v42 hl hq
  · cases h; exact v43 hl hq
  · cases h; exact v44 hl hq
  · cases h; exact v45 hl hq
  · cases h; exact v46 hl hq
  · cases h; exact v47 hl hq
  · cases h; exact v48 hl hq
  · cases h; exact v49 hl hq
  · cases h; exact v50 hl hq
  · cases h; exact v51 hl hq
  · cases h
def isTrue : Option (Value × AHeap) → Bool
  | some (.bool true, _) => true
  | _ => false
theorem lives_run : isTrue (funRun tab 60 16 [] []) = true := by kernel_rfl
theorem lives_ok (h : AHeap) : Valid Try.prog 16 [] h fun r h' => r = .bool true ∧ h' = h := by
  refine Valid.closed (Valid.mono (?_ : Valid Try.prog 16 [] [] fun r h' => r = .bool true) fun r h' e => e) h
  have hs := funRun_sure tab_ok 60
  have hr := lives_run
  cases e : funRun tab 60 16 [] [] with
  | none => rw [e] at hr; cases hr
  | some p =>
    rw [e] at hr
    obtain ⟨r, h'⟩ := p
    refine (hs 16 [] [] r h' e).mono ?_
    rintro v h2 ⟨rfl, rfl⟩
    cases v with
    | bool b => cases b <;> simp [isTrue] at hr ⊢
    | _ => simp [isTrue] at hr
end Go.Proofs.Ytkbpfebohpdgbaa
