import Derived.Test.YtcpcngamfncpdaaAiT
import Derived.Test.YtcpcngamfncpdaaAiV
import Derived.Test.YtcpcngamfncpdaaX
set_option linter.unusedVariables false
set_option maxRecDepth 100000
namespace Go.Proofs.Ytcpcngamfncpdaa
open Go Go.Ai Go.Proofs
def tab : Tab := fun f => match f with
  | 3 => some (X3, [(.tmp 2)], 37)
  | 4 => some (X4, [(.tmp 2)], 131)
  | 5 => some (X5, [(.tmp 2)], 125)
  | 6 => some (X6, [(.tmp 4)], 154)
  | 7 => some (X7, [(.tmp 4)], 226)
  | 8 => some (X8, [(.tmp 2)], 193)
  | 9 => some (X9, [(.tmp 0)], 233)
  | 10 => some (X10, [(.tmp 0)], 8)
  | 11 => some (X11, [], 51)
  | 12 => some (X12, [(.tmp 4)], 85)
  | 13 => some (X13, [(.tmp 0)], 5)
  | 14 => some (X14, [(.tmp 4)], 38)
  | 15 => some (X15, [(.tmp 2)], 11)
  | 16 => some (X16, [(.tmp 4), (.tmp 5)], 121)
  | 17 => some (X17, [(.tmp 2)], 11)
  | 18 => some (X18, [(.tmp 4), (.tmp 5)], 65)
  | 19 => some (X19, [(.tmp 4)], 34)
  | 20 => some (X20, [(.tmp 4)], 19)
  | 21 => some (X21, [(.cellN 7 2), (.tmp 3)], 144)
  | 22 => some (X22, [], 43)
  | 23 => some (X23, [], 73)
  | 24 => some (X24, [(.tmp 2), (.tmp 3)], 18)
  | 25 => some (X25, [(.tmp 2)], 7)
  | 26 => some (X26, [(.tmp 2)], 10)
  | 27 => some (X27, [(.tmp 2)], 59)
  | 28 => some (X28, [(.tmp 4)], 16)
  | 29 => some (X29, [(.cellN 10 0)], 2)
  | 30 => some (X30, [(.tmp 4)], 54)
  | 31 => some (X31, [(.cellN 7 2)], 93)
  | 32 => some (X32, [(.cellN 7 4)], 54)
  | 33 => some (X33, [(.tmp 4)], 149)
  | 34 => some (X34, [(.tmp 2)], 18)
  | 35 => some (X35, [(.tmp 2)], 6)
  | 36 => some (X36, [(.tmp 4)], 10)
  | 37 => some (X37, [], 37)
  | 38 => some (X38, [(.tmp 4)], 48)
  | 39 => some (X39, [(.tmp 2)], 36)
  | 40 => some (X40, [(.tmp 2)], 9)
  | 41 => some (X41, [(.tmp 4)], 11)
  | 42 => some (X42, [(.tmp 4)], 26)
  | 43 => some (X43, [(.tmp 4)], 26)
  | 44 => some (X44, [(.cellN 7 2)], 37)
  | 45 => some (X45, [(.tmp 2)], 9)
  | 46 => some (X46, [(.tmp 2)], 8)
  | 47 => some (X47, [(.tmp 4)], 27)
  | 48 => some (X48, [(.tmp 4)], 34)
  | _ => none
theorem tab_ok : TabOk Try.prog tab := by
  intro f x rs nt h args hp Q hl hq
  unfold tab at h
  split at h
  · cases h; exact v3 hl hq
  · cases h; exact v4 hl hq
  · cases h; exact v5 hl hq
  · cases h; exact v6 hl hq
  · cases h; exact v7 hl hq
  · cases h; exact v8 hl hq
  · cases h; exact v9 hl hq
  · cases h; exact v10 hl hq
  · cases h; exact v11 hl hq
  · cases h; exact v12 hl hq
  · cases h; exact v13 hl hq
  · cases h; exact v14 hl hq
  · cases h; exact v15 hl hq
  · cases h; exact v16 hl hq
  · cases h; exact v17 hl hq
  · cases h; exact v18 hl hq
  · cases h; exact v19 hl hq
  · cases h; exact v20 hl hq
  · cases h; exact v21 hl hq
  · cases h; exact v22 hl hq
  · cases h; exact v23 hl hq
  · cases h; exact v24 hl hq
  · cases h; exact v25 hl hq
  · cases h; exact v26 hl hq
  · cases h; exact v27 hl hq
  · cases h; exact v28 hl hq
  · cases h; exact v29 hl hq
  · cases h; exact v30 hl hq
  · cases h; exact v31 hl hq
  · cases h; exact v32 hl hq
  · cases h; exact v33 hl hq
  · cases h; exact v34 hl hq
  · cases h; exact v35 hl hq
  · cases h; exact v36 hl hq
  · cases h; exact v37 hl hq
  · cases h; exact v38 hl hq
  · cases h; exact v39 hl hq
  · cases h; exact v40 hl hq
  · cases h; exact v41 hl hq
  · cases h; exact v42 hl hq
  · cases h; exact v43 hl hq
  · cases h; exact v44 hl hq
  · cases h; exact v45 hl hq
  · cases h; exact v46 hl hq
  · cases h; exact v47 hl hq
  · cases h; exact v48 hl hq
  · cases h
def isTrue : Option (Value × AHeap) → Bool
  | some (.bool true, _) => true
  | _ => false
theorem lives_run : isTrue (funRun tab 60 9 [] []) = true := by kernel_rfl
theorem lives_ok (h : AHeap) : Valid Try.prog 9 [] h fun r h' => r = .bool true ∧ h' = h := by
  refine Valid.closed (Valid.mono (?_ : Valid Try.prog 9 [] [] fun r h' => r = .bool true) fun r h' e => e) h
  have hs := funRun_sure tab_ok 60
  have hr := lives_run
  cases e : funRun tab 60 9 [] [] with
  | none => rw [e] at hr; cases hr
  | some p =>
    rw [e] at hr
    obtain ⟨r, h'⟩ := p
    refine (hs 9 [] [] r h' e).mono ?_
    rintro v h2 ⟨rfl, rfl⟩
    cases v with
    | bool b => cases b <;> simp [isTrue] at hr ⊢
    | _ => simp [isTrue] at hr
end Go.Proofs.Ytcpcngamfncpdaa
