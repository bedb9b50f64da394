import Derived.Test.YtimfgagdfmmeeaaDoorAiT
import Derived.Test.YtimfgagdfmmeeaaDoorAiGv
import Derived.Test.YtimfgagdfmmeeaaDoorX
set_option linter.unusedVariables false
set_option maxRecDepth 100000
namespace Go.Proofs.YtimfgagdfmmeeaaDoor
open Go Go.Ai Go.Proofs
def tab : Tab := fun f => match f with
  | 2 => some (X2, [], 1)
  | 3 => some (X3, [(.tmp 4)], 124)
  | 4 => some (X4, [(.tmp 4)], 124)
  | 5 => some (X5, [(.tmp 6)], 145)
  | 6 => some (X6, [(.tmp 6)], 118)
  | 7 => some (X7, [(.tmp 4)], 165)
  | 8 => some (X8, [(.tmp 4)], 98)
  | 9 => some (X9, [(.tmp 2)], 133)
  | 10 => some (X10, [(.tmp 0)], 138)
  | 11 => some (X11, [(.tmp 4)], 30)
  | 12 => some (X12, [(.tmp 2), (.tmp 3)], 30)
  | 13 => some (X13, [(.tmp 4)], 16)
  | 14 => some (X14, [(.tmp 2)], 23)
  | 15 => some (X15, [(.tmp 2), (.tmp 3)], 9)
  | 16 => some (X16, [(.tmp 4)], 26)
  | 17 => some (X17, [(.tmp 2)], 22)
  | 18 => some (X18, [(.tmp 2), (.tmp 3), (.tmp 4)], 92)
  | 19 => some (X19, [(.tmp 0)], 3)
  | 20 => some (X20, [(.tmp 4), (.tmp 5)], 35)
  | 21 => some (X21, [(.tmp 4)], 34)
  | 22 => some (X22, [(.tmp 2)], 9)
  | 23 => some (X23, [(.tmp 2)], 11)
  | 24 => some (X24, [(.tmp 2)], 18)
  | 25 => some (X25, [(.tmp 2)], 27)
  | 26 => some (X26, [(.tmp 2)], 27)
  | 27 => some (X27, [(.tmp 2), (.tmp 3)], 17)
  | 28 => some (X28, [(.tmp 2), (.tmp 3)], 44)
  | 29 => some (X29, [(.tmp 4)], 25)
  | 30 => some (X30, [(.tmp 4)], 23)
  | 31 => some (X31, [(.tmp 4)], 9)
  | 32 => some (X32, [(.tmp 2)], 11)
  | 33 => some (X33, [(.tmp 2)], 8)
  | 34 => some (X34, [(.tmp 2)], 36)
  | 35 => some (X35, [(.tmp 2)], 23)
  | 36 => some (X36, [(.tmp 2)], 9)
  | 37 => some (X37, [(.tmp 0)], 2)
  | 38 => some (X38, [(.tmp 2)], 28)
  | 39 => some (X39, [(.tmp 2)], 30)
  | 40 => some (X40, [(.tmp 2)], 15)
  | 41 => some (X41, [(.tmp 2)], 23)
  | 42 => some (X42, [(.tmp 2)], 10)
  | 43 => some (X43, [], 16)
  | 44 => some (X44, [], 56)
  | 45 => some (X45, [(.tmp 2)], 9)
  | 46 => some (X46, [(.tmp 4)], 16)
  | 47 => some (X47, [(.tmp 4)], 19)
  | 48 => some (X48, [(.tmp 4)], 23)
  | 49 => some (X49, [(.tmp 2)], 21)
  | 50 => some (X50, [(.tmp 4)], 9)
  | 51 => some (X51, [(.tmp 2)], 5)
  | 52 => some (X52, [], 27)
  | 53 => some (X53, [], 73)
  | 54 => some (X54, [(.tmp 4)], 19)
  | 55 => some (X55, [(.tmp 2), (.tmp 3)], 39)
  | 56 => some (X56, [(.tmp 2)], 21)
  | _ => none
theorem tab_ok : TabOk Tryd.prog tab := by
  intro f x rs nt h args hp Q hl hq
  unfold tab at h
  split at h
  · cases h; exact v2 hl hq
  · cases h; exact v3 hl hq
  · cases h; exact v4 hl hq
  · cases h; exact v5 hl hq
  · cases h; exact v6 hl hq
  · cases h; exact v7 hl hq
  · cases h; exact v8 hl hq
  · cases h; exact v9 hl hq
  · cases h; exact v10 hl hq
  · cases h; exact v11 hl hq
  · cases h; exact v12 hl hq
  · cases h; exact v13 hl hq
  · cases h; exact v14 hl hq
  · cases h; exact v15 hl hq
  · cases h; exact v16 hl hq
  · cases h; exact v17 hl hq
  · cases h; exact v18 hl hq
  · cases h; exact v19 hl hq
  · cases h; exact v20 hl hq
  · cases h; exact v21 hl hq
  · cases h; exact v22 hl hq
  · cases h; exact v23 hl hq
  · cases h; exact v24 hl hq
  · cases h; exact v25 hl hq
  · cases h; exact v26 hl hq
  · cases h; exact v27 hl hq
  · cases h; exact v28 hl hq
  · cases h; exact v29 hl hq
  · cases h; exact v30 hl hq
  · cases h; exact v31 hl hq
  · cases h; exact v32 hl hq
  · cases h; exact v33 hl hq
  · cases h; exact v34 hl hq
  · cases h; exact v35 hl hq
  · cases h; exact v36 hl hq
  · cases h; exact v37 hl hq
  · cases h; exact v38 hl hq
  · cases h; exact v39 hl hq
  · cases h; exact v40 hl hq
  · cases h; exact v41 hl hq
  · cases h; exact v42 hl hq
  · cases h; exact v43 hl hq
  · cases h; exact v44 hl hq
  · cases h; exact v45 hl hq
  · cases h; exact v46 hl hq
  · cases h; exact v47 hl hq
  · cases h; exact v48 hl hq
  · cases h; exact v49 hl hq
  · cases h; exact v50 hl hq
  · cases h; exact v51 hl hq
  · cases h; exact v52 hl hq
  · cases h; exact v53 hl hq
  · cases h; exact v54 hl hq
  · cases h; exact v55 hl hq
  · cases h; exact v56 hl hq
  · cases h
def isTrue : Option (Value × AHeap) → Bool
  | some (.bool true, _) => true
  | _ => false
/-- the flag, and that a heap begins with it -/
def flagV : List Value := [.int .u8 0, .int .u8 1, .int .u8 1, .int .u8 1, .int .u8 1, .int .u8 1, .int .u8 1, .int .u8 0]
def Fl (h : AHeap) : Prop := h[0]? = some (some ⟨false, flagV⟩)
theorem flagV_flat : ∀ v ∈ flagV, flat v = true := by
  intro v hv
  simp only [flagV, List.mem_cons, List.not_mem_nil, or_false] at hv
  rcases hv with rfl | rfl | rfl | rfl | rfl | rfl | rfl | rfl <;> rfl
theorem lives_run : isTrue (funRun tab 400 10 [] [some ⟨false, flagV⟩]) = true := by kernel_rfl
theorem lives_ok {h : AHeap} (hF : Fl h) : Valid Tryd.prog 10 [] h fun r h' => r = .bool true ∧ h' = h := by
  refine Valid.closedG flagV_flat (Valid.mono (?_ : Valid Tryd.prog 10 [] [some ⟨false, flagV⟩] fun r h' => r = .bool true) fun r h' e => e) hF
  have hs := funRun_sure tab_ok 400
  have hr := lives_run
  cases e : funRun tab 400 10 [] [some ⟨false, flagV⟩] with
  | none => rw [e] at hr; cases hr
  | some p =>
    rw [e] at hr
    obtain ⟨r, h'⟩ := p
    refine (hs 10 [] [some ⟨false, flagV⟩] r h' e).mono ?_
    rintro v h2 ⟨rfl, rfl⟩
    cases v with
    | bool b => cases b <;> simp [isTrue] at hr ⊢
    | _ => simp [isTrue] at hr
end Go.Proofs.YtimfgagdfmmeeaaDoor
