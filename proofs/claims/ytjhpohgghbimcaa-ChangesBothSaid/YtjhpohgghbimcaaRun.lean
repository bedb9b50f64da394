import Derived.Test.YtjhpohgghbimcaaAiT
import Derived.Test.YtjhpohgghbimcaaX
set_option linter.unusedVariables false
set_option maxRecDepth 100000
namespace Go.Proofs.Ytjhpohgghbimcaa
open Go Go.Ai Go.Proofs
def tab : Tab := fun f => match f with
  | 3 => some (X3, [(.tmp 4)], 111)
  | 4 => some (X4, [(.tmp 6)], 106)
  | 5 => some (X5, [(.tmp 6)], 187)
  | 6 => some (X6, [(.tmp 4)], 107)
  | 7 => some (X7, [(.tmp 0)], 3)
  | 8 => some (X8, [(.cellN 7 2)], 37)
  | 9 => some (X9, [(.tmp 4), (.tmp 5)], 40)
  | 10 => some (X10, [(.tmp 4), (.tmp 5)], 23)
  | 11 => some (X11, [(.tmp 4), (.tmp 5)], 31)
  | 12 => some (X12, [(.tmp 2)], 10)
  | 13 => some (X13, [(.tmp 0)], 110)
  | 14 => some (X14, [(.cellN 8 2)], 12)
  | 15 => some (X15, [(.tmp 6), (.tmp 7)], 45)
  | 16 => some (X16, [(.tmp 2)], 9)
  | 17 => some (X17, [(.tmp 6)], 38)
  | 18 => some (X18, [(.tmp 4)], 25)
  | 19 => some (X19, [(.tmp 4)], 24)
  | 20 => some (X20, [(.tmp 2)], 14)
  | 21 => some (X21, [(.tmp 2)], 9)
  | 22 => some (X22, [(.tmp 4)], 15)
  | 23 => some (X23, [(.cellN 8 2)], 12)
  | 24 => some (X24, [], 29)
  | 25 => some (X25, [(.tmp 2)], 17)
  | 26 => some (X26, [(.tmp 2)], 12)
  | 27 => some (X27, [(.tmp 4)], 43)
  | 28 => some (X28, [(.tmp 2)], 6)
  | 29 => some (X29, [(.tmp 2)], 9)
  | 30 => some (X30, [(.tmp 2)], 8)
  | 31 => some (X31, [(.tmp 2)], 8)
  | 32 => some (X32, [(.tmp 2)], 9)
  | _ => none
theorem tab_ok : TabOk Try.prog tab := by
  intro f x rs nt h args hp Q hl hq
  unfold tab at h
  split at h
  · cases h; exact v3 hl hq
  · cases h; exact v4 hl hq
  · cases h; exact v5 hl hq
  · cases h; exact v6 hl hq
  · cases h; exact v7 hl hq
  · cases h; exact v8 hl hq
  · cases h; exact v9 hl hq
  · cases h; exact v10 hl hq
  · cases h; exact v11 hl hq
  · cases h; exact v12 hl hq
  · cases h; exact v13 hl hq
  · cases h; exact v14 hl hq
  · cases h; exact v15 hl hq
  · cases h; exact v16 hl hq
  · cases h; exact v17 hl hq
  · cases h; exact v18 hl hq
  · cases h; exact v19 hl hq
  · cases h; exact v20 hl hq
  · cases h; exact v21 hl hq
  · cases h; exact v22 hl hq
  · cases h; exact v23 hl hq
  · cases h; exact v24 hl hq
  · cases h; exact v25 hl hq
  · cases h; exact v26 hl hq
  · cases h; exact v27 hl hq
  · cases h; exact v28 hl hq
  · cases h; exact v29 hl hq
  · cases h; exact v30 hl hq
  · cases h; exact v31 hl hq
  · cases h; exact v32 hl hq
  · cases h
def isTrue : Option (Value × AHeap) → Bool
  | some (.bool true, _) => true
  | _ => false
theorem lives_run : isTrue (funRun tab 40 13 [] []) = true := by kernel_rfl
end Go.Proofs.Ytjhpohgghbimcaa
