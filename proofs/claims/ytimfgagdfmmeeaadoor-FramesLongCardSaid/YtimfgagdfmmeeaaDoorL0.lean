import Derived.Test.YtimfgagdfmmeeaaDoorTie
import Derived.Test.YtimfgagdfmmeeaaDoorCards
import Derived.Test.YtimfgagdfmmeeaaDoorAiGv
import Derived.Test.YtimfgagdfmmeeaaDoorRun
import Derived.ProofKit
import Derived.OpenShut
import Derived.LaidMore
import Derived.Lay
import Derived.SevenTiedAt
import Derived.Stop.Joined
set_option linter.unusedVariables false
namespace Go.Proofs.YtimfgagdfmmeeaaDoor
open Go Go.Ai Go.ChangeShapes Go.WideShapes Go.ChangeAt Go.RowKit

theorem seat_own : ownKnob Tryd.prog.godebug = none := by kernel_rfl
def seatLaid : List (String × DataW Unit) := [("pointcode/frames.flag", Rows.laid_pointcode_frames_flag)]
def flagZ : List Int := [0, 1, 1, 1, 1, 1, 1, 0]
/-- the variable's cells, out of the premise -/
theorem flag_cell {W : World} (h : laidMetH Tryd.prog seatLaid W) (r : Nat) (hr : r < 8) : W.cell? ⟨0, r, none⟩ = some (.int .u8 (flagZ.getD r 0)) := by
  rw [MakeChecks.laidMetH_plain _ _ _ (by kernel_rfl)] at h
  obtain ⟨ps, ⟨g, t, cs, fuel, p, q, hg, ht, hv, hd, _, _⟩, _, _⟩ := h
  obtain rfl := Option.some.inj ((show Tryd.prog.globalNamed "pointcode/frames.flag" = some 0 by kernel_rfl).symm.trans hg)
  obtain rfl := Option.some.inj ((show (Tryd.prog.globals[0]?).map (·.type) = some 58 by kernel_rfl).symm.trans ht)
  obtain ⟨xs, m, _, ex, _, hl, hel⟩ := DataW.trod_array Tryd.underlying58 hd
  have c5 : Tryd.prog.cellsOf 5 = 1 := by kernel_rfl
  have hE := hel r hr
  rw [c5, Nat.mul_one, List.getElem?_eq_getElem (by omega)] at hE
  obtain ⟨z, e1, e2, _⟩ := DataW.trod_int Tryd.underlying5 hE
  have hlen : flagZ.length = 8 := rfl
  have e3 : (xs.map (·.1)) = flagZ.map fun n => .lit (.int .u8 n) := (DataW.agg.inj (Prod.mk.inj ex).1).symm
  have e4 : (xs.map (·.1))[r]? = (flagZ.map fun n => (DataW.lit (.int .u8 n) : DataW Unit))[r]? := by rw [e3]
  rw [List.getElem?_map, List.getElem?_map, List.getElem?_eq_getElem (by omega : r < xs.length), List.getElem?_eq_getElem (by omega : r < flagZ.length), e2] at e4
  have hz : z = flagZ.getD r 0 := by
    simp only [Option.map_some, Option.some.injEq, DataW.lit.injEq, Lit.int.injEq, true_and] at e4
    rw [e4, List.getD, List.getElem?_eq_getElem (by omega : r < flagZ.length)]; rfl
  rw [World.var?_cell hg hv r, ← hz]
  have : cs.toList[r]? = some (.int .u8 z) := by
    have h0 : ((cs.toList.drop r).take 1)[0]? = some (.int .u8 z) := by rw [e1]; rfl
    simpa using h0
  simpa using this
theorem flag_rows {W : World} (h : laidMetH Tryd.prog seatLaid W) (i : Nat) (v : Value) (hv : flagV[i]? = some v) : W.cell? ((⟨0, 0, none⟩ : Addr).add i) = some v ∧ flat v = true := by
  have hi : i < 8 := by have := (List.getElem?_eq_some_iff.1 hv).1; simpa [flagV] using this
  refine ⟨?_, flagV_flat v (List.mem_of_getElem? hv)⟩
  rw [Addr_add_lit _ _ rfl, Nat.zero_add, flag_cell h i hi, ← hv]
  rcases i with _ | _ | _ | _ | _ | _ | _ | _ | i
  all_goals first | rfl | omega
end Go.Proofs.YtimfgagdfmmeeaaDoor
