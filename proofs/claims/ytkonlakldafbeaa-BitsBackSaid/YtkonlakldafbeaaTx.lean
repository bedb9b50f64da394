import Derived.Test.YtkonlakldafbeaaB1
import Derived.Test.YtkonlakldafbeaaShelf
import Derived.WalkKit
import Derived.BigCall
import Derived.Handy
set_option linter.unusedVariables false
set_option linter.unusedSimpArgs false
namespace Go.Proofs.Ytkonlakldafbeaa
open Go Go.Ai Go.Proofs Go.RowKit

/-- a world that has more blocks -/
theorem stp_below {φ : Phi} {h : AHeap} {w w' : World} (hr : HR φ h w) (hb : Below w.heap.size w w') : Stp φ h w φ h w' := by
  refine ⟨ext.refl φ, ⟨fun A o hA => ?_, hr.inj, hr.dom⟩, hb.os, hb.tape, hb.output, hb.size, fun B hB _ => hb.block B hB, fun B h _ => h⟩
  obtain ⟨B, s, n, cs, T, fz, h1, h2, h3⟩ := hr.obj A o hA
  have hlt : B < w.heap.size := (Array.getElem?_eq_some_iff.1 h2).1
  exact ⟨B, s, n, cs, T, fz, h1, by rw [hb.block B hlt]; exact h2, h3⟩
def txt (zs : List Int) : List UInt8 := zs.map fun z => UInt8.ofNat (48 + z.toNat)
/-- the bytes of a slice, where they lie in the world -/
theorem first_world {φ : Phi} {h : AHeap} {w : World} {q : Option Addr} {n c : Nat} {zs : List Int} {u : Value} (hr : HR φ h w) (hf : firstV 1 h n (.slice q n c) = some (bR zs)) (hu : VR φ (.slice q n c) u) :
    ∃ b c', u = .slice b n c' ∧ ∀ k, k < n → ∃ a, b = some a ∧ ∃ z, zs[k]? = some z ∧ w.cell? (a.add k) = some (.int .u8 z) := by
  cases hu with
  | sliceNil => exact ⟨none, c, rfl, fun k hk => by simp only [firstV] at hf; rw [if_neg (by omega)] at hf; cases hf⟩
  | @slice a b l c2 c' hp hc =>
    refine ⟨some b, c', rfl, fun k hk => ⟨b, rfl, ?_⟩⟩
    simp only [firstV] at hf
    rw [if_neg (by omega)] at hf
    split at hf
    · cases hf
    · obtain ⟨cs, h1, h2⟩ := Option.bind_eq_some_iff.1 hf
      obtain ⟨B, s, m, h3, h4⟩ := hr.read h1
      have hln := getN_len h2
      rw [bR_len] at hln
      have hz : zs[k]? = some zs[k] := List.getElem?_eq_getElem (by omega)
      have hg : (bR zs)[k]? = some (.int .u8 zs[k]) := by rw [bR_get, hz]; rfl
      obtain ⟨v, h5, h6⟩ := h4 _ _ (getN_get h2 hg)
      rcases hp with ⟨h0, _⟩ | ⟨_, B', s', m', h7, rfl⟩
      · omega
      · rw [h3] at h7; cases h7
        refine ⟨zs[k], hz, ?_⟩
        rw [← h6.flat_eq rfl, ← h5]
        congr 1
        simp only [Addr.add]
        split
        · rename_i h0; rw [h0]; simp
        · simp [Nat.add_assoc]
theorem checkV_bits {zs : List Int} (h : checkV zs = 0) (hp : ∀ z ∈ zs, 0 ≤ z) : zs.length ≤ 1048576 ∧ ∀ z ∈ zs, z = 0 ∨ z = 1 := by
  unfold checkV at h
  split at h
  · cases h
  · split at h
    · cases h
    · rename_i h1 h2
      refine ⟨by omega, fun z hz => ?_⟩
      have h3 := hp z hz
      have h4 : ¬ 1 < z := fun h => h2 ⟨z, hz, h⟩
      omega

set_option maxHeartbeats 4000000 in
set_option maxRecDepth 100000 in
theorem text_still {g0 : AHeap} {q : Option Addr} {n c : Nat} {zs : List Int} (hf : firstV 1 g0 n (.slice q n c) = some (bR zs)) (hn : n ≤ 1152921504606846976) (hp : ∀ z ∈ zs, 0 ≤ z) :
    Valid Try.prog 22 [.slice q n c] g0 fun r h' => r = .tuple #[.string ⟨(if checkV zs = 0 then txt zs else []).toArray⟩, .int .i64 (checkV zs)] ∧ h' = g0 := by
  refine ⟨by kernel_rfl, fun φ w args' hr ha => ?_⟩
  obtain ⟨u, r, rfl, hu, ha2⟩ := ha.head
  obtain rfl := ha2.nil_inv
  have hcalls := (check_still hf hn).2 φ w [u] hr ha
  have hzl := firstV_len hf
  rw [bR_len, Nat.mul_one] at hzl
  obtain ⟨b, c', rfl, -⟩ := first_world hr hf hu
  go_enter Try.func22, Try.ntmps22
  go_wp2_with (go_at_call 16; refine hcalls.mono ?_)
  intro e w1 φ1 h1 r r' he hst hvr hrr hJ
  subst he hrr hJ
  have hr' := hvr.flat_eq rfl
  subst hr'
  obtain ⟨_, _, e1, hcell⟩ := first_world hst.hr hf (hu.mono hst.ext)
  simp only [Value.slice.injEq] at e1
  obtain ⟨rfl, -, rfl⟩ := e1
  by_cases hc : checkV zs = 0
  · obtain ⟨hc1, hc2⟩ := checkV_bits hc hp
    rw [hc]
    go_wp2
    go_loopw [15] (fun i wr => ∃ k : Nat, k ≤ n ∧ i = .int .i64 k ∧ Lib.IsBuilderF 60 5 w1.heap.size w1.heap.size (Lib.byteCells (txt (zs.take k))) wr ∧ Below w1.heap.size w1 wr) (fun i _ => n - (intOf i).toNat)
    case atStart => exact ⟨0, by omega, rfl, Lib.IsBuilderF.of (Lib.fresh_isBuilder 60 5 w1), (Below.refl _ w1).alloc (Nat.le_refl _) _⟩
    case round =>
      obtain ⟨k, hk, rfl, hI, hbw⟩ := hrel
      by_cases hlt : k < n
      · obtain ⟨a, rfl, z, hz, hcz⟩ := hcell k hlt
        obtain ⟨hz1, hz2⟩ := List.getElem?_eq_some_iff.1 hz
        have hcw : wr.cell? (a.add k) = some (.int .u8 z) := by
          rw [← hcz]
          have hab : (a.add k).block = a.block := by unfold Addr.add; split <;> rfl
          have hlt1 : a.block < w1.heap.size := by
            rcases Nat.lt_or_ge a.block w1.heap.size with h | h
            · exact h
            · simp [World.cell?, hab, Array.getElem?_eq_none h] at hcz
          simp only [World.cell?, hab, hbw.block _ hlt1]
        have hsz := hbw.size
        have htl : (Lib.byteCells (txt (zs.take k))).length = k := by rw [Lib.byteCells_length]; simp [txt]; omega
        have htk : txt (zs.take (k + 1)) = txt (zs.take k) ++ [UInt8.ofNat (48 + z.toNat)] := by
          unfold txt; rw [List.take_add_one, hz, List.map_append]; rfl
        have hlt' : (k : Int) < n := by omega
        have hz01 := hc2 z (List.mem_of_getElem? hz)
        have hbz : Lib.byteCells [UInt8.ofNat (48 + z.toNat)] = [.int .u8 (48 + z)] := by
          rcases hz01 with rfl | rfl <;> rfl
        have hwz : IntKind.u8.wrap (48 + z) = 48 + z := by rcases hz01 with rfl | rfl <;> rfl
        go_wp2_with (go_at_call 35; refine (writeByte_k w1.heap.size w1.heap.size _ (48 + z) _ hI (by omega) hsz).mono ?_)
        rintro e W1 ⟨rfl, h1, b1, k1⟩
        go_wp2
        go_roundw
        case rel =>
          refine ⟨k + 1, by omega, by go_num, ?_, hbw.trans b1⟩
          rw [htk, Lib.byteCells_append, hbz]; exact Or.inr h1
        case measure =>
          simp [intOf]; omega
      · have hke : k = n := by omega
        have hlt' : ¬ (k : Int) < n := by omega
        have htn : zs.take k = zs := by rw [hke, ← hzl, List.take_length]
        rw [htn] at hI
        go_wp2_with (go_at_call 36; refine (string_any_k w1.heap.size w1.heap.size (txt zs) _ hI (by have := hbw.size; omega)).mono ?_)
        intro e W1 he b1
        subst he
        go_wp2
        go_returns
        refine ⟨φ1, h1, _, _, rfl, hst.trans (stp_below hst.hr (hbw.trans b1)), VR.tupleL (LR.cons (.string _) (LR.cons (.int _ _) (LR.nil _))), ?_, rfl⟩
        first | rfl | simp [hc]
  · go_wp2
    go_returns
    refine ⟨φ1, h1, _, _, rfl, hst, VR.tupleL (LR.cons (.string _) (LR.cons (.int _ _) (LR.nil _))), ?_, rfl⟩
    simp [hc]
theorem text_ok {g0 : AHeap} {q : Option Addr} {n c : Nat} {zs : List Int} (hf : firstV 1 g0 n (.slice q n c) = some (bR zs)) (hn : n ≤ 1152921504606846976) (hp : ∀ z ∈ zs, 0 ≤ z) :
    Valid Try.prog 22 [.slice q n c] g0 fun r h' => r = .tuple #[.string ⟨(if checkV zs = 0 then txt zs else []).toArray⟩, .int .i64 (checkV zs)] ∧ Ext g0 h' :=
  (text_still hf hn hp).mono fun r h' k => ⟨k.1, by rw [k.2]; exact Ext.refl _⟩
end Go.Proofs.Ytkonlakldafbeaa
