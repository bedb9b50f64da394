/- The operations' laws, eighth part: append, copy, make. Generic. -/
import Derived.Test.YtcpcngamfncpdaaAiI
set_option linter.unusedVariables false
namespace Go.Ai
section
variable {P : Program}

def plainArg : TypeDesc → Bool
  | .slice _ | .string => true
  | _ => false

theorem firstV_sound {φ : Phi} {h : AHeap} {w : World} (hr : HR φ h w) {size n : Nat} {v u : Value} {cs : List Value} (hf : firstV size h n v = some cs) (hv : VR φ v u) (hm : ∀ a l c, v = .slice a l c → n ≤ l) :
    ∃ cs' : List Value, (Builtin.firstCells size n u).run P w = .ok cs'.toArray w ∧ LR φ cs cs' ∧ cs'.length = n * size := by
  cases v with
  | slice q l c =>
    cases q with
    | none =>
      simp only [firstV] at hf
      split at hf
      · rename_i h0; subst h0
        cases hf; cases hv
        exact ⟨[], by simp [Builtin.firstCells], LR.nil φ, by simp⟩
      · cases hf
    | some a =>
      have hnl := hm _ _ _ rfl
      simp only [firstV] at hf
      split at hf
      · rename_i h0
        cases hf; subst h0
        cases hv
        exact ⟨[], by simp [Builtin.firstCells, loadCells, loadCellsFrom], LR.nil φ, by simp⟩
      · rename_i h0
        split at hf
        · cases hf
        · rename_i hs
          cases hv
          rename_i b c' hp hc
          have hp' : PR φ a b := by rcases hp with ⟨h1, _⟩ | h1; · omega
                                    · exact h1
          have hl : loadV h a (n * size) = some cs := by
            unfold loadV; rw [if_neg hs]; exact hf
          obtain ⟨l', h1, h2, h3⟩ := loadV_sound hr hl hp'
          have := run_loadCells_list (P := P) w b l' h3
          rw [h2] at this
          exact ⟨l', by simp [Builtin.firstCells, this], h1, h2⟩
  | string s =>
    simp only [firstV] at hf
    split at hf
    · rename_i h1
      obtain ⟨rfl, rfl⟩ := h1
      cases hf
      have := hv.flat_eq rfl
      subst this
      refine ⟨s.data.toList.map fun b => Value.int .u8 b.toNat, ?_, LR.of_flat φ ?_, by rw [List.length_map, Array.length_toList, Nat.mul_one]; rfl⟩
      · have he : s.extract 0 s.size = s := by simp
        simp [Builtin.firstCells, he]
        exact Array.ext' (by simp)
      · rw [List.all_eq_true]; intro x hx
        simp at hx
        obtain ⟨b, _, rfl⟩ := hx; rfl
    · cases hf
  | _ => simp [firstV] at hf

theorem lenV_sound {φ : Phi} {v u : Value} {n : Nat} (h : lenV v = some n) (hv : VR φ v u) (w : World) : (Builtin.lenOf u).run P w = .ok n w := by
  cases hv <;> simp [lenV] at h <;> subst h <;> rfl

section model
variable {t xt ty e : TypeId} {dx : TypeDesc} {size bytes : Nat} {z : Value} (ht : P.underlying t = some (.slice e)) (hx : P.underlying xt = some dx) (hdx : plainArg dx = true)
  (hn : szOf P e = some size) (hb : byOf P e = some bytes) (hz : zeroOf P e = some z)
include ht hx hdx hn

theorem app_room {base : Option Addr} {l c n : Nat} {x : Value} {w : World} {new : List Value} (hlen : (Builtin.lenOf x).run P w = .ok n w) (hfc : (Builtin.firstCells size n x).run P w = .ok new.toArray w) (hroom : l + n ≤ c) :
    (Builtin.append_ #[t, xt] ty #[.slice base l c, x]).run P w = (match base with
      | some a => (storeCells (a.add (l * size)) new).run P w
      | none => .ok () w).andThen fun _ w' => .ok (.slice base (l + n) c) w' := by
  have h1 : (#[t, xt] : Array TypeId)[1]? = some xt := rfl
  have h0 : (#[t, xt] : Array TypeId)[0]? = some t := rfl
  have k0 : (#[Value.slice base l c, x] : Array Value)[0]? = some (.slice base l c) := rfl
  have k1 : (#[Value.slice base l c, x] : Array Value)[1]? = some x := rfl
  unfold Builtin.append_
  simp only [h0, h1, k0, k1, Sem.run_bind, run_underlying ht, Result.andThen_ok, run_size hn, run_underlying hx]
  simp only [Sem.run_pure, Result.andThen_ok]
  cases dx <;> simp [plainArg] at hdx
  all_goals
    simp only [Bool.false_eq_true, if_false, Sem.run_bind, Sem.run_pure, hlen, Result.andThen_ok, hroom, if_true, Bool.not_false, hfc, Sem.run_ite]
    cases base <;> simp

include hb hz
theorem app_grow {base : Option Addr} {l c n : Nat} {x : Value} {w : World} {new old : List Value} (hlen : (Builtin.lenOf x).run P w = .ok n w) (hfc : (Builtin.firstCells size n x).run P w.drew = .ok new.toArray w.drew)
    (hold : (Builtin.firstCells size l (.slice base l c)).run P w.drew = .ok old.toArray w.drew)
    (hg : c < l + n) (h63 : l + n ≤ 9223372036854775807) (hfit : (l + n) * bytes ≤ 140737488355328) :
    (Builtin.append_ #[t, xt] ty #[.slice base l c, x]).run P w =
      .ok (.slice (some ⟨w.heap.size, 0, none⟩) (l + n) (grownCap w (l + n) c e))
        (w.drew.alloc (.cells (old.toArray ++ new.toArray ++ Builtin.zeroCells z.cells (grownCap w (l + n) c e - (l + n))) e)) := by
  have h1 : (#[t, xt] : Array TypeId)[1]? = some xt := rfl
  have h0 : (#[t, xt] : Array TypeId)[0]? = some t := rfl
  have k0 : (#[Value.slice base l c, x] : Array Value)[0]? = some (.slice base l c) := rfl
  have k1 : (#[Value.slice base l c, x] : Array Value)[1]? = some x := rfl
  obtain ⟨i, hi, hiz⟩ := zeroOf_inv hz
  have hib : i.bytes = bytes := by unfold byOf at hb; rw [hi] at hb; simpa using hb
  have hfit2 := growslice_fits hg hfit
  have hn' : ¬ (l + n ≤ c) := by omega
  have h63' : ¬ (9223372036854775807 < ((l : Int) + (n : Int))) := by omega
  have h48' : ¬ (281474976710656 < Builtin.nextslicecap (l + n) c * i.bytes) := by rw [hib]; omega
  cases dx <;> simp [plainArg] at hdx
  all_goals
    simp [Builtin.append_, run_underlying ht, run_underlying hx, run_size hn, typeInfo, hi, hlen, hn', h63', h48', Question.forced, newRow, grownCap, run_zero hz, hfc, hold]
    congr 2; exact Array.ext' (by simp)
end model

theorem getN_LR {φ : Phi} {o : AObj} {cs : Array Value} {s : Nat} (h4 : ∀ (i : Nat) (v : Value), o.cells[i]? = some v → ∃ u, cs[s + i]? = some u ∧ VR φ v u) {off n : Nat} {old : List Value} (h : getN o.cells off n = some old) :
    ∃ old' : List Value, LR φ old old' ∧ old'.length = n ∧ ∀ i, i < n → cs[s + off + i]? = old'[i]? := by
  have hlen := getN_len h
  have key : ∀ i, i < n → ∃ u, cs[s + off + i]? = some u ∧ ∀ v, old[i]? = some v → VR φ v u := by
    intro i hi
    have hg : old[i]? = some old[i] := List.getElem?_eq_getElem (by omega)
    obtain ⟨u, hu, hvu⟩ := h4 _ _ (getN_get h hg)
    refine ⟨u, by rw [← hu]; congr 1; omega, fun v hv' => ?_⟩
    rw [hg] at hv'; cases hv'; exact hvu
  let l' := (List.range n).map fun i => (cs[s + off + i]?).getD undef
  refine ⟨l', ⟨by simp [l', hlen], fun i x y hx hy => ?_⟩, by simp [l'], fun i hi => ?_⟩
  · have hi : i < n := by rw [← hlen]; exact (List.getElem?_eq_some_iff.1 hx).1
    obtain ⟨u, hu, hvu⟩ := key i hi
    simp [l', hi, hu] at hy
    subst hy; exact hvu x hx
  · obtain ⟨u, hu, hvu⟩ := key i hi
    simp [l', hi, hu]

theorem size_grown (old new : List Value) (z : Array Value) (k : Nat) : (old.toArray ++ new.toArray ++ Builtin.zeroCells z k).size = old.length + new.length + k * z.size := by
  simp [size_zeroCells]

theorem appendV_sound {φ : Phi} {h h' : AHeap} {w : World} (hr : HR φ h w) {t xt ty e : TypeId} {dx : TypeDesc} {size bytes n : Nat} {z s x s' x' v : Value} {news : List Value}
    (ht : P.underlying t = some (.slice e)) (hx : P.underlying xt = some dx) (hdx : plainArg dx = true) (hn : szOf P e = some size) (hb : byOf P e = some bytes) (hz : zeroOf P e = some z) (hzs : (cellsL z).length = size) (hpos : 0 < size)
    (hs : VR φ s s') (hxv : VR φ x x') (hlen : lenV x = some n) (hnews : firstV size h n x = some news) (hv : appendV size bytes h s news n = some (v, h')) :
    ∃ φ' v' w', (Builtin.append_ #[t, xt] ty #[s', x']).run P w = .ok v' w' ∧ Stp φ h w φ' h' w' ∧ VR φ' v v' := by
  have hzc : z.cells.size = size := by rw [← Array.length_toList, cells_toList, hzs]
  have hle : ∀ a l c, x = .slice a l c → n ≤ l := by intro a l c he; subst he; simp [lenV] at hlen; omega
  have hL := fun w => lenV_sound (P := P) hlen hxv w
  obtain ⟨news', hfc, hnL, hnlen⟩ := firstV_sound (P := P) hr hnews hxv hle
  have hrd : HR φ h w.drew := hr.drew _
  obtain ⟨news2, hfc2, hnL2, hnlen2⟩ := firstV_sound (P := P) hrd hnews hxv hle
  have hnl0 : news.length = n * size := by rw [hnL.1, hnlen]
  -- a new block, the old cells known
  have grow : ∀ (base : Option Addr) (l c c1 : Nat) (old old' : List Value) (h1 : AHeap), s' = .slice base l c → LR φ old old' → old'.length = l * size →
      (Builtin.firstCells size l (.slice base l c)).run P w.drew = .ok old'.toArray w.drew → c < l + n → l + n ≤ 9223372036854775807 → (l + n) * bytes ≤ 140737488355328 →
      Stp φ h w φ h1 w → h1.length = h.length →
      ∃ φ' v' w', (Builtin.append_ #[t, xt] ty #[s', x']).run P w = .ok v' w' ∧ Stp φ h w φ' (h1 ++ [some ⟨true, old ++ news⟩]) w' ∧ VR φ' (.slice (some ⟨h.length, 0, none⟩) (l + n) (unk + size)) v' := by
    intro base l c c1 old old' h1 he hold holdl hfo hg h63 hfit hst hl1
    subst he
    have hge := grownCap_ge w (l + n) c e
    have hst2 : Stp φ h w φ h1 w.drew := hst.trans (Stp.drew hst.hr _)
    obtain ⟨φ', hstp, hnew⟩ := Stp.alloc hst2.hr (old ++ news) (old'.toArray ++ news2.toArray ++ Builtin.zeroCells z.cells (grownCap w (l + n) c e - (l + n))) e (fun i v hv => by
      obtain ⟨u, hu, hvu⟩ := (hold.append hnL2).get hv
      refine ⟨u, ?_, hvu⟩
      rw [Array.getElem?_append_left (by have := (List.getElem?_eq_some_iff.1 hu).1; simpa using this)]
      simpa using hu)
    refine ⟨φ', _, _, app_grow ht hx hdx hn hb hz (hL w) hfc2 hfo hg h63 hfit, hst2.trans hstp, ?_⟩
    rw [hl1] at hnew
    refine .slice (.inr ⟨rfl, _, _, _, hnew, by simp⟩) (.inr ⟨by omega, hge, .inr ⟨_, _, _, hnew, ?_⟩⟩)
    rw [size_grown, holdl, hnlen2, hzc]
    simp only [Nat.zero_add, Nat.add_sub_cancel_left, ← Nat.add_mul]
    congr 1; omega
  unfold appendV at hv
  cases s with
  | slice q l c =>
    cases q with
    | none =>
      cases hs
      simp only at hv
      split at hv
      · rename_i h0
        obtain ⟨rfl, rfl⟩ := h0
        split at hv
        · rename_i hn0
          subst hn0
          cases hv
          have hnn : news' = [] := List.eq_nil_of_length_eq_zero (by simpa using hnlen)
          subst hnn
          have := app_room (P := P) (ty := ty) (base := none) (l := 0) (c := 0) ht hx hdx hn (hL w) hfc (by omega)
          exact ⟨φ, _, w, by simpa using this, Stp.refl hr, .sliceNil 0 0⟩
        · rename_i hn0
          split at hv
          · rename_i hc
            cases hv
            have := grow none 0 0 0 [] [] h rfl (LR.nil φ) (by simp) (by simp [Builtin.firstCells]) (by omega) (by omega) (by simpa using hc.1) (Stp.refl hr) rfl
            simpa using this
          · cases hv
      · cases hv
    | some a =>
      cases hs
      rename_i b c' hp hcap
      simp only at hv
      split at hv
      · cases hv
      · rename_i hspot
        simp only [ne_eq, Decidable.not_not] at hspot
        split at hv
        · rename_i h0
          subst h0
          split at hv
          case isFalse => cases hv
          rename_i hlc
          cases hv
          have hnn : news' = [] := List.eq_nil_of_length_eq_zero (by simpa using hnlen)
          subst hnn
          have hroom : l + 0 ≤ c' := by
            rcases hcap with ⟨_, rfl⟩ | ⟨_, h, _⟩
            · omega
            · omega
          have := app_room (P := P) (ty := ty) (base := some b) (l := l) (c := c') ht hx hdx hn (hL w) hfc hroom
          exact ⟨φ, _, w, by simpa [storeCells] using this, Stp.refl hr, .slice hp hcap⟩
        · rename_i h0
          split at hv
          · cases hv
          · rename_i hbound
            simp only [not_or, gt_iff_lt, Nat.not_lt] at hbound
            obtain ⟨hb1, hb2⟩ := hbound
            have hn0 : 0 < n := by omega
            split at hv
            · rename_i huc
              split at hv
              · rename_i hcu
                subst hcu
                have hc2 : l ≤ c' ∧ (c' = 0 ∨ ∃ B s m, φ a.block = some (B, s, m) ∧ a.off + c' * size = m) := by
                  rcases hcap with ⟨h1, _⟩ | ⟨_, h1, h2⟩
                  · omega
                  · exact ⟨h1, h2.imp id (fun ⟨B, s, m, e1, e2⟩ => ⟨B, s, m, e1, by rw [← e2, Nat.add_sub_cancel_left]⟩)⟩
                split at hv
                · rename_i o ho
                  split at hv
                  · rename_i hown
                    obtain ⟨ho1, ho2⟩ := hown
                    simp only [Option.bind_eq_some_iff, Option.some.injEq, Prod.mk.injEq] at hv
                    obtain ⟨old, hold, rfl, rfl⟩ := hv
                    obtain ⟨B, sh, m, cs, T, fz, e1, e2, e3, e4, e5⟩ := hr.obj _ o ho
                    have := e5 ho1; subst this
                    obtain ⟨old', hoL, holen, hoget⟩ := getN_LR e4 hold
                    by_cases hroom : l + n ≤ c'
                    · -- in place
                      obtain ⟨_, B', s', n', h3, rfl⟩ : PR φ a b := by
                        rcases hp with ⟨_, h1⟩ | h1
                        · omega
                        · exact h1
                      rw [e1] at h3; cases h3
                      have hm : a.off + c' * size = m := by
                        rcases hc2.2 with h1 | ⟨B2, s2, m2, h1, h2⟩
                        · omega
                        · rw [e1] at h1; cases h1; exact h2
                      have hmul : (l + n) * size ≤ c' * size := Nat.mul_le_mul_right _ hroom
                      rw [Nat.add_mul] at hmul
                      have hrun := run_storeCells_at (P := P) B (sh + a.off + l * size) T news' 0 cs w e2 (by omega) (hnL.oneC ho2)
                      have happ := app_room (P := P) (ty := ty) (base := some ⟨B, sh + a.off, none⟩) (l := l) (c := c') ht hx hdx hn (hL w) hfc hroom
                      dsimp only at happ
                      rw [Addr_add_lit _ _ rfl] at happ
                      simp only [hrun, Result.andThen_ok] at happ
                      obtain ⟨φ', hmv, hnew⟩ := Stp.moved hr ho ho1 e1 a.off (by omega)
                      have hget1 : (h.set a.block none ++ [some (⟨true, o.cells.drop a.off⟩ : AObj)])[h.length]? = some (some ⟨true, o.cells.drop a.off⟩) := by
                        rw [List.getElem?_append_right (by simp)]; simp
                      have hrow := Stp.row hmv.hr hget1 rfl hnew e2 (by omega) (cs.toList.take (sh + a.off + l * size + 0) ++ news' ++ cs.toList.drop (sh + a.off + l * size + 0 + news'.length)).toArray
                        (by simp only [List.size_toArray, List.length_append, List.length_take, List.length_drop, Array.length_toList]; omega) (old ++ news) (fun i v hv => by
                          obtain ⟨u, hu, hvu⟩ := ((hoL.append hnL).mono hmv.ext).get hv
                          refine ⟨u, ?_, hvu⟩
                          simp only [List.getElem?_toArray]
                          have hi : i < l * size + n * size := by
                            have := (List.getElem?_eq_some_iff.1 hu).1
                            simp only [List.length_append, holen, hnlen] at this; exact this
                          rw [List.getElem?_append_left (by simp only [List.length_append, List.length_take, Array.length_toList]; omega)]
                          by_cases hi2 : i < l * size
                          · rw [List.getElem?_append_left (by simp only [List.length_take, Array.length_toList]; omega), List.getElem?_take, if_pos (by omega), Array.getElem?_toList]
                            rw [List.getElem?_append_left (by omega)] at hu
                            rw [hoget i hi2]; exact hu
                          · rw [List.getElem?_append_right (by simp only [List.length_take, Array.length_toList]; omega)]
                            rw [List.getElem?_append_right (by omega)] at hu
                            rw [← hu]; congr 1
                            simp only [List.length_take, Array.length_toList]; omega)
                      have hset : (h.set a.block none ++ [some (⟨true, o.cells.drop a.off⟩ : AObj)]).set h.length (some ⟨true, old ++ news⟩) = h.set a.block none ++ [some ⟨true, old ++ news⟩] := by
                        rw [List.set_append_right _ _ (by simp)]; simp
                      rw [hset] at hrow
                      refine ⟨φ', _, _, happ, hmv.trans hrow, ?_⟩
                      refine .slice (.inr ⟨rfl, _, _, _, hnew, by simp⟩) (.inr ⟨by omega, hroom, .inr ⟨_, _, _, hnew, ?_⟩⟩)
                      simp only [Nat.zero_add, Nat.add_sub_cancel_left]
                      omega
                    · -- a new block
                      have hfo : (Builtin.firstCells size l (.slice (some b) l c')).run P w.drew = .ok old'.toArray w.drew := by
                        rcases Nat.eq_zero_or_pos l with hl0 | hl0
                        · subst hl0
                          have : old' = [] := List.eq_nil_of_length_eq_zero (by simpa using holen)
                          subst this
                          simp [Builtin.firstCells, loadCells, loadCellsFrom]
                        · obtain ⟨_, B', s', n', h3, rfl⟩ : PR φ a b := by
                            rcases hp with ⟨h1, _⟩ | h1
                            · omega
                            · exact h1
                          rw [e1] at h3; cases h3
                          refine run_firstCells_some w.drew size l _ l c' old' holen fun j v hj => ?_
                          have hj2 : j < l * size := by rw [← holen]; exact (List.getElem?_eq_some_iff.1 hj).1
                          rw [Addr_add_lit _ _ rfl, World.cell?_drew]
                          simp only [World.cell?, e2]
                          rw [hoget j hj2]; simpa using hj
                      have hk := Stp.kill hr a.block
                      exact grow (some b) l c' 0 old old' _ rfl hoL holen hfo (by omega) hb2 hb1 hk (by simp)
                  · cases hv
                · split at hv <;> cases hv
              · cases hv
            · rename_i huc
              have hcc : c' = c := by
                rcases hcap with ⟨_, h1⟩ | ⟨h1, _⟩
                · exact h1
                · exact absurd h1 huc
              subst hcc
              split at hv
              · rename_i hroom
                split at hv
                · rename_i o ho
                  split at hv
                  · rename_i hown
                    obtain ⟨ho1, ho2, ho3⟩ := hown
                    cases hv
                    obtain ⟨_, B', s', n', h3, rfl⟩ : PR φ a b := by
                      rcases hp with ⟨_, h1⟩ | h1
                      · omega
                      · exact h1
                    have hst : storeV h ⟨a.block, a.off + l * size, none⟩ news = some (h.set a.block (some ⟨true, setN o.cells (a.off + l * size) news⟩)) := by
                      unfold storeV
                      rw [if_neg (by simp)]
                      simp only [ho]
                      rw [if_pos ⟨ho1, ho2, ho3⟩]
                    obtain ⟨w', hrun, hstp⟩ := storeV_sound (P := P) hr hst (b := ⟨B', s' + (a.off + l * size), none⟩) ⟨rfl, B', s', n', h3, rfl⟩ hnL
                    have happ := app_room (P := P) (ty := ty) (base := some ⟨B', s' + a.off, none⟩) (l := l) (c := c') ht hx hdx hn (hL w) hfc hroom
                    dsimp only at happ
                    rw [Addr_add_lit _ _ rfl] at happ
                    simp only [Nat.add_assoc] at happ
                    simp only [hrun, Result.andThen_ok] at happ
                    refine ⟨φ, _, w', happ, hstp, .slice (.inr ⟨hspot, B', s', n', h3, rfl⟩) (capR_known (Nat.lt_of_not_le huc))⟩
                  · cases hv
                · cases hv
              · rename_i hroom
                split at hv
                · rename_i hl0
                  subst hl0
                  cases hv
                  have := grow (some b) 0 c' 0 [] [] h rfl (LR.nil φ) (by simp) (by simp [Builtin.firstCells, loadCells, loadCellsFrom]) (by omega) (by omega) hb1 (Stp.refl hr) rfl
                  simpa using this
                · rename_i hl0
                  split at hv
                  · rename_i cs hcs
                    simp only [Option.bind_eq_some_iff, Option.some.injEq, Prod.mk.injEq] at hv
                    obtain ⟨old, hold, rfl, rfl⟩ := hv
                    have hp' : PR φ a b := by
                      rcases hp with ⟨h1, _⟩ | h1
                      · omega
                      · exact h1
                    have hlv : loadV h a (l * size) = some old := by
                      unfold loadV
                      rw [if_neg (by simp [hspot]), hcs]; exact hold
                    obtain ⟨old', hoL, holen, hoget⟩ := loadV_sound hrd hlv hp'
                    exact grow (some b) l c' 0 old old' h rfl hoL holen (run_firstCells_some w.drew size l b l c' old' holen hoget) (by omega) hb2 hb1 (Stp.refl hr) rfl
                  · cases hv
  | _ => simp at hv
end
end Go.Ai
