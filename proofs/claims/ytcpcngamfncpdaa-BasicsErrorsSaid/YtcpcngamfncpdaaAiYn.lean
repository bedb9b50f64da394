/- Arguments with slices of structs that hold slices (one level more than AiY), laid into the small heap. Generic. -/
import Derived.Test.YtcpcngamfncpdaaAiY
set_option linter.unusedVariables false
namespace Go.Ai
open Go Go.ChangeShapes Go.WideShapes Go.ChangeAt Go.RowKit

inductive Cn where
  | c (c : Cl)
  | sn (es : List Cl)
def offsBN (P : Program) : Nat → List Field → List (List Cn) → Bool
  | _, [], [] => true
  | pos, f :: fs, L :: Ls => f.offset == pos && P.cellsOf f.type == L.length && offsBN P (pos + L.length) fs Ls
  | _, _, _ => false
def shapeN (P : Program) : Nat → TypeId → Option (List Cn)
  | 0, _ => none
  | f + 1, t => match P.underlying t with
    | some .bool => some [.c (.leaf .bool)]
    | some (.int k) => some [.c (.leaf (.int k))]
    | some .string => some [.c (.leaf .str)]
    | some (.slice e) => match shape P (f + 1) t with
      | some [c] => some [.c c]
      | _ => (shape P f e).bind fun es => if 0 < es.length ∧ P.cellsOf e = es.length then some [.sn es] else none
    | some (.struct fs) => (fs.toList.mapM fun fd => shapeN P f fd.type).bind fun Ls => if offsBN P 0 fs.toList Ls = true ∧ P.cellsOf t = Ls.flatten.length then some Ls.flatten else none
    | some (.array n e) => (shapeN P f e).bind fun L => if P.cellsOf e = L.length ∧ P.cellsOf t = n * L.length then some (List.replicate n L).flatten else none
    | _ => none

def PwN (R : Cn → Value → Prop) : List Cn → List Value → Prop
  | [], [] => True
  | c :: L, v :: cs => R c v ∧ PwN R L cs
  | _, _ => False
theorem PwN.len {R : Cn → Value → Prop} : ∀ {L : List Cn} {cs : List Value}, PwN R L cs → cs.length = L.length
  | [], [], _ => rfl
  | _ :: _, _ :: _, h => by simp [PwN.len h.2]
theorem PwN.append {R : Cn → Value → Prop} : ∀ {L : List Cn} {cs : List Value} {L' : List Cn} {cs' : List Value}, PwN R L cs → PwN R L' cs' → PwN R (L ++ L') (cs ++ cs')
  | [], [], _, _, _, h => h
  | _ :: _, _ :: _, _, _, h, k => ⟨h.1, PwN.append h.2 k⟩
theorem PwN.mono {R R' : Cn → Value → Prop} (hR : ∀ c v, R c v → R' c v) : ∀ {L : List Cn} {cs : List Value}, PwN R L cs → PwN R' L cs
  | [], [], _ => trivial
  | _ :: _, _ :: _, h => ⟨hR _ _ h.1, PwN.mono hR h.2⟩
/-- a cell of an argument in the world -/
def CellOkN (W : World) : Cn → Value → Prop
  | .c c, v => CellOk W c v
  | .sn es, v => v = .slice none 0 0 ∨ ∃ a len cap, v = .slice (some a) len cap ∧ len ≤ cap ∧ cap ≤ maxLen ∧ 0 < es.length ∧
      ∀ i, i < cap → ∃ cs, W.cells? 0 (a.add (i * es.length)) es.length = some cs ∧ Pw (CellOk W) es cs

section
variable {H : Type} {enc : TypeId × Value → H} {P : Program} {W : World}

theorem fields_pwN {R : Cn → Value → Prop} {cs : List Value} : ∀ (fs : List Field) (Ls : List (List Cn)) (pos : Nat), offsBN P pos fs Ls = true → cs.length = pos + Ls.flatten.length →
    (∀ (i : Nat) (fd : Field) (L : List Cn), fs[i]? = some fd → Ls[i]? = some L → PwN R L ((cs.drop fd.offset).take (P.cellsOf fd.type))) → PwN R Ls.flatten (cs.drop pos)
  | [], [], pos, _, hl, _ => by
    have : cs.drop pos = [] := by rw [List.drop_eq_nil_iff]; simp at hl; omega
    rw [this]; trivial
  | f :: fs, L :: Ls, pos, ho, hl, h => by
    simp only [offsBN, Bool.and_eq_true, beq_iff_eq] at ho
    obtain ⟨⟨h1, h2⟩, h3⟩ := ho
    simp only [List.flatten_cons, List.length_append] at hl
    have hh := h 0 f L rfl rfl
    rw [h1, h2] at hh
    have ht := fields_pwN fs Ls (pos + L.length) h3 (by omega) fun i fd L' hi hL => h (i + 1) fd L' hi hL
    have e : cs.drop pos = (cs.drop pos).take L.length ++ cs.drop (pos + L.length) := by
      rw [← List.drop_drop, List.take_append_drop]
    rw [List.flatten_cons, e]
    exact hh.append ht
  | [], _ :: _, _, ho, _, _ => by simp [offsBN] at ho
  | _ :: _, [], _, ho, _, _ => by simp [offsBN] at ho

theorem rep_pwN {R : Cn → Value → Prop} {L : List Cn} {cs : List Value} : ∀ (m pos : Nat), cs.length = pos + m * L.length → (∀ i, i < m → PwN R L ((cs.drop (pos + i * L.length)).take L.length)) → PwN R (List.replicate m L).flatten (cs.drop pos)
  | 0, pos, hl, _ => by
    have : cs.drop pos = [] := by rw [List.drop_eq_nil_iff]; simp at hl; omega
    rw [this]; trivial
  | m + 1, pos, hl, h => by
    have hh := h 0 (by omega)
    rw [Nat.zero_mul, Nat.add_zero] at hh
    rw [Nat.succ_mul] at hl
    have ht : PwN R (List.replicate m L).flatten (cs.drop (pos + L.length)) := rep_pwN m (pos + L.length) (by omega) fun i hi => by
      have := h (i + 1) (by omega)
      rw [Nat.succ_mul] at this
      rw [show pos + L.length + i * L.length = pos + (i * L.length + L.length) by omega]; exact this
    have e : cs.drop pos = (cs.drop pos).take L.length ++ cs.drop (pos + L.length) := by
      rw [← List.drop_drop, List.take_append_drop]
    rw [List.replicate_succ, List.flatten_cons, e]
    exact hh.append ht

theorem shape_cellsN : ∀ (f : Nat) (t : TypeId) (L : List Cn) (n : Nat) (cs : List Value) (x : DataW H × List MemPlace), shapeN P f t = some L → DataW.trod enc P W 0 (fun _ => true) true n t cs = some x → PwN (CellOkN W) L cs
  | 0, t, L, n, cs, x, hs, _ => by cases hs
  | f + 1, t, L, n, cs, x, hs, h => by
    unfold shapeN at hs
    split at hs
    · rename_i ht
      cases hs
      obtain ⟨b, rfl, _⟩ := DataW.trod_bool ht h
      exact ⟨⟨b, rfl⟩, trivial⟩
    · rename_i k ht
      cases hs
      obtain ⟨b, rfl, _, hw⟩ := DataW.trod_int ht h
      exact ⟨⟨b, rfl, hw⟩, trivial⟩
    · rename_i ht
      cases hs
      obtain ⟨b, rfl, _, hw⟩ := DataW.trod_string ht h
      exact ⟨⟨b, rfl, hw⟩, trivial⟩
    · rename_i e ht
      split at hs
      · rename_i c hc
        cases hs
        have := shape_cells (f + 1) t [c] n cs x hc h
        match cs, this with
        | [v], k => exact ⟨k.1, trivial⟩
      · obtain ⟨es, h1, h2⟩ := Option.bind_eq_some_iff.1 hs
        split at h2
        · rename_i hc
          cases h2
          rcases DataW.trod_slice ht h with ⟨rfl, _⟩ | ⟨a, len, cap, elems, rest, m, rfl, rfl, _, _, k1, k2, k3, k4, k5, _⟩
          · exact ⟨.inl rfl, trivial⟩
          · refine ⟨.inr ⟨a, len, cap, rfl, k1, k2, hc.1, fun i hi => ?_⟩, trivial⟩
            obtain ⟨k6, k7⟩ := k5 rfl
            have : ∃ y, ((W.cells? 0 (a.add (i * P.cellsOf e)) (P.cellsOf e)).bind (DataW.trod enc P W 0 (fun _ => true) true m e)) = some y := by
              rcases Nat.lt_or_ge i len with hl | hl
              · rw [k4 i hl]; exact ⟨elems[i], by simp [k3, hl]⟩
              · have := k7 (i - len) (by omega)
                rw [show len + (i - len) = i by omega] at this
                rw [this]; exact ⟨rest[i - len]'(by omega), by simp⟩
            obtain ⟨y, hy⟩ := this
            obtain ⟨cs', g1, g2⟩ := Option.bind_eq_some_iff.1 hy
            rw [hc.2] at g1
            exact ⟨cs', g1, shape_cells f e es m cs' y h1 g2⟩
        · cases h2
    · rename_i fs ht
      obtain ⟨Ls, h1, h2⟩ := Option.bind_eq_some_iff.1 hs
      split at h2
      · rename_i hc
        cases h2
        obtain ⟨xs, m, rfl, _, k1, k2, k3⟩ := DataW.trod_struct ht h
        have := fields_pwN (R := CellOkN W) (cs := cs) fs.toList Ls 0 hc.1 (by rw [k1, hc.2]; simp) fun i fd L hi hL => by
          have e1 := mapM_some_get h1 i fd hi
          rw [hL] at e1
          have e2 := k3 i fd (by simpa using hi)
          have hi' : i < fs.size := by simpa using (List.getElem?_eq_some_iff.1 hi).1
          rw [List.getElem?_eq_getElem (by omega)] at e2
          exact shape_cellsN f fd.type L m _ _ e1 e2
        simpa using this
      · cases h2
    · rename_i k e ht
      obtain ⟨L', h1, h2⟩ := Option.bind_eq_some_iff.1 hs
      split at h2
      · rename_i hc
        cases h2
        obtain ⟨xs, m, rfl, _, k1, k2, k3⟩ := DataW.trod_array ht h
        have := rep_pwN (R := CellOkN W) (L := L') (cs := cs) k 0 (by rw [k1, hc.2]; simp) fun i hi => by
          have e2 := k3 i hi
          rw [List.getElem?_eq_getElem (by omega)] at e2
          rw [hc.1] at e2
          rw [Nat.zero_add]
          exact shape_cellsN f e L' m _ _ h1 e2
        simpa using this
      · cases h2
    · cases hs

/-- a cell of an argument in the small heap -/
def SmallOkN (h : AHeap) : Cn → Value → Prop
  | .c c, v => SmallOk h c v
  | .sn es, v => v = .slice none 0 0 ∨ ∃ B len cap rows, v = .slice (some ⟨B, 0, none⟩) len cap ∧ len ≤ cap ∧ cap ≤ maxLen ∧ B < h.length ∧ (len ≠ 0 → h[B]? = some (some ⟨false, rows⟩)) ∧ rows.length = len * es.length ∧
      ∀ i, i < len → Pw (SmallOk h) es ((rows.drop (i * es.length)).take es.length)
theorem SmallOkN.app {h t : AHeap} {c : Cn} {v : Value} (k : SmallOkN h c v) : SmallOkN (h ++ t) c v := by
  cases c with
  | c c => exact SmallOk.app k
  | sn es =>
    rcases k with k | ⟨B, len, cap, rows, k1, k2, k3, k0, k4, k5, k6⟩
    · exact .inl k
    · exact .inr ⟨B, len, cap, rows, k1, k2, k3, by simp; omega, fun h => app_old (k4 h), k5, fun i hi => (k6 i hi).mono fun _ _ => SmallOk.app⟩

/-- one object more that is read only -/
theorem Ro.pushV {φ : Phi} {h : AHeap} (r : Ro φ h W) {a : Addr} {rows : List Value} {u0 : Value} (h0 : W.cell? a = some u0) (hr : ∀ (i : Nat) (v : Value), rows[i]? = some v → ∃ u, W.cell? (a.add i) = some u ∧ VR φ v u) :
    ∃ φ' n, Ro φ' (h ++ [some ⟨false, rows⟩]) W ∧ ext φ φ' ∧ φ' h.length = some (a.block, a.off, n) ∧ a.spot = none := by
  unfold World.cell? at h0
  split at h0
  · rename_i cs T fz hB
    split at h0
    · cases h0
    · rename_i hsp
      have hsp' : a.spot = none := by simpa using hsp
      have hlt := (Array.getElem?_eq_some_iff.1 h0).1
      have hext : ext φ (fun A => if A = h.length then some (a.block, a.off, cs.size - a.off) else φ A) := fun A x hA => by
        by_cases e : A = h.length
        · subst e
          rw [r.1.dom _ (Nat.le_refl _)] at hA; cases hA
        · simp [e, hA]
      refine ⟨fun A => if A = h.length then some (a.block, a.off, cs.size - a.off) else φ A, cs.size - a.off, ⟨⟨fun A o hA => ?_, fun A A' o o' B s s' n n' hA ho => ?_, fun A hA => ?_⟩, fun A o hA => ?_⟩, hext, by simp, hsp'⟩
      · rcases Nat.lt_trichotomy A h.length with h1 | h1 | h1
        · rw [List.getElem?_append_left h1] at hA
          obtain ⟨B, s, n, cs', T', fz', g1, g2, g3, g4, g5⟩ := r.1.obj A o hA
          refine ⟨B, s, n, cs', T', fz', hext _ _ g1, g2, g3, fun i v hv => ?_, g5⟩
          obtain ⟨u, e1, e2⟩ := g4 i v hv
          exact ⟨u, e1, e2.mono hext⟩
        · subst h1
          rw [app_new0] at hA
          simp at hA
          subst hA
          refine ⟨a.block, a.off, cs.size - a.off, cs, T, fz, by simp, hB, by omega, fun i v hv => ?_, fun h => by cases h⟩
          obtain ⟨u, e1, e2⟩ := hr i v hv
          refine ⟨u, ?_, e2.mono hext⟩
          by_cases hi : i = 0 <;> simpa [World.cell?, Addr.add, hB, hsp', hi] using e1
        · rw [List.getElem?_eq_none (by simp; omega)] at hA; cases hA
      · rcases Nat.lt_trichotomy A h.length with h1 | h1 | h1
        · rw [List.getElem?_append_left h1] at hA
          rw [r.2 A o hA] at ho; cases ho
        · subst h1
          rw [app_new0] at hA
          simp at hA
          subst hA
          cases ho
        · rw [List.getElem?_eq_none (by simp; omega)] at hA; cases hA
      · simp at hA
        rw [if_neg (by omega)]
        exact r.1.dom A (by omega)
      · rcases Nat.lt_trichotomy A h.length with h1 | h1 | h1
        · rw [List.getElem?_append_left h1] at hA
          exact r.2 A o hA
        · subst h1
          rw [app_new0] at hA
          simp at hA
          subst hA
          rfl
        · rw [List.getElem?_eq_none (by simp; omega)] at hA; cases hA
  · cases h0

theorem Pw.flat {R : Cl → Value → Prop} {es : List Cl} {rowsOf : Nat → List Value} : ∀ (n : Nat), (∀ i, i < n → Pw R es (rowsOf i)) → Pw R (List.replicate n es).flatten ((List.range n).map rowsOf).flatten
  | 0, _ => by simp [Pw]
  | n + 1, h => by
    have h1 := Pw.flat n fun i hi => h i (by omega)
    rw [List.replicate_succ', List.range_succ, List.map_append, List.flatten_append, List.flatten_append]
    refine h1.append ?_
    simpa using h n (by omega)
theorem flat_get {α : Type} {k : Nat} {rowsOf : Nat → List α} : ∀ (n : Nat), (∀ i, i < n → (rowsOf i).length = k) → ((List.range n).map rowsOf).flatten.length = n * k ∧ ∀ i, i < n → (((List.range n).map rowsOf).flatten.drop (i * k)).take k = rowsOf i
  | 0, _ => ⟨by simp, fun i hi => by omega⟩
  | n + 1, h => by
    obtain ⟨h1, h2⟩ := flat_get n fun i hi => h i (by omega)
    have e : ((List.range (n + 1)).map rowsOf).flatten = ((List.range n).map rowsOf).flatten ++ rowsOf n := by
      rw [List.range_succ, List.map_append, List.flatten_append]; simp
    have hn := h n (by omega)
    refine ⟨by rw [e, List.length_append, h1, hn, Nat.succ_mul], fun i hi => ?_⟩
    rw [e]
    rcases Nat.lt_or_ge i n with hl | hl
    · have hle : i * k + k ≤ n * k := by rw [← Nat.succ_mul]; exact Nat.mul_le_mul_right _ hl
      rw [List.drop_append_of_le_length (by omega), List.take_append_of_le_length (by rw [List.length_drop, h1]; omega)]
      exact h2 i hl
    · have hin : i = n := by omega
      subst hin
      rw [List.drop_left' h1, List.take_of_length_le (by omega)]
theorem Pw.split {R : Cl → Value → Prop} : ∀ {L L' : List Cl} {cs : List Value}, Pw R (L ++ L') cs → Pw R L (cs.take L.length) ∧ Pw R L' (cs.drop L.length)
  | [], L', cs, h => ⟨by simp [Pw], by simpa using h⟩
  | c :: L, L', v :: cs, h => by
    obtain ⟨h1, h2⟩ := Pw.split (L := L) (L' := L') h.2
    exact ⟨⟨h.1, h1⟩, h2⟩
  | _ :: _, _, [], h => h.elim
theorem Pw.unflat {R : Cl → Value → Prop} {L : List Cl} : ∀ (n : Nat) {cs : List Value}, Pw R (List.replicate n L).flatten cs → ∀ i, i < n → Pw R L ((cs.drop (i * L.length)).take L.length)
  | 0, cs, h, i, hi => by omega
  | n + 1, cs, h, i, hi => by
    rw [List.replicate_succ, List.flatten_cons] at h
    obtain ⟨h1, h2⟩ := h.split
    cases i with
    | zero => simpa using h1
    | succ i =>
      have := Pw.unflat n h2 i (by omega)
      rw [List.drop_drop] at this
      rw [show (i + 1) * L.length = L.length + i * L.length by rw [Nat.succ_mul]; omega]
      exact this
theorem open_cellN {φ : Phi} {h : AHeap} (r : Ro φ h W) {c : Cn} {v : Value} (k : CellOkN W c v) : ∃ φ' t v', Ro φ' (h ++ t) W ∧ ext φ φ' ∧ VR φ' v' v ∧ SmallOkN (h ++ t) c v' := by
  cases c with
  | c c => exact open_cell r k
  | sn es =>
    rcases k with rfl | ⟨a, len, cap, rfl, k1, k2, k3, k4⟩
    · exact ⟨φ, [], _, by simpa using r, ext.refl φ, .sliceNil 0 0, .inl rfl⟩
    · rcases Nat.eq_zero_or_pos cap with h0 | h0
      · subst h0
        have : len = 0 := by omega
        subst this
        exact ⟨φ, [none], .slice (some ⟨h.length, 0, none⟩) 0 0, ⟨⟨fun A o hA => by
            rcases Nat.lt_or_ge A h.length with h1 | h1
            · rw [List.getElem?_append_left h1] at hA; exact r.1.obj A o hA
            · rw [List.getElem?_append_right h1] at hA
              cases e : A - h.length <;> simp [e] at hA, fun A A' o o' B s s' n n' hA ho => by
            rcases Nat.lt_or_ge A h.length with h1 | h1
            · rw [List.getElem?_append_left h1] at hA
              rw [r.2 A o hA] at ho; cases ho
            · rw [List.getElem?_append_right h1] at hA
              cases e : A - h.length <;> simp [e] at hA, fun A hA => r.1.dom A (by simp at hA; omega)⟩, fun A o hA => by
            rcases Nat.lt_or_ge A h.length with h1 | h1
            · rw [List.getElem?_append_left h1] at hA
              exact r.2 A o hA
            · rw [List.getElem?_append_right h1] at hA
              cases e : A - h.length <;> simp [e] at hA⟩, ext.refl φ, .slice (.inl ⟨rfl, rfl⟩) (.inl ⟨by unfold unk; omega, rfl⟩),
          .inr ⟨h.length, 0, 0, [], rfl, by omega, by omega, by simp, fun h => absurd rfl h, by simp, fun i hi => by omega⟩⟩
      · have hrow : ∃ rowsOf : Nat → List Value, ∀ i, i < cap → W.cells? 0 (a.add (i * es.length)) es.length = some (rowsOf i) ∧ Pw (CellOk W) es (rowsOf i) := by
          refine ⟨fun i => if hi : i < cap then Classical.choose (k4 i hi) else [], fun i hi => ?_⟩
          simp only [hi, dif_pos]
          exact Classical.choose_spec (k4 i hi)
        obtain ⟨rowsOf, hro⟩ := hrow
        have hlen : ∀ i, i < len → (rowsOf i).length = es.length := fun i hi => (hro i (by omega)).2.len
        obtain ⟨f1, f2⟩ := flat_get len hlen
        obtain ⟨φ1, t1, cs', r1, e1, w1, s1⟩ := open_cells r (Pw.flat len fun i hi => (hro i (by omega)).2)
        have hl' : cs'.length = len * es.length := by rw [w1.1, f1]
        obtain ⟨u0, hu0⟩ : ∃ u0, W.cell? a = some u0 := by
          obtain ⟨g1, g2⟩ := hro 0 h0
          obtain ⟨g3, g4⟩ := cells?_get g1
          have := g4 0 (by omega)
          rw [add_add] at this
          refine ⟨(rowsOf 0)[0]'(by omega), ?_⟩
          rw [List.getElem?_eq_getElem (by omega)] at this
          simpa [Addr.add] using this
        obtain ⟨φ', n, r2, r3, r4, r5⟩ := r1.pushV (a := a) (rows := cs') hu0 (fun j v hv => by
          have hj : j < len * es.length := by rw [← hl']; exact (List.getElem?_eq_some_iff.1 hv).1
          obtain ⟨u, hu, hvu⟩ := w1.get hv
          refine ⟨u, ?_, hvu⟩
          have hd : j / es.length < len := by rw [Nat.div_lt_iff_lt_mul k3]; exact hj
          have hm := Nat.mod_lt j k3
          obtain ⟨g1, g2⟩ := hro (j / es.length) (by omega)
          obtain ⟨g3, g4⟩ := cells?_get g1
          have e3 := g4 (j % es.length) hm
          rw [add_add, Nat.mul_comm, Nat.div_add_mod] at e3
          rw [e3, ← f2 _ hd, List.getElem?_take, if_pos hm, List.getElem?_drop, Nat.mul_comm, Nat.div_add_mod]
          exact hu)
        refine ⟨φ', t1 ++ [some ⟨false, cs'⟩], .slice (some ⟨(h ++ t1).length, 0, none⟩) len cap, by rw [← List.append_assoc]; exact r2, e1.trans r3, .slice (.inr ⟨rfl, a.block, a.off, n, r4, ?_⟩) (.inl ⟨?_, rfl⟩),
          .inr ⟨(h ++ t1).length, len, cap, cs', rfl, k1, k2, by simp, fun _ => by rw [← List.append_assoc, app_new0]; rfl, hl', fun i hi => ?_⟩⟩
        · cases a; simp at r5; subst r5; rfl
        · have : maxLen < unk := by decide
          omega
        · rw [← List.append_assoc]
          exact (Pw.unflat len s1 i hi).mono fun _ _ => SmallOk.app

theorem open_cellsN : ∀ {φ : Phi} {h : AHeap} (r : Ro φ h W) {L : List Cn} {cs : List Value} (k : PwN (CellOkN W) L cs), ∃ φ' t cs', Ro φ' (h ++ t) W ∧ ext φ φ' ∧ LR φ' cs' cs ∧ PwN (SmallOkN (h ++ t)) L cs'
  | φ, h, r, [], [], _ => ⟨φ, [], [], by simpa using r, ext.refl φ, LR.nil φ, trivial⟩
  | φ, h, r, c :: L, v :: cs, k => by
    obtain ⟨φ1, t1, v', r1, e1, w1, s1⟩ := open_cellN r k.1
    obtain ⟨φ2, t2, cs', r2, e2, w2, s2⟩ := open_cellsN r1 k.2
    exact ⟨φ2, t1 ++ t2, v' :: cs', by simpa using r2, e1.trans e2, .cons (w1.mono e2) w2, by rw [← List.append_assoc]; exact s1.app, by rw [← List.append_assoc]; exact s2⟩
  | _, _, _, [], _ :: _, k => k.elim
  | _, _, _, _ :: _, [], k => k.elim

/-- an argument of the small heap: an aggregate, or one cell -/
def SmallArgN (h : AHeap) : Bool × List Cn → Value → Prop
  | (true, L), v => ∃ cs, v = .agg cs.toArray ∧ PwN (SmallOkN h) L cs
  | (false, L), v => PwN (SmallOkN h) L [v]
theorem SmallArgN.app {h t : AHeap} {s : Bool × List Cn} {v : Value} (k : SmallArgN h s v) : SmallArgN (h ++ t) s v := by
  obtain ⟨_ | _, L⟩ := s
  · exact PwN.mono (fun _ _ => SmallOkN.app) k
  · obtain ⟨cs, rfl, k⟩ := k
    exact ⟨cs, rfl, k.mono fun _ _ => SmallOkN.app⟩
def argShapeN (P : Program) (t : TypeId) : Option (Bool × List Cn) := (shapeN P 6 t).map (isAggT P t, ·)

theorem open_argN {φ : Phi} {h : AHeap} (r : Ro φ h W) {t : TypeId} {b0 : Nat} {v : Value} {d : DataW H} {p : List MemPlace} {s : Bool × List Cn} (hs : argShapeN P t = some s) (hval : Value.okWide P W .any b0 t v) (hd : DataW.Trod enc P W 0 (fun _ => true) true t v d p) :
    ∃ φ' u v', Ro φ' (h ++ u) W ∧ ext φ φ' ∧ VR φ' v' v ∧ SmallArgN (h ++ u) s v' := by
  unfold argShapeN at hs
  obtain ⟨L, h1, rfl⟩ := Option.map_eq_some_iff.1 hs
  obtain ⟨n, hn⟩ := hd
  have hp := shape_cellsN _ _ _ _ _ _ h1 hn
  obtain ⟨φ', u, cs', r1, r2, r3, r4⟩ := open_cellsN r hp
  cases ha : isAggT P t with
  | true =>
    have : ∃ cs, v = .agg cs := by
      unfold isAggT at ha
      unfold Value.okWide at hval
      split at ha
      · rename_i e; rw [e] at hval; obtain ⟨cs, h, _⟩ := hval; exact ⟨cs, h⟩
      · rename_i e; rw [e] at hval; obtain ⟨cs, h, _⟩ := hval; exact ⟨cs, h⟩
      · cases ha
    obtain ⟨cs, rfl⟩ := this
    refine ⟨φ', u, .agg cs'.toArray, r1, r2, ?_, ⟨cs', rfl, r4⟩⟩
    have : LR φ' cs' cs.toList := r3
    simpa using VR.aggL this
  | false =>
    have hc : v.cells.toList = [v] ∧ L.length = 1 := by
      unfold shapeN at h1
      split at h1
      · rename_i e; cases h1; obtain ⟨b, rfl⟩ := okWide_bool e hval; exact ⟨rfl, rfl⟩
      · rename_i e; cases h1; obtain ⟨b, rfl⟩ := okWide_int e hval; exact ⟨rfl, rfl⟩
      · rename_i e; cases h1; obtain ⟨b, rfl⟩ := okWide_string e hval; exact ⟨rfl, rfl⟩
      · rename_i e
        obtain ⟨a, b, c, rfl⟩ := okWide_slice e hval
        split at h1
        · cases h1; exact ⟨rfl, rfl⟩
        · obtain ⟨es, h2, h3⟩ := Option.bind_eq_some_iff.1 h1
          split at h3
          · cases h3; exact ⟨rfl, rfl⟩
          · cases h3
      · rename_i e; simp [isAggT, e] at ha
      · rename_i e; simp [isAggT, e] at ha
      · cases h1
    rw [hc.1] at r3
    have hl := r4.len
    rw [hc.2] at hl
    obtain ⟨v', rfl⟩ := List.length_eq_one_iff.1 hl
    exact ⟨φ', u, v', r1, r2, by obtain ⟨_, _, e, hv, _⟩ := r3.head; simp at e; exact e.1 ▸ hv, r4⟩

theorem PwN.cons_inv {R : Cn → Value → Prop} {c : Cn} {L : List Cn} {cs : List Value} (h : PwN R (c :: L) cs) : ∃ v r, cs = v :: r ∧ R c v ∧ PwN R L r := by
  cases cs with
  | nil => exact h.elim
  | cons v r => exact ⟨v, r, rfl, h.1, h.2⟩
theorem PwN.nil_inv {R : Cn → Value → Prop} {cs : List Value} (h : PwN R [] cs) : cs = [] := by
  cases cs with
  | nil => rfl
  | cons v r => exact h.elim
/-- all arguments -/
def SmallArgsN (h : AHeap) : List (Bool × List Cn) → List Value → Prop
  | [], [] => True
  | s :: ss, v :: vs => SmallArgN h s v ∧ SmallArgsN h ss vs
  | _, _ => False
theorem SmallArgsN.cons_inv {h : AHeap} {s : Bool × List Cn} {ss : List (Bool × List Cn)} {vs : List Value} (k : SmallArgsN h (s :: ss) vs) : ∃ v r, vs = v :: r ∧ SmallArgN h s v ∧ SmallArgsN h ss r := by
  cases vs with
  | nil => exact k.elim
  | cons v r => exact ⟨v, r, rfl, k.1, k.2⟩
theorem SmallArgsN.nil_inv {h : AHeap} {vs : List Value} (k : SmallArgsN h [] vs) : vs = [] := by
  cases vs with
  | nil => rfl
  | cons v r => exact k.elim
theorem SmallArgsN.app {h t : AHeap} : ∀ {ss : List (Bool × List Cn)} {vs : List Value}, SmallArgsN h ss vs → SmallArgsN (h ++ t) ss vs
  | [], [], _ => trivial
  | _ :: _, _ :: _, k => ⟨k.1.app, SmallArgsN.app k.2⟩
theorem open_argsN {b0 : Nat} : ∀ {φ : Phi} {h : AHeap} (r : Ro φ h W) {ts : List TypeId} {vs : List Value} {ds : List (DataW H)} {p : List MemPlace} {ss : List (Bool × List Cn)} (hs : ts.mapM (argShapeN P) = some ss)
    (hval : ∀ (j : Nat) t v, ts[j]? = some t → vs[j]? = some v → Value.okWide P W .any b0 t v) (hd : DataW.TrodAll enc P W 0 (fun _ => true) true ts vs ds p),
    ∃ φ' u vs', Ro φ' (h ++ u) W ∧ ext φ φ' ∧ LR φ' vs' vs ∧ SmallArgsN (h ++ u) ss vs'
  | φ, h, r, [], vs, ds, p, ss, hs, hval, hd => by
    simp at hs; subst hs
    cases vs <;> cases ds <;> simp [DataW.TrodAll] at hd
    exact ⟨φ, [], [], by simpa using r, ext.refl φ, LR.nil φ, trivial⟩
  | φ, h, r, t :: ts, vs, ds, p, ss, hs, hval, hd => by
    rw [List.mapM_cons] at hs
    obtain ⟨s, h1, h2⟩ := Option.bind_eq_some_iff.1 hs
    obtain ⟨ss', h3, h4⟩ := Option.bind_eq_some_iff.1 h2
    cases h4
    cases vs with
    | nil => simp [DataW.TrodAll] at hd
    | cons v vs =>
      cases ds with
      | nil => simp [DataW.TrodAll] at hd
      | cons d ds =>
        obtain ⟨p1, q1, k1, k2, _⟩ := hd
        obtain ⟨φ1, u1, v', r1, e1, w1, s1⟩ := open_argN r h1 (hval 0 t v rfl rfl) k1
        obtain ⟨φ2, u2, vs', r2, e2, w2, s2⟩ := open_argsN r1 h3 (fun j t v ht hv => hval (j + 1) t v (by simpa using ht) (by simpa using hv)) k2
        exact ⟨φ2, u1 ++ u2, v' :: vs', by simpa using r2, e1.trans e2, .cons (w1.mono e2) w2, by rw [← List.append_assoc]; exact s1.app, by rw [← List.append_assoc]; exact s2⟩

end
/-- a law's function: from its triple to what the statement asks of a call -/
theorem law_callsN {H : Type} {enc : TypeId × Value → H} {P : Program} {f : FuncId} {fn : Func} {s : ChangeSpec} {bt : TypeId} (hl : laidOutB P = true) (hts : fn.params.toList.all (fun t => P.readableRec t && decide (t < P.types.size)) = true) {ss : List (Bool × List Cn)} (hs : fn.params.toList.mapM (argShapeN P) = some ss)
    (hres : fn.resultTypes = #[bt]) (hbt : P.underlying bt = some .bool) (hvars : s.vars = []) (hfn : ∀ (xs : List (DataW H)), xs.length = ss.length → (s.fn H xs).results = [.lit (.bool true)] ∧ (s.fn H xs).args = xs ∧ (s.fn H xs).vars = [])
    (hV : ∀ (h : AHeap) (vs : List Value), SmallArgsN h ss vs → Valid P f vs h fun r _ => r = .bool true)
    {W : World} {base : Nat} {args : Array Value} {ds gs : List (DataW H)} {before : List MemPlace} (hval : ∀ (j : Nat) t v, fn.params[j]? = some t → args[j]? = some v → Value.okWide P W .any base t v)
    {apart fresh handsOn : Bool}
    (hW' : DataW.Whole enc P fn.params.toList s.vars apart W args.toList ds gs before) (hgv : gv = none := by rfl) :
    Calls P f args W fun e W' => ∃ v, e = .returned v ∧ s.post enc P fn apart fresh handsOn false W args v W' := by
  obtain ⟨p, q, hA, hVr, rfl, hfz, hnd⟩ := hW'
  rw [hvars] at hVr
  obtain ⟨rfl, rfl⟩ := trodVars_none hVr
  have hlt : ∀ x ∈ p, x.block < W.heap.size := fun x hx => by
    have hw : DataW.Whole enc P fn.params.toList s.vars apart W args.toList ds [] (p ++ []) := ⟨p, [], hA, by rw [hvars]; exact hVr, rfl, hfz, hnd⟩
    exact hw.lt x (by simpa using hx)
  obtain ⟨φ, u, vs, r, _, ha, hsm⟩ := open_argsN (b0 := base) (Ro.nil W) hs (fun j t v ht hv => hval j t v (by simpa using ht) (by simpa using hv)) hA
  have := calls_ro r (hV _ _ hsm) ha (GR.none hgv _)
  simp only [Array.toArray_toList] at this
  refine this.mono ?_
  rintro e W' ⟨he, hb⟩
  have hts' : ∀ t ∈ fn.params.toList, P.readableRec t = true ∧ t < P.types.size := fun t ht => by simpa using List.all_eq_true.1 hts t ht
  have hdl : ds.length = ss.length := by
    rw [← trodAll_len hA, mapM_some_length hs]
  obtain ⟨hfnR, hfnA, hfnV⟩ := hfn ds hdl
  rw [← List.append_nil ds] at hfnR hfnA hfnV
  refine ⟨.bool true, he, ds, [], p ++ [], [], p, [], ⟨p, [], hA, by rw [hvars]; exact hVr, rfl, hfz, hnd⟩, ?_, ?_, ?_, hb.frame _, fun h => by cases h⟩
  · rw [hres, hfnR]
    exact trodAll_cons_mk (shut_bool hbt _) trodAll_mk0
  · rw [hfnA]; simp only [List.append_nil]
    exact trodAll_again hl hb hts' hlt hA
  · rw [hvars, hfnV]
    rfl
end Go.Ai
