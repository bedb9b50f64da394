/- Arguments with slices, laid into the small heap. Generic. -/
import Derived.Test.YtcpcngamfncpdaaAiW
import Derived.Carry
import Derived.WideShapes
set_option linter.unusedVariables false
namespace Go.Ai
open Go Go.ChangeShapes Go.WideShapes Go.ChangeAt Go.RowKit

/-- what a cell of an argument may be -/
inductive Leaf where
  | int (k : IntKind)
  | bool
  | str
inductive Cl where
  | leaf (l : Leaf)
  | sl (es : List Leaf)
def LeafOk : Leaf → Value → Prop
  | .int k, v => ∃ n, v = .int k n ∧ (Lit.int k n).wf = true
  | .bool, v => ∃ b, v = .bool b
  | .str, v => ∃ s : ByteArray, v = .string s ∧ s.size ≤ maxLen
theorem LeafOk.flat {l : Leaf} {v : Value} (h : LeafOk l v) : flat v = true := by
  cases l <;> simp only [LeafOk] at h
  · obtain ⟨n, rfl, _⟩ := h; rfl
  · obtain ⟨n, rfl⟩ := h; rfl
  · obtain ⟨n, rfl, _⟩ := h; rfl

def leavesOf : List Cl → Option (List Leaf)
  | [] => some []
  | .leaf l :: r => (leavesOf r).map (l :: ·)
  | .sl _ :: _ => none
def offsB (P : Program) : Nat → List Field → List (List Cl) → Bool
  | _, [], [] => true
  | pos, f :: fs, L :: Ls => f.offset == pos && P.cellsOf f.type == L.length && offsB P (pos + L.length) fs Ls
  | _, _, _ => false
def shape (P : Program) : Nat → TypeId → Option (List Cl)
  | 0, _ => none
  | f + 1, t => match P.underlying t with
    | some .bool => some [.leaf .bool]
    | some (.int k) => some [.leaf (.int k)]
    | some .string => some [.leaf .str]
    | some (.slice e) => ((shape P f e).bind leavesOf).bind fun es => if 0 < es.length ∧ P.cellsOf e = es.length then some [.sl es] else none
    | some (.struct fs) => (fs.toList.mapM fun fd => shape P f fd.type).bind fun Ls => if offsB P 0 fs.toList Ls = true ∧ P.cellsOf t = Ls.flatten.length then some Ls.flatten else none
    | some (.array n e) => (shape P f e).bind fun L => if P.cellsOf e = L.length ∧ P.cellsOf t = n * L.length then some (List.replicate n L).flatten else none
    | _ => none

def Pw (R : Cl → Value → Prop) : List Cl → List Value → Prop
  | [], [] => True
  | c :: L, v :: cs => R c v ∧ Pw R L cs
  | _, _ => False
theorem Pw.len {R : Cl → Value → Prop} : ∀ {L : List Cl} {cs : List Value}, Pw R L cs → cs.length = L.length
  | [], [], _ => rfl
  | _ :: _, _ :: _, h => by simp [Pw.len h.2]
theorem Pw.append {R : Cl → Value → Prop} : ∀ {L : List Cl} {cs : List Value} {L' : List Cl} {cs' : List Value}, Pw R L cs → Pw R L' cs' → Pw R (L ++ L') (cs ++ cs')
  | [], [], _, _, _, h => h
  | _ :: _, _ :: _, _, _, h, k => ⟨h.1, Pw.append h.2 k⟩
theorem Pw.mono {R R' : Cl → Value → Prop} (hR : ∀ c v, R c v → R' c v) : ∀ {L : List Cl} {cs : List Value}, Pw R L cs → Pw R' L cs
  | [], [], _ => trivial
  | _ :: _, _ :: _, h => ⟨hR _ _ h.1, Pw.mono hR h.2⟩
theorem Pw.leaves {R : Cl → Value → Prop} : ∀ {L : List Cl} {es : List Leaf} {cs : List Value}, leavesOf L = some es → Pw R L cs → cs.length = es.length ∧ ∀ (q : Nat) (l : Leaf), es[q]? = some l → ∃ v, cs[q]? = some v ∧ R (.leaf l) v
  | [], es, [], h, _ => by cases h; exact ⟨rfl, fun q l h => by simp at h⟩
  | .leaf l :: L, es, v :: cs, h, k => by
    simp only [leavesOf, Option.map_eq_some_iff] at h
    obtain ⟨es', h1, rfl⟩ := h
    obtain ⟨e1, e2⟩ := Pw.leaves h1 k.2
    refine ⟨by simp [e1], fun q l' hq => ?_⟩
    cases q with
    | zero => simp at hq; subst hq; exact ⟨v, rfl, k.1⟩
    | succ q => simpa using e2 q l' (by simpa using hq)
  | .sl _ :: _, _, _, h, _ => by cases h

/-- a cell of an argument in the world -/
def CellOk (W : World) : Cl → Value → Prop
  | .leaf l, v => LeafOk l v
  | .sl es, v => v = .slice none 0 0 ∨ ∃ a len cap, v = .slice (some a) len cap ∧ len ≤ cap ∧ cap ≤ maxLen ∧ 0 < es.length ∧
      ∀ i, i < cap → ∀ (q : Nat) (l : Leaf), es[q]? = some l → ∃ u, W.cell? (a.add (i * es.length + q)) = some u ∧ LeafOk l u

section
variable {H : Type} {enc : TypeId × Value → H} {P : Program} {W : World}

theorem add_add (a : Addr) (i j : Nat) : (a.add i).add j = a.add (i + j) := by
  unfold Addr.add
  by_cases h : i = 0 <;> by_cases k : j = 0 <;> simp [h, k, Nat.add_assoc]
theorem cells?_get {base n : Nat} {a : Addr} {cs : List Value} (h : W.cells? base a n = some cs) : cs.length = n ∧ ∀ i, i < n → W.cell? (a.add i) = cs[i]? := by
  unfold World.cells? at h
  split at h
  · refine ⟨by simpa using mapM_some_length h, fun i hi => ?_⟩
    exact mapM_some_get h i i (by simp [hi])
  · cases h

theorem fields_pw {R : Cl → Value → Prop} {cs : List Value} : ∀ (fs : List Field) (Ls : List (List Cl)) (pos : Nat), offsB P pos fs Ls = true → cs.length = pos + Ls.flatten.length →
    (∀ (i : Nat) (fd : Field) (L : List Cl), fs[i]? = some fd → Ls[i]? = some L → Pw R L ((cs.drop fd.offset).take (P.cellsOf fd.type))) → Pw R Ls.flatten (cs.drop pos)
  | [], [], pos, _, hl, _ => by
    have : cs.drop pos = [] := by rw [List.drop_eq_nil_iff]; simp at hl; omega
    rw [this]; trivial
  | f :: fs, L :: Ls, pos, ho, hl, h => by
    simp only [offsB, Bool.and_eq_true, beq_iff_eq] at ho
    obtain ⟨⟨h1, h2⟩, h3⟩ := ho
    simp only [List.flatten_cons, List.length_append] at hl
    have hh := h 0 f L rfl rfl
    rw [h1, h2] at hh
    have ht := fields_pw fs Ls (pos + L.length) h3 (by omega) fun i fd L' hi hL => h (i + 1) fd L' hi hL
    have e : cs.drop pos = (cs.drop pos).take L.length ++ cs.drop (pos + L.length) := by
      rw [← List.drop_drop, List.take_append_drop]
    rw [List.flatten_cons, e]
    exact hh.append ht
  | [], _ :: _, _, ho, _, _ => by simp [offsB] at ho
  | _ :: _, [], _, ho, _, _ => by simp [offsB] at ho

theorem rep_pw {R : Cl → Value → Prop} {L : List Cl} {cs : List Value} : ∀ (m pos : Nat), cs.length = pos + m * L.length → (∀ i, i < m → Pw R L ((cs.drop (pos + i * L.length)).take L.length)) → Pw R (List.replicate m L).flatten (cs.drop pos)
  | 0, pos, hl, _ => by
    have : cs.drop pos = [] := by rw [List.drop_eq_nil_iff]; simp at hl; omega
    rw [this]; trivial
  | m + 1, pos, hl, h => by
    have hh := h 0 (by omega)
    rw [Nat.zero_mul, Nat.add_zero] at hh
    rw [Nat.succ_mul] at hl
    have ht : Pw R (List.replicate m L).flatten (cs.drop (pos + L.length)) := rep_pw m (pos + L.length) (by omega) fun i hi => by
      have := h (i + 1) (by omega)
      rw [Nat.succ_mul] at this
      rw [show pos + L.length + i * L.length = pos + (i * L.length + L.length) by omega]; exact this
    have e : cs.drop pos = (cs.drop pos).take L.length ++ cs.drop (pos + L.length) := by
      rw [← List.drop_drop, List.take_append_drop]
    rw [List.replicate_succ, List.flatten_cons, e]
    exact hh.append ht

theorem shape_cells : ∀ (f : Nat) (t : TypeId) (L : List Cl) (n : Nat) (cs : List Value) (x : DataW H × List MemPlace), shape P f t = some L → DataW.trod enc P W 0 (fun _ => true) true n t cs = some x → Pw (CellOk W) L cs
  | 0, t, L, n, cs, x, hs, _ => by cases hs
  | f + 1, t, L, n, cs, x, hs, h => by
    unfold shape at hs
    split at hs
    · rename_i ht
      cases hs
      obtain ⟨b, rfl, _⟩ := DataW.trod_bool ht h
      exact ⟨⟨b, rfl⟩, trivial⟩
    · rename_i k ht
      cases hs
      obtain ⟨b, rfl, _, hw⟩ := DataW.trod_int ht h
      exact ⟨⟨b, rfl, hw⟩, trivial⟩
    · rename_i ht
      cases hs
      obtain ⟨b, rfl, _, hw⟩ := DataW.trod_string ht h
      exact ⟨⟨b, rfl, hw⟩, trivial⟩
    · rename_i e ht
      obtain ⟨es, h1, h2⟩ := Option.bind_eq_some_iff.1 hs
      obtain ⟨L', h3, h4⟩ := Option.bind_eq_some_iff.1 h1
      split at h2
      · rename_i hc
        cases h2
        rcases DataW.trod_slice ht h with ⟨rfl, _⟩ | ⟨a, len, cap, elems, rest, m, rfl, rfl, _, _, k1, k2, k3, k4, k5, _⟩
        · exact ⟨.inl rfl, trivial⟩
        · refine ⟨.inr ⟨a, len, cap, rfl, k1, k2, hc.1, fun i hi q l hq => ?_⟩, trivial⟩
          obtain ⟨k6, k7⟩ := k5 rfl
          have : ∃ y, ((W.cells? 0 (a.add (i * P.cellsOf e)) (P.cellsOf e)).bind (DataW.trod enc P W 0 (fun _ => true) true m e)) = some y := by
            rcases Nat.lt_or_ge i len with hl | hl
            · rw [k4 i hl]; exact ⟨elems[i], by simp [k3, hl]⟩
            · have := k7 (i - len) (by omega)
              rw [show len + (i - len) = i by omega] at this
              rw [this]; exact ⟨rest[i - len]'(by omega), by simp⟩
          obtain ⟨y, hy⟩ := this
          obtain ⟨cs', g1, g2⟩ := Option.bind_eq_some_iff.1 hy
          obtain ⟨g3, g4⟩ := (shape_cells f e L' m cs' y h3 g2).leaves h4
          obtain ⟨v, g5, g6⟩ := g4 q l hq
          obtain ⟨g7, g8⟩ := cells?_get g1
          refine ⟨v, ?_, g6⟩
          have hq' : q < es.length := (List.getElem?_eq_some_iff.1 hq).1
          have := g8 q (by omega)
          rw [g5] at this
          have e3 : a.add (i * es.length + q) = (a.add (i * P.cellsOf e)).add q := by rw [add_add, hc.2]
          rw [e3]; exact this
      · cases h2
    · rename_i fs ht
      obtain ⟨Ls, h1, h2⟩ := Option.bind_eq_some_iff.1 hs
      split at h2
      · rename_i hc
        cases h2
        obtain ⟨xs, m, rfl, _, k1, k2, k3⟩ := DataW.trod_struct ht h
        have := fields_pw (R := CellOk W) (cs := cs) fs.toList Ls 0 hc.1 (by rw [k1, hc.2]; simp) fun i fd L hi hL => by
          have e1 := mapM_some_get h1 i fd hi
          rw [hL] at e1
          have e2 := k3 i fd (by simpa using hi)
          have hi' : i < fs.size := by simpa using (List.getElem?_eq_some_iff.1 hi).1
          rw [List.getElem?_eq_getElem (by omega)] at e2
          exact shape_cells f fd.type L m _ _ e1 e2
        simpa using this
      · cases h2
    · rename_i k e ht
      obtain ⟨L', h1, h2⟩ := Option.bind_eq_some_iff.1 hs
      split at h2
      · rename_i hc
        cases h2
        obtain ⟨xs, m, rfl, _, k1, k2, k3⟩ := DataW.trod_array ht h
        have := rep_pw (R := CellOk W) (L := L') (cs := cs) k 0 (by rw [k1, hc.2]; simp) fun i hi => by
          have e2 := k3 i hi
          rw [List.getElem?_eq_getElem (by omega)] at e2
          rw [hc.1] at e2
          rw [Nat.zero_add]
          exact shape_cells f e L' m _ _ h1 e2
        simpa using this
      · cases h2
    · cases hs

/-- a cell of an argument in the small heap -/
def SmallOk (h : AHeap) : Cl → Value → Prop
  | .leaf l, v => LeafOk l v
  | .sl es, v => v = .slice none 0 0 ∨ ∃ B len cap rows, v = .slice (some ⟨B, 0, none⟩) len cap ∧ len ≤ cap ∧ cap ≤ maxLen ∧ B < h.length ∧ (len ≠ 0 → h[B]? = some (some ⟨false, rows⟩)) ∧ rows.length = len * es.length ∧
      ∀ i, i < len → ∀ (q : Nat) (l : Leaf), es[q]? = some l → ∃ u, rows[i * es.length + q]? = some u ∧ LeafOk l u
theorem SmallOk.app {h t : AHeap} {c : Cl} {v : Value} (k : SmallOk h c v) : SmallOk (h ++ t) c v := by
  cases c with
  | leaf l => exact k
  | sl es =>
    rcases k with k | ⟨B, len, cap, rows, k1, k2, k3, k0, k4, k5⟩
    · exact .inl k
    · exact .inr ⟨B, len, cap, rows, k1, k2, k3, by simp; omega, fun h => app_old (k4 h), k5⟩

/-- the small heap holds what the world holds, and owns nothing -/
def Ro (φ : Phi) (h : AHeap) (W : World) : Prop := HR φ h W ∧ ∀ (A : Nat) (o : AObj), h[A]? = some (some o) → o.own = false
theorem Ro.nil (W : World) : Ro (fun _ => none) [] W := ⟨⟨fun A o h => by simp at h, fun A A' o o' B s s' n n' h => by simp at h, fun _ _ => rfl⟩, fun A o h => by simp at h⟩

/-- one object more that is read only -/
theorem Ro.push {φ : Phi} {h : AHeap} (r : Ro φ h W) {a : Addr} {rows : List Value} {u0 : Value} (h0 : W.cell? a = some u0) (hr : ∀ (i : Nat) (v : Value), rows[i]? = some v → W.cell? (a.add i) = some v ∧ flat v = true) :
    ∃ φ' n, Ro φ' (h ++ [some ⟨false, rows⟩]) W ∧ ext φ φ' ∧ φ' h.length = some (a.block, a.off, n) ∧ a.spot = none := by
  unfold World.cell? at h0
  split at h0
  · rename_i cs T fz hB
    split at h0
    · cases h0
    · rename_i hsp
      have hsp' : a.spot = none := by simpa using hsp
      have hlt := (Array.getElem?_eq_some_iff.1 h0).1
      have hext : ext φ (fun A => if A = h.length then some (a.block, a.off, cs.size - a.off) else φ A) := fun A x hA => by
        by_cases e : A = h.length
        · subst e
          rw [r.1.dom _ (Nat.le_refl _)] at hA; cases hA
        · simp [e, hA]
      refine ⟨fun A => if A = h.length then some (a.block, a.off, cs.size - a.off) else φ A, cs.size - a.off, ⟨⟨fun A o hA => ?_, fun A A' o o' B s s' n n' hA ho => ?_, fun A hA => ?_⟩, fun A o hA => ?_⟩, hext, by simp, hsp'⟩
      · rcases Nat.lt_trichotomy A h.length with h1 | h1 | h1
        · rw [List.getElem?_append_left h1] at hA
          obtain ⟨B, s, n, cs', T', fz', g1, g2, g3, g4, g5⟩ := r.1.obj A o hA
          refine ⟨B, s, n, cs', T', fz', hext _ _ g1, g2, g3, fun i v hv => ?_, g5⟩
          obtain ⟨u, e1, e2⟩ := g4 i v hv
          exact ⟨u, e1, e2.mono hext⟩
        · subst h1
          rw [app_new0] at hA
          simp at hA
          subst hA
          refine ⟨a.block, a.off, cs.size - a.off, cs, T, fz, by simp, hB, by omega, fun i v hv => ?_, fun h => by cases h⟩
          obtain ⟨e1, e2⟩ := hr i v hv
          refine ⟨v, ?_, VR.of_flat _ e2⟩
          by_cases hi : i = 0 <;> simpa [World.cell?, Addr.add, hB, hsp', hi] using e1
        · rw [List.getElem?_eq_none (by simp; omega)] at hA; cases hA
      · rcases Nat.lt_trichotomy A h.length with h1 | h1 | h1
        · rw [List.getElem?_append_left h1] at hA
          rw [r.2 A o hA] at ho; cases ho
        · subst h1
          rw [app_new0] at hA
          simp at hA
          subst hA
          cases ho
        · rw [List.getElem?_eq_none (by simp; omega)] at hA; cases hA
      · simp at hA
        rw [if_neg (by omega)]
        exact r.1.dom A (by omega)
      · rcases Nat.lt_trichotomy A h.length with h1 | h1 | h1
        · rw [List.getElem?_append_left h1] at hA
          exact r.2 A o hA
        · subst h1
          rw [app_new0] at hA
          simp at hA
          subst hA
          rfl
        · rw [List.getElem?_eq_none (by simp; omega)] at hA; cases hA
  · cases h0

theorem open_cell {φ : Phi} {h : AHeap} (r : Ro φ h W) {c : Cl} {v : Value} (k : CellOk W c v) : ∃ φ' t v', Ro φ' (h ++ t) W ∧ ext φ φ' ∧ VR φ' v' v ∧ SmallOk (h ++ t) c v' := by
  cases c with
  | leaf l => exact ⟨φ, [], v, by simpa using r, ext.refl φ, VR.of_flat _ (LeafOk.flat k), k⟩
  | sl es =>
    rcases k with rfl | ⟨a, len, cap, rfl, k1, k2, k3, k4⟩
    · exact ⟨φ, [], _, by simpa using r, ext.refl φ, .sliceNil 0 0, .inl rfl⟩
    · rcases Nat.eq_zero_or_pos cap with h0 | h0
      · subst h0
        have : len = 0 := by omega
        subst this
        exact ⟨φ, [none], .slice (some ⟨h.length, 0, none⟩) 0 0, ⟨⟨fun A o hA => by
            rcases Nat.lt_or_ge A h.length with h1 | h1
            · rw [List.getElem?_append_left h1] at hA; exact r.1.obj A o hA
            · rw [List.getElem?_append_right h1] at hA
              cases e : A - h.length <;> simp [e] at hA, fun A A' o o' B s s' n n' hA ho => by
            rcases Nat.lt_or_ge A h.length with h1 | h1
            · rw [List.getElem?_append_left h1] at hA
              rw [r.2 A o hA] at ho; cases ho
            · rw [List.getElem?_append_right h1] at hA
              cases e : A - h.length <;> simp [e] at hA, fun A hA => r.1.dom A (by simp at hA; omega)⟩, fun A o hA => by
            rcases Nat.lt_or_ge A h.length with h1 | h1
            · rw [List.getElem?_append_left h1] at hA
              exact r.2 A o hA
            · rw [List.getElem?_append_right h1] at hA
              cases e : A - h.length <;> simp [e] at hA⟩, ext.refl φ, .slice (.inl ⟨rfl, rfl⟩) (.inl ⟨by unfold unk; omega, rfl⟩),
          .inr ⟨h.length, 0, 0, [], rfl, by omega, by omega, by simp, fun h => absurd rfl h, by simp, fun i hi => by omega⟩⟩
      · have hc : ∀ j, j < cap * es.length → ∃ u, W.cell? (a.add j) = some u ∧ flat u = true ∧ ∃ l, es[j % es.length]? = some l ∧ LeafOk l u := fun j hj => by
          have hd : j / es.length < cap := by rw [Nat.div_lt_iff_lt_mul k3]; exact hj
          have hm := Nat.mod_lt j k3
          obtain ⟨u, g1, g2⟩ := k4 (j / es.length) hd (j % es.length) es[j % es.length] (by simp [hm])
          rw [Nat.mul_comm, Nat.div_add_mod] at g1
          exact ⟨u, g1, g2.flat, _, by simp [hm], g2⟩
        have hpos : 0 < cap * es.length := Nat.mul_pos h0 k3
        obtain ⟨u0, g1, _⟩ := hc 0 hpos
        have hle : len * es.length ≤ cap * es.length := Nat.mul_le_mul_right _ k1
        have g1' : W.cell? a = some u0 := by simpa [Addr.add] using g1
        obtain ⟨φ', n, r1, r2, r3, r4⟩ := r.push (a := a) (rows := (List.range (len * es.length)).map fun i => (W.cell? (a.add i)).getD undef) g1' (fun i v hv => by
          simp [List.getElem?_map] at hv
          obtain ⟨j, hj, rfl⟩ := hv
          have hj2 : j = i ∧ i < len * es.length := by
            rcases Nat.lt_or_ge i (len * es.length) with hi | hi
            · rw [List.getElem?_range hi] at hj; cases hj; exact ⟨rfl, hi⟩
            · rw [List.getElem?_eq_none (by simpa using hi)] at hj; cases hj
          obtain ⟨rfl, hi⟩ := hj2
          obtain ⟨u, e1, e2, _⟩ := hc j (by omega)
          rw [e1]; exact ⟨rfl, e2⟩)
        refine ⟨φ', _, .slice (some ⟨h.length, 0, none⟩) len cap, r1, r2, .slice (.inr ⟨rfl, a.block, a.off, n, r3, ?_⟩) (.inl ⟨?_, rfl⟩), .inr ⟨h.length, len, cap, _, rfl, k1, k2, by simp, fun _ => by rw [app_new0]; rfl, by simp, fun i hi q l hq => ?_⟩⟩
        · cases a; simp at r4; subst r4; rfl
        · have : maxLen < unk := by decide
          omega
        · obtain ⟨u, e1, e2⟩ := k4 i (by omega) q l hq
          have hq' : q < es.length := (List.getElem?_eq_some_iff.1 hq).1
          have hlt : i * es.length + q < len * es.length := by
            have : (i + 1) * es.length ≤ len * es.length := Nat.mul_le_mul_right _ hi
            rw [Nat.succ_mul] at this; omega
          exact ⟨u, by simp [List.getElem?_map, List.getElem?_range hlt, e1], e2⟩

theorem open_cells : ∀ {φ : Phi} {h : AHeap} (r : Ro φ h W) {L : List Cl} {cs : List Value} (k : Pw (CellOk W) L cs), ∃ φ' t cs', Ro φ' (h ++ t) W ∧ ext φ φ' ∧ LR φ' cs' cs ∧ Pw (SmallOk (h ++ t)) L cs'
  | φ, h, r, [], [], _ => ⟨φ, [], [], by simpa using r, ext.refl φ, LR.nil φ, trivial⟩
  | φ, h, r, c :: L, v :: cs, k => by
    obtain ⟨φ1, t1, v', r1, e1, w1, s1⟩ := open_cell r k.1
    obtain ⟨φ2, t2, cs', r2, e2, w2, s2⟩ := open_cells r1 k.2
    exact ⟨φ2, t1 ++ t2, v' :: cs', by simpa using r2, e1.trans e2, .cons (w1.mono e2) w2, by rw [← List.append_assoc]; exact s1.app, by rw [← List.append_assoc]; exact s2⟩
  | _, _, _, [], _ :: _, k => k.elim
  | _, _, _, _ :: _, [], k => k.elim

/-- an argument of the small heap: an aggregate, or one cell -/
def SmallArg (h : AHeap) : Bool × List Cl → Value → Prop
  | (true, L), v => ∃ cs, v = .agg cs.toArray ∧ Pw (SmallOk h) L cs
  | (false, L), v => Pw (SmallOk h) L [v]
theorem SmallArg.app {h t : AHeap} {s : Bool × List Cl} {v : Value} (k : SmallArg h s v) : SmallArg (h ++ t) s v := by
  obtain ⟨_ | _, L⟩ := s
  · exact Pw.mono (fun _ _ => SmallOk.app) k
  · obtain ⟨cs, rfl, k⟩ := k
    exact ⟨cs, rfl, k.mono fun _ _ => SmallOk.app⟩
def isAggT (P : Program) (t : TypeId) : Bool := match P.underlying t with | some (.struct _) | some (.array _ _) => true | _ => false
def argShape (P : Program) (t : TypeId) : Option (Bool × List Cl) := (shape P 6 t).map (isAggT P t, ·)

theorem open_arg {φ : Phi} {h : AHeap} (r : Ro φ h W) {t : TypeId} {b0 : Nat} {v : Value} {d : DataW H} {p : List MemPlace} {s : Bool × List Cl} (hs : argShape P t = some s) (hval : Value.okWide P W .any b0 t v) (hd : DataW.Trod enc P W 0 (fun _ => true) true t v d p) :
    ∃ φ' u v', Ro φ' (h ++ u) W ∧ ext φ φ' ∧ VR φ' v' v ∧ SmallArg (h ++ u) s v' := by
  unfold argShape at hs
  obtain ⟨L, h1, rfl⟩ := Option.map_eq_some_iff.1 hs
  obtain ⟨n, hn⟩ := hd
  have hp := shape_cells _ _ _ _ _ _ h1 hn
  obtain ⟨φ', u, cs', r1, r2, r3, r4⟩ := open_cells r hp
  cases ha : isAggT P t with
  | true =>
    have : ∃ cs, v = .agg cs := by
      unfold isAggT at ha
      unfold Value.okWide at hval
      split at ha
      · rename_i e; rw [e] at hval; obtain ⟨cs, h, _⟩ := hval; exact ⟨cs, h⟩
      · rename_i e; rw [e] at hval; obtain ⟨cs, h, _⟩ := hval; exact ⟨cs, h⟩
      · cases ha
    obtain ⟨cs, rfl⟩ := this
    refine ⟨φ', u, .agg cs'.toArray, r1, r2, ?_, ⟨cs', rfl, r4⟩⟩
    have : LR φ' cs' cs.toList := r3
    simpa using VR.aggL this
  | false =>
    have hc : v.cells.toList = [v] ∧ L.length = 1 := by
      unfold shape at h1
      split at h1
      · rename_i e; cases h1; obtain ⟨b, rfl⟩ := okWide_bool e hval; exact ⟨rfl, rfl⟩
      · rename_i e; cases h1; obtain ⟨b, rfl⟩ := okWide_int e hval; exact ⟨rfl, rfl⟩
      · rename_i e; cases h1; obtain ⟨b, rfl⟩ := okWide_string e hval; exact ⟨rfl, rfl⟩
      · rename_i e
        obtain ⟨es, h2, h3⟩ := Option.bind_eq_some_iff.1 h1
        split at h3
        · cases h3; obtain ⟨a, b, c, rfl⟩ := okWide_slice e hval; exact ⟨rfl, rfl⟩
        · cases h3
      · rename_i e; simp [isAggT, e] at ha
      · rename_i e; simp [isAggT, e] at ha
      · cases h1
    rw [hc.1] at r3
    have hl := r4.len
    rw [hc.2] at hl
    obtain ⟨v', rfl⟩ := List.length_eq_one_iff.1 hl
    exact ⟨φ', u, v', r1, r2, by obtain ⟨_, _, e, hv, _⟩ := r3.head; simp at e; exact e.1 ▸ hv, r4⟩

theorem Pw.cons_inv {R : Cl → Value → Prop} {c : Cl} {L : List Cl} {cs : List Value} (h : Pw R (c :: L) cs) : ∃ v r, cs = v :: r ∧ R c v ∧ Pw R L r := by
  cases cs with
  | nil => exact h.elim
  | cons v r => exact ⟨v, r, rfl, h.1, h.2⟩
theorem Pw.nil_inv {R : Cl → Value → Prop} {cs : List Value} (h : Pw R [] cs) : cs = [] := by
  cases cs with
  | nil => rfl
  | cons v r => exact h.elim
theorem SmallArg.one {h : AHeap} {c : Cl} {v : Value} (k : SmallArg h (false, [c]) v) : SmallOk h c v := k.1
theorem SmallArg.agg {h : AHeap} {L : List Cl} {v : Value} (k : SmallArg h (true, L) v) : ∃ cs, v = .agg cs.toArray ∧ Pw (SmallOk h) L cs := k
/-- a slice that is read only -/
theorem SmallOk.slice {h : AHeap} {es : List Leaf} {v : Value} (k : SmallOk h (.sl es) v) : ∃ (q : Option Addr) (n c : Nat) (rows : List Value), v = .slice q n c ∧ n ≤ c ∧ c ≤ maxLen ∧ (∀ a, q = some a → a.spot = none ∧ a.off = 0 ∧ a.block < h.length) ∧ (q = none → n = 0 ∧ c = 0) ∧
    firstV es.length h n (.slice q n c) = some rows ∧ rows.length = n * es.length ∧ ∀ i, i < n → ∀ (j : Nat) (l : Leaf), es[j]? = some l → ∃ u, rows[i * es.length + j]? = some u ∧ LeafOk l u := by
  rcases k with rfl | ⟨B, len, cap, rows, rfl, k1, k2, k3, k4, k5, k6⟩
  · exact ⟨none, 0, 0, [], rfl, by omega, by omega, fun a h => (by cases h), fun _ => ⟨rfl, rfl⟩, by simp [firstV], by simp, fun i hi => by omega⟩
  · refine ⟨_, len, cap, rows, rfl, k1, k2, fun a h => (by cases h; exact ⟨rfl, rfl, k3⟩), fun h => (by cases h), ?_, k5, k6⟩
    simp only [firstV]
    split
    · rename_i h0
      subst h0
      have : rows = [] := List.eq_nil_of_length_eq_zero (by simpa using k5)
      rw [this]
    · rename_i h0
      simp only [ne_eq, not_true_eq_false, if_false, cellsAt, k4 h0, Option.bind_some]
      exact getN_all _ _ k5.symm
/-- rows of numbers -/
theorem ints_rows {k : IntKind} {n : Nat} {rows : List Value} (hl : rows.length = n) (h : ∀ i, i < n → ∃ u, rows[i]? = some u ∧ LeafOk (.int k) u) : ∃ zs : List Int, rows = zs.map (Value.int k) ∧ ∀ z ∈ zs, (Lit.int k z).wf = true := by
  induction rows generalizing n with
  | nil => exact ⟨[], rfl, fun z h => by simp at h⟩
  | cons v rows ih =>
    subst hl
    obtain ⟨u, h1, z, rfl, h2⟩ := h 0 (by simp)
    simp at h1
    subst h1
    obtain ⟨zs, rfl, h3⟩ := ih rfl fun i hi => by simpa using h (i + 1) (by simpa using hi)
    exact ⟨z :: zs, rfl, fun y hy => by
      rcases List.mem_cons.1 hy with rfl | hy
      · exact h2
      · exact h3 y hy⟩
/-- a slice of numbers that is read only -/
theorem SmallOk.ints {h : AHeap} {k : IntKind} {v : Value} (s : SmallOk h (.sl [.int k]) v) : ∃ (q : Option Addr) (n c : Nat) (zs : List Int), v = .slice q n c ∧ n ≤ c ∧ c ≤ maxLen ∧ (∀ a, q = some a → a.spot = none ∧ a.off = 0 ∧ a.block < h.length) ∧ (q = none → n = 0 ∧ c = 0) ∧
    firstV 1 h n (.slice q n c) = some (zs.map (Value.int k)) ∧ zs.length = n ∧ ∀ z ∈ zs, (Lit.int k z).wf = true := by
  obtain ⟨q, n, c, rows, rfl, h1, h2, h3, h4, h5, h6, h7⟩ := s.slice
  obtain ⟨zs, rfl, h8⟩ := ints_rows (k := k) (n := n) (by simpa using h6) fun i hi => by simpa using h7 i hi 0 (.int k) rfl
  exact ⟨q, n, c, zs, rfl, h1, h2, h3, h4, h5, by simpa using h6, h8⟩

/-- all arguments -/
def SmallArgs (h : AHeap) : List (Bool × List Cl) → List Value → Prop
  | [], [] => True
  | s :: ss, v :: vs => SmallArg h s v ∧ SmallArgs h ss vs
  | _, _ => False
theorem SmallArgs.cons_inv {h : AHeap} {s : Bool × List Cl} {ss : List (Bool × List Cl)} {vs : List Value} (k : SmallArgs h (s :: ss) vs) : ∃ v r, vs = v :: r ∧ SmallArg h s v ∧ SmallArgs h ss r := by
  cases vs with
  | nil => exact k.elim
  | cons v r => exact ⟨v, r, rfl, k.1, k.2⟩
theorem SmallArgs.nil_inv {h : AHeap} {vs : List Value} (k : SmallArgs h [] vs) : vs = [] := by
  cases vs with
  | nil => rfl
  | cons v r => exact k.elim
theorem SmallArgs.app {h t : AHeap} : ∀ {ss : List (Bool × List Cl)} {vs : List Value}, SmallArgs h ss vs → SmallArgs (h ++ t) ss vs
  | [], [], _ => trivial
  | _ :: _, _ :: _, k => ⟨k.1.app, SmallArgs.app k.2⟩
theorem open_args {b0 : Nat} : ∀ {φ : Phi} {h : AHeap} (r : Ro φ h W) {ts : List TypeId} {vs : List Value} {ds : List (DataW H)} {p : List MemPlace} {ss : List (Bool × List Cl)} (hs : ts.mapM (argShape P) = some ss)
    (hval : ∀ (j : Nat) t v, ts[j]? = some t → vs[j]? = some v → Value.okWide P W .any b0 t v) (hd : DataW.TrodAll enc P W 0 (fun _ => true) true ts vs ds p),
    ∃ φ' u vs', Ro φ' (h ++ u) W ∧ ext φ φ' ∧ LR φ' vs' vs ∧ SmallArgs (h ++ u) ss vs'
  | φ, h, r, [], vs, ds, p, ss, hs, hval, hd => by
    simp at hs; subst hs
    cases vs <;> cases ds <;> simp [DataW.TrodAll] at hd
    exact ⟨φ, [], [], by simpa using r, ext.refl φ, LR.nil φ, trivial⟩
  | φ, h, r, t :: ts, vs, ds, p, ss, hs, hval, hd => by
    rw [List.mapM_cons] at hs
    obtain ⟨s, h1, h2⟩ := Option.bind_eq_some_iff.1 hs
    obtain ⟨ss', h3, h4⟩ := Option.bind_eq_some_iff.1 h2
    cases h4
    cases vs with
    | nil => simp [DataW.TrodAll] at hd
    | cons v vs =>
      cases ds with
      | nil => simp [DataW.TrodAll] at hd
      | cons d ds =>
        obtain ⟨p1, q1, k1, k2, _⟩ := hd
        obtain ⟨φ1, u1, v', r1, e1, w1, s1⟩ := open_arg r h1 (hval 0 t v rfl rfl) k1
        obtain ⟨φ2, u2, vs', r2, e2, w2, s2⟩ := open_args r1 h3 (fun j t v ht hv => hval (j + 1) t v (by simpa using ht) (by simpa using hv)) k2
        exact ⟨φ2, u1 ++ u2, v' :: vs', by simpa using r2, e1.trans e2, .cons (w1.mono e2) w2, by rw [← List.append_assoc]; exact s1.app, by rw [← List.append_assoc]; exact s2⟩

/-- a function whose arguments are read only: no old block turns -/
theorem calls_ro {f : FuncId} {φ : Phi} {h : AHeap} (r : Ro φ h W) {args args' : List Value} {b : Bool} (v : Valid P f args h fun r _ => r = .bool b) (ha : LR φ args args') (hg : GR φ) :
    Calls P f args'.toArray W fun e w' => e = .returned (.bool b) ∧ Below W.heap.size W w' := by
  refine (v.2 φ W args' r.1 hg ha).mono ?_
  rintro e w' ⟨φ', h', r0, r', he, st, hv, rfl⟩
  have hno : ∀ B, ¬ ownB φ h B := fun B ⟨A, o, s, n, h1, h2, _⟩ => by rw [r.2 A o h1] at h2; cases h2
  have hv' : r' = .bool b := by cases hv; rfl
  subst hv'
  exact ⟨he, st.os, st.tape, st.output, st.size, fun k hk => st.keep k hk (hno k)⟩

/-- the arguments, read again behind the call -/
theorem trodAll_again (hl : laidOutB P = true) {W' : World} (hb : Below W.heap.size W W') : ∀ {ts : List TypeId} {vs : List Value} {ds : List (DataW H)} {p : List MemPlace}, (∀ t ∈ ts, P.readableRec t = true ∧ t < P.types.size) → (∀ x ∈ p, x.block < W.heap.size) →
    DataW.TrodAll enc P W 0 (fun _ => true) true ts vs ds p → DataW.TrodAll enc P W' 0 (fun b => decide (b < W.heap.size)) true ts vs ds p
  | [], [], [], p, _, _, h => h
  | t :: ts, v :: vs, d :: ds, p, ht, hlt, h => by
    obtain ⟨p1, q1, k1, k2, rfl⟩ := h
    exact ⟨p1, q1, Below.trod hl (ht t (by simp)).1 (ht t (by simp)).2 k1 hb (fun x hx => hlt x (by simp [hx])), trodAll_again hl hb (fun t' h' => ht t' (by simp [h'])) (fun x hx => hlt x (by simp [hx])) k2, rfl⟩
  | [], _ :: _, _, _, _, _, h => h.elim
  | [], [], _ :: _, _, _, _, h => h.elim
  | _ :: _, [], _, _, _, _, h => h.elim
  | _ :: _, _ :: _, [], _, _, _, h => h.elim
end

theorem trodAll_len {H : Type} {enc : TypeId × Value → H} {P : Program} {W : World} {b : Nat} {sp : Nat → Bool} {hd : Bool} : ∀ {ts : List TypeId} {vs : List Value} {ds : List (DataW H)} {p : List MemPlace}, DataW.TrodAll enc P W b sp hd ts vs ds p → ts.length = ds.length
  | [], [], [], _, _ => rfl
  | _ :: _, _ :: _, _ :: _, _, ⟨_, _, _, h, _⟩ => by simp [trodAll_len h]
  | [], _ :: _, _, _, h => h.elim
  | [], [], _ :: _, _, h => h.elim
  | _ :: _, [], _, _, h => h.elim
  | _ :: _, _ :: _, [], _, h => h.elim
/-- a law's function: from its triple to what the statement asks of a call -/
theorem law_calls {H : Type} {enc : TypeId × Value → H} {P : Program} {f : FuncId} {fn : Func} {s : ChangeSpec} {bt : TypeId} (hl : laidOutB P = true) (hts : fn.params.toList.all (fun t => P.readableRec t && decide (t < P.types.size)) = true) {ss : List (Bool × List Cl)} (hs : fn.params.toList.mapM (argShape P) = some ss)
    (hres : fn.resultTypes = #[bt]) (hbt : P.underlying bt = some .bool) (hvars : s.vars = []) (hfn : ∀ (xs : List (DataW H)), xs.length = ss.length → (s.fn H xs).results = [.lit (.bool true)] ∧ (s.fn H xs).args = xs ∧ (s.fn H xs).vars = [])
    (hV : ∀ (h : AHeap) (vs : List Value), SmallArgs h ss vs → Valid P f vs h fun r _ => r = .bool true)
    {W : World} {base : Nat} {args : Array Value} {ds gs : List (DataW H)} {before : List MemPlace} (hval : ∀ (j : Nat) t v, fn.params[j]? = some t → args[j]? = some v → Value.okWide P W .any base t v)
    {apart fresh handsOn : Bool}
    (hW' : DataW.Whole enc P fn.params.toList s.vars apart W args.toList ds gs before) (hgv : gv = none := by rfl) :
    Calls P f args W fun e W' => ∃ v, e = .returned v ∧ s.post enc P fn apart fresh handsOn false W args v W' := by
  obtain ⟨p, q, hA, hVr, rfl, hfz, hnd⟩ := hW'
  rw [hvars] at hVr
  obtain ⟨rfl, rfl⟩ := trodVars_none hVr
  have hlt : ∀ x ∈ p, x.block < W.heap.size := fun x hx => by
    have hw : DataW.Whole enc P fn.params.toList s.vars apart W args.toList ds [] (p ++ []) := ⟨p, [], hA, by rw [hvars]; exact hVr, rfl, hfz, hnd⟩
    exact hw.lt x (by simpa using hx)
  obtain ⟨φ, u, vs, r, _, ha, hsm⟩ := open_args (b0 := base) (Ro.nil W) hs (fun j t v ht hv => hval j t v (by simpa using ht) (by simpa using hv)) hA
  have := calls_ro r (hV _ _ hsm) ha (GR.none hgv _)
  simp only [Array.toArray_toList] at this
  refine this.mono ?_
  rintro e W' ⟨he, hb⟩
  have hts' : ∀ t ∈ fn.params.toList, P.readableRec t = true ∧ t < P.types.size := fun t ht => by simpa using List.all_eq_true.1 hts t ht
  have hdl : ds.length = ss.length := by
    rw [← trodAll_len hA, mapM_some_length hs]
  obtain ⟨hfnR, hfnA, hfnV⟩ := hfn ds hdl
  rw [← List.append_nil ds] at hfnR hfnA hfnV
  refine ⟨.bool true, he, ds, [], p ++ [], [], p, [], ⟨p, [], hA, by rw [hvars]; exact hVr, rfl, hfz, hnd⟩, ?_, ?_, ?_, hb.frame _, fun h => by cases h⟩
  · rw [hres, hfnR]
    exact trodAll_cons_mk (shut_bool hbt _) trodAll_mk0
  · rw [hfnA]; simp only [List.append_nil]
    exact trodAll_again hl hb hts' hlt hA
  · rw [hvars, hfnV]
    rfl
end Go.Ai
