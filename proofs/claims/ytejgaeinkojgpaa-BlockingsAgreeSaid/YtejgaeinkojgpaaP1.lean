import Derived.Test.YtejgaeinkojgpaaK5
set_option linter.unusedVariables false
set_option linter.unusedSimpArgs false
namespace Go.Proofs.Ytejgaeinkojgpaa
open Go Go.Ai Go.Proofs

/-- a Set that is being made: its first circuit is f, the circuits below i are looked at -/
structure NB (L T : List Bool) (f i : Nat) (s : NX) : Prop where
  fst : s.first = (f : Int)
  fi : f < i
  dif : L[f]? ≠ T[f]?
  bef : ∀ k, k < f → L[k]? = T[k]?
  len : f + s.mask.length ≤ i
  pos : 0 < s.mask.length
  el : s.on.length = s.mask.length
  mkd : ∀ j, j < s.mask.length → s.mask[j]? = some (decide (L[f + j]? ≠ T[f + j]?))
  on : ∀ j, j < s.mask.length → s.on[j]? = some (decide (L[f + j]? ≠ T[f + j]?) && L[f + j]?.getD false)
  gap : ∀ k, f + s.mask.length ≤ k → k < i → L[k]? = T[k]?
  last : s.mask[s.mask.length - 1]? = some true
  told : ∀ k, s.told[k]? = if k < i then L[k]? else T[k]?
theorem NB.skip {L T : List Bool} {f i : Nat} {s : NX} (h : NB L T f i s) (e : L[i]? = T[i]?) : NB L T f (i + 1) s := by
  refine ⟨h.fst, by have := h.fi; omega, h.dif, h.bef, by have := h.len; omega, h.pos, h.el, h.mkd, h.on, fun k h1 h2 => ?_, h.last, fun k => ?_⟩
  · by_cases hk : k = i
    · rw [hk]; exact e
    · exact h.gap k h1 (by omega)
  · rw [h.told k]
    by_cases hk : k = i
    · subst hk; rw [if_neg (by omega), if_pos (by omega), e]
    · by_cases h2 : k < i
      · rw [if_pos h2, if_pos (by omega)]
      · rw [if_neg h2, if_neg (by omega)]
theorem told_set {L T l : List Bool} {i : Nat} {b : Bool} (hl : ∀ k, l[k]? = if k < i then L[k]? else T[k]?) (hb : L[i]? = some b) (ht : i < T.length) (k : Nat) : (l.set i b)[k]? = if k < i + 1 then L[k]? else T[k]? := by
  by_cases hk : i = k
  · subst hk
    have hil : i < l.length := by
      have := hl i
      rw [if_neg (by omega), List.getElem?_eq_getElem ht] at this
      exact (List.getElem?_eq_some_iff.1 this).1
    rw [List.getElem?_set_self hil, if_pos (by omega), hb]
  · rw [List.getElem?_set_ne hk, hl k]
    by_cases h2 : k < i
    · rw [if_pos h2, if_pos (by omega)]
    · rw [if_neg h2, if_neg (by omega)]
theorem NB.add {L T : List Bool} {f i : Nat} {s : NX} (h : NB L T f i s) {b : Bool} (hb : L[i]? = some b) (hd : L[i]? ≠ T[i]?) (ht : i < T.length) : NB L T f (i + 1) (s.add i b) := by
  have hf : s.fst i = f := by unfold NX.fst; rw [if_neg (by rw [h.fst]; omega), h.fst]; simp
  have hp : s.pad i = i - f - s.mask.length := by unfold NX.pad; rw [hf]
  have h1 := h.len
  have h2 := h.fi
  have h3 := h.el
  have e1 : (s.add i b).mask = s.mask ++ List.replicate (s.pad i) false ++ [true] := rfl
  have e2 : (s.add i b).on = s.on ++ List.replicate (s.pad i) false ++ [b] := rfl
  have l1 : (s.add i b).mask.length = i - f + 1 := by rw [e1]; simp; omega
  have l2 : (s.add i b).on.length = i - f + 1 := by rw [e2]; simp; omega
  have gm : ∀ j, j < s.mask.length → (s.add i b).mask[j]? = s.mask[j]? := fun j hj => by rw [e1, List.append_assoc, List.getElem?_append_left hj]
  have go : ∀ j, j < s.mask.length → (s.add i b).on[j]? = s.on[j]? := fun j hj => by rw [e2, List.append_assoc, List.getElem?_append_left (by omega)]
  have pm : ∀ j, s.mask.length ≤ j → j < i - f → (s.add i b).mask[j]? = some false := fun j hj hj2 => by
    rw [e1, List.append_assoc, List.getElem?_append_right hj, List.getElem?_append_left (by simp; omega), List.getElem?_replicate, if_pos (by omega)]
  have po : ∀ j, s.mask.length ≤ j → j < i - f → (s.add i b).on[j]? = some false := fun j hj hj2 => by
    rw [e2, List.append_assoc, List.getElem?_append_right (by omega), List.getElem?_append_left (by simp; omega), List.getElem?_replicate, if_pos (by omega)]
  have tm : (s.add i b).mask[i - f]? = some true := by
    rw [e1, List.getElem?_append_right (by simp; omega)]
    rw [show i - f - (s.mask ++ List.replicate (s.pad i) false).length = 0 by simp; omega]; rfl
  have to : (s.add i b).on[i - f]? = some b := by
    rw [e2, List.getElem?_append_right (by simp; omega)]
    rw [show i - f - (s.on ++ List.replicate (s.pad i) false).length = 0 by simp; omega]; rfl
  refine ⟨by show ((s.fst i : Nat) : Int) = f; rw [hf], by omega, h.dif, h.bef, by omega, by omega, by omega, fun j hj => ?_, fun j hj => ?_, fun k k1 k2 => by omega, by rw [l1]; exact tm, told_set h.told hb ht⟩
  · by_cases c1 : j < s.mask.length
    · rw [gm j c1]; exact h.mkd j c1
    · by_cases c2 : j < i - f
      · rw [pm j (by omega) c2, h.gap (f + j) (by omega) (by omega)]; simp
      · have : j = i - f := by omega
        subst this
        rw [tm, show f + (i - f) = i by omega]; simp [hd]
  · by_cases c1 : j < s.mask.length
    · rw [go j c1]; exact h.on j c1
    · by_cases c2 : j < i - f
      · rw [po j (by omega) c2, h.gap (f + j) (by omega) (by omega)]; simp
      · have : j = i - f := by omega
        subst this
        rw [to, show f + (i - f) = i by omega, hb]
        rw [hb] at hd
        simp [hd]
theorem nx_B {L T : List Bool} {f : Nat} (hlt : L.length = T.length) : ∀ (l : List Bool) (i : Nat) (s : NX), l = L.drop i → i ≤ L.length → NB L T f i s → i ≤ f + 32 → NB L T f (min L.length (f + 32)) (nx l i s)
  | [], i, s, hl, hi, h, hw => by
    have : L.length ≤ i := by
      have := congrArg List.length hl; simp at this; omega
    have e : min L.length (f + 32) = i := by omega
    rw [e]; exact h
  | b :: l, i, s, hl, hi, h, hw => by
    have hil : i < L.length := by
      have := congrArg List.length hl; simp at this; omega
    have hb : L[i]? = some b := by
      have := congrArg (fun x : List Bool => x[0]?) hl
      simp at this; rw [List.getElem?_eq_getElem hil]; rw [List.getElem?_eq_getElem hil] at this; exact this.symm
    have hl2 : l = L.drop (i + 1) := by
      have := congrArg List.tail hl; simp at this; exact this
    have hti : s.told[i]? = T[i]? := by rw [h.told i, if_neg (by omega)]
    unfold nx
    by_cases c1 : 0 ≤ s.first ∧ s.first + 32 ≤ i
    · rw [if_pos c1]
      have := h.fst
      have e : min L.length (f + 32) = i := by omega
      rw [e]; exact h
    · rw [if_neg c1]
      have hfst := h.fst
      by_cases c2 : s.told[i]? = some b
      · rw [if_pos c2]
        exact nx_B hlt l (i + 1) s hl2 (by omega) (h.skip (by rw [hb, ← hti, c2])) (by omega)
      · rw [if_neg c2]
        exact nx_B hlt l (i + 1) (s.add i b) hl2 (by omega) (h.add hb (by rw [hb, ← hti]; exact fun e => c2 e.symm) (by omega)) (by omega)
theorem nx_A {L T : List Bool} (hlt : L.length = T.length) : ∀ (l : List Bool) (i : Nat), l = L.drop i → i ≤ L.length → (∀ k, k < i → L[k]? = T[k]?) → L = T ∨ ∃ f, NB L T f (min L.length (f + 32)) (nx l i ⟨-1, [], [], T⟩)
  | [], i, hl, hi, h => by
    left
    have hle : L.length ≤ i := by
      have := congrArg List.length hl; simp at this; omega
    apply List.ext_getElem?
    intro k
    by_cases hk : k < i
    · exact h k hk
    · rw [List.getElem?_eq_none (by omega), List.getElem?_eq_none (by omega)]
  | b :: l, i, hl, hi, h => by
    have hil : i < L.length := by
      have := congrArg List.length hl; simp at this; omega
    have hb : L[i]? = some b := by
      have := congrArg (fun x : List Bool => x[0]?) hl
      simp at this; rw [List.getElem?_eq_getElem hil]; rw [List.getElem?_eq_getElem hil] at this; exact this.symm
    have hl2 : l = L.drop (i + 1) := by
      have := congrArg List.tail hl; simp at this; exact this
    unfold nx
    rw [if_neg (by rintro ⟨h1, -⟩; cases h1)]
    by_cases c2 : T[i]? = some b
    · rw [if_pos c2]
      refine nx_A hlt l (i + 1) hl2 (by omega) fun k hk => ?_
      by_cases e : k = i
      · rw [e, hb, c2]
      · exact h k (by omega)
    · rw [if_neg c2]
      right
      refine ⟨i, nx_B hlt l (i + 1) _ hl2 (by omega) ?_ (by omega)⟩
      have hd : L[i]? ≠ T[i]? := by rw [hb]; exact fun e => c2 e.symm
      have e1 : (NX.add ⟨-1, [], [], T⟩ i b) = ⟨(i : Int), [true], [b], T.set i b⟩ := by
        simp [NX.add, NX.fst, NX.pad]
      rw [e1]
      have m1 : ([true] : List Bool).length = 1 := rfl
      refine ⟨rfl, by omega, hd, h, by simp, by simp, rfl, fun j hj => ?_, fun j hj => ?_, fun k k1 k2 => ?_, rfl, told_set (fun k => ?_) hb (by omega)⟩
      · have : j = 0 := by simpa using hj
        subst this; simp [hd]
      · have : j = 0 := by simpa using hj
        subst this
        rw [Nat.add_zero, hb]
        rw [hb] at hd
        simp [hd]
      · simp at k1; omega
      · by_cases hk : k < i
        · rw [if_pos hk]; exact (h k hk).symm
        · rw [if_neg hk]
end Go.Proofs.Ytejgaeinkojgpaa
