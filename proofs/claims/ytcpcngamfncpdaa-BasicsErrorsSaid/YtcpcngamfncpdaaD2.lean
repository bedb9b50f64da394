import Derived.Test.YtcpcngamfncpdaaD1
import Derived.Test.YtcpcngamfncpdaaAiXc
set_option linter.unusedVariables false
set_option linter.unusedSimpArgs false
namespace Go.Proofs.Ytcpcngamfncpdaa
open Go Go.Ai Go.Proofs

theorem u8_wrap {n : Int} (h0 : 0 ≤ n) (h1 : n < 256) : IntKind.u8.wrap n = n := by
  unfold IntKind.wrap; simp [IntKind.bits, IntKind.signed]; omega
theorem u8_wrap_mod (n : Int) : IntKind.u8.wrap n = n % 256 := by
  unfold IntKind.wrap; simp [IntKind.bits, IntKind.signed]
/-- a load: a slice as long as its room, of bytes that are written no more -/
def LoadV (h : AHeap) (v : Value) (zs : List Int) : Prop := ∃ B, v = .slice (some ⟨B, 0, none⟩) zs.length zs.length ∧ h[B]? = some (some ⟨false, bR zs⟩) ∧ 0 < zs.length ∧ zs.length ≤ 300
/-- a view of bytes that are written no more -/
def LoadW (h : AHeap) (v : Value) (zs : List Int) : Prop := ∃ q c, v = .slice q zs.length c ∧ zs.length ≤ 1000000 ∧ (zs = [] ∨ ∃ a cs, q = some a ∧ a.spot = none ∧ h[a.block]? = some (some ⟨false, cs⟩) ∧ getN cs a.off zs.length = some (bR zs))
theorem LoadV.frz {h h' : AHeap} {v : Value} {zs : List Int} (l : LoadV h v zs) (z : Frz h h') : LoadV h' v zs := by
  obtain ⟨B, h1, h2, h3⟩ := l
  exact ⟨B, h1, z _ _ h2, h3⟩
theorem LoadW.frz {h h' : AHeap} {v : Value} {zs : List Int} (l : LoadW h v zs) (z : Frz h h') : LoadW h' v zs := by
  obtain ⟨q, c, h1, h2, h3 | ⟨a, cs, h3, h4, h5, h6⟩⟩ := l
  · exact ⟨q, c, h1, h2, .inl h3⟩
  · exact ⟨q, c, h1, h2, .inr ⟨a, cs, h3, h4, z _ _ h5, h6⟩⟩
theorem LoadV.w {h : AHeap} {v : Value} {zs : List Int} (l : LoadV h v zs) : LoadW h v zs := by
  obtain ⟨B, h1, h2, h3, h4⟩ := l
  exact ⟨_, _, h1, by omega, .inr ⟨_, _, rfl, rfl, h2, getN_all _ _ (by rw [bR_len])⟩⟩
theorem LoadW.first {h : AHeap} {v : Value} {zs : List Int} (l : LoadW h v zs) : ∃ q c, v = .slice q zs.length c ∧ firstV 1 h zs.length (.slice q zs.length c) = some (bR zs) ∧ zs.length ≤ 1000000 := by
  obtain ⟨q, c, rfl, h2, rfl | ⟨a, cs, rfl, h4, h5, h6⟩⟩ := l
  · exact ⟨q, c, rfl, by cases q <;> simp [firstV, bR], h2⟩
  · refine ⟨_, c, rfl, ?_, h2⟩
    simp only [firstV]
    split
    · rename_i h0; rw [List.eq_nil_of_length_eq_zero h0]; rfl
    · simp only [h4, ne_eq, not_true_eq_false, if_false, cellsAt, h5, Option.bind_some, Nat.mul_one]
      exact h6
theorem LoadV.first {h : AHeap} {v : Value} {zs : List Int} (l : LoadV h v zs) : ∃ q, v = .slice q zs.length zs.length ∧ firstV 1 h zs.length (.slice q zs.length zs.length) = some (bR zs) ∧ zs.length ≤ 300 := by
  obtain ⟨q, c, h1, h2, -⟩ := l.w.first
  obtain ⟨B, rfl, h3, h4, h5⟩ := l
  cases h1
  exact ⟨_, rfl, h2, h5⟩
/-- loads, one behind the other -/
def LoadsR (h : AHeap) : List Value → List (List Int) → Prop
  | [], [] => True
  | v :: vs, z :: zs => LoadV h v z ∧ LoadsR h vs zs
  | _, _ => False
theorem LoadsR.frz {h h' : AHeap} (z : Frz h h') : ∀ {vs : List Value} {ls : List (List Int)}, LoadsR h vs ls → LoadsR h' vs ls
  | [], [], _ => trivial
  | _ :: _, _ :: _, k => ⟨k.1.frz z, LoadsR.frz z k.2⟩
theorem LoadsR.len {h : AHeap} : ∀ {vs : List Value} {ls : List (List Int)}, LoadsR h vs ls → vs.length = ls.length
  | [], [], _ => rfl
  | _ :: _, _ :: _, k => by simp [LoadsR.len k.2]
theorem LoadsR.app {h : AHeap} : ∀ {vs ws : List Value} {ls ms : List (List Int)}, LoadsR h vs ls → LoadsR h ws ms → LoadsR h (vs ++ ws) (ls ++ ms)
  | [], _, [], _, _, k => k
  | _ :: _, _, _ :: _, _, j, k => ⟨j.1, LoadsR.app j.2 k⟩
  | [], _, _ :: _, _, j, _ => j.elim
  | _ :: _, _, [], _, j, _ => j.elim
theorem LoadsR.get {h : AHeap} : ∀ {vs : List Value} {ls : List (List Int)} {i : Nat}, LoadsR h vs ls → i < ls.length → ∃ v z, vs[i]? = some v ∧ ls[i]? = some z ∧ LoadV h v z
  | v :: vs, z :: ls, 0, k, _ => ⟨v, z, rfl, rfl, k.1⟩
  | v :: vs, z :: ls, i + 1, k, hi => by simpa using LoadsR.get (i := i) k.2 (by simpa using hi)
  | [], [], _, _, hi => by simp at hi
  | [], _ :: _, _, k, _ => k.elim
  | _ :: _, [], _, k, _ => k.elim
theorem LoadsR.drop {h : AHeap} : ∀ {vs : List Value} {ls : List (List Int)} (i : Nat), LoadsR h vs ls → LoadsR h (vs.drop i) (ls.drop i)
  | vs, ls, 0, k => by simpa using k
  | [], [], i + 1, k => by simpa using k
  | _ :: vs, _ :: ls, i + 1, k => by simpa using LoadsR.drop i k.2
theorem LoadV.oneC {h : AHeap} {v : Value} {zs : List Int} (l : LoadV h v zs) : oneC v = true := by
  obtain ⟨B, rfl, -⟩ := l; rfl
theorem LoadsR.one {h : AHeap} : ∀ {vs : List Value} {ls : List (List Int)}, LoadsR h vs ls → vs.all oneC = true
  | [], [], _ => rfl
  | _ :: _, _ :: _, k => by simp [List.all_cons, k.1.oneC, LoadsR.one k.2]

/-- a slice that is appended to, in any place of its array -/
def RetN (k : Nat) (h : AHeap) (sl : Value) (n : Nat) (rows : List Value) : Prop := rows.length = n * k ∧ ((sl = .slice none 0 0 ∧ n = 0) ∨ ∃ A off cells, sl = .slice (some ⟨A, off, none⟩) n (unk + k) ∧ h[A]? = some (some ⟨true, cells⟩) ∧ getN cells off (n * k) = some rows)
theorem RetN.toO {k n : Nat} {h : AHeap} {sl : Value} {rows : List Value} (r : RetN k h sl n rows) : RetO k h sl n rows := ⟨r.1, r.2.elim .inl fun x => .inr (.inr x)⟩
theorem RetN.own {k n : Nat} {h : AHeap} {sl : Value} {rows : List Value} (r : RetN k h sl n rows) {B : Nat} (hB : slB sl = some B) : ∃ cs, h[B]? = some (some ⟨true, cs⟩) := by
  rcases r.2 with ⟨rfl, -⟩ | ⟨A, off, cells, rfl, h1, -⟩
  · cases hB
  · simp [slB] at hB; subst hB; exact ⟨_, h1⟩
theorem RetN.keep {k n : Nat} {h h' : AHeap} {sl : Value} {rows : List Value} (r : RetN k h sl n rows) (hk : ∀ A, slB sl = some A → h'[A]? = h[A]?) : RetN k h' sl n rows := by
  rcases r with ⟨h1, h2 | ⟨A, off, cells, rfl, h3, h4⟩⟩
  · exact ⟨h1, .inl h2⟩
  · exact ⟨h1, .inr ⟨A, off, cells, rfl, by rw [hk A rfl]; exact h3, h4⟩⟩
theorem RetN.nil (k : Nat) (h : AHeap) : RetN k h (.slice none 0 0) 0 [] := ⟨by simp, .inl ⟨rfl, rfl⟩⟩
theorem RetN.all {k n : Nat} {h : AHeap} {A : Nat} {rows : List Value} (hA : h[A]? = some (some ⟨true, rows⟩)) (hl : rows.length = n * k) : RetN k h (.slice (some ⟨A, 0, none⟩) n (unk + k)) n rows := ⟨hl, .inr ⟨A, 0, rows, rfl, hA, getN_all _ _ hl.symm⟩⟩
theorem getN_drop {l rows : List Value} {off n m : Nat} (h : getN l off n = some rows) (hm : m ≤ n) : getN l (off + m) (n - m) = some (rows.drop m) := by
  obtain ⟨h1, h2⟩ := (getN_eq _ _ _ _).1 h
  refine (getN_eq _ _ _ _).2 ⟨by split at h1 <;> split <;> omega, ?_⟩
  rw [h2, List.drop_take, List.drop_drop]
/-- the front is taken off -/
theorem RetN.behind {k n : Nat} {h : AHeap} {sl : Value} {rows : List Value} (r : RetN k h sl n rows) {j : Nat} (hj : j ≤ n) : ∃ sl', (∀ (ρ : Env) (x lo : XA), ev ρ x = some sl → ev ρ lo = some (.int .i64 (j : Int)) → xop (.slice k x (some lo) none none) ρ h = some (sl', h)) ∧ RetN k h sl' (n - j) (rows.drop (j * k)) ∧ (∀ B, slB sl' = some B → slB sl = some B) := by
  rcases r with ⟨h1, ⟨rfl, rfl⟩ | ⟨A, off, cells, rfl, h3, h4⟩⟩
  · have : j = 0 := by omega
    subst this
    refine ⟨.slice none 0 0, fun ρ x lo hx hlo => ?_, ⟨by simpa using h1, .inl ⟨rfl, rfl⟩⟩, fun B h => h⟩
    have hu : ¬ unk ≤ 0 := by decide
    simp [xop, hx, hlo, bnd, int?, hu]
  · refine ⟨.slice (some ⟨A, off + j * k, none⟩) (n - j) (unk + k), fun ρ x lo hx hlo => ?_, ⟨?_, .inr ⟨A, off + j * k, cells, rfl, h3, ?_⟩⟩, fun B h => h⟩
    · have hu : unk ≤ unk + k := by omega
      have hj' : (j : Int) ≤ n := by omega
      simp [xop, hx, hlo, bnd, int?, hu, hj', hj, shiftA]
    · rw [List.length_drop, h1, Nat.sub_mul]
    · rw [Nat.sub_mul]; exact getN_drop h4 (Nat.mul_le_mul_right _ hj)
/-- a queue of loads -/
def QAt (h : AHeap) (sl : Value) (ls : List (List Int)) : Prop := ∃ cells, RetN 1 h sl ls.length cells ∧ LoadsR h cells ls
theorem QAt.nil (h : AHeap) : QAt h (.slice none 0 0) [] := ⟨[], RetN.nil 1 h, trivial⟩
theorem QAt.keep {h h' : AHeap} {sl : Value} {ls : List (List Int)} (q : QAt h sl ls) (z : Frz h h') (hk : ∀ A, slB sl = some A → h'[A]? = h[A]?) : QAt h' sl ls := by
  obtain ⟨cells, r, l⟩ := q
  exact ⟨cells, r.keep hk, l.frz z⟩
theorem QAt.own {h : AHeap} {sl : Value} {ls : List (List Int)} (q : QAt h sl ls) {B : Nat} (hB : slB sl = some B) : ∃ cs, h[B]? = some (some ⟨true, cs⟩) := q.choose_spec.1.own hB
theorem QAt.lt {h : AHeap} {sl : Value} {ls : List (List Int)} (q : QAt h sl ls) {B : Nat} (hB : slB sl = some B) : B < h.length := by
  obtain ⟨cs, h1⟩ := q.own hB; exact lt_of_get h1
theorem QAt.shape {h : AHeap} {sl : Value} {ls : List (List Int)} (q : QAt h sl ls) : ∃ a c, sl = .slice a ls.length c := by
  obtain ⟨cells, ⟨_, ⟨rfl, h2⟩ | ⟨A, off, cs, rfl, -⟩⟩, _⟩ := q
  · exact ⟨_, _, by rw [h2]⟩
  · exact ⟨_, _, rfl⟩
theorem QAt.behind {h : AHeap} {sl : Value} {ls : List (List Int)} (q : QAt h sl ls) {j : Nat} (hj : j ≤ ls.length) : ∃ sl', (∀ (ρ : Env) (x lo : XA), ev ρ x = some sl → ev ρ lo = some (.int .i64 (j : Int)) → xop (.slice 1 x (some lo) none none) ρ h = some (sl', h)) ∧ QAt h sl' (ls.drop j) ∧ (∀ B, slB sl' = some B → slB sl = some B) := by
  obtain ⟨cells, r, l⟩ := q
  obtain ⟨sl', h1, h2, h3⟩ := r.behind hj
  rw [Nat.mul_one] at h2
  exact ⟨sl', h1, ⟨_, by rw [List.length_drop]; exact h2, l.drop j⟩, h3⟩
/-- an element, where it lies -/
theorem QAt.elem {h : AHeap} {sl : Value} {ls : List (List Int)} (q : QAt h sl ls) {i : Nat} (hi : i < ls.length) : ∃ A off c cs v z, sl = .slice (some ⟨A, off, none⟩) ls.length c ∧ h[A]? = some (some ⟨true, cs⟩) ∧ cs[off + i]? = some v ∧ ls[i]? = some z ∧ LoadV h v z := by
  obtain ⟨cells, ⟨_, ⟨rfl, h2⟩ | ⟨A, off, cs, rfl, h3, h4⟩⟩, l⟩ := q
  · omega
  · obtain ⟨v, z, e1, e2, e3⟩ := l.get hi
    exact ⟨A, off, _, cs, v, z, rfl, h3, getN_get h4 e1, e2, e3⟩
theorem QAt.first {h : AHeap} {sl : Value} {ls : List (List Int)} (q : QAt h sl ls) : ∃ cells a c, sl = .slice a ls.length c ∧ firstV 1 h ls.length (.slice a ls.length c) = some cells ∧ LoadsR h cells ls := by
  obtain ⟨a, c, rfl⟩ := q.shape
  obtain ⟨cells, r, l⟩ := q
  exact ⟨cells, a, c, rfl, r.toO.first, l⟩
/-- one load more -/
theorem QAt.push {K : Env → AHeap → Prop} {r : List XOper} {ρ : Env} {h : AHeap} {ls : List (List Int)} {zs : List Int} {d : Option Nat} {s x : XA} {sl v : Value} (Q : QAt h sl ls) (L : LoadV h v zs)
    (hs : ev ρ s = some sl) (hx : ev ρ x = some (.slice (some ⟨h.length, 0, none⟩) 1 1)) (hb : ls.length < 1000000)
    (hK : ∀ h' A', h.length < A' → h'.length = A' + 1 → QAt h' (.slice (some ⟨A', 0, none⟩) (ls.length + 1) (unk + 1)) (ls ++ [zs]) → (∀ B, B < h.length → slB sl ≠ some B → h'[B]? = h[B]?) → Frz h h' → xops Try.prog K r (put d (.slice (some ⟨A', 0, none⟩) (ls.length + 1) (unk + 1)) ρ) h') :
    xops Try.prog K (⟨d, none, .append 1 24 [.slice none 0 0] s x, []⟩ :: r) ρ (h ++ [some ⟨true, [v]⟩]) := by
  obtain ⟨cells, R, l⟩ := Q
  have hlt : ∀ B, slB sl = some B → B < h.length := fun B hB => by obtain ⟨cs, h1⟩ := R.own hB; exact lt_of_get h1
  have R2 : RetN 1 (h ++ [some ⟨true, [v]⟩]) sl ls.length cells := R.keep fun A hA => List.getElem?_append_left (hlt A hA)
  have hf : firstV 1 (h ++ [some ⟨true, [v]⟩]) 1 (.slice (some ⟨h.length, 0, none⟩) 1 1) = some [v] := by
    simp only [firstV, cellsAt, app_new0]; simp [getN]
  refine append_run (k := 1) (by_ := 24) (n := ls.length) (m := 1) (rows := cells) (news := [v]) (sl := sl) (xv := .slice (some ⟨h.length, 0, none⟩) 1 1) rfl (by decide) hs hx rfl hf rfl (by simp [L.oneC]) R2.toO (by omega) (by omega) (fun h0 => by omega) (fun _ h' A' hA' hg hl' hfr => ?_)
  simp only [List.length_append, List.length_cons, List.length_nil, Nat.zero_add] at hA' hl' hfr
  have hfr' : ∀ B, B < h.length → slB sl ≠ some B → h'[B]? = h[B]? := fun B hB hne => by rw [hfr B (by omega) hne, List.getElem?_append_left hB]
  have hz : Frz h h' := fun B cs hB => by
    rw [hfr' B (lt_of_get hB) (fun e => by obtain ⟨cs', h1⟩ := R.own e; rw [h1] at hB; cases hB)]; exact hB
  have hAl := lt_of_get hg
  refine hK h' A' (by omega) (by omega) ⟨cells ++ [v], ?_, (l.frz hz).app ⟨L.frz hz, trivial⟩⟩ hfr' hz
  rw [List.length_append]
  exact RetN.all hg (by rw [List.length_append, R.1]; simp)
end Go.Proofs.Ytcpcngamfncpdaa
