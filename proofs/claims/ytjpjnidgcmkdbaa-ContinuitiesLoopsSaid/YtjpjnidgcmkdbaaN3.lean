import Derived.Test.YtjpjnidgcmkdbaaN2
import Derived.Test.YtjpjnidgcmkdbaaAiXd
import Derived.Test.YtjpjnidgcmkdbaaRun
set_option linter.unusedVariables false
set_option linter.unusedSimpArgs false
namespace Go.Proofs.Ytjpjnidgcmkdbaa
open Go Go.Ai Go.Proofs

/-- a slice that is appended to, in any place of its array -/
def RetN (k : Nat) (h : AHeap) (sl : Value) (n : Nat) (rows : List Value) : Prop := rows.length = n * k ∧ ((sl = .slice none 0 0 ∧ n = 0) ∨ ∃ A off cells, sl = .slice (some ⟨A, off, none⟩) n (unk + k) ∧ h[A]? = some (some ⟨true, cells⟩) ∧ getN cells off (n * k) = some rows)
theorem RetN.toO {k n : Nat} {h : AHeap} {sl : Value} {rows : List Value} (r : RetN k h sl n rows) : RetO k h sl n rows := ⟨r.1, r.2.elim .inl fun x => .inr (.inr x)⟩
theorem RetN.own {k n : Nat} {h : AHeap} {sl : Value} {rows : List Value} (r : RetN k h sl n rows) {B : Nat} (hB : slB sl = some B) : ∃ cs, h[B]? = some (some ⟨true, cs⟩) := by
  rcases r.2 with ⟨rfl, -⟩ | ⟨A, off, cells, rfl, h1, -⟩
  · cases hB
  · simp [slB] at hB; subst hB; exact ⟨_, h1⟩
theorem RetN.keep {k n : Nat} {h h' : AHeap} {sl : Value} {rows : List Value} (r : RetN k h sl n rows) (hk : ∀ A, slB sl = some A → h'[A]? = h[A]?) : RetN k h' sl n rows := by
  rcases r with ⟨h1, h2 | ⟨A, off, cells, rfl, h3, h4⟩⟩
  · exact ⟨h1, .inl h2⟩
  · exact ⟨h1, .inr ⟨A, off, cells, rfl, by rw [hk A rfl]; exact h3, h4⟩⟩
theorem RetN.nil (k : Nat) (h : AHeap) : RetN k h (.slice none 0 0) 0 [] := ⟨by simp, .inl ⟨rfl, rfl⟩⟩
theorem RetN.all {k n : Nat} {h : AHeap} {A : Nat} {rows : List Value} (hA : h[A]? = some (some ⟨true, rows⟩)) (hl : rows.length = n * k) : RetN k h (.slice (some ⟨A, 0, none⟩) n (unk + k)) n rows := ⟨hl, .inr ⟨A, 0, rows, rfl, hA, getN_all _ _ hl.symm⟩⟩
theorem getN_drop {l rows : List Value} {off n m : Nat} (h : getN l off n = some rows) (hm : m ≤ n) : getN l (off + m) (n - m) = some (rows.drop m) := by
  obtain ⟨h1, h2⟩ := (getN_eq _ _ _ _).1 h
  refine (getN_eq _ _ _ _).2 ⟨by split at h1 <;> split <;> omega, ?_⟩
  rw [h2, List.drop_take, List.drop_drop]
/-- the front is taken off -/
theorem RetN.behind {k n : Nat} {h : AHeap} {sl : Value} {rows : List Value} (r : RetN k h sl n rows) {j : Nat} (hj : j ≤ n) : ∃ sl', (∀ (ρ : Env) (x lo : XA), ev ρ x = some sl → ev ρ lo = some (.int .i64 (j : Int)) → xop (.slice k x (some lo) none none) ρ h = some (sl', h)) ∧ RetN k h sl' (n - j) (rows.drop (j * k)) ∧ (∀ B, slB sl' = some B → slB sl = some B) := by
  rcases r with ⟨h1, ⟨rfl, rfl⟩ | ⟨A, off, cells, rfl, h3, h4⟩⟩
  · have : j = 0 := by omega
    subst this
    refine ⟨.slice none 0 0, fun ρ x lo hx hlo => ?_, ⟨by simpa using h1, .inl ⟨rfl, rfl⟩⟩, fun B h => h⟩
    have hu : ¬ unk ≤ 0 := by decide
    simp [xop, hx, hlo, bnd, int?, hu]
  · refine ⟨.slice (some ⟨A, off + j * k, none⟩) (n - j) (unk + k), fun ρ x lo hx hlo => ?_, ⟨?_, .inr ⟨A, off + j * k, cells, rfl, h3, ?_⟩⟩, fun B h => h⟩
    · have hu : unk ≤ unk + k := by omega
      have hj' : (j : Int) ≤ n := by omega
      simp [xop, hx, hlo, bnd, int?, hu, hj', hj, shiftA]
    · rw [List.length_drop, h1, Nat.sub_mul]
    · rw [Nat.sub_mul]; exact getN_drop h4 (Nat.mul_le_mul_right _ hj)
theorem rowsM_one : ∀ ms : List Msg, (rowsM ms).all oneC = true
  | [] => rfl
  | x :: ms => by
    have : rowsM (x :: ms) = x.cells ++ rowsM ms := rfl
    rw [this, List.all_append, rowsM_one ms]; rfl
/-- the blocks of the net: near end, far end, the two ways, the argument -/
def FN (Xa La Xb Lb : Nat) (sa sb st sk : Value) (q : Option Addr) (i B : Nat) : Prop := (i = 0 ∧ (B = Xa ∨ B = La ∨ slB sa = some B)) ∨ (i = 1 ∧ (B = Xb ∨ B = Lb ∨ slB sb = some B)) ∨ (i = 2 ∧ slB st = some B) ∨ (i = 3 ∧ slB sk = some B) ∨ (i = 4 ∧ ∃ a, q = some a ∧ a.block = B)
structure NW (h : AHeap) (Xa La Xb Lb : Nat) (w p m : Int) (q : Option Addr) (n c : Nat) (rows : List Value) (cs : List Cir) (sa : Value) (ao : List Msg) (ds : List Cir) (sb : Value) (bo : List Msg) (st : Value) (th : List Msg) (sk : Value) (bk : List Msg) : Prop where
  a : EndAt h Xa La w p m cs sa ao
  b : EndAt h Xb Lb w p m ds sb bo
  t : RetN 3 h st th.length (rowsM th)
  k : RetN 3 h sk bk.length (rowsM bk)
  g : firstV 3 h n (.slice q n c) = some rows
  l : ∀ i B, FN Xa La Xb Lb sa sb st sk q i B → B < h.length
  s : ∀ i j B, FN Xa La Xb Lb sa sb st sk q i B → FN Xa La Xb Lb sa sb st sk q j B → i = j
theorem RetN.lt {k n : Nat} {h : AHeap} {sl : Value} {rows : List Value} (r : RetN k h sl n rows) {B : Nat} (hB : slB sl = some B) : B < h.length := by
  obtain ⟨cs, h1⟩ := r.own hB; exact lt_of_get h1
theorem sep_upd {F F' : Nat → Nat → Prop} {n j : Nat} (hs : ∀ i j B, F i B → F j B → i = j) (hl : ∀ i B, F i B → B < n) (hn : ∀ i B, F' i B → F i B ∨ (i = j ∧ n ≤ B)) : ∀ i j B, F' i B → F' j B → i = j := by
  intro i k B h1 h2
  rcases hn i B h1 with h3 | ⟨h3, h4⟩
  · rcases hn k B h2 with h5 | ⟨h5, h6⟩
    · exact hs i k B h3 h5
    · have := hl i B h3; omega
  · rcases hn k B h2 with h5 | ⟨h5, h6⟩
    · have := hl k B h5; omega
    · omega
section
variable {h h' : AHeap} {Xa La Xb Lb n c : Nat} {w p m : Int} {q : Option Addr} {rows : List Value} {cs ds cs' : List Cir} {sa sb st sk : Value} {ao bo th bk new : List Msg}
/-- the near end makes a step -/
theorem NW.stepA (S : NW h Xa La Xb Lb w p m q n c rows cs sa ao ds sb bo st th sk bk) (P : StepP h Xa La w p m cs sa ao h' cs' new) : ∃ sa', NW h' Xa La Xb Lb w p m q n c rows cs' sa' (ao ++ new) ds sb bo st th sk bk ∧ h.length ≤ h'.length := by
  obtain ⟨sa', E, F, G⟩ := P
  have hk : ∀ i B, i ≠ 0 → FN Xa La Xb Lb sa sb st sk q i B → h'[B]? = h[B]? := fun i B hi hB => F.2 B (S.l i B hB) (fun e => hi (S.s i 0 B hB (.inl ⟨rfl, .inl e⟩))) (fun e => hi (S.s i 0 B hB (.inl ⟨rfl, .inr (.inl e)⟩))) (fun e => hi (S.s i 0 B hB (.inl ⟨rfl, .inr (.inr e)⟩)))
  have hn : ∀ i B, FN Xa La Xb Lb sa' sb st sk q i B → FN Xa La Xb Lb sa sb st sk q i B ∨ (i = 0 ∧ h.length ≤ B) := by
    rintro i B (⟨rfl, h1 | h1 | h1⟩ | h1)
    · exact .inl (.inl ⟨rfl, .inl h1⟩)
    · exact .inl (.inl ⟨rfl, .inr (.inl h1)⟩)
    · rcases G with rfl | ⟨A, hA, hl⟩
      · exact .inl (.inl ⟨rfl, .inr (.inr h1)⟩)
      · rw [hA] at h1; cases h1; exact .inr ⟨rfl, hl⟩
    · exact .inl (.inr h1)
  refine ⟨sa', ⟨E, S.b.keep F.1 fun B hB => hk 1 B (by decide) (.inr (.inl ⟨rfl, hB⟩)), S.t.keep fun A hA => hk 2 A (by decide) (.inr (.inr (.inl ⟨rfl, hA⟩))), S.k.keep fun A hA => hk 3 A (by decide) (.inr (.inr (.inr (.inl ⟨rfl, hA⟩)))), first_same S.g fun a ha => hk 4 a.block (by decide) (.inr (.inr (.inr (.inr ⟨rfl, a, ha, rfl⟩)))), fun i B hB => ?_, sep_upd S.s S.l hn⟩, F.1⟩
  rcases hB with ⟨rfl, h1 | h1 | h1⟩ | h1
  · rw [h1]; exact lt_of_get E.obj
  · rw [h1]; exact lt_of_get E.row
  · exact E.n3 B h1
  · exact Nat.lt_of_lt_of_le (S.l i B (.inr h1)) F.1
/-- the far end makes a step -/
theorem NW.stepB (S : NW h Xa La Xb Lb w p m q n c rows cs sa ao ds sb bo st th sk bk) (P : StepP h Xb Lb w p m ds sb bo h' cs' new) : ∃ sb', NW h' Xa La Xb Lb w p m q n c rows cs sa ao cs' sb' (bo ++ new) st th sk bk ∧ h.length ≤ h'.length := by
  obtain ⟨sb', E, F, G⟩ := P
  have hk : ∀ i B, i ≠ 1 → FN Xa La Xb Lb sa sb st sk q i B → h'[B]? = h[B]? := fun i B hi hB => F.2 B (S.l i B hB) (fun e => hi (S.s i 1 B hB (.inr (.inl ⟨rfl, .inl e⟩)))) (fun e => hi (S.s i 1 B hB (.inr (.inl ⟨rfl, .inr (.inl e)⟩)))) (fun e => hi (S.s i 1 B hB (.inr (.inl ⟨rfl, .inr (.inr e)⟩))))
  have hn : ∀ i B, FN Xa La Xb Lb sa sb' st sk q i B → FN Xa La Xb Lb sa sb st sk q i B ∨ (i = 1 ∧ h.length ≤ B) := by
    rintro i B (h1 | ⟨rfl, h1 | h1 | h1⟩ | h1)
    · exact .inl (.inl h1)
    · exact .inl (.inr (.inl ⟨rfl, .inl h1⟩))
    · exact .inl (.inr (.inl ⟨rfl, .inr (.inl h1)⟩))
    · rcases G with rfl | ⟨A, hA, hl⟩
      · exact .inl (.inr (.inl ⟨rfl, .inr (.inr h1)⟩))
      · rw [hA] at h1; cases h1; exact .inr ⟨rfl, hl⟩
    · exact .inl (.inr (.inr h1))
  refine ⟨sb', ⟨S.a.keep F.1 fun B hB => hk 0 B (by decide) (.inl ⟨rfl, hB⟩), E, S.t.keep fun A hA => hk 2 A (by decide) (.inr (.inr (.inl ⟨rfl, hA⟩))), S.k.keep fun A hA => hk 3 A (by decide) (.inr (.inr (.inr (.inl ⟨rfl, hA⟩)))), first_same S.g fun a ha => hk 4 a.block (by decide) (.inr (.inr (.inr (.inr ⟨rfl, a, ha, rfl⟩)))), fun i B hB => ?_, sep_upd S.s S.l hn⟩, F.1⟩
  rcases hB with h1 | ⟨rfl, h1 | h1 | h1⟩ | h1
  · exact Nat.lt_of_lt_of_le (S.l i B (.inl h1)) F.1
  · rw [h1]; exact lt_of_get E.obj
  · rw [h1]; exact lt_of_get E.row
  · exact E.n3 B h1
  · exact Nat.lt_of_lt_of_le (S.l i B (.inr (.inr h1))) F.1
/-- new objects -/
theorem NW.kp (S : NW h Xa La Xb Lb w p m q n c rows cs sa ao ds sb bo st th sk bk) (K : Kp h h') : NW h' Xa La Xb Lb w p m q n c rows cs sa ao ds sb bo st th sk bk := by
  have hk : ∀ i B, FN Xa La Xb Lb sa sb st sk q i B → h'[B]? = h[B]? := fun i B hB => K.2 B (S.l i B hB)
  exact ⟨S.a.keep K.1 fun B hB => hk 0 B (.inl ⟨rfl, hB⟩), S.b.keep K.1 fun B hB => hk 1 B (.inr (.inl ⟨rfl, hB⟩)), S.t.keep fun A hA => hk 2 A (.inr (.inr (.inl ⟨rfl, hA⟩))), S.k.keep fun A hA => hk 3 A (.inr (.inr (.inr (.inl ⟨rfl, hA⟩)))), first_same S.g fun a ha => hk 4 a.block (.inr (.inr (.inr (.inr ⟨rfl, a, ha, rfl⟩)))), fun i B hB => Nat.lt_of_lt_of_le (S.l i B hB) K.1, S.s⟩
/-- what the near end sends is put on its way -/
theorem NW.takeA {K : Env → AHeap → Prop} {r : List XOper} {ρ : Env} {d : Option Nat} {s x : XA} {v : Value} (S : NW h Xa La Xb Lb w p m q n c rows cs sa ao ds sb bo st th sk bk)
    (hT : EndAt h' Xa La w p m cs (.slice none 0 0) [] ∧ h'.length = h.length ∧ (∀ B, B ≠ Xa → h'[B]? = h[B]?) ∧ ∃ q, v = .slice q ao.length ao.length ∧ firstV 3 h' ao.length v = some (rowsM ao) ∧ (∀ a, q = some a → slB sa = some a.block))
    (hs : ev ρ s = some st) (hx : ev ρ x = some v) (hb : th.length + ao.length < 100000)
    (hK : ∀ h2 st', NW h2 Xa La Xb Lb w p m q n c rows cs (.slice none 0 0) [] ds sb bo st' (th ++ ao) sk bk → xops Try.prog K r (put d st' ρ) h2) :
    xops Try.prog K (⟨d, none, .append 3 24 [.int .u8 0, .int .i64 0, .bool false] s x, []⟩ :: r) ρ h' := by
  obtain ⟨E, hl, hf, q2, rfl, hg, -⟩ := hT
  have hk : ∀ i B, i ≠ 0 → FN Xa La Xb Lb sa sb st sk q i B → h'[B]? = h[B]? := fun i B hi hB => hf B fun e => hi (S.s i 0 B hB (.inl ⟨rfl, .inl e⟩))
  have hn : ∀ i B, FN Xa La Xb Lb (.slice none 0 0) sb st sk q i B → FN Xa La Xb Lb sa sb st sk q i B ∨ (i = 0 ∧ h.length ≤ B) := by
    rintro i B (⟨rfl, h1 | h1 | h1⟩ | h1)
    · exact .inl (.inl ⟨rfl, .inl h1⟩)
    · exact .inl (.inl ⟨rfl, .inr (.inl h1)⟩)
    · simp [slB] at h1
    · exact .inl (.inr h1)
  have hl3 : ∀ i B, FN Xa La Xb Lb (.slice none 0 0) sb st sk q i B → B < h'.length := fun i B hB => by
    rcases hn i B hB with h1 | ⟨rfl, h1⟩
    · have := S.l i B h1; omega
    · rcases hB with ⟨-, h2 | h2 | h2⟩ | ⟨h2, -⟩ | ⟨h2, -⟩ | ⟨h2, -⟩ | ⟨h2, -⟩
      · rw [h2]; exact lt_of_get E.obj
      · rw [h2]; exact lt_of_get E.row
      · simp [slB] at h2
      · cases h2
      · cases h2
      · cases h2
      · cases h2
  have S1 : NW h' Xa La Xb Lb w p m q n c rows cs (.slice none 0 0) [] ds sb bo st th sk bk := ⟨E, S.b.keep (by omega) fun B hB => hk 1 B (by decide) (.inr (.inl ⟨rfl, hB⟩)), S.t.keep fun A hA => hk 2 A (by decide) (.inr (.inr (.inl ⟨rfl, hA⟩))), S.k.keep fun A hA => hk 3 A (by decide) (.inr (.inr (.inr (.inl ⟨rfl, hA⟩)))), first_same S.g fun a ha => hk 4 a.block (by decide) (.inr (.inr (.inr (.inr ⟨rfl, a, ha, rfl⟩)))), hl3, sep_upd S.s S.l hn⟩
  refine append_run (k := 3) (by_ := 24) (n := th.length) (m := ao.length) (rows := rowsM th) (news := rowsM ao) (sl := st) (xv := .slice q2 ao.length ao.length) rfl (by decide) hs hx rfl hg (rowsM_len ao) (rowsM_one ao) S1.t.toO (by omega) (by omega) (fun h0 => ?_) (fun h0 h2 A' hA' hg2 hl2 hfr => ?_)
  · have : ao = [] := List.eq_nil_of_length_eq_zero h0
    subst this
    exact hK _ _ (by rw [List.append_nil]; exact S1)
  · have e1 : rowsM th ++ rowsM ao = rowsM (th ++ ao) := by simp [rowsM]
    rw [e1] at hg2
    have hk2 : ∀ i B, i ≠ 2 → FN Xa La Xb Lb (.slice none 0 0) sb st sk q i B → h2[B]? = h'[B]? := fun i B hi hB => hfr B (S1.l i B hB) fun e => hi (S1.s i 2 B hB (.inr (.inr (.inl ⟨rfl, e⟩))))
    have hn2 : ∀ i B, FN Xa La Xb Lb (.slice none 0 0) sb (.slice (some ⟨A', 0, none⟩) (th.length + ao.length) (unk + 3)) sk q i B → FN Xa La Xb Lb (.slice none 0 0) sb st sk q i B ∨ (i = 2 ∧ h'.length ≤ B) := by
      rintro i B (h1 | h1 | ⟨rfl, h1⟩ | h1)
      · exact .inl (.inl h1)
      · exact .inl (.inr (.inl h1))
      · simp [slB] at h1; exact .inr ⟨rfl, by omega⟩
      · exact .inl (.inr (.inr (.inr h1)))
    refine hK _ _ ⟨S1.a.keep (by omega) fun B hB => hk2 0 B (by decide) (.inl ⟨rfl, hB⟩), S1.b.keep (by omega) fun B hB => hk2 1 B (by decide) (.inr (.inl ⟨rfl, hB⟩)), ?_, S1.k.keep fun A hA => hk2 3 A (by decide) (.inr (.inr (.inr (.inl ⟨rfl, hA⟩)))), first_same S1.g fun a ha => hk2 4 a.block (by decide) (.inr (.inr (.inr (.inr ⟨rfl, a, ha, rfl⟩)))), fun i B hB => ?_, sep_upd S1.s S1.l hn2⟩
    · rw [List.length_append]
      exact RetN.all hg2 (by rw [rowsM_len, List.length_append])
    · rcases hn2 i B hB with h1 | ⟨rfl, h1⟩
      · have := S1.l i B h1; omega
      · rcases hB with ⟨h2, -⟩ | ⟨h2, -⟩ | ⟨-, h2⟩ | ⟨h2, -⟩ | ⟨h2, -⟩
        · cases h2
        · cases h2
        · simp [slB] at h2; have := lt_of_get hg2; omega
        · cases h2
        · cases h2
/-- what the far end sends is put on its way -/
theorem NW.takeB {K : Env → AHeap → Prop} {r : List XOper} {ρ : Env} {d : Option Nat} {s x : XA} {v : Value} (S : NW h Xa La Xb Lb w p m q n c rows cs sa ao ds sb bo st th sk bk)
    (hT : EndAt h' Xb Lb w p m ds (.slice none 0 0) [] ∧ h'.length = h.length ∧ (∀ B, B ≠ Xb → h'[B]? = h[B]?) ∧ ∃ q, v = .slice q bo.length bo.length ∧ firstV 3 h' bo.length v = some (rowsM bo) ∧ (∀ a, q = some a → slB sb = some a.block))
    (hs : ev ρ s = some sk) (hx : ev ρ x = some v) (hb : bk.length + bo.length < 100000)
    (hK : ∀ h2 sk', NW h2 Xa La Xb Lb w p m q n c rows cs sa ao ds (.slice none 0 0) [] st th sk' (bk ++ bo) → xops Try.prog K r (put d sk' ρ) h2) :
    xops Try.prog K (⟨d, none, .append 3 24 [.int .u8 0, .int .i64 0, .bool false] s x, []⟩ :: r) ρ h' := by
  obtain ⟨E, hl, hf, q2, rfl, hg, -⟩ := hT
  have hk : ∀ i B, i ≠ 1 → FN Xa La Xb Lb sa sb st sk q i B → h'[B]? = h[B]? := fun i B hi hB => hf B fun e => hi (S.s i 1 B hB (.inr (.inl ⟨rfl, .inl e⟩)))
  have hn : ∀ i B, FN Xa La Xb Lb sa (.slice none 0 0) st sk q i B → FN Xa La Xb Lb sa sb st sk q i B ∨ (i = 1 ∧ h.length ≤ B) := by
    rintro i B (h1 | ⟨rfl, h1 | h1 | h1⟩ | h1)
    · exact .inl (.inl h1)
    · exact .inl (.inr (.inl ⟨rfl, .inl h1⟩))
    · exact .inl (.inr (.inl ⟨rfl, .inr (.inl h1)⟩))
    · simp [slB] at h1
    · exact .inl (.inr (.inr h1))
  have hl3 : ∀ i B, FN Xa La Xb Lb sa (.slice none 0 0) st sk q i B → B < h'.length := fun i B hB => by
    rcases hn i B hB with h1 | ⟨rfl, h1⟩
    · have := S.l i B h1; omega
    · rcases hB with ⟨h2, -⟩ | ⟨-, h2 | h2 | h2⟩ | ⟨h2, -⟩ | ⟨h2, -⟩ | ⟨h2, -⟩
      · cases h2
      · rw [h2]; exact lt_of_get E.obj
      · rw [h2]; exact lt_of_get E.row
      · simp [slB] at h2
      · cases h2
      · cases h2
      · cases h2
  have S1 : NW h' Xa La Xb Lb w p m q n c rows cs sa ao ds (.slice none 0 0) [] st th sk bk := ⟨S.a.keep (by omega) fun B hB => hk 0 B (by decide) (.inl ⟨rfl, hB⟩), E, S.t.keep fun A hA => hk 2 A (by decide) (.inr (.inr (.inl ⟨rfl, hA⟩))), S.k.keep fun A hA => hk 3 A (by decide) (.inr (.inr (.inr (.inl ⟨rfl, hA⟩)))), first_same S.g fun a ha => hk 4 a.block (by decide) (.inr (.inr (.inr (.inr ⟨rfl, a, ha, rfl⟩)))), hl3, sep_upd S.s S.l hn⟩
  refine append_run (k := 3) (by_ := 24) (n := bk.length) (m := bo.length) (rows := rowsM bk) (news := rowsM bo) (sl := sk) (xv := .slice q2 bo.length bo.length) rfl (by decide) hs hx rfl hg (rowsM_len bo) (rowsM_one bo) S1.k.toO (by omega) (by omega) (fun h0 => ?_) (fun h0 h2 A' hA' hg2 hl2 hfr => ?_)
  · have : bo = [] := List.eq_nil_of_length_eq_zero h0
    subst this
    exact hK _ _ (by rw [List.append_nil]; exact S1)
  · have e1 : rowsM bk ++ rowsM bo = rowsM (bk ++ bo) := by simp [rowsM]
    rw [e1] at hg2
    have hk2 : ∀ i B, i ≠ 3 → FN Xa La Xb Lb sa (.slice none 0 0) st sk q i B → h2[B]? = h'[B]? := fun i B hi hB => hfr B (S1.l i B hB) fun e => hi (S1.s i 3 B hB (.inr (.inr (.inr (.inl ⟨rfl, e⟩)))))
    have hn2 : ∀ i B, FN Xa La Xb Lb sa (.slice none 0 0) st (.slice (some ⟨A', 0, none⟩) (bk.length + bo.length) (unk + 3)) q i B → FN Xa La Xb Lb sa (.slice none 0 0) st sk q i B ∨ (i = 3 ∧ h'.length ≤ B) := by
      rintro i B (h1 | h1 | h1 | ⟨rfl, h1⟩ | h1)
      · exact .inl (.inl h1)
      · exact .inl (.inr (.inl h1))
      · exact .inl (.inr (.inr (.inl h1)))
      · simp [slB] at h1; exact .inr ⟨rfl, by omega⟩
      · exact .inl (.inr (.inr (.inr (.inr h1))))
    refine hK _ _ ⟨S1.a.keep (by omega) fun B hB => hk2 0 B (by decide) (.inl ⟨rfl, hB⟩), S1.b.keep (by omega) fun B hB => hk2 1 B (by decide) (.inr (.inl ⟨rfl, hB⟩)), S1.t.keep fun A hA => hk2 2 A (by decide) (.inr (.inr (.inl ⟨rfl, hA⟩))), ?_, first_same S1.g fun a ha => hk2 4 a.block (by decide) (.inr (.inr (.inr (.inr ⟨rfl, a, ha, rfl⟩)))), fun i B hB => ?_, sep_upd S1.s S1.l hn2⟩
    · rw [List.length_append]
      exact RetN.all hg2 (by rw [rowsM_len, List.length_append])
    · rcases hn2 i B hB with h1 | ⟨rfl, h1⟩
      · have := S1.l i B h1; omega
      · rcases hB with ⟨h2, -⟩ | ⟨h2, -⟩ | ⟨h2, -⟩ | ⟨-, h2⟩ | ⟨h2, -⟩
        · cases h2
        · cases h2
        · cases h2
        · simp [slB] at h2; have := lt_of_get hg2; omega
        · cases h2
/-- the first message of a way -/
theorem RetN.head3 {h : AHeap} {sl : Value} {x : Msg} {xs : List Msg} (r : RetN 3 h sl (x :: xs).length (rowsM (x :: xs))) : ∃ A off c cells, sl = .slice (some ⟨A, off, none⟩) (xs.length + 1) c ∧ h[A]? = some (some ⟨true, cells⟩) ∧ getN cells off 3 = some x.cells := by
  rcases r with ⟨hl, ⟨rfl, h0⟩ | ⟨A, off, cells, rfl, hA, hg⟩⟩
  · simp at h0
  · refine ⟨A, off, _, cells, rfl, hA, ?_⟩
    obtain ⟨g1, g2⟩ := (getN_eq _ _ _ _).1 hg
    refine (getN_eq _ _ _ _).2 ⟨?_, ?_⟩
    · simp only [List.length_cons] at g1
      split at g1 <;> split <;> omega
    · have : (rowsM (x :: xs)).take 3 = x.cells := rfl
      rw [← this, g2, List.take_take]
      congr 1
      simp only [List.length_cons]; omega
theorem NW.popT {x : Msg} {xs : List Msg} (S : NW h Xa La Xb Lb w p m q n c rows cs sa ao ds sb bo st (x :: xs) sk bk) : ∃ st', (∀ (ρ : Env) (y lo : XA), ev ρ y = some st → ev ρ lo = some (.int .i64 1) → xop (.slice 3 y (some lo) none none) ρ h = some (st', h)) ∧ NW h Xa La Xb Lb w p m q n c rows cs sa ao ds sb bo st' xs sk bk := by
  obtain ⟨st', k1, k2, k3⟩ := S.t.behind (j := 1) (by simp)
  have e1 : (rowsM (x :: xs)).drop (1 * 3) = rowsM xs := rfl
  rw [e1] at k2
  have hn : ∀ i B, FN Xa La Xb Lb sa sb st' sk q i B → FN Xa La Xb Lb sa sb st sk q i B := by
    rintro i B (h1 | h1 | ⟨rfl, h1⟩ | h1)
    · exact .inl h1
    · exact .inr (.inl h1)
    · exact .inr (.inr (.inl ⟨rfl, k3 B h1⟩))
    · exact .inr (.inr (.inr h1))
  exact ⟨st', fun ρ y lo hy hlo => k1 ρ y lo hy hlo, S.a, S.b, by simpa using k2, S.k, S.g, fun i B hB => S.l i B (hn i B hB), fun i j B h1 h2 => S.s i j B (hn i B h1) (hn j B h2)⟩
theorem NW.popK {x : Msg} {xs : List Msg} (S : NW h Xa La Xb Lb w p m q n c rows cs sa ao ds sb bo st th sk (x :: xs)) : ∃ sk', (∀ (ρ : Env) (y lo : XA), ev ρ y = some sk → ev ρ lo = some (.int .i64 1) → xop (.slice 3 y (some lo) none none) ρ h = some (sk', h)) ∧ NW h Xa La Xb Lb w p m q n c rows cs sa ao ds sb bo st th sk' xs := by
  obtain ⟨sk', k1, k2, k3⟩ := S.k.behind (j := 1) (by simp)
  have e1 : (rowsM (x :: xs)).drop (1 * 3) = rowsM xs := rfl
  rw [e1] at k2
  have hn : ∀ i B, FN Xa La Xb Lb sa sb st sk' q i B → FN Xa La Xb Lb sa sb st sk q i B := by
    rintro i B (h1 | h1 | h1 | ⟨rfl, h1⟩ | h1)
    · exact .inl h1
    · exact .inr (.inl h1)
    · exact .inr (.inr (.inl h1))
    · exact .inr (.inr (.inr (.inl ⟨rfl, k3 B h1⟩)))
    · exact .inr (.inr (.inr (.inr h1)))
  exact ⟨sk', fun ρ y lo hy hlo => k1 ρ y lo hy hlo, S.a, S.b, S.t, by simpa using k2, S.g, fun i B hB => S.l i B (hn i B hB), fun i j B h1 h2 => S.s i j B (hn i B h1) (hn j B h2)⟩
end
end Go.Proofs.Ytjpjnidgcmkdbaa
