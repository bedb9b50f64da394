import Derived.Test.YtjhpohgghbimcaaT16
set_option linter.unusedVariables false
set_option linter.unusedSimpArgs false
namespace Go.Proofs.Ytjhpohgghbimcaa
open Go Go.Ai Go.Proofs

def EE (h : AHeap) (X : Nat) (sent acked last : Int) (sl : Value) : Prop := ∃ rows, E16 h X 0 sent acked last 0 sl (sent - acked).toNat rows
/-- two ends, apart -/
def P2 (base h : AHeap) (X Y : Nat) (sx ax lx sy ay ly : Int) : Prop := ∃ slX slY, EE h X sx ax lx slX ∧ EE h Y sy ay ly slY ∧ X ≠ Y ∧ slB slX ≠ some Y ∧ slB slY ≠ some X ∧ (∀ A, slB slX = some A → slB slY ≠ some A) ∧
  (∀ A, slB slX = some A → base.length ≤ A) ∧ (∀ A, slB slY = some A → base.length ≤ A) ∧ base.length ≤ h.length ∧ X < base.length ∧ Y < base.length ∧ ∀ B, B < base.length → B ≠ X → B ≠ Y → h[B]? = base[B]?
theorem P2.symm {base h : AHeap} {X Y : Nat} {sx ax lx sy ay ly : Int} (p : P2 base h X Y sx ax lx sy ay ly) : P2 base h Y X sy ay ly sx ax lx := by
  obtain ⟨slX, slY, e1, e2, a, b, c, d, f, g, i, j, k, l⟩ := p
  exact ⟨slY, slX, e2, e1, Ne.symm a, c, b, fun A hA h => d A h hA, g, f, i, k, j, fun B hB h1 h2 => l B hB h2 h1⟩
theorem E16.block2 {h : AHeap} {X : Nat} {st sent acked last since : Int} {sl : Value} {n : Nat} {rows : List Value} (E : E16 h X st sent acked last since sl n rows) {B : Nat} {l : List Value} (hB : h[B]? = some (some ⟨true, l⟩)) (hl : l.length = 2) : ¬ (B = X ∨ slB sl = some B) := by
  rintro (rfl | e)
  · rw [E.obj] at hB
    simp only [Option.some.injEq, AObj.mk.injEq, true_and] at hB
    have := congrArg List.length hB
    simp [endC] at this; omega
  · rw [E.ret.block e] at hB
    simp only [Option.some.injEq, AObj.mk.injEq, true_and] at hB
    have := congrArg List.length hB
    have := E.ret.1
    omega
section
variable {base h h' : AHeap} {X Y : Nat} {sx ax lx sy ay ly : Int}
/-- an act on one end that leaves the other's blocks -/
theorem P2.act {sl0 slX : Value} {sx' ax' lx' : Int} {nX : Nat} {rX : List Value} (E : E16 h X 0 sx ax lx 0 sl0 nX rX) (slY : Value) (EY : EE h Y sy ay ly slY) (hne : X ≠ Y) (q1 : slB sl0 ≠ some Y) (q2 : slB slY ≠ some X) (q3 : ∀ A, slB sl0 = some A → slB slY ≠ some A) (q4 : ∀ A, slB sl0 = some A → base.length ≤ A)
    (q5 : ∀ A, slB slY = some A → base.length ≤ A) (q6 : base.length ≤ h.length) (q7 : X < base.length) (q8 : Y < base.length) (q9 : ∀ B, B < base.length → B ≠ X → B ≠ Y → h[B]? = base[B]?)
    (E' : EE h' X sx' ax' lx' slX) (hl : h.length ≤ h'.length) (hf : ∀ B, B < h.length → B ≠ X → slB sl0 ≠ some B → h'[B]? = h[B]?) (hn : ∀ A, slB slX = some A → slB sl0 = some A ∨ h.length ≤ A) : P2 base h' X Y sx' ax' lx' sy ay ly := by
  obtain ⟨rY, EY⟩ := EY
  have hk : ∀ B, B < h.length → ¬ (B = X ∨ slB sl0 = some B) → h'[B]? = h[B]? := fun B hB hS => hf B hB (fun e => hS (.inl e)) (fun e => hS (.inr e))
  have EY' := EY.keep (S := fun B => B = X ∨ slB sl0 = some B) hk (fun e => by rcases e with e | e; exact hne e.symm; exact q1 e) (fun A hA e => by rcases e with e | e; exact q2 (by rw [hA, e]); exact q3 A e hA) (fun B l hB hl2 => E.block2 hB hl2)
  have hyl : ∀ A, slB slY = some A → A < h.length := fun A hA => lt_of_get (EY.ret.block hA)
  refine ⟨slX, slY, E', ⟨rY, EY'⟩, hne, fun e => ?_, q2, fun A hA e => ?_, fun A hA => ?_, q5, by omega, q7, q8, fun B hB h1 h2 => ?_⟩
  · rcases hn Y e with h1 | h1
    · exact q1 h1
    · omega
  · rcases hn A hA with h1 | h1
    · exact q3 A h1 e
    · have := hyl A e; omega
  · rcases hn A hA with h1 | h1
    · exact q4 A h1
    · omega
  · rw [hf B (by omega) h1 (fun e => by have := q4 B e; omega), q9 B hB h1 h2]
theorem P2.app (p : P2 base h X Y sx ax lx sy ay ly) (t : AHeap) : P2 base (h ++ t) X Y sx ax lx sy ay ly := by
  obtain ⟨slX, slY, ⟨rX, EX⟩, EY, a, b, c, d, f, g, i, j, k, l⟩ := p
  have hk : ∀ B, B < h.length → ¬ False → (h ++ t)[B]? = h[B]? := fun B hB _ => List.getElem?_append_left hB
  have EX' := EX.keep (S := fun _ => False) hk (fun h => h) (fun _ _ h => h) (fun _ _ _ _ h => h)
  exact P2.act EX slY EY a b c d f g i j k l ⟨rX, EX'⟩ (by simp) (fun B hB _ _ => List.getElem?_append_left hB) (fun A hA => .inl hA)
theorem P2.send {D : Nat} (p : P2 base h X Y sx ax lx sy ay ly) {k : Int} (hk : k = sx + 1) (h3 : sx < 300) (hD : h[D]? = some (some ⟨true, dataOf k⟩)) :
    Valid Try.prog 9 [ptr X 0, .agg (itC k 5 0 0 0 0 0 (.slice (some ⟨D, 0, none⟩) 2 2)).toArray] h fun r h' => r = .tuple #[.int .i64 k, .int .i64 0] ∧ P2 base h' X Y k ax lx sy ay ly := by
  obtain ⟨slX, slY, ⟨rX, EX⟩, EY, a, b, c, d, f, g, i, j, q, l⟩ := p
  refine (sendK_ok EX h3 hk hD).mono ?_
  rintro r h' ⟨rfl, sl', rows', E', hl, ⟨A, hA, hle⟩, hf⟩
  have hnum := EX.num
  have e : (k - ax).toNat = (sx - ax).toNat + 1 := by omega
  exact ⟨rfl, P2.act EX slY EY a b c d f g i j q l ⟨rows', by rw [e]; exact E'⟩ hl hf (fun B hB => by rw [hA] at hB; cases hB; exact .inr hle)⟩
theorem P2.put (p : P2 base h X Y sx ax lx sy ay ly) {lx' : Int} (hx : ∀ sl, h[X]? = some (some ⟨true, endC 0 sx ax lx 0 sl⟩) → h' = h.set X (some ⟨true, endC 0 sx ax lx' 0 sl⟩)) : P2 base h' X Y sx ax lx' sy ay ly := by
  obtain ⟨slX, slY, ⟨rX, EX⟩, EY, a, b, c, d, f, g, i, j, q, l⟩ := p
  obtain rfl := hx slX EX.obj
  exact P2.act EX slY EY a b c d f g i j q l ⟨rX, EX.put⟩ (by simp) (fun B hB hne _ => set_ne (Ne.symm hne) _) (fun A hA => .inl hA)
theorem P2.arrive (p : P2 base h X Y sx ax lx sy ay ly) {k : Int} (hk : k = lx + 1) (h0 : 0 ≤ lx) (h1 : lx ≤ 300) : Valid Try.prog 18 [ptr X 0, .int .i64 k] h fun r h' => r = .int .i64 0 ∧ P2 base h' X Y sx ax k sy ay ly := by
  have p' := p
  obtain ⟨slX, slY, ⟨rX, EX⟩, EY, a, b, c, d, f, g, i, j, q, l⟩ := p
  have hw : IntKind.i64.wrap (lx + 1) = k := by rw [i64_wrap] <;> omega
  refine (arrive_ok (n := k) EX.obj).mono ?_
  rintro r h' hr
  rw [hw, if_pos rfl] at hr
  obtain ⟨rfl, rfl⟩ := hr
  refine ⟨rfl, p'.put fun sl hs => ?_⟩
  rw [EX.obj] at hs
  simp only [endC, Option.some.injEq, AObj.mk.injEq, List.cons.injEq, true_and, and_true] at hs
  rw [hs]
theorem P2.acked (p : P2 base h X Y sx ax lx sy ay ly) {k : Int} (h0 : ax ≤ k) (h1 : k ≤ sx) : Valid Try.prog 19 [ptr X 0, .int .i64 k] h fun r h' => r = .int .i64 0 ∧ P2 base h' X Y sx k lx sy ay ly := by
  obtain ⟨slX, slY, ⟨rX, EX⟩, EY, a, b, c, d, f, g, i, j, q, l⟩ := p
  refine (acked_ok EX h0 h1).mono ?_
  rintro r h' ⟨rfl, sl', rows', E', hl, hf, hn⟩
  exact ⟨rfl, P2.act EX slY EY a b c d f g i j q l ⟨rows', E'⟩ hl (fun B hB hne _ => hf B hB hne) hn⟩
end
end Go.Proofs.Ytjhpohgghbimcaa
