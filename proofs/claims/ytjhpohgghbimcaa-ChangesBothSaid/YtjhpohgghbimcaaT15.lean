import Derived.Test.YtjhpohgghbimcaaT8
import Derived.Test.YtjhpohgghbimcaaAiZ
set_option linter.unusedVariables false
set_option linter.unusedSimpArgs false
namespace Go.Proofs.Ytjhpohgghbimcaa
open Go Go.Ai Go.Proofs

/-- a slice of items that is appended to -/
def RX (h : AHeap) (sl : Value) (n : Nat) (rows : List Value) : Prop := rows.length = n * 8 ∧ ((sl = .slice none 0 0 ∧ n = 0) ∨ ∃ A c, sl = .slice (some ⟨A, 0, none⟩) n c ∧ h[A]? = some (some ⟨true, rows⟩) ∧ (c = unk + 8 ∨ (n = 0 ∧ c = 0)))
theorem RX.ret {h : AHeap} {sl : Value} {n : Nat} {rows : List Value} (r : RX h sl n rows) : Ret 8 h sl n rows := by
  rcases r with ⟨h1, h2 | ⟨A, c, rfl, h3, rfl | ⟨rfl, rfl⟩⟩⟩
  · exact ⟨h1, .inl h2⟩
  · exact ⟨h1, .inr (.inr ⟨A, rfl, h3⟩)⟩
  · exact ⟨h1, .inr (.inl ⟨A, rfl, rfl⟩)⟩
theorem RX.block {h : AHeap} {sl : Value} {n : Nat} {rows : List Value} (r : RX h sl n rows) {A : Nat} (hA : slB sl = some A) : h[A]? = some (some ⟨true, rows⟩) := by
  rcases r with ⟨h1, ⟨rfl, _⟩ | ⟨B, c, rfl, h3, _⟩⟩
  · cases hA
  · simp [slB] at hA; subst hA; exact h3
theorem RX.keep {h h' : AHeap} {sl : Value} {n : Nat} {rows : List Value} (r : RX h sl n rows) (hk : ∀ A, slB sl = some A → h'[A]? = h[A]?) : RX h' sl n rows := by
  rcases r with ⟨h1, h2 | ⟨A, c, rfl, h3, h4⟩⟩
  · exact ⟨h1, .inl h2⟩
  · exact ⟨h1, .inr ⟨A, c, rfl, by rw [hk A rfl]; exact h3, h4⟩⟩

/-- an end that has retained items -/
structure E16 (h : AHeap) (X : Nat) (st sent acked last since : Int) (sl : Value) (n : Nat) (rows : List Value) : Prop where
  obj : h[X]? = some (some ⟨true, endC st sent acked last since sl⟩)
  ret : RX h sl n rows
  its : Its h (acked + 1) n rows
  num : sent = acked + n
  a0 : 0 ≤ acked
  s1 : sent ≤ 300

theorem E16.slX {h : AHeap} {X : Nat} {st sent acked last since : Int} {sl : Value} {n : Nat} {rows : List Value} (E : E16 h X st sent acked last since sl n rows) : slB sl ≠ some X := fun e => by
  have h1 := E.ret.block e
  rw [E.obj] at h1
  simp only [Option.some.injEq, AObj.mk.injEq, true_and] at h1
  have := congrArg List.length h1
  have hl := E.ret.1
  simp [endC] at this
  omega
/-- what other acts leave alone -/
theorem E16.keep {h h' : AHeap} {X : Nat} {st sent acked last since : Int} {sl : Value} {n : Nat} {rows : List Value} (E : E16 h X st sent acked last since sl n rows) {S : Nat → Prop} (hk : ∀ B, B < h.length → ¬ S B → h'[B]? = h[B]?) (hX : ¬ S X) (hs : ∀ A, slB sl = some A → ¬ S A)
    (hd : ∀ B l, h[B]? = some (some ⟨true, l⟩) → l.length = 2 → ¬ S B) : E16 h' X st sent acked last since sl n rows :=
  ⟨by rw [hk X (lt_of_get E.obj) hX]; exact E.obj, E.ret.keep fun A hA => hk A (lt_of_get (E.ret.block hA)) (hs A hA),
    ⟨E.its.1, fun i hi => by obtain ⟨B, h1, h2⟩ := E.its.2 i hi; exact ⟨B, h1, by rw [hk B (lt_of_get h2) (hd B _ h2 rfl)]; exact h2⟩⟩, E.num, E.a0, E.s1⟩
theorem E16.put {h : AHeap} {X : Nat} {st sent acked last since st' last' since' : Int} {sl : Value} {n : Nat} {rows : List Value} (E : E16 h X st sent acked last since sl n rows) : E16 (h.set X (some ⟨true, endC st' sent acked last' since' sl⟩)) X st' sent acked last' since' sl n rows := by
  have hg : ∀ B, B ≠ X → (h.set X (some ⟨true, endC st' sent acked last' since' sl⟩))[B]? = h[B]? := fun B hB => set_ne (Ne.symm hB) _
  refine ⟨set_same E.obj _, E.ret.keep fun A hA => hg A (fun e => E.slX (by rw [hA, e])), ⟨E.its.1, fun i hi => ?_⟩, E.num, E.a0, E.s1⟩
  obtain ⟨B, h1, h2⟩ := E.its.2 i hi
  have hne : B ≠ X := fun e => by rw [e, E.obj] at h2; simp [endC, dataOf] at h2
  exact ⟨B, h1, by rw [hg B hne]; exact h2⟩

theorem getN_app_left {l r : List Value} {off n : Nat} (h : off + n ≤ l.length) : getN (l ++ r) off n = getN l off n := by
  cases e : getN l off n with
  | none =>
    exfalso
    have := (getN_eq n l off ((l.drop off).take n)).2 ⟨by split <;> omega, rfl⟩
    rw [e] at this; cases this
  | some x =>
    obtain ⟨h1, rfl⟩ := (getN_eq _ _ _ _).1 e
    refine (getN_eq _ _ _ _).2 ⟨by simp; split <;> omega, ?_⟩
    rw [List.drop_append_of_le_length (by omega), List.take_append_of_le_length (by simp; omega)]

set_option maxHeartbeats 1000000 in
/-- Send of the next item -/
theorem sendK_ok {h : AHeap} {X D : Nat} {sent acked last since : Int} {sl : Value} {n : Nat} {rows : List Value} {k : Int} (E : E16 h X 0 sent acked last since sl n rows) (hn : sent < 300) (hk : k = sent + 1) (hD : h[D]? = some (some ⟨true, dataOf k⟩)) :
    Valid Try.prog 9 [ptr X 0, .agg (itC k 5 0 0 0 0 0 (.slice (some ⟨D, 0, none⟩) 2 2)).toArray] h fun r h' => r = .tuple #[.int .i64 k, .int .i64 0] ∧ ∃ sl' rows', E16 h' X 0 k acked last since sl' (n + 1) rows' ∧ h.length ≤ h'.length ∧ (∃ A, slB sl' = some A ∧ h.length ≤ A) ∧
      ∀ B, B < h.length → B ≠ X → slB sl ≠ some B → h'[B]? = h[B]? := by
  have hDX : X ≠ D := fun e => by rw [← e, E.obj] at hD; simp [endC, dataOf] at hD
  have hnum := E.num
  have ha0 := E.a0
  refine (send_ok E.obj E.ret.ret (by omega) E.slX (fun A hA => lt_of_get (E.ret.block hA)) (drows := dataOf k) ?_ (by omega) (fun ad ha => by cases ha; exact hDX)).mono ?_
  · simp only [firstV]
    rw [if_neg (by decide)]
    simp only [ne_eq, not_true_eq_false, if_false, cellsAt, hD, Option.bind_some]
    rfl
  rintro r h' ⟨rfl, hl, sl', d', h1, h2, ⟨A', h3, h3'⟩, h4, h5⟩
  have hw : IntKind.i64.wrap (sent + 1) = k := by rw [i64_wrap] <;> omega
  rw [hw] at h1 ⊢
  refine ⟨rfl, sl', _, ⟨h1, ⟨h2.1, ?_⟩, ⟨h2.1, fun i hi => ?_⟩, by omega, ha0, by omega⟩, hl, ⟨A', h3, h3'⟩, h5⟩
  · rcases h2 with ⟨_, ⟨rfl, h0⟩ | ⟨A, rfl, h0⟩ | ⟨A, rfl, hA⟩⟩
    · cases h0
    · cases h0
    · exact .inr ⟨A, _, rfl, hA, .inl rfl⟩
  · have hrl := E.ret.1
    rcases Nat.lt_or_ge i n with hin | hin
    · obtain ⟨B, g1, g2⟩ := E.its.2 i hin
      refine ⟨B, by rw [getN_app_left (by rw [hrl]; omega)]; exact g1, ?_⟩
      rw [h5 B (lt_of_get g2) (fun e => by rw [e, E.obj] at g2; simp [endC, dataOf] at g2) (fun e => by
        rw [E.ret.block e] at g2
        simp only [Option.some.injEq, AObj.mk.injEq, true_and] at g2
        have := congrArg List.length g2
        rw [hrl] at this; simp [dataOf] at this; omega)]
      exact g2
    · have : i = n := by omega
      subst this
      rcases h4 with ⟨_, h4⟩ | ⟨B, m, rfl, h6, h7, h8, h9⟩
      · cases h4
      · have hm : m = 2 := by simpa [dataOf] using h7.symm
        subst hm
        have hki : k = acked + 1 + i := by omega
        subst hki
        refine ⟨B, ?_, h9 (by decide)⟩
        refine (getN_eq _ _ _ _).2 ⟨by simp [hrl, itC], ?_⟩
        rw [← hrl, List.drop_left]
        rfl
end Go.Proofs.Ytjhpohgghbimcaa
