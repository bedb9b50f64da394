import Derived.Test.YtemphcppnjlkcaaM3
import Derived.Test.YtemphcppnjlkcaaM2
set_option linter.unusedVariables false
set_option linter.unusedSimpArgs false
namespace Go.Proofs.Ytemphcppnjlkcaa
open Go Go.Ai Go.Proofs

/-- the blocks that a line makes -/
def Dyn (sl : Value) (us : List Bu) (A : Nat) : Prop := slB sl = some A ∨ ∃ u ∈ us, slB u.v = some A
/-- two lines; H1: the heap when they were new; Pr: what else must stay -/
structure TW (H1 h : AHeap) (Pr : List (Nat × Option AObj)) (X : Nat) (dl now sent wt : Int) (l : List Nz) (nq : Option Addr) (nc : Nat) (sl : Value) (us : List Bu) (X' : Nat) (now' sent' wt' : Int) (l' : List Nz) (nq' : Option Addr) (nc' : Nat) (sl' : Value) (us' : List Bu) : Prop where
  a : LineAt h X dl now sent wt l nq nc sl us
  b : LineAt h X' dl now' sent' wt' l' nq' nc' sl' us'
  len : H1.length ≤ h.length
  keep : ∀ B, B < H1.length → B ≠ X → B ≠ X' → h[B]? = H1[B]?
  x : X < H1.length
  x' : X' < H1.length
  ne : X ≠ X'
  n : ∀ c, nq = some c → c.block < H1.length ∧ c.block ≠ X'
  n' : ∀ c, nq' = some c → c.block < H1.length ∧ c.block ≠ X
  u : ∀ A, Dyn sl us A → H1.length ≤ A
  u' : ∀ A, Dyn sl' us' A → H1.length ≤ A
  s : ∀ A, Dyn sl us A → ¬ Dyn sl' us' A
  p : ∀ y, y ∈ Pr → h[y.1]? = some y.2 ∧ ¬ Dyn sl us y.1 ∧ ¬ Dyn sl' us' y.1 ∧ y.1 ≠ X ∧ y.1 ≠ X'
section
variable {H1 h h' : AHeap} {Pr : List (Nat × Option AObj)} {X : Nat} {dl now sent wt : Int} {l : List Nz} {nq : Option Addr} {nc : Nat} {sl : Value} {us : List Bu} {X' : Nat} {now' sent' wt' : Int} {l' : List Nz} {nq' : Option Addr} {nc' : Nat} {sl' : Value} {us' : List Bu}
theorem TW.swap (T : TW H1 h Pr X dl now sent wt l nq nc sl us X' now' sent' wt' l' nq' nc' sl' us') : TW H1 h Pr X' dl now' sent' wt' l' nq' nc' sl' us' X now sent wt l nq nc sl us :=
  ⟨T.b, T.a, T.len, fun B hB h1 h2 => T.keep B hB h2 h1, T.x', T.x, T.ne.symm, T.n', T.n, T.u', T.u, fun A h1 h2 => T.s A h2 h1, fun y hy => ⟨(T.p y hy).1, (T.p y hy).2.2.1, (T.p y hy).2.1, (T.p y hy).2.2.2.2, (T.p y hy).2.2.2.1⟩⟩
theorem TW.ltd (T : TW H1 h Pr X dl now sent wt l nq nc sl us X' now' sent' wt' l' nq' nc' sl' us') {A : Nat} (hA : Dyn sl us A) : A < h.length := by
  rcases hA with hA | ⟨u, hu, hA⟩
  · exact (T.a.ult A hA).2
  · exact ((T.a.bits u hu).2 A hA).2.2
theorem TW.ext (T : TW H1 h Pr X dl now sent wt l nq nc sl us X' now' sent' wt' l' nq' nc' sl' us') (e : Ext h h') : TW H1 h' Pr X dl now sent wt l nq nc sl us X' now' sent' wt' l' nq' nc' sl' us' :=
  ⟨T.a.ext e, T.b.ext e, Nat.le_trans T.len e.1, fun B hB h1 h2 => by rw [e.2 B (Nat.lt_of_lt_of_le hB T.len), T.keep B hB h1 h2], T.x, T.x', T.ne, T.n, T.n', T.u, T.u', T.s, fun y hy => ⟨e.get (T.p y hy).1, (T.p y hy).2⟩⟩
/-- what must stay from now on -/
theorem TW.hold (T : TW H1 h Pr X dl now sent wt l nq nc sl us X' now' sent' wt' l' nq' nc' sl' us') {Pr' : List (Nat × Option AObj)} (hp : ∀ y, y ∈ Pr' → h[y.1]? = some y.2 ∧ ¬ Dyn sl us y.1 ∧ ¬ Dyn sl' us' y.1 ∧ y.1 ≠ X ∧ y.1 ≠ X') : TW H1 h Pr' X dl now sent wt l nq nc sl us X' now' sent' wt' l' nq' nc' sl' us' :=
  ⟨T.a, T.b, T.len, T.keep, T.x, T.x', T.ne, T.n, T.n', T.u, T.u', T.s, hp⟩
/-- the first line acts -/
theorem TW.act (T : TW H1 h Pr X dl now sent wt l nq nc sl us X' now' sent' wt' l' nq' nc' sl' us') {now2 sent2 wt2 : Int} {sl2 : Value} {us2 : List Bu} (L : LineAt h' X dl now2 sent2 wt2 l nq nc sl2 us2) (f : FrL h h' X sl)
    (hu : ∀ A, Dyn sl2 us2 A → Dyn sl us A ∨ h.length ≤ A) : TW H1 h' Pr X dl now2 sent2 wt2 l nq nc sl2 us2 X' now' sent' wt' l' nq' nc' sl' us' := by
  have hx := T.x
  have hx' := T.x'
  have hlen := T.len
  have hf : ∀ B, B < h.length → B ≠ X → ¬ Dyn sl us B → h'[B]? = h[B]? := fun B hB h1 h2 => f.2 B hB h1 fun e => h2 (.inl e)
  refine ⟨L, T.b.keepFP f.1 fun B hB => ?_, Nat.le_trans T.len f.1, fun B hB h1 h2 => ?_, hx, hx', T.ne, T.n, T.n', fun A hA => ?_, T.u', fun A hA hA2 => ?_, fun y hy => ?_⟩
  · have hlt := T.b.fp_lt hB
    rcases hB with rfl | hB | ⟨c, hc, rfl⟩ | hB
    · exact hf _ hlt T.ne.symm fun hd => by have := T.u _ hd; omega
    · exact hf B hlt (fun e => by have := T.u' B (.inl hB); omega) fun hd => T.s B hd (.inl hB)
    · exact hf _ hlt (T.n' c hc).2 fun hd => by have := T.u _ hd; have := (T.n' c hc).1; omega
    · exact hf B hlt (fun e => by have := T.u' B (.inr hB); omega) fun hd => T.s B hd (.inr hB)
  · rw [hf B (by omega) h1 fun hd => by have := T.u B hd; omega]; exact T.keep B hB h1 h2
  · rcases hu A hA with h1 | h1
    · exact T.u A h1
    · omega
  · rcases hu A hA with h1 | h1
    · exact T.s A h1 hA2
    · have := T.swap.ltd hA2; omega
  · obtain ⟨p1, p2, p3, p4, p5⟩ := T.p y hy
    have hlt := lt_of_get p1
    refine ⟨by rw [hf y.1 hlt p4 p2]; exact p1, fun hd => ?_, p3, p4, p5⟩
    rcases hu y.1 hd with h1 | h1
    · exact p2 h1
    · omega
theorem TW.tick (T : TW H1 h Pr X dl now sent wt l nq nc sl us X' now' sent' wt' l' nq' nc' sl' us') (hd : dl ≠ 0) (h0 : 0 ≤ now) (h1 : now < 1048576) :
    Valid Try.prog 15 [ptr X 0] h fun r h' => r = .int .i64 0 ∧ TW H1 h' Pr X dl (now + 1) sent wt l nq nc sl us X' now' sent' wt' l' nq' nc' sl' us' := by
  refine (tick_ok T.a hd h0 h1).mono ?_
  rintro r h' ⟨rfl, L, hl, hf⟩
  exact ⟨rfl, T.act L ⟨by omega, fun B hB h1 _ => hf B h1⟩ fun A hA => .inl hA⟩
theorem TW.take (T : TW H1 h Pr X dl now sent wt l nq nc sl us X' now' sent' wt' l' nq' nc' sl' us') (hbs : (bitsU us).length ≤ 1048576) (hul : us.length ≤ 1048576) (hw0 : 0 ≤ wt) (hw1 : wt ≤ 1048576) :
    Valid Try.prog 17 [ptr X 0] h fun r h' => ∃ sl2 q, TW H1 h' Pr X dl now sent (wt - (bitsU (ripe us now)).length) l nq nc sl2 (us.drop (ripe us now).length) X' now' sent' wt' l' nq' nc' sl' us' ∧
      r = .slice q (bitsU (ripe us now)).length (bitsU (ripe us now)).length ∧ firstV 1 h' (bitsU (ripe us now)).length r = some (bR (bitsU (ripe us now))) ∧ (∀ a, q = some a → h.length ≤ a.block) ∧ ∀ A, Dyn sl2 (us.drop (ripe us now).length) A → A < h.length := by
  refine (take_ok2 T.a hbs hul hw0 hw1).mono ?_
  rintro r h' ⟨usl', q, L, f, hu, hr, hf, hq⟩
  have hd : ∀ A, Dyn usl' (us.drop (ripe us now).length) A → Dyn sl us A := fun A hA => by
    rcases hA with hA | ⟨u, hu2, hA⟩
    · exact .inl (by rw [← hu]; exact hA)
    · exact .inr ⟨u, List.mem_of_mem_drop hu2, hA⟩
  exact ⟨usl', q, T.act L f fun A hA => .inl (hd A hA), hr, hf, hq, fun A hA => T.ltd (hd A hA)⟩
theorem TW.send (T : TW H1 h Pr X dl now sent wt l nq nc sl us X' now' sent' wt' l' nq' nc' sl' us') {qs : Option Addr} {n cs : Nat} {zs : List Int} (hd : dl ≠ 0) (hll : l.length ≤ 1024) (hs : firstV 1 h n (.slice qs n cs) = some (bR zs)) (hp : ∀ z ∈ zs, 0 ≤ z) (hc : checkV zs = 0) (hnz : ∀ x ∈ l, 0 ≤ x.bit)
    (hw0 : 0 ≤ wt) (hw1 : wt ≤ 1048576) (hf : ¬ 1048576 < wt + (remZ l sent zs).length) (hd0 : 0 ≤ dl) (hd1 : dl ≤ 64) (hn0 : 0 ≤ now) (hn1 : now ≤ 1048576) (hs0 : 0 ≤ sent) (hs1 : sent ≤ 1048576) (hus : us.length ≤ 1048576) :
    Valid Try.prog 14 [ptr X 0, .slice qs n cs] h fun r h' => r = .int .i64 0 ∧ ∃ sl2 v, TW H1 h' Pr X dl now (sent + 1) (wt + (remZ l sent zs).length) l nq nc sl2 (us ++ [⟨now + dl, v, remZ l sent zs⟩]) X' now' sent' wt' l' nq' nc' sl' us' := by
  refine (send_ok T.a hd hll hs hp hc hnz hw0 hw1 hf hd0 hd1 hn0 hn1 hs0 hs1 hus).mono ?_
  rintro r h' ⟨rfl, usl', v, L, f, ⟨A, hA, hle⟩, hv⟩
  refine ⟨rfl, usl', v, T.act L f fun B hB => ?_⟩
  rcases hB with hB | ⟨u, hu, hB⟩
  · rw [hA] at hB; cases hB; exact .inr hle
  · rcases List.mem_append.1 hu with hu | hu
    · exact .inl (.inr ⟨u, hu, hB⟩)
    · simp at hu; subst hu; exact .inr (hv B hB)
end
theorem remZ_len2 (l : List Nz) (sent : Int) (zs : List Int) : (remZ l sent zs).length ≤ 2 * zs.length := by
  have := flipZ_len l sent zs
  unfold remZ; split
  · simp
  · split
    · simp; omega
    · omega

/-- one disturbance more changes its own burst alone -/
theorem remZ_more {l : List Nz} {x : Nz} {sent : Int} {zs : List Int} (h : x.at_ ≠ sent) : remZ (l ++ [x]) sent zs = remZ l sent zs := by
  have hh : ∀ k, hasN (l ++ [x]) sent k ↔ hasN l sent k := fun k => by
    constructor
    · rintro ⟨y, hy, h1, h2⟩
      rcases List.mem_append.1 hy with hy | hy
      · exact ⟨y, hy, h1, h2⟩
      · simp at hy; subst hy; exact absurd h1 h
    · rintro ⟨y, hy, h1⟩
      exact ⟨y, by simp [hy], h1⟩
  have hz : flipZ (l ++ [x]) sent zs = flipZ l sent zs := by
    unfold flipZ
    rw [List.foldl_append]
    simp only [List.foldl_cons, List.foldl_nil]
    unfold flip1
    rw [if_neg fun h1 => h h1.1]
  unfold remZ
  simp only [hh, hz]
end Go.Proofs.Ytemphcppnjlkcaa
