import Derived.Test.YtjpjnidgcmkdbaaN1
set_option linter.unusedVariables false
set_option linter.unusedSimpArgs false
namespace Go.Proofs.Ytjpjnidgcmkdbaa
open Go Go.Ai Go.Proofs

/-- within a round: behind the act, both ways filled -/
structure Mid (m : Int) (n i L : Nat) (cs ds : List Cir) (th bk : List Msg) : Prop where
  c1 : cs.length = n
  d1 : ds.length = n
  c2 : ∀ c ∈ cs, goodC (i + 1) c
  d2 : ∀ d ∈ ds, d.st = 0
  t1 : ∀ x ∈ th, okA i n x
  b1 : ∀ x ∈ bk, x.kind = 2 ∧ x.good = false ∧ 0 ≤ x.code ∧ x.code < (n : Int)
  e : ∀ k c d, cs[k]? = some c → ds[k]? = some d → eff th k d.lp = run c
  b2 : bk.length ≤ 1
  w1 : i < L → 11 * th.length + 3 * PHI m cs ≤ 32 * (i + 1)
  w2 : L ≤ i → th.length ≤ 174 - (i - L)
theorem Net.mid {m : Int} {n i L : Nat} {cs cs' ds : List Cir} {th bk bo new : List Msg} (S : Net m i n i L cs ds th bk bo) (A : Act m i n cs cs' new) (hL : L ≤ i → new = []) : Mid m n i L cs' ds (th ++ new) (bk ++ bo) := by
  refine ⟨A.len.trans S.c1, S.d1, A.good, S.d2, fun x hx => ?_, S.b1, fun k c' d hc' hd => ?_, by rw [List.length_append]; exact S.b2, fun hi => ?_, fun hi => ?_⟩
  · rcases List.mem_append.1 hx with hx | hx
    · exact S.t1 x hx
    · exact A.ok x hx
  · have hk : k < cs.length := by have := (List.getElem?_eq_some_iff.1 hc').1; rw [A.len] at this; exact this
    have hc := List.getElem?_eq_getElem hk
    rw [eff_app, S.e k _ d hc hd]
    exact A.eff k _ c' hc hc'
  · have := S.w1 (by omega)
    have := A.cost
    rw [List.length_append]; omega
  · rw [hL hi, List.append_nil]; exact S.w2 hi
theorem Mid.late {m : Int} {n i L : Nat} {cs ds : List Cir} {th bk : List Msg} (S : Mid m n i L cs ds th bk) (hi : i < L) (hL : L ≤ 60) : Net m (i + 1) n (i + 1) L cs ds th bk [] := by
  have hw := S.w1 hi
  exact ⟨S.c1, S.d1, S.c2, S.d2, S.t1, by simpa using S.b1, S.e, by simpa using S.b2, fun h => by omega, fun _ => hw, fun h => by omega⟩
/-- the far end hears the first message of its way -/
def hB (ds : List Cir) : List Msg → List Cir × List Msg × List Msg
  | [] => (ds, [], [])
  | x :: xs => ((actOn ds (x.kind + 2) x.code x.good).1, xs, (actOn ds (x.kind + 2) x.code x.good).2)
def hA (cs : List Cir) : List Msg → List Cir × List Msg
  | [] => (cs, [])
  | y :: ys => ((actOn cs (y.kind + 2) y.code y.good).1, ys)
theorem hear_far {N n : Nat} {ds : List Cir} {x : Msg} (hx : okA N n x) (hd : ds.length = n) : ∃ k d, x.code = (k : Nat) ∧ k < n ∧ ds[k]? = some d ∧ actOn ds (x.kind + 2) x.code x.good = (ds.set k ⟨d.st, d.age, d.tries, decide (x.kind = 1)⟩, if x.kind = 1 then [⟨2, (k : Nat), false⟩] else []) := by
  obtain ⟨h0, h1, h2⟩ := hx
  obtain ⟨k, hk⟩ : ∃ k : Nat, x.code = k := ⟨x.code.toNat, by omega⟩
  have hkn : k < n := by omega
  have hdk := List.getElem?_eq_getElem (l := ds) (i := k) (by omega)
  refine ⟨k, _, hk, hkn, hdk, ?_⟩
  rw [hk, actOn_in (c := ds[k]'(by omega)) (by omega) (by omega) (by simp)]
  simp only [Int.toNat_natCast]
  obtain ⟨kd, code, good⟩ := x
  simp only at h2 hk ⊢
  rcases h2 with rfl | ⟨rfl, rfl⟩
  · have hb : ¬ badM (3 + 2 - 2) good := by unfold badM; simp
    unfold actC
    rw [if_neg (by decide), if_neg (by decide), if_neg (by decide), if_neg hb]
    simp [hearC, hearM]
  · have hb : ¬ badM (1 + 2 - 2) false := by unfold badM; simp
    unfold actC
    rw [if_neg (by decide), if_neg (by decide), if_neg (by decide), if_neg hb]
    simp [hearC, hearM]
theorem hear_near {n : Nat} {cs : List Cir} {y : Msg} (hy : y.kind = 2 ∧ y.good = false ∧ 0 ≤ y.code ∧ y.code < (n : Int)) (hc : cs.length = n) : ∃ k c c', k < n ∧ cs[k]? = some c ∧ actOn cs (y.kind + 2) y.code y.good = (cs.set k c', []) ∧ run c' = run c ∧ c'.lp = c.lp ∧ c'.tries = c.tries ∧ ∀ m, phi m c' = phi m c := by
  obtain ⟨h2, h3, h0, h1⟩ := hy
  obtain ⟨k, hk⟩ : ∃ k : Nat, y.code = k := ⟨y.code.toNat, by omega⟩
  have hkn : k < n := by omega
  have hck := List.getElem?_eq_getElem (l := cs) (i := k) (by omega)
  rw [h2, h3, hk, actOn_in (c := cs[k]'(by omega)) (by omega) (by omega) (by simp)]
  simp only [Int.toNat_natCast]
  have hb : ¬ badM (2 + 2 - 2) false := by unfold badM; simp
  generalize cs[k]'(by omega) = c at hck ⊢
  refine ⟨k, c, hearC c 2, hkn, hck, ?_, ?_⟩
  · unfold actC
    rw [if_neg (by decide), if_neg (by decide), if_neg (by decide), if_neg hb]
    simp [hearM]
  · unfold hearC
    rw [if_neg (by decide), if_neg (by decide)]
    by_cases h : c.st = 1
    · rw [if_pos h]
      refine ⟨by simp [run, h], rfl, rfl, fun m => ?_⟩
      unfold phi
      rw [if_pos (.inr rfl), if_pos (.inl h)]
    · rw [if_neg h]
      exact ⟨rfl, rfl, rfl, fun _ => rfl⟩
theorem hA_same {n : Nat} {cs : List Cir} {bk : List Msg} (hb : ∀ x ∈ bk, x.kind = 2 ∧ x.good = false ∧ 0 ≤ x.code ∧ x.code < (n : Int)) (hc : cs.length = n) : (hA cs bk).1.length = n ∧ (∀ m, PHI m (hA cs bk).1 = PHI m cs) ∧ ∀ (k : Nat) (c' : Cir), (hA cs bk).1[k]? = some c' → ∃ c : Cir, cs[k]? = some c ∧ run c' = run c ∧ c'.lp = c.lp ∧ c'.tries = c.tries := by
  cases bk with
  | nil => exact ⟨hc, fun _ => rfl, fun k c' h => ⟨c', h, rfl, rfl, rfl⟩⟩
  | cons y ys =>
    obtain ⟨k, c, c', hk, hck, e1, e2, e3, e4, e5⟩ := hear_near (hb y (by simp)) hc
    simp only [hA, e1]
    refine ⟨by simpa using hc, fun m => ?_, fun j d hj => ?_⟩
    · have := PHI_set (m := m) (e := c') hck
      rw [e5 m] at this
      omega
    · by_cases hkj : k = j
      · subst hkj
        rw [List.getElem?_set_self (by omega)] at hj; cases hj
        exact ⟨c, hck, e2, e3, e4⟩
      · rw [List.getElem?_set_ne hkj] at hj
        exact ⟨d, hj, rfl, rfl, rfl⟩
theorem Mid.next {m : Int} {n i L : Nat} {cs ds : List Cir} {th bk : List Msg} (S : Mid m n i L cs ds th bk) (hL : L ≤ 60) : Net m (i + 1) n (i + 1) L (hA cs bk).1 (hB ds th).1 (hB ds th).2.1 (hA cs bk).2 (hB ds th).2.2 := by
  obtain ⟨a1, a2, a3⟩ := hA_same S.b1 S.c1
  have hbk : (hA cs bk).2 = [] := by
    have := S.b2
    cases bk with
    | nil => rfl
    | cons y ys => cases ys with
      | nil => rfl
      | cons z zs => simp at this
  have hc2 : ∀ c ∈ (hA cs bk).1, goodC (i + 1) c := fun c hc => by
    obtain ⟨k, hk⟩ := List.getElem?_of_mem hc
    obtain ⟨d, hd, e1, e2, e3⟩ := a3 k c hk
    obtain ⟨g1, g2, g3⟩ := S.c2 d (List.mem_of_getElem? hd)
    exact ⟨by rw [e2]; exact g1, by rw [e3]; exact g2, by rw [e3]; exact g3⟩
  rw [hbk]
  cases th with
  | nil =>
    refine ⟨a1, S.d1, hc2, S.d2, by simp [hB], by simp [hB], fun k c d hc hd => ?_, by simp [hB], fun _ => rfl, fun h => ?_, fun _ => by simp [hB]⟩
    · obtain ⟨c0, h0, e1, -⟩ := a3 k c hc
      rw [e1]; exact S.e k c0 d h0 hd
    · have := S.w1 (by omega)
      rw [a2]; simp [hB] at this ⊢; omega
  | cons x xs =>
    have hx := S.t1 x (by simp)
    obtain ⟨k, d, x1, x2, x3, x4⟩ := hear_far hx S.d1
    simp only [hB, x4]
    refine ⟨a1, by simpa using S.d1, hc2, fun y hy => ?_, fun y hy => S.t1 y (by simp [hy]), fun y hy => ?_, fun j c d' hc hd => ?_, ?_, fun _ => rfl, fun h => ?_, fun h => ?_⟩
    · obtain ⟨j, hj⟩ := List.getElem?_of_mem hy
      by_cases hkj : k = j
      · subst hkj
        rw [List.getElem?_set_self (by have := S.d1; omega)] at hj; cases hj
        exact S.d2 d (List.mem_of_getElem? x3)
      · rw [List.getElem?_set_ne hkj] at hj
        exact S.d2 y (List.mem_of_getElem? hj)
    · simp only [List.nil_append] at hy
      split at hy
      · simp at hy; subst hy; exact ⟨rfl, rfl, by show (0 : Int) ≤ k; omega, by show (k : Int) < n; omega⟩
      · simp at hy
    · obtain ⟨c0, h0, e1, -⟩ := a3 j c hc
      rw [e1]
      by_cases hkj : k = j
      · subst hkj
        rw [List.getElem?_set_self (by have := S.d1; omega)] at hd; cases hd
        have := S.e k c0 d h0 x3
        simp only [eff] at this
        rw [if_pos x1] at this
        exact this
      · rw [List.getElem?_set_ne hkj] at hd
        have := S.e j c0 d' h0 hd
        simp only [eff] at this
        rw [if_neg (by omega)] at this
        exact this
    · split <;> simp
    · have := S.w1 (by omega)
      rw [a2]; simp only [List.length_cons] at this; omega
    · rcases Nat.lt_or_ge i L with hi | hi
      · have := S.w1 hi
        simp only [List.length_cons] at this; omega
      · have := S.w2 hi
        simp only [List.length_cons] at this; omega
theorem Net.end_ {m : Int} {n L : Nat} {cs ds : List Cir} {th bk bo : List Msg} (S : Net m (L + 200) n (L + 200) L cs ds th bk bo) : th = [] ∧ bk = [] ∧ ∀ (k : Nat) (c d : Cir), cs[k]? = some c → ds[k]? = some d → d.lp = run c ∧ c.lp = false ∧ d.st = 0 := by
  have h1 := S.w2 (by omega)
  have ht : th = [] := List.eq_nil_of_length_eq_zero (by omega)
  refine ⟨ht, S.b3 (by omega), fun k c d hc hd => ⟨?_, (S.c2 c (List.mem_of_getElem? hc)).1, S.d2 d (List.mem_of_getElem? hd)⟩⟩
  have := S.e k c d hc hd
  rw [ht] at this
  exact this
end Go.Proofs.Ytjpjnidgcmkdbaa
