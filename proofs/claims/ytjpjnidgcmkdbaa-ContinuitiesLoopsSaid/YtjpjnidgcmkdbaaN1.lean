import Derived.Test.YtjpjnidgcmkdbaaT11
set_option linter.unusedVariables false
set_option linter.unusedSimpArgs false
namespace Go.Proofs.Ytjpjnidgcmkdbaa
open Go Go.Ai Go.Proofs

/-- a test is under way at the near end -/
def run (c : Cir) : Bool := decide (c.st = 1 ∨ c.st = 2)
/-- what a list of messages makes of a circuit's loop -/
def eff : List Msg → Nat → Bool → Bool
  | [], _, b => b
  | x :: ms, k, b => eff ms k (if x.code = (k : Int) then decide (x.kind = 1) else b)
theorem eff_app (k : Nat) : ∀ (a c : List Msg) (b : Bool), eff (a ++ c) k b = eff c k (eff a k b)
  | [], _, _ => rfl
  | _ :: a, c, b => eff_app k a c _
/-- messages that a circuit's test will still send by itself -/
def phi (m : Int) (c : Cir) : Nat := if c.st = 1 ∨ c.st = 2 then 1 + 2 * (m - c.tries).toNat else if c.st = 3 then 2 + 2 * (m - c.tries - 1).toNat else 0
def PHI (m : Int) (cs : List Cir) : Nat := (cs.map (phi m)).sum
theorem PHI_set {m : Int} {c e : Cir} : ∀ {cs : List Cir} {i : Nat}, cs[i]? = some c → PHI m (cs.set i e) + phi m c = PHI m cs + phi m e
  | [], _, h => by simp at h
  | d :: cs, 0, h => by simp at h; subst h; simp [PHI]; omega
  | d :: cs, i + 1, h => by
    have := PHI_set (m := m) (c := c) (e := e) (cs := cs) (i := i) (by simpa using h)
    simp [PHI] at this ⊢; omega
def okA (N n : Nat) (x : Msg) : Prop := 0 ≤ x.code ∧ x.code < (n : Int) ∧ (x.kind = 3 ∨ (x.kind = 1 ∧ x.good = false))
def goodC (N : Nat) (c : Cir) : Prop := c.lp = false ∧ 0 ≤ c.tries ∧ c.tries ≤ (N : Int)
theorem wrap_tries {t : Int} (h0 : 0 ≤ t) (h1 : t ≤ 100000) : IntKind.i64.wrap (t + 1) = t + 1 := by rw [i64_wrap] <;> omega
/-- a circuit's tick -/
theorem tick_one {w p m : Int} {N n k : Nat} {c : Cir} (hN : N ≤ 1000) (hk : k < n) (hg : goodC N c) :
    goodC (N + 1) (tickC w p m c) ∧ (∀ x ∈ tickM w p m c k, okA N n x) ∧ (∀ b, b = run c → eff (tickM w p m c k) k b = run (tickC w p m c)) ∧ 11 * (tickM w p m c k).length + 3 * phi m (tickC w p m c) ≤ 3 * phi m c + 8 ∧ (∀ j b, j ≠ k → eff (tickM w p m c k) j b = b) := by
  obtain ⟨g1, g2, g3⟩ := hg
  have hw := wrap_tries g2 (by omega)
  have hne : ∀ {j : Nat} {kd : Int} {g : Bool} (b : Bool), j ≠ k → eff [⟨kd, (k : Int), g⟩] j b = b := fun b hj => by
    simp only [eff]; rw [if_neg (by omega)]
  unfold tickC tickM
  by_cases h1 : 1 ≤ c.st ∧ c.st ≤ 3
  · rw [if_pos h1, if_pos h1]
    by_cases h2 : IntKind.i64.wrap (c.age + 1) < (if c.st = 3 then p else w)
    · rw [if_pos h2, if_pos h2]
      exact ⟨⟨g1, g2, by show c.tries ≤ _; omega⟩, by simp, fun b hb => hb, by simp [phi], fun j b _ => rfl⟩
    · rw [if_neg h2, if_neg h2]
      by_cases h3 : c.st = 3
      · rw [if_pos h3, if_pos h3, hw]
        refine ⟨⟨g1, by show 0 ≤ c.tries + 1; omega, by show c.tries + 1 ≤ _; omega⟩, ?_, fun b hb => by simp [eff, run], ?_, fun j b hj => hne b hj⟩
        · intro x hx
          simp at hx; subst hx
          exact ⟨by show (0 : Int) ≤ k; omega, by show (k : Int) < n; omega, .inr ⟨rfl, rfl⟩⟩
        · unfold phi
          rw [if_pos (.inl rfl), if_neg (by omega), if_pos h3]
          simp only [List.length_cons, List.length_nil]; omega
      · rw [if_neg h3, if_neg h3]
        have h12 : c.st = 1 ∨ c.st = 2 := by omega
        refine ⟨?_, ?_, fun b hb => ?_, ?_, fun j b hj => hne b hj⟩
        · split
          · exact ⟨g1, g2, by show c.tries ≤ _; omega⟩
          · exact ⟨g1, g2, by show c.tries ≤ _; omega⟩
        · intro x hx
          simp at hx; subst hx
          exact ⟨by show (0 : Int) ≤ k; omega, by show (k : Int) < n; omega, .inl rfl⟩
        · split <;> simp [eff, run]
        · by_cases ht : c.tries < m
          · rw [if_pos ht]; unfold phi
            rw [if_neg (by simp only; omega), if_pos rfl, if_pos h12]
            simp only [List.length_cons, List.length_nil]; omega
          · rw [if_neg ht]; unfold phi
            rw [if_neg (by simp only; omega), if_neg (by simp only; omega), if_pos h12]
            simp only [List.length_cons, List.length_nil]; omega
  · rw [if_neg h1, if_neg h1]
    exact ⟨⟨g1, g2, by omega⟩, by simp, fun b hb => hb, by simp, fun j b _ => rfl⟩
/-- what an act of the near end leaves -/
structure Act (m : Int) (N n : Nat) (cs cs' : List Cir) (new : List Msg) : Prop where
  len : cs'.length = cs.length
  good : ∀ c ∈ cs', goodC (N + 1) c
  ok : ∀ x ∈ new, okA N n x
  eff : ∀ k c c', cs[k]? = some c → cs'[k]? = some c' → eff new k (run c) = run c'
  cost : 11 * new.length + 3 * PHI m cs' ≤ 3 * PHI m cs + 32
theorem tickN_at (w p m : Int) (cs : List Cir) : ∀ i, i ≤ cs.length → ∀ k, (tickN w p m cs i).1[k]? = if k < i then (cs[k]?).map (tickC w p m) else cs[k]?
  | 0, _, k => by simp [tickN]
  | i + 1, hi, k => by
    have ih := tickN_at w p m cs i (by omega)
    obtain ⟨c, hc⟩ : ∃ c, cs[i]? = some c := ⟨_, List.getElem?_eq_getElem (by omega)⟩
    have hi' : (tickN w p m cs i).1[i]? = some c := by rw [ih i, if_neg (by omega)]; exact hc
    rw [tickN_some hi']
    have hl := (tickN_len w p m cs i).1
    by_cases hk : k = i
    · subst hk
      rw [if_pos (by omega), hc, List.getElem?_set_self (by omega)]; rfl
    · rw [List.getElem?_set_ne (by omega), ih k]
      by_cases hk2 : k < i
      · rw [if_pos hk2, if_pos (by omega)]
      · rw [if_neg hk2, if_neg (by omega)]
theorem tickN_pre {w p m : Int} {N n : Nat} {cs : List Cir} (hN : N ≤ 1000) (hn : cs.length = n) (hg : ∀ c ∈ cs, goodC N c) : ∀ i, i ≤ cs.length →
    (∀ x ∈ (tickN w p m cs i).2, okA N n x) ∧ (∀ k c b, cs[k]? = some c → b = run c → eff (tickN w p m cs i).2 k b = if k < i then run (tickC w p m c) else b) ∧ 11 * (tickN w p m cs i).2.length + 3 * PHI m (tickN w p m cs i).1 ≤ 3 * PHI m cs + 8 * i
  | 0, _ => ⟨by simp [tickN], fun k c b _ _ => by simp [tickN, eff], by simp [tickN]⟩
  | i + 1, hi => by
    obtain ⟨ih1, ih2, ih3⟩ := tickN_pre (w := w) (p := p) (m := m) hN hn hg i (by omega)
    obtain ⟨c, hc⟩ : ∃ c, cs[i]? = some c := ⟨_, List.getElem?_eq_getElem (by omega)⟩
    have hi' : (tickN w p m cs i).1[i]? = some c := by rw [tickN_at w p m cs i (by omega) i, if_neg (by omega)]; exact hc
    obtain ⟨t1, t2, t3, t4, t5⟩ := tick_one (w := w) (p := p) (m := m) (n := n) (k := i) hN (by omega) (hg c (List.mem_of_getElem? hc))
    rw [tickN_some hi']
    refine ⟨fun x hx => ?_, fun k d b hd hb => ?_, ?_⟩
    · rcases List.mem_append.1 hx with hx | hx
      · exact ih1 x hx
      · exact t2 x hx
    · rw [eff_app, ih2 k d b hd hb]
      by_cases hk : k = i
      · subst hk
        rw [hc] at hd; cases hd
        rw [if_neg (by omega), if_pos (by omega)]
        exact t3 b hb
      · rw [t5 k _ hk]
        by_cases hk2 : k < i
        · rw [if_pos hk2, if_pos (by omega)]
        · rw [if_neg hk2, if_neg (by omega)]
    · have := PHI_set (m := m) (e := tickC w p m c) hi'
      simp only [List.length_append]
      omega
theorem act_tick {w p m : Int} {N n : Nat} {cs : List Cir} (hN : N ≤ 1000) (hn : cs.length = n) (hn4 : n ≤ 4) (hg : ∀ c ∈ cs, goodC N c) : Act m N n cs (tickN w p m cs cs.length).1 (tickN w p m cs cs.length).2 := by
  obtain ⟨p1, p2, p3⟩ := tickN_pre (w := w) (p := p) (m := m) hN hn hg cs.length (Nat.le_refl _)
  refine ⟨(tickN_len w p m cs _).1, fun c hc => ?_, p1, fun k c c' hc hc' => ?_, by omega⟩
  · obtain ⟨k, hk⟩ := List.getElem?_of_mem hc
    have hkl : k < cs.length := by have := (List.getElem?_eq_some_iff.1 hk).1; rw [(tickN_len w p m cs _).1] at this; exact this
    rw [tickN_at w p m cs _ (Nat.le_refl _) k, if_pos hkl] at hk
    obtain ⟨d, hd⟩ : ∃ d, cs[k]? = some d := ⟨_, List.getElem?_eq_getElem hkl⟩
    rw [hd] at hk; cases hk
    exact (tick_one (w := w) (p := p) (m := m) (n := n) (k := k) hN (by omega) (hg d (List.mem_of_getElem? hd))).1
  · have hkl : k < cs.length := (List.getElem?_eq_some_iff.1 hc).1
    rw [tickN_at w p m cs _ (Nat.le_refl _) k, if_pos hkl, hc] at hc'
    cases hc'
    rw [p2 k c _ hc rfl, if_pos hkl]
/-- Start, Tone, Stop -/
theorem act_one {m : Int} {N n i : Nat} {cs : List Cir} {kind : Int} {good : Bool} (hm : m ≤ 4) (hN : N ≤ 1000) (hn : cs.length = n) (hi : i < n) (hk : kind = 0 ∨ kind = 1 ∨ kind = 2) (hg : ∀ c ∈ cs, goodC N c) : Act m N n cs (actOn cs kind (i : Int) good).1 (actOn cs kind (i : Int) good).2 := by
  obtain ⟨c, hc⟩ : ∃ c, cs[i]? = some c := ⟨_, List.getElem?_eq_getElem (by omega)⟩
  have hcg := hg c (List.mem_of_getElem? hc)
  have hin := actOn_in (k := (i : Int)) (cs := cs) (kind := kind) (good := good) (c := c) (by omega) (by omega) (by simpa using hc)
  rw [hin]
  simp only [Int.toNat_natCast]
  have key : goodC (N + 1) (actC kind i good c).1 ∧ (∀ x ∈ (actC kind i good c).2, okA N n x ∧ x.code = i) ∧ eff (actC kind i good c).2 i (run c) = run (actC kind i good c).1 ∧ 11 * (actC kind i good c).2.length + 3 * phi m (actC kind i good c).1 ≤ 3 * phi m c + 32 := by
    obtain ⟨g1, g2, g3⟩ := hcg
    have hcode : (0 : Int) ≤ i ∧ (i : Int) < n := by omega
    have same : goodC (N + 1) c ∧ (∀ x ∈ ([] : List Msg), okA N n x ∧ x.code = i) ∧ eff [] i (run c) = run c ∧ 11 * ([] : List Msg).length + 3 * phi m c ≤ 3 * phi m c + 32 := ⟨⟨g1, g2, by omega⟩, by simp, rfl, by simp⟩
    unfold actC
    rcases hk with rfl | rfl | rfl
    · rw [if_pos rfl]
      by_cases hb : c.busy
      · rw [if_pos hb]; exact same
      · rw [if_neg hb]
        refine ⟨⟨g1, by show (0 : Int) ≤ 1; omega, by show (1 : Int) ≤ _; omega⟩, ?_, by simp [eff, run], ?_⟩
        · intro x hx; simp at hx; subst hx; exact ⟨⟨hcode.1, hcode.2, .inr ⟨rfl, rfl⟩⟩, rfl⟩
        · have : phi m ⟨1, 0, 1, c.lp⟩ ≤ 7 := by unfold phi; rw [if_pos (.inl rfl)]; simp only; omega
          simp only [List.length_cons, List.length_nil]; omega
    · rw [if_neg (by decide), if_pos rfl]
      by_cases hb : c.st = 2
      · rw [if_pos hb]
        refine ⟨⟨g1, g2, by show c.tries ≤ _; omega⟩, ?_, by simp [eff, run], ?_⟩
        · intro x hx; simp at hx; subst hx; exact ⟨⟨hcode.1, hcode.2, .inl rfl⟩, rfl⟩
        · have : phi m ⟨4, 0, c.tries, c.lp⟩ = 0 := by unfold phi; rw [if_neg (by simp only; omega), if_neg (by simp only; omega)]
          simp only [List.length_cons, List.length_nil]; omega
      · rw [if_neg hb]; exact same
    · rw [if_neg (by decide), if_neg (by decide), if_pos rfl]
      have hp : phi m ⟨0, 0, c.tries, c.lp⟩ = 0 := by unfold phi; rw [if_neg (by simp only; omega), if_neg (by simp only; omega)]
      by_cases hb : c.st = 1 ∨ c.st = 2
      · rw [if_pos hb]
        refine ⟨⟨g1, g2, by show c.tries ≤ _; omega⟩, ?_, by simp [eff, run], ?_⟩
        · intro x hx; simp at hx; subst hx; exact ⟨⟨hcode.1, hcode.2, .inl rfl⟩, rfl⟩
        · simp only [List.length_cons, List.length_nil]; omega
      · rw [if_neg hb]
        refine ⟨⟨g1, g2, by show c.tries ≤ _; omega⟩, by simp, ?_, ?_⟩
        · simp [eff, run, hb]
        · simp only [List.length_nil]; omega
  obtain ⟨k1, k2, k3, k4⟩ := key
  generalize actC kind i good c = r at *
  refine ⟨by simp, fun d hd => ?_, fun x hx => (k2 x hx).1, fun k d d' hd hd' => ?_, ?_⟩
  · obtain ⟨k, hk⟩ := List.getElem?_of_mem hd
    by_cases hki : i = k
    · subst hki
      rw [List.getElem?_set_self (by omega)] at hk; cases hk; exact k1
    · rw [List.getElem?_set_ne hki] at hk
      obtain ⟨g1, g2, g3⟩ := hg d (List.mem_of_getElem? hk)
      exact ⟨g1, g2, by omega⟩
  · by_cases hki : i = k
    · subst hki
      rw [hc] at hd; cases hd
      rw [List.getElem?_set_self (by omega)] at hd'; cases hd'; exact k3
    · rw [List.getElem?_set_ne hki, hd] at hd'; cases hd'
      have : ∀ (l : List Msg) (b : Bool), (∀ x ∈ l, x.code = (i : Int)) → eff l k b = b := by
        intro l
        induction l with
        | nil => intro b _; rfl
        | cons x l ih =>
          intro b h
          have hx := h x (by simp)
          simp only [eff]
          rw [if_neg (by omega)]
          exact ih b fun y hy => h y (by simp [hy])
      exact this r.2 _ fun x hx => (k2 x hx).2
  · have := PHI_set (m := m) (e := r.1) hc
    omega
theorem act_none {m : Int} {N n : Nat} {cs : List Cir} (hg : ∀ c ∈ cs, goodC N c) : Act m N n cs cs [] :=
  ⟨rfl, fun c hc => ⟨(hg c hc).1, (hg c hc).2.1, by have := (hg c hc).2.2; omega⟩, by simp, fun k c c' h h' => by rw [h] at h'; cases h'; rfl, by simp⟩
/-- the net at the head of a round: near end, far end, the two ways, what the far end is about to send -/
structure Net (m : Int) (N n i L : Nat) (cs ds : List Cir) (th bk bo : List Msg) : Prop where
  c1 : cs.length = n
  d1 : ds.length = n
  c2 : ∀ c ∈ cs, goodC N c
  d2 : ∀ d ∈ ds, d.st = 0
  t1 : ∀ x ∈ th, okA N n x
  b1 : ∀ x ∈ bk ++ bo, x.kind = 2 ∧ x.good = false ∧ 0 ≤ x.code ∧ x.code < (n : Int)
  e : ∀ k c d, cs[k]? = some c → ds[k]? = some d → eff th k d.lp = run c
  b2 : bk.length + bo.length ≤ 1
  b3 : L < i → bk = []
  w1 : i ≤ L → 11 * th.length + 3 * PHI m cs ≤ 32 * i
  w2 : L ≤ i → th.length ≤ 174 - (i - L)
end Go.Proofs.Ytjpjnidgcmkdbaa
