/- Regions whose order is open: one order serves for all. Generic. -/
import Derived.Test.YtcpcngamfncpdaaAiO
set_option linter.unusedVariables false
namespace Go.Ai

def Waits (ops : Array Oper) (j i : Nat) : Prop := ∃ o e, ops[j]? = some o ∧ e ∈ o.after ∧ Region.binds .any e = true ∧ e.on = i
inductive Bef (ops : Array Oper) : Nat → Nat → Prop
  | one {i j : Nat} (h : Waits ops j i) : Bef ops i j
  | more {i j k : Nat} (h : Waits ops j k) (b : Bef ops i k) : Bef ops i j

theorem mem_ready {ops : Array Oper} {L : Array Bool} {i : Nat} : i ∈ Region.ready .any ops L ↔ i < ops.size ∧ L.getD i true = false ∧ ∃ o, ops[i]? = some o ∧ ∀ e ∈ o.after, Region.binds .any e = true → L.getD e.on false = true := by
  simp only [Region.ready, List.mem_filter, List.mem_range, Bool.and_eq_true, Bool.not_eq_true']
  constructor
  · rintro ⟨h1, h2, h3⟩
    refine ⟨h1, h2, ?_⟩
    cases ho : ops[i]? with
    | none => simp [ho] at h3
    | some o =>
      refine ⟨o, rfl, fun e he hb => ?_⟩
      simp [ho] at h3
      obtain ⟨k, hk, rfl⟩ := Array.mem_iff_getElem.1 he
      have := h3 k hk
      simpa [hb] using this
  · rintro ⟨h1, h2, o, ho, h3⟩
    refine ⟨h1, h2, ?_⟩
    simp [ho]
    intro k hk
    by_cases hb : Region.binds .any o.after[k] = true
    · right; have := h3 _ (Array.getElem_mem hk) hb; simpa using this
    · left; simpa using hb

def Closed (ops : Array Oper) (L : Array Bool) : Prop := ∀ k, L.getD k false = true → ∀ i, Waits ops k i → L.getD i false = true

theorem Closed.bef {ops : Array Oper} {L : Array Bool} (hc : Closed ops L) {i j : Nat} (hb : Bef ops i j) : (∀ i, Waits ops j i → L.getD i false = true) → L.getD i false = true := by
  induction hb with
  | one h => intro hj; exact hj _ h
  | more h b ih => intro hj; exact ih fun i hi => hc _ (hj _ h) i hi

theorem ready_waits {ops : Array Oper} {L : Array Bool} {j : Nat} (hj : j ∈ Region.ready .any ops L) : ∀ i, Waits ops j i → L.getD i false = true := by
  obtain ⟨_, _, o, ho, h⟩ := mem_ready.1 hj
  rintro i ⟨o', e, ho', he, hb, rfl⟩
  rw [ho] at ho'; cases ho'
  exact h e he hb

theorem getD_set {L : Array Bool} {i k : Nat} {d : Bool} (hi : i < L.size) : (L.setIfInBounds i true).getD k d = if k = i then true else L.getD k d := by
  simp only [Array.getD_eq_getD_getElem?, Array.getElem?_setIfInBounds]
  by_cases h : i = k
  · subst h; simp [hi]
  · rw [if_neg h, if_neg (Ne.symm h)]

theorem Closed.set {ops : Array Oper} {L : Array Bool} (hc : Closed ops L) {j : Nat} (hj : j ∈ Region.ready .any ops L) (hs : L.size = ops.size) : Closed ops (L.setIfInBounds j true) := by
  have hlt : j < L.size := by rw [hs]; exact (mem_ready.1 hj).1
  intro k hk i hi
  rw [getD_set hlt] at hk ⊢
  split
  · rfl
  · split at hk
    · rename_i h1 h2; subst h2; exact ready_waits hj i hi
    · exact hc k hk i hi

theorem ready_set {ops : Array Oper} {L : Array Bool} {i j : Nat} (hj : j ∈ Region.ready .any ops L) (hi : i < L.size) (hne : j ≠ i) : j ∈ Region.ready .any ops (L.setIfInBounds i true) := by
  obtain ⟨h1, h2, o, ho, h3⟩ := mem_ready.1 hj
  refine mem_ready.2 ⟨h1, by rw [getD_set hi, if_neg hne]; exact h2, o, ho, fun e he hb => ?_⟩
  rw [getD_set hi]; split
  · rfl
  · exact h3 e he hb

def looks (x : XOper) : List Nat := x.op.tmps ++ (match x.g with | some (t, _) => [t] | none => [])

/-- what a region must show, by sight of its text -/
structure RStat (X : Array XOper) (ops : Array Oper) : Prop where
  dist : ∀ (i j : Nat) (xi xj : XOper) (d : Nat), X[i]? = some xi → X[j]? = some xj → xi.d = some d → xj.d = some d → i = j
  dep : ∀ (i j : Nat) (xi xj : XOper) (d : Nat), X[i]? = some xi → X[j]? = some xj → xi.d = some d → d ∈ looks xj → Waits ops j i ∨ (xj.op.reads = false ∧ Bef ops j i)
  rd : ∀ (i : Nat) (xi : XOper), X[i]? = some xi → xi.op.reads = true → xi.d.isSome = true

/-- the reads that may still come behind an effect find what they found -/
def Stb (X : Array XOper) (ops : Array Oper) (L : Array Bool) (j : Nat) (ρ : Env) (h' : AHeap) : Prop :=
  ∀ (k : Nat) (x : XOper) (d : Nat), L.getD k false = true → X[k]? = some x → x.op.reads = true → ¬ Bef ops k j → x.d = some d → guardv ρ x.g = some true → ∃ v, get ρ d = some v ∧ xop x.op ρ h' = some (v, h')

def DR (P : Program) (X : Array XOper) (ops : Array Oper) (K : Env → AHeap → Prop) : Nat → Array Bool → Env → AHeap → Prop
  | 0, L, ρ, h => Region.ready .any ops L = [] ∧ ∃ ρ', (∀ i, get ρ' i = get ρ i) ∧ K ρ' h
  | n + 1, L, ρ, h =>
    (Region.ready .any ops L = [] ∧ ∃ ρ', (∀ i, get ρ' i = get ρ i) ∧ K ρ' h) ∨
    (∃ i x v, i ∈ Region.ready .any ops L ∧ X[i]? = some x ∧ x.op.eff = false ∧ guardv ρ x.g = some true ∧ xop x.op ρ h = some (v, h) ∧ DR P X ops K n (L.setIfInBounds i true) (put x.d v ρ) h) ∨
    (∃ i x, i ∈ Region.ready .any ops L ∧ X[i]? = some x ∧ guardv ρ x.g = some false ∧ DR P X ops K n (L.setIfInBounds i true) (put x.d undef ρ) h) ∨
    (Region.ready .any ops L ≠ [] ∧ ∀ i ∈ Region.ready .any ops L, ∃ x, X[i]? = some x ∧ x.op.eff = true ∧ guardv ρ x.g = some true ∧
      xstep P x.op ρ h fun v h' => Stb X ops L i ρ h' ∧ DR P X ops K n (L.setIfInBounds i true) (put x.d v ρ) h')

section
variable {P : Program} {X : Array XOper} {ops : Array Oper} {K : Env → AHeap → Prop}

theorem guardv_congr {ρ ρ' : Env} {g : Option (Nat × Bool)} (h : ∀ t b, g = some (t, b) → get ρ t = get ρ' t) : guardv ρ g = guardv ρ' g := by
  cases g with
  | none => rfl
  | some p => obtain ⟨t, b⟩ := p; simp only [guardv]; rw [h t b rfl]

theorem get_put {d : Option Nat} {v : Value} {ρ : Env} {i : Nat} : get (put d v ρ) i = if d = some i then some v else get ρ i := by
  cases d with
  | none => simp [put]
  | some j => simp only [put, get, Option.some.injEq]

theorem DR.congr : ∀ (n : Nat) {L : Array Bool} {ρ ρ' : Env} {h : AHeap}, (∀ i, get ρ i = get ρ' i) → DR P X ops K n L ρ h → DR P X ops K n L ρ' h := by
  intro n
  induction n with
  | zero =>
    rintro L ρ ρ' h he ⟨h1, ρ2, h2, h3⟩
    exact ⟨h1, ρ2, fun i => (h2 i).trans (he i), h3⟩
  | succ n ih =>
    intro L ρ ρ' h he hd
    have hp : ∀ (d : Option Nat) (v : Value) i, get (put d v ρ) i = get (put d v ρ') i := fun d v i => by rw [get_put, get_put, he]
    have hg : ∀ g, guardv ρ g = guardv ρ' g := fun g => guardv_congr fun t b _ => he t
    rcases hd with ⟨h1, ρ2, h2, h3⟩ | ⟨i, x, v, a, b, c, d, e, f⟩ | ⟨i, x, a, b, c, f⟩ | ⟨a, b⟩
    · exact .inl ⟨h1, ρ2, fun i => (h2 i).trans (he i), h3⟩
    · exact .inr (.inl ⟨i, x, v, a, b, c, by rw [← hg]; exact d, by rw [← xop_congr (fun t _ => he t)]; exact e, ih (hp _ _) f⟩)
    · exact .inr (.inr (.inl ⟨i, x, a, b, by rw [← hg]; exact c, ih (hp _ _) f⟩))
    · refine .inr (.inr (.inr ⟨a, fun i hi => ?_⟩))
      obtain ⟨x, h1, h2, h3, h4⟩ := b i hi
      refine ⟨x, h1, h2, by rw [← hg]; exact h3, xstep_congr (fun t _ => he t) (xstep_mono h4 fun v h' ⟨s1, s2⟩ => ⟨?_, ih (hp _ _) s2⟩)⟩
      intro k y d k1 k2 k3 k4 k5 k6
      obtain ⟨u, u1, u2⟩ := s1 k y d k1 k2 k3 k4 k5 (by rw [hg]; exact k6)
      exact ⟨u, by rw [← he]; exact u1, by rw [← xop_congr (fun t _ => he t)]; exact u2⟩

/-- whatever may come up next -/
theorem DR.any (hS : RStat X ops) : ∀ (n : Nat) {L : Array Bool} {ρ : Env} {h : AHeap}, L.size = ops.size → Closed ops L → DR P X ops K (n + 1) L ρ h → ∀ j ∈ Region.ready .any ops L, ∃ x, X[j]? = some x ∧
    ((x.op.eff = false ∧ guardv ρ x.g = some true ∧ ∃ v, xop x.op ρ h = some (v, h) ∧ DR P X ops K n (L.setIfInBounds j true) (put x.d v ρ) h) ∨
     (guardv ρ x.g = some false ∧ DR P X ops K n (L.setIfInBounds j true) (put x.d undef ρ) h) ∨
     (x.op.eff = true ∧ guardv ρ x.g = some true ∧ xstep P x.op ρ h fun v h' => Stb X ops L j ρ h' ∧ DR P X ops K n (L.setIfInBounds j true) (put x.d v ρ) h')) := by
  intro n
  induction n with
  | zero =>
    intro L ρ h hs hc hd j hj
    rcases hd with ⟨h1, _⟩ | ⟨i, x, v, a, b, c, d, e, f⟩ | ⟨i, x, a, b, c, f⟩ | ⟨a, b⟩
    · rw [h1] at hj; cases hj
    · by_cases hij : i = j
      · subst hij; exact ⟨x, b, .inl ⟨c, d, v, e, f⟩⟩
      · have := ready_set hj (by rw [hs]; exact (mem_ready.1 a).1) (Ne.symm hij)
        rw [f.1] at this; cases this
    · by_cases hij : i = j
      · subst hij; exact ⟨x, b, .inr (.inl ⟨c, f⟩)⟩
      · have := ready_set hj (by rw [hs]; exact (mem_ready.1 a).1) (Ne.symm hij)
        rw [f.1] at this; cases this
    · obtain ⟨x, h1, h2, h3, h4⟩ := b j hj
      exact ⟨x, h1, .inr (.inr ⟨h2, h3, h4⟩)⟩
  | succ n ih =>
    intro L ρ h hs hc hd j hj
    -- an operation i that is taken first, not j: its slot is none that j looks at, and the other way about
    have apart : ∀ (i : Nat) (x y : XOper) (d : Nat), i ∈ Region.ready .any ops L → i ≠ j → X[i]? = some x → X[j]? = some y → x.d = some d → d ∉ looks y := by
      intro i x y d hi hne hx hy hd hm
      rcases hS.dep i j x y d hx hy hd hm with hw | ⟨_, hb⟩
      · have := ready_waits hj i hw
        have h2 := (mem_ready.1 hi).2.1
        have hlt := (mem_ready.1 hi).1
        simp [Array.getD_eq_getD_getElem?, show i < L.size by omega] at this h2
        rw [this] at h2; cases h2
      · have := hc.bef hb (ready_waits hi)
        have h2 := (mem_ready.1 hj).2.1
        have hlt := (mem_ready.1 hj).1
        simp [Array.getD_eq_getD_getElem?, show j < L.size by omega] at this h2
        rw [this] at h2; cases h2
    have apart2 : ∀ (i : Nat) (x y : XOper) (d : Nat), i ∈ Region.ready .any ops L → i ≠ j → X[i]? = some x → X[j]? = some y → y.d = some d → d ∉ looks x := by
      intro i x y d hi hne hx hy hd hm
      rcases hS.dep j i y x d hy hx hd hm with hw | ⟨_, hb⟩
      · have := ready_waits hi j hw
        have h2 := (mem_ready.1 hj).2.1
        have hlt := (mem_ready.1 hj).1
        simp [Array.getD_eq_getD_getElem?, show j < L.size by omega] at this h2
        rw [this] at h2; cases h2
      · have := hc.bef hb (ready_waits hj)
        have h2 := (mem_ready.1 hi).2.1
        have hlt := (mem_ready.1 hi).1
        simp [Array.getD_eq_getD_getElem?, show i < L.size by omega] at this h2
        rw [this] at h2; cases h2
    have same : ∀ (x y : XOper) (u : Value) (d' : Option Nat), (∀ d, x.d = some d → d ∉ looks y) → Agree ρ (put x.d u ρ) y.op.tmps ∧ guardv ρ y.g = guardv (put x.d u ρ) y.g := by
      intro x y u d' hn
      refine ⟨fun t ht => ?_, guardv_congr fun t b hg => ?_⟩
      · rw [get_put, if_neg]; intro he; exact hn t he (by simp [looks, ht])
      · rw [get_put, if_neg]; intro he; exact hn t he (by simp [looks, hg])
    have swap : ∀ (i : Nat) (x y : XOper) (u v : Value), i ≠ j → X[i]? = some x → X[j]? = some y → ∀ k, get (put y.d v (put x.d u ρ)) k = get (put x.d u (put y.d v ρ)) k := by
      intro i x y u v hne hx hy k
      simp only [get_put]
      by_cases h1 : y.d = some k
      · rw [if_pos h1, if_neg, if_pos h1]
        intro h2; exact hne (hS.dist i j x y k hx hy h2 h1)
      · rw [if_neg h1, if_neg h1]
    -- the step behind i, for j
    have go : ∀ (i : Nat) (x : XOper) (u : Value), i ∈ Region.ready .any ops L → i ≠ j → X[i]? = some x → DR P X ops K (n + 1) (L.setIfInBounds i true) (put x.d u ρ) h →
        (∀ (y : XOper) (v : Value), X[j]? = some y → guardv ρ x.g = guardv (put y.d v ρ) x.g → (∀ h', (x.op.reads = true → (x.op.eff = false ∧ guardv ρ x.g = some true) → xop x.op ρ h' = some (u, h')) → DR P X ops K n ((L.setIfInBounds j true).setIfInBounds i true) (put x.d u (put y.d v ρ)) h' → DR P X ops K (n + 1) (L.setIfInBounds j true) (put y.d v ρ) h')) →
        (x.op.reads = true → (x.op.eff = false ∧ guardv ρ x.g = some true) → xop x.op ρ h = some (u, h)) →
        ∃ y, X[j]? = some y ∧
          ((y.op.eff = false ∧ guardv ρ y.g = some true ∧ ∃ v, xop y.op ρ h = some (v, h) ∧ DR P X ops K (n + 1) (L.setIfInBounds j true) (put y.d v ρ) h) ∨
           (guardv ρ y.g = some false ∧ DR P X ops K (n + 1) (L.setIfInBounds j true) (put y.d undef ρ) h) ∨
           (y.op.eff = true ∧ guardv ρ y.g = some true ∧ xstep P y.op ρ h fun v h' => Stb X ops L j ρ h' ∧ DR P X ops K (n + 1) (L.setIfInBounds j true) (put y.d v ρ) h')) := by
      intro i x u hi hne hx hdr back hread
      have hlt : i < L.size := by rw [hs]; exact (mem_ready.1 hi).1
      have hlt2 : j < L.size := by rw [hs]; exact (mem_ready.1 hj).1
      obtain ⟨y, hy, hcase⟩ := ih (by simpa using hs) (hc.set hi hs) hdr j (ready_set hj hlt (Ne.symm hne))
      have s1 := same x y u none (fun d hd => apart i x y d hi hne hx hy hd)
      have hcomm : (L.setIfInBounds i true).setIfInBounds j true = (L.setIfInBounds j true).setIfInBounds i true := Array.setIfInBounds_comm _ _ hne
      have s2 : ∀ v, guardv ρ x.g = guardv (put y.d v ρ) x.g := fun v => (same y x v none (fun d hd => apart2 i x y d hi hne hx hy hd)).2
      refine ⟨y, hy, ?_⟩
      rcases hcase with ⟨c1, c2, v, c3, c4⟩ | ⟨c1, c2⟩ | ⟨c1, c2, c3⟩
      · left
        refine ⟨c1, by rw [s1.2]; exact c2, v, by rw [xop_congr s1.1]; exact c3, back y v hy (s2 v) h hread ?_⟩
        rw [← hcomm]; exact DR.congr n (swap i x y u v hne hx hy) c4
      · right; left
        refine ⟨by rw [s1.2]; exact c1, back y undef hy (s2 undef) h hread ?_⟩
        rw [← hcomm]; exact DR.congr n (swap i x y u undef hne hx hy) c2
      · right; right
        refine ⟨c1, by rw [s1.2]; exact c2, xstep_congr (ρ := put x.d u ρ) (fun t ht => (s1.1 t ht).symm) (xstep_mono c3 fun v h' ⟨q1, q2⟩ => ⟨?_, ?_⟩)⟩
        · intro k z d k1 k2 k3 k4 k5 k6
          have hki : k ≠ i := by
            intro e; subst e
            have h2 := (mem_ready.1 hi).2.1
            simp [Array.getD_eq_getD_getElem?, hlt] at k1 h2
            rw [k1] at h2; cases h2
          have hxz : ∀ d, x.d = some d → d ∉ looks z := by
            intro d hd hm
            have h3 := hc k k1 i ((hS.dep i k x z d hx k2 hd hm).resolve_right fun h => by rw [k3] at h; cases h.1)
            have h2 := (mem_ready.1 hi).2.1
            simp [Array.getD_eq_getD_getElem?, hlt] at h3 h2
            rw [h3] at h2; cases h2
          have s3 := same x z u none hxz
          obtain ⟨v', v1, v2⟩ := q1 k z d (by rw [getD_set hlt, if_neg hki]; exact k1) k2 k3 k4 k5 (by rw [← s3.2]; exact k6)
          refine ⟨v', ?_, by rw [xop_congr s3.1]; exact v2⟩
          rw [get_put, if_neg] at v1
          · exact v1
          · intro e; exact hki (hS.dist k i z x d k2 hx k5 e)
        · refine back y v hy (s2 v) h' (fun hrd hpg => ?_) (by rw [← hcomm]; exact DR.congr n (swap i x y u v hne hx hy) q2)
          obtain ⟨d, hd⟩ := Option.isSome_iff_exists.1 (hS.rd i x hx hrd)
          have nb : ¬ Bef ops i j := fun hb => by
            have h3 := hc.bef hb (ready_waits hj)
            have h2 := (mem_ready.1 hi).2.1
            simp [Array.getD_eq_getD_getElem?, hlt] at h3 h2
            rw [h3] at h2; cases h2
          have hxx : ∀ d, x.d = some d → d ∉ looks x := by
            intro d hd hm
            have h3 := ready_waits hi i ((hS.dep i i x x d hx hx hd hm).resolve_right fun h => by rw [hrd] at h; cases h.1)
            have h2 := (mem_ready.1 hi).2.1
            simp [Array.getD_eq_getD_getElem?, hlt] at h3 h2
            rw [h3] at h2; cases h2
          have s4 := same x x u none hxx
          obtain ⟨v', v1, v2⟩ := q1 i x d (by rw [getD_set hlt, if_pos rfl]) hx hrd nb hd (by rw [← s4.2]; exact hpg.2)
          rw [get_put, if_pos hd] at v1
          cases v1
          rw [xop_congr s4.1]; exact v2
    rcases hd with ⟨h1, _⟩ | ⟨i, x, v, a, b, c, d, e, f⟩ | ⟨i, x, a, b, c, f⟩ | ⟨a, b⟩
    · rw [h1] at hj; cases hj
    · by_cases hij : i = j
      · subst hij; exact ⟨x, b, .inl ⟨c, d, v, e, f⟩⟩
      · refine go i x v a hij b f (fun y u hy hg h' hrd hdr => ?_) (fun _ _ => e)
        refine .inr (.inl ⟨i, x, v, ready_set a (by rw [hs]; exact (mem_ready.1 hj).1) hij, b, c, by rw [← hg]; exact d, ?_, hdr⟩)
        have s5 := same y x u none (fun d hd => apart2 i x y d a hij b hy hd)
        rw [← xop_congr s5.1]
        cases hr : x.op.reads with
        | true => exact hrd hr ⟨c, d⟩
        | false => exact xop_blind c hr e
    · by_cases hij : i = j
      · subst hij; exact ⟨x, b, .inr (.inl ⟨c, f⟩)⟩
      · refine go i x undef a hij b f (fun y u hy hg h' hrd hdr => ?_) (fun _ hh => by rw [c] at hh; cases hh.2)
        exact .inr (.inr (.inl ⟨i, x, ready_set a (by rw [hs]; exact (mem_ready.1 hj).1) hij, b, by rw [← hg]; exact c, hdr⟩))
    · obtain ⟨x, h1, h2, h3, h4⟩ := b j hj
      exact ⟨x, h1, .inr (.inr ⟨h2, h3, h4⟩)⟩
end
end Go.Ai
