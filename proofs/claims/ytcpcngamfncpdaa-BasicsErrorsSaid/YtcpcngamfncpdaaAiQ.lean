/- From the text's regions and code to the small language's. Generic. -/
import Derived.Test.YtcpcngamfncpdaaAiP
import Derived.LoopN
import Derived.Scope
set_option linter.unusedVariables false
namespace Go.Ai

structure XRel (P : Program) (N : Nat) (X : Array XOper) (ops : Array Oper) : Prop where
  size : X.size = ops.size
  rel : ∀ (i : Nat) (o : Oper), ops[i]? = some o → ∃ x, X[i]? = some x ∧ trOper P N ops o = some x

section
variable {P : Program} {N : Nat} {X : Array XOper} {ops : Array Oper} {K : Env → AHeap → Prop}

theorem DR.sound (hX : XRel P N X ops) (hS : RStat X ops) {Q : Exit → Act → World → Prop} : ∀ (n : Nat) (L : Array Bool) (ρ : Env) (h : AHeap) (φ : Phi) (w : World) (t : Array Value), L.size = ops.size → Closed ops L → DR P X ops K n L ρ h →
    HR φ h w → ER φ ρ t → t.size = N → (∀ φ' ρ' h' (t' : Array Value) w', Stp φ h w φ' h' w' → ER φ' ρ' t' → t'.size = N → K ρ' h' → Q .normal ⟨t', []⟩ w') → wpAny P .any ops Q n L ⟨t, []⟩ w := by
  intro n
  induction n with
  | zero =>
    rintro L ρ h φ w t hs hc ⟨h1, ρ', h2, h3⟩ hr he ht hQ
    exact ⟨h1, hQ φ ρ' h t w (Stp.refl hr) ⟨fun i v hv => he.e i v (by rw [← h2]; exact hv), he.g⟩ ht h3⟩
  | succ n ih =>
    intro L ρ h φ w t hs hc hd hr he ht hQ
    have hany := DR.any hS n hs hc hd
    refine ⟨fun h0 => ?_, fun j hj => ?_⟩
    · rcases hd with ⟨h1, ρ', h2, h3⟩ | ⟨i, x, v, a, b, c, d, e, f⟩ | ⟨i, x, a, b, c, f⟩ | ⟨a, b⟩
      · exact hQ φ ρ' h t w (Stp.refl hr) ⟨fun i v hv => he.e i v (by rw [← h2]; exact hv), he.g⟩ ht h3
      · rw [h0] at a; cases a
      · rw [h0] at a; cases a
      · exact absurd h0 a
    · obtain ⟨x, hx, hcase⟩ := hany j hj
      obtain ⟨_, _, o, ho, _⟩ := mem_ready.1 hj
      obtain ⟨x', hx', htr⟩ := hX.rel j o ho
      rw [hx] at hx'; cases hx'
      obtain ⟨e1, e2, e3, e4, _⟩ := trOper_inv htr
      have hs' : (L.setIfInBounds j true).size = ops.size := by simpa using hs
      have hc' := hc.set hj hs
      unfold wpOp
      rw [ho]
      simp only
      rcases hcase with ⟨c1, c2, v, c3, c4⟩ | ⟨c1, c2⟩ | ⟨c1, c2, c3⟩
      · have hw := guard_sound (t := t) he e2 c2
        rw [if_pos hw]
        left
        refine step_sound e1 hr he (K := fun v' h' => v' = v ∧ h' = h) ((xstep_pure c1).2 ⟨v, h, c3, rfl, rfl⟩) fun φ' h' v1 v' w' s1 s2 s3 => ?_
        obtain ⟨rfl, rfl⟩ := s3
        obtain ⟨p1, p2, p3⟩ := put_ok (he.mono s1.ext) ht e3 s2
        rw [act_eq p3]
        rw [e4] at c4
        exact ih _ _ _ φ' w' _ hs' hc' c4 s1.hr p1 p2 fun φ2 ρ2 h2 t2 w2 a b c d => hQ φ2 ρ2 h2 t2 w2 (s1.trans a) b c d
      · have hw := guard_sound (t := t) he e2 c1
        rw [if_neg (by simp [hw])]
        obtain ⟨p1, p2, p3⟩ := put_ok he ht e3 (VR.undef φ)
        rw [act_eq p3]
        rw [e4] at c2
        exact ih _ _ _ φ w _ hs' hc' c2 hr p1 p2 hQ
      · have hw := guard_sound (t := t) he e2 c2
        rw [if_pos hw]
        left
        refine step_sound e1 hr he c3 fun φ' h' v1 v' w' s1 s2 s3 => ?_
        obtain ⟨p1, p2, p3⟩ := put_ok (he.mono s1.ext) ht e3 s2
        rw [act_eq p3]
        have s4 := s3.2
        rw [e4] at s4
        exact ih _ _ _ φ' w' _ hs' hc' s4 s1.hr p1 p2 fun φ2 ρ2 h2 t2 w2 a b c d => hQ φ2 ρ2 h2 t2 w2 (s1.trans a) b c d

/-- what an operation waits for, through others -/
def closStep (n : Nat) (acc : List (List Nat)) (o : Oper) : List (List Nat) :=
  acc ++ [(List.range n).filter fun k => o.after.any fun e => Region.binds .any e && (e.on == k || (acc.getD e.on []).contains k)]
def clos (ops : Array Oper) : List (List Nat) := ops.toList.foldl (closStep ops.size) []

theorem clos_bef : ∀ i k, k ∈ (clos ops).getD i [] → Bef ops k i := by
  have key : ∀ (l : List Oper) (acc : List (List Nat)), (∀ j, l[j]? = ops[acc.length + j]?) → (∀ i k, k ∈ acc.getD i [] → Bef ops k i) → ∀ i k, k ∈ (l.foldl (closStep ops.size) acc).getD i [] → Bef ops k i := by
    intro l
    induction l with
    | nil => intro acc _ h; exact h
    | cons o l ih =>
      intro acc hl hacc
      simp only [List.foldl_cons]
      refine ih _ (fun j => ?_) ?_
      · have := hl (j + 1)
        simp only [List.getElem?_cons_succ] at this
        rw [this]; congr 1; simp [closStep]; omega
      · intro i k hk
        simp only [closStep, List.getD_eq_getElem?_getD, List.getElem?_append] at hk
        split at hk
        · exact hacc i k (by simpa [List.getD_eq_getElem?_getD] using hk)
        · rename_i hlt
          have hi : i = acc.length := by
            rcases Nat.lt_or_ge acc.length i with h1 | h1
            · rw [List.getElem?_eq_none (by simp; omega)] at hk; simp at hk
            · omega
          subst hi
          simp only [Nat.sub_self, List.getElem?_cons_zero, Option.getD_some, List.mem_filter, Array.any_eq_true, Bool.and_eq_true, Bool.or_eq_true, beq_iff_eq] at hk
          obtain ⟨_, m, hm, hb, hk⟩ := hk
          have ho : ops[acc.length]? = some o := by have := hl 0; simpa using this.symm
          have hw : Waits ops acc.length (o.after[m]).on := ⟨o, _, ho, Array.getElem_mem hm, hb, rfl⟩
          rcases hk with hk | hk
          · subst hk; exact .one hw
          · exact .more hw (hacc _ _ (by simpa [List.getD_eq_getElem?_getD] using hk))
  exact key ops.toList [] (fun j => by simp) (fun i k h => by simp at h)

/-- the reads that must hold behind effect i -/
def stOf (X : Array XOper) (ops : Array Oper) (L : Array Bool) (i : Nat) : List (Nat × Option (Nat × Bool) × XOp) :=
  (List.range X.size).filterMap fun k => match X[k]? with
    | some x => if L.getD k false = true ∧ x.op.reads = true ∧ ((clos ops).getD i []).contains k = false then x.d.map fun d => (d, x.g, x.op) else none
    | none => none

/-- an order -/
def order (X : Array XOper) (ops : Array Oper) : Nat → Array Bool → Option (List XOper)
  | 0, L => if (Region.ready .any ops L).isEmpty = true then some [] else none
  | n + 1, L =>
    let rs := Region.ready .any ops L
    match rs.find? (fun i => match X[i]? with | some x => !x.op.eff | none => false) with
    | some i => match X[i]? with
      | some x => (order X ops n (L.setIfInBounds i true)).map (x :: ·)
      | none => none
    | none => match rs with
      | [] => some []
      | [i] => match X[i]? with
        | some x => (order X ops n (L.setIfInBounds i true)).map ({ x with st := stOf X ops L i } :: ·)
        | none => none
      | _ => none

theorem stab_mem {ρ : Env} {h : AHeap} : ∀ {l : List (Nat × Option (Nat × Bool) × XOp)}, stab ρ h l → ∀ d g op, (d, g, op) ∈ l → guardv ρ g = some true → ∃ v, get ρ d = some v ∧ xop op ρ h = some (v, h)
  | [], _, d, g, op, hm => by cases hm
  | (d', g', op') :: r, ⟨h1, h2⟩, d, g, op, hm => by
    rcases List.mem_cons.1 hm with he | hm
    · cases he; exact h1
    · exact stab_mem h2 d g op hm

theorem order_sound : ∀ (n : Nat) (L : Array Bool) (xs : List XOper) (ρ : Env) (h : AHeap), order X ops n L = some xs → xops P K xs ρ h → DR P X ops K n L ρ h := by
  intro n
  induction n with
  | zero =>
    intro L xs ρ h ho hx
    simp only [order] at ho
    split at ho
    · rename_i he
      cases ho
      exact ⟨by simpa using he, ρ, fun _ => rfl, hx⟩
    · cases ho
  | succ n ih =>
    intro L xs ρ h ho hx
    simp only [order] at ho
    split at ho
    · rename_i i hf
      have hm := List.mem_of_find?_eq_some hf
      have hp := List.find?_some hf
      split at ho
      · rename_i x hxi
        simp only [hxi, Bool.not_eq_true'] at hp
        simp only [Option.map_eq_some_iff] at ho
        obtain ⟨r, hr, rfl⟩ := ho
        obtain ⟨b, hg, h1, h2⟩ := xops_cons.1 hx
        cases b with
        | true =>
          obtain ⟨v, h', h3, h4⟩ := (xstep_pure hp).1 (h1 rfl)
          have := xop_still hp h3
          subst this
          exact .inr (.inl ⟨i, x, v, hm, hxi, hp, hg, h3, ih _ _ _ _ hr h4.2⟩)
        | false => exact .inr (.inr (.inl ⟨i, x, hm, hxi, hg, ih _ _ _ _ hr (h2 rfl)⟩))
      · cases ho
    · rename_i hf
      split at ho
      · rename_i hrs
        cases ho
        exact .inl ⟨hrs, ρ, fun _ => rfl, hx⟩
      · rename_i i hrs
        split at ho
        · rename_i x hxi
          simp only [Option.map_eq_some_iff] at ho
          obtain ⟨r, hr, rfl⟩ := ho
          have he : x.op.eff = true := by
            have := List.find?_eq_none.1 hf i (by rw [hrs]; simp)
            simpa [hxi] using this
          obtain ⟨b, hg, h1, h2⟩ := xops_cons.1 hx
          cases b with
          | true =>
            refine .inr (.inr (.inr ⟨by rw [hrs]; simp, fun j hj => ?_⟩))
            rw [hrs] at hj
            simp at hj; subst hj
            refine ⟨x, hxi, he, hg, xstep_mono (h1 rfl) fun v h' ⟨s1, s2⟩ => ⟨?_, ih _ _ _ _ hr s2⟩⟩
            intro k z d k1 k2 k3 k4 k5 k6
            refine stab_mem s1 d z.g z.op ?_ k6
            simp only [stOf, List.mem_filterMap, List.mem_range]
            refine ⟨k, (Array.getElem?_eq_some_iff.1 k2).1, ?_⟩
            have : ((clos ops).getD j []).contains k = false := by
              cases hc : ((clos ops).getD j []).contains k with
              | false => rfl
              | true => exact absurd (clos_bef j k (by simpa using hc)) k4
            simp only [k2]
            rw [if_pos ⟨k1, k3, this⟩, k5]; rfl
          | false => exact .inr (.inr (.inl ⟨i, x, by rw [hrs]; simp, hxi, hg, ih _ _ _ _ hr (h2 rfl)⟩))
        · cases ho
      · cases ho

def waitsB (ops : Array Oper) (j i : Nat) : Bool :=
  match ops[j]? with
  | some o => o.after.any fun e => Region.binds .any e && e.on == i
  | none => false
theorem waitsB_sound {i j : Nat} (h : waitsB ops j i = true) : Waits ops j i := by
  unfold waitsB at h
  split at h
  · rename_i o ho
    simp only [Array.any_eq_true, Bool.and_eq_true, beq_iff_eq] at h
    obtain ⟨m, hm, h1, h2⟩ := h
    exact ⟨o, _, ho, Array.getElem_mem hm, h1, h2⟩
  · cases h

/-- where a slot is written: by one operation alone, ahead of those that look at it -/
def statB (X : Array XOper) (ops : Array Oper) : Bool :=
  X.toList.zipIdx.all fun (xi, i) => (!xi.op.reads || xi.d.isSome) && (match xi.d with
    | none => true
    | some d => X.toList.zipIdx.all fun (xj, j) => (i == j || xj.d != some d) && (!(looks xj).contains d || (waitsB ops j i || (!xj.op.reads && ((clos ops).getD i []).contains j))))

theorem statB_sound (h : statB X ops = true) : RStat X ops := by
  unfold statB at h
  rw [List.all_eq_true] at h
  have mem : ∀ (i : Nat) (x : XOper), X[i]? = some x → (x, i) ∈ X.toList.zipIdx := fun i x hx => by
    rw [List.mem_zipIdx_iff_getElem?]; simpa using hx
  refine ⟨fun i j xi xj d hi hj di dj => ?_, fun i j xi xj d hi hj di hd => ?_, fun i xi hi hr => ?_⟩
  · have := h _ (mem i xi hi)
    simp only [di, Bool.and_eq_true] at this
    have := List.all_eq_true.1 this.2 _ (mem j xj hj)
    simp only [dj, Bool.and_eq_true, Bool.or_eq_true, beq_iff_eq, bne_self_eq_false, Bool.false_eq_true, or_false] at this
    exact this.1
  · have := h _ (mem i xi hi)
    simp only [di, Bool.and_eq_true] at this
    have := List.all_eq_true.1 this.2 _ (mem j xj hj)
    simp only [Bool.and_eq_true, Bool.or_eq_true, Bool.not_eq_true'] at this
    rcases this.2 with h1 | h1
    · rw [List.contains_eq_mem] at h1; simp at h1; exact absurd hd h1
    · rcases h1 with h1 | h1
      · exact .inl (waitsB_sound h1)
      · simp only [List.contains_eq_mem, decide_eq_true_eq] at h1
        exact .inr ⟨h1.1, clos_bef i j h1.2⟩
  · have := h _ (mem i xi hi)
    simp only [Bool.and_eq_true, Bool.or_eq_true, Bool.not_eq_true'] at this
    rcases this.1 with h1 | h1
    · rw [hr] at h1; cases h1
    · exact h1

def trReg (P : Program) (N : Nat) (draw : Bool) (ops : Array Oper) : Option (List XOper) :=
  (ops.toList.mapM (trOper P N ops)).bind fun X =>
    if draw = true then
      (if P.follows .mixedOrders = true ∧ statB X.toArray ops = true then order X.toArray ops ops.size (Array.replicate ops.size false) else none)
    else some X

/-- one more operation ahead of a code -/
def pre (x : XOper) : XCode → XCode
  | .region xs => .region (x :: xs)
  | .seq (.region xs) c => .seq (.region (x :: xs)) c
  | c => .seq (.region [x]) c
theorem pre_sound {x : XOper} {c : XCode} {Q : Exit → Env → AHeap → Prop} {ρ : Env} {h : AHeap} (hx : xcode P (pre x c) Q ρ h) : ∃ t, guardv ρ x.g = some t ∧
    (t = true → xstep P x.op ρ h fun v h' => stab ρ h' x.st ∧ xcode P c Q (put x.d v ρ) h') ∧ (t = false → xcode P c Q (put x.d undef ρ) h) := by
  have key : ∀ (r : List XOper) (K : Env → AHeap → Prop), xops P K (x :: r) ρ h → (∀ ρ h, xops P K r ρ h → xcode P c Q ρ h) → ∃ t, guardv ρ x.g = some t ∧
    (t = true → xstep P x.op ρ h fun v h' => stab ρ h' x.st ∧ xcode P c Q (put x.d v ρ) h') ∧ (t = false → xcode P c Q (put x.d undef ρ) h) := fun r K h1 h2 => by
    obtain ⟨t, a, b, d⟩ := xops_cons.1 h1
    exact ⟨t, a, fun e => xstep_mono (b e) fun v h' ⟨s1, s2⟩ => ⟨s1, h2 _ _ s2⟩, fun e => h2 _ _ (d e)⟩
  unfold pre at hx
  split at hx
  · exact key _ _ hx fun _ _ h => h
  · exact key _ _ hx fun _ _ h => h
  · exact key _ _ hx fun _ _ h => h
def bothAll : List XCode → XCode
  | [] => .bad
  | [c] => c
  | c :: r => .both c (bothAll r)
theorem bothAll_sound {Q : Exit → Env → AHeap → Prop} {ρ : Env} {h : AHeap} : ∀ {l : List XCode}, xcode P (bothAll l) Q ρ h → ∀ c ∈ l, xcode P c Q ρ h
  | [], hx, c, hc => hx.elim
  | [d], hx, c, hc => by simp at hc; subst hc; exact hx
  | d :: e :: r, hx, c, hc => by
    rcases List.mem_cons.1 hc with rfl | hc
    · exact hx.1
    · exact bothAll_sound hx.2 c hc
/-- an order, or several: effects that may come in any order -/
def orderX (X : Array XOper) (ops : Array Oper) : Nat → Array Bool → Option XCode
  | 0, L => if (Region.ready .any ops L).isEmpty = true then some (.region []) else none
  | n + 1, L =>
    let rs := Region.ready .any ops L
    match rs.find? (fun i => match X[i]? with | some x => !x.op.eff | none => false) with
    | some i => match X[i]? with
      | some x => (orderX X ops n (L.setIfInBounds i true)).map (pre x)
      | none => none
    | none => if rs = [] then some (.region []) else (rs.mapM fun i => match X[i]? with
      | some x => (orderX X ops n (L.setIfInBounds i true)).map (pre ⟨x.d, x.g, x.op, stOf X ops L i⟩)
      | none => none).map bothAll
theorem mapM_mem {α β : Type} {f : α → Option β} : ∀ {l : List α} {r : List β}, l.mapM f = some r → ∀ a ∈ l, ∃ b ∈ r, f a = some b
  | [], r, h, a, ha => by cases ha
  | x :: l, r, h, a, ha => by
    simp only [List.mapM_cons, bind, Option.bind_eq_some_iff, pure, Option.some.injEq] at h
    obtain ⟨b, hb, r', hr, rfl⟩ := h
    rcases List.mem_cons.1 ha with rfl | ha
    · exact ⟨b, by simp, hb⟩
    · obtain ⟨c, hc, e⟩ := mapM_mem hr a ha
      exact ⟨c, by simp [hc], e⟩
theorem orderX_sound {Q : Exit → Env → AHeap → Prop} : ∀ (n : Nat) (L : Array Bool) (c : XCode) (ρ : Env) (h : AHeap), orderX X ops n L = some c → xcode P c Q ρ h → DR P X ops (Q .normal) n L ρ h := by
  intro n
  induction n with
  | zero =>
    intro L c ρ h ho hx
    simp only [orderX] at ho
    split at ho
    · rename_i he
      cases ho
      exact ⟨by simpa using he, ρ, fun _ => rfl, hx⟩
    · cases ho
  | succ n ih =>
    intro L c ρ h ho hx
    simp only [orderX] at ho
    split at ho
    · rename_i i hf
      have hm := List.mem_of_find?_eq_some hf
      have hp := List.find?_some hf
      split at ho
      · rename_i x hxi
        simp only [hxi, Bool.not_eq_true'] at hp
        simp only [Option.map_eq_some_iff] at ho
        obtain ⟨r, hr, rfl⟩ := ho
        obtain ⟨b, hg, h1, h2⟩ := pre_sound hx
        cases b with
        | true =>
          obtain ⟨v, h', h3, h4⟩ := (xstep_pure hp).1 (h1 rfl)
          have := xop_still hp h3
          subst this
          exact .inr (.inl ⟨i, x, v, hm, hxi, hp, hg, h3, ih _ _ _ _ hr h4.2⟩)
        | false => exact .inr (.inr (.inl ⟨i, x, hm, hxi, hg, ih _ _ _ _ hr (h2 rfl)⟩))
      · cases ho
    · rename_i hf
      split at ho
      · rename_i hrs
        cases ho
        exact .inl ⟨hrs, ρ, fun _ => rfl, hx⟩
      · rename_i hrs
        simp only [Option.map_eq_some_iff] at ho
        obtain ⟨cs, hcs, rfl⟩ := ho
        have all : ∀ i ∈ Region.ready .any ops L, ∃ x r, X[i]? = some x ∧ x.op.eff = true ∧ orderX X ops n (L.setIfInBounds i true) = some r ∧ ∃ t, guardv ρ x.g = some t ∧
            (t = true → xstep P x.op ρ h fun v h' => stab ρ h' (stOf X ops L i) ∧ xcode P r Q (put x.d v ρ) h') ∧ (t = false → xcode P r Q (put x.d undef ρ) h) := fun i hi => by
          obtain ⟨c', hc', e⟩ := mapM_mem hcs i hi
          split at e
          · rename_i x hxi
            simp only [Option.map_eq_some_iff] at e
            obtain ⟨r, hr, rfl⟩ := e
            have he : x.op.eff = true := by
              have := List.find?_eq_none.1 hf i hi
              simpa [hxi] using this
            exact ⟨x, r, hxi, he, hr, pre_sound (bothAll_sound hx _ hc')⟩
          · cases e
        by_cases hfalse : ∃ i ∈ Region.ready .any ops L, ∃ x, X[i]? = some x ∧ guardv ρ x.g = some false
        · obtain ⟨i, hi, x, hxi, hg⟩ := hfalse
          obtain ⟨x', r, h1, h2, h3, t, h4, h5, h6⟩ := all i hi
          rw [hxi] at h1; cases h1
          rw [hg] at h4; cases h4
          exact .inr (.inr (.inl ⟨i, x, hi, hxi, hg, ih _ _ _ _ h3 (h6 rfl)⟩))
        · refine .inr (.inr (.inr ⟨hrs, fun i hi => ?_⟩))
          obtain ⟨x, r, hxi, he, hr, t, h4, h5, h6⟩ := all i hi
          cases t with
          | false => exact absurd ⟨i, hi, x, hxi, h4⟩ hfalse
          | true =>
            refine ⟨x, hxi, he, h4, xstep_mono (h5 rfl) fun v h' ⟨s1, s2⟩ => ⟨?_, ih _ _ _ _ hr s2⟩⟩
            intro k z d k1 k2 k3 k4 k5 k6
            refine stab_mem s1 d z.g z.op ?_ k6
            simp only [stOf, List.mem_filterMap, List.mem_range]
            refine ⟨k, (Array.getElem?_eq_some_iff.1 k2).1, ?_⟩
            have : ((clos ops).getD i []).contains k = false := by
              cases hc : ((clos ops).getD i []).contains k with
              | false => rfl
              | true => exact absurd (clos_bef i k (by simpa using hc)) k4
            simp only [k2]
            rw [if_pos ⟨k1, k3, this⟩, k5]; rfl

/-- the same, for several orders -/
def trRegX (P : Program) (N : Nat) (draw : Bool) (ops : Array Oper) : Option XCode :=
  match trReg P N draw ops with
  | some xs => some (.region xs)
  | none => (ops.toList.mapM (trOper P N ops)).bind fun X =>
    if draw = true ∧ P.follows .mixedOrders = true ∧ statB X.toArray ops = true then orderX X.toArray ops ops.size (Array.replicate ops.size false) else none

theorem mapM_get {l : List Oper} {X : List XOper} (h : l.mapM (trOper P N ops) = some X) : X.length = l.length ∧ ∀ (i : Nat) (o : Oper), l[i]? = some o → ∃ x, X[i]? = some x ∧ trOper P N ops o = some x := by
  induction l generalizing X with
  | nil => simp at h; subst h; exact ⟨rfl, fun i o h => by simp at h⟩
  | cons o l ih =>
    simp only [List.mapM_cons, bind, Option.bind_eq_some_iff, pure, Option.some.injEq] at h
    obtain ⟨x, hx, r, hr, rfl⟩ := h
    obtain ⟨h1, h2⟩ := ih hr
    refine ⟨by simp [h1], fun i o' ho => ?_⟩
    cases i with
    | zero => simp at ho; subst ho; exact ⟨x, rfl, hx⟩
    | succ i => simpa using h2 i o' (by simpa using ho)

theorem region_sound {id : Nat} {draw : Bool} {xs : List XOper} (htr : trReg P N draw ops = some xs) {Q : Exit → Env → AHeap → Prop} {ρ : Env} {h : AHeap} (hx : xops P (Q .normal) xs ρ h) : AWp P N (.region id ops draw) Q ρ h := by
  intro φ w t hr he ht
  unfold trReg at htr
  simp only [Option.bind_eq_some_iff] at htr
  obtain ⟨X, hX, htr⟩ := htr
  cases draw with
  | false =>
    simp only [Bool.false_eq_true, if_false, Option.some.injEq] at htr
    subst htr
    refine wp_region_list (xops_sound ops.toList X hX ρ h φ w t _ hx hr he ht fun φ' ρ' h' t' w' a b c d => ⟨rfl, c, φ', ρ', h', a, b, d⟩)
  | true =>
    simp only [if_true] at htr
    split at htr
    · rename_i hc
      obtain ⟨hm, hst⟩ := hc
      have hS := statB_sound hst
      obtain ⟨g1, g2⟩ := mapM_get hX
      have hXR : XRel P N X.toArray ops := ⟨by simpa using g1, fun i o ho => by
        obtain ⟨x, h1, h2⟩ := g2 i o (by simpa using ho)
        exact ⟨x, by simpa using h1, h2⟩⟩
      have hD := order_sound (P := P) (K := Q .normal) ops.size _ xs ρ h htr hx
      refine wp_region_any hm (DR.sound hXR hS ops.size _ ρ h φ _ t (by simp) ?_ hD (hr.drew _) he ht fun φ' ρ' h' t' w' a b c d => ⟨rfl, c, φ', ρ', h', (Stp.drew hr _).trans a, b, d⟩)
      intro k hk
      simp [Array.getD_eq_getD_getElem?, Array.getElem?_replicate] at hk
      split at hk <;> simp at hk
    · cases htr

theorem regionX_sound {id : Nat} {draw : Bool} {c : XCode} (htr : trRegX P N draw ops = some c) {Q : Exit → Env → AHeap → Prop} {ρ : Env} {h : AHeap} (hx : xcode P c Q ρ h) : AWp P N (.region id ops draw) Q ρ h := by
  unfold trRegX at htr
  split at htr
  · rename_i xs hxs
    cases htr
    exact region_sound hxs hx
  · intro φ w t hr he ht
    simp only [Option.bind_eq_some_iff] at htr
    obtain ⟨X, hX, htr⟩ := htr
    split at htr
    · rename_i hc
      obtain ⟨rfl, hm, hst⟩ := hc
      have hS := statB_sound hst
      obtain ⟨g1, g2⟩ := mapM_get hX
      have hXR : XRel P N X.toArray ops := ⟨by simpa using g1, fun i o ho => by
        obtain ⟨x, h1, h2⟩ := g2 i o (by simpa using ho)
        exact ⟨x, by simpa using h1, h2⟩⟩
      have hD := orderX_sound (P := P) (Q := Q) ops.size _ c ρ h htr hx
      refine wp_region_any hm (DR.sound hXR hS ops.size _ ρ h φ _ t (by simp) ?_ hD (hr.drew _) he ht fun φ' ρ' h' t' w' a b c d => ⟨rfl, c, φ', ρ', h', (Stp.drew hr _).trans a, b, d⟩)
      intro k hk
      simp [Array.getD_eq_getD_getElem?, Array.getElem?_replicate] at hk
      split at hk <;> simp at hk
    · cases htr

def trCode (P : Program) (N : Nat) : Code → Option XCode
  | .skip => some .skip
  | .label _ => some .skip
  | .region _ ops draw => some ((trRegX P N draw ops).getD .bad)
  | .seq a b => (trCode P N a).bind fun a => (trCode P N b).map fun b => .seq a b
  | .cond c a b => (trA c).bind fun c => (trCode P N a).bind fun a => (trCode P N b).map fun b => .cond c a b
  | .block id b => (trCode P N b).map (.block id)
  | .loop b => (trCode P N b).map .loop
  | .scope b => (trCode P N b).map .scope
  | .exit id => some (.exit id)
  | .ret => some .ret
  | _ => some .bad

theorem Post.mono {φ : Phi} {h : AHeap} {w : World} {Q Q' : Exit → Env → AHeap → Prop} (hq : ∀ e ρ h, Q e ρ h → Q' e ρ h) : ∀ e a w', Post N φ h w Q e a w' → Post N φ h w Q' e a w' :=
  fun e a w' ⟨h1, h2, φ', ρ', h', h3, h4, h5⟩ => ⟨h1, h2, φ', ρ', h', h3, h4, hq _ _ _ h5⟩

theorem rounds_mono {c : Code} {Q : Exit → Act → World → Prop} : ∀ {n m : Nat}, n ≤ m → ∀ a w, Code.rounds P c Q n a w → Code.rounds P c Q m a w := by
  intro n
  induction n with
  | zero => intro m _ a w h; exact h.elim
  | succ n ih =>
    intro m hm a w h
    obtain ⟨m, rfl⟩ : ∃ k, m = k + 1 := ⟨m - 1, by omega⟩
    exact wp_mono h fun e a w q => by cases e <;> first | exact ih (by omega) _ _ q | exact q

theorem trCode_sound : ∀ (c : Code) (x : XCode), trCode P N c = some x → ∀ Q ρ h, xcode P x Q ρ h → AWp P N c Q ρ h := by
  intro c
  induction c with
  | skip =>
    intro x hx Q ρ h hq φ w t hr he ht
    simp [trCode] at hx; subst hx
    exact wp_skip ⟨rfl, ht, φ, ρ, h, Stp.refl hr, he, hq⟩
  | label l =>
    intro x hx Q ρ h hq φ w t hr he ht
    simp [trCode] at hx; subst hx
    exact wp_label ⟨rfl, ht, φ, ρ, h, Stp.refl hr, he, hq⟩
  | region id ops draw =>
    intro x hx Q ρ h hq
    simp only [trCode, Option.some.injEq] at hx
    subst hx
    cases hc : trRegX P N draw ops with
    | none => rw [hc] at hq; exact hq.elim
    | some c => rw [hc] at hq; exact regionX_sound hc hq
  | seq a b iha ihb =>
    intro x hx Q ρ h hq φ w t hr he ht
    simp only [trCode, Option.bind_eq_some_iff, Option.map_eq_some_iff] at hx
    obtain ⟨a', ha, b', hb, rfl⟩ := hx
    refine wp_seq (wp_mono (iha a' ha _ ρ h hq φ w t hr he ht) fun e ac w' hp => ?_)
    obtain ⟨p1, p2, φ', ρ', h', p3, p4, p5⟩ := hp
    cases e with
    | normal =>
      show b.wp P _ ac w'
      rw [act_eq p1]
      refine wp_mono (ihb b' hb Q ρ' h' p5 φ' w' _ p3.hr p4 p2) fun e2 a2 w2 hp2 => ?_
      obtain ⟨q1, q2, φ2, ρ2, h2, q3, q4, q5⟩ := hp2
      exact ⟨q1, q2, φ2, ρ2, h2, p3.trans q3, q4, q5⟩
    | _ => exact ⟨p1, p2, φ', ρ', h', p3, p4, p5⟩
  | cond c a b iha ihb =>
    intro x hx Q ρ h hq φ w t hr he ht
    simp only [trCode, Option.bind_eq_some_iff, Option.map_eq_some_iff] at hx
    obtain ⟨c', hc, a', ha, b', hb, rfl⟩ := hx
    obtain ⟨bt, h1, h2, h3⟩ := hq
    have hv := (ev_sound (a := ⟨t, []⟩) he hc h1).bool_inv
    refine wp_cond hv ?_
    cases bt with
    | true => exact iha a' ha Q ρ h (h2 rfl) φ w t hr he ht
    | false => exact ihb b' hb Q ρ h (h3 rfl) φ w t hr he ht
  | block id b ih =>
    intro x hx Q ρ h hq φ w t hr he ht
    simp only [trCode, Option.map_eq_some_iff] at hx
    obtain ⟨b', hb, rfl⟩ := hx
    refine wp_block (wp_mono (ih b' hb _ ρ h hq φ w t hr he ht) fun e ac w' hp => ?_)
    obtain ⟨p1, p2, φ', ρ', h', p3, p4, p5⟩ := hp
    cases e with
    | exit i =>
      simp only [Exit.inBlock] at p5 ⊢
      split
      · rename_i hi; rw [if_pos hi] at p5; exact ⟨p1, p2, φ', ρ', h', p3, p4, p5⟩
      · rename_i hi; rw [if_neg hi] at p5; exact ⟨p1, p2, φ', ρ', h', p3, p4, p5⟩
    | _ => exact ⟨p1, p2, φ', ρ', h', p3, p4, p5⟩
  | scope b ih =>
    intro x hx Q ρ h hq φ w t hr he ht
    simp only [trCode, Option.map_eq_some_iff] at hx
    obtain ⟨b', hb, rfl⟩ := hx
    refine wp_scope_straight (wp_mono (ih b' hb _ ρ h hq φ w t hr he ht) fun e ac w' hp => ?_)
    obtain ⟨p1, p2, φ', ρ', h', p3, p4, p5⟩ := hp
    cases e with
    | goto l => exact p5.elim
    | _ => exact ⟨p1, p2, φ', ρ', h', p3, p4, p5⟩
  | loop b ih =>
    intro x hx Q ρ h hq φ w t hr he ht
    simp only [trCode, Option.map_eq_some_iff] at hx
    obtain ⟨b', hb, rfl⟩ := hx
    obtain ⟨I, ⟨n0, h0⟩, hI⟩ := hq
    have key : ∀ (n : Nat) (ρ1 : Env) (h1 : AHeap) (φ1 : Phi) (w1 : World) (t1 : Array Value), I n ρ1 h1 → Stp φ h w φ1 h1 w1 → ER φ1 ρ1 t1 → t1.size = N → Code.rounds P b (Post N φ h w Q) (n + 1) ⟨t1, []⟩ w1 := by
      intro n
      induction n using Nat.strongRecOn with
      | _ n ihn =>
        intro ρ1 h1 φ1 w1 t1 hi hs he1 ht1
        refine wp_mono (ih b' hb _ ρ1 h1 (hI n ρ1 h1 hi) φ1 w1 t1 hs.hr he1 ht1) fun e ac w' hp => ?_
        obtain ⟨p1, p2, φ', ρ', h', p3, p4, p5⟩ := hp
        cases e with
        | normal =>
          obtain ⟨m, hm, him⟩ := p5
          show Code.rounds P b (Post N φ h w Q) n ac w'
          rw [act_eq p1]
          exact rounds_mono (by omega) _ _ (ihn m hm ρ' h' φ' w' _ him (hs.trans p3) p4 p2)
        | _ => exact ⟨p1, p2, φ', ρ', h', hs.trans p3, p4, p5⟩
    exact wp_loop_rounds _ (key n0 ρ h φ w t h0 (Stp.refl hr) he ht)
  | exit id =>
    intro x hx Q ρ h hq φ w t hr he ht
    simp [trCode] at hx; subst hx
    exact wp_exit ⟨rfl, ht, φ, ρ, h, Stp.refl hr, he, hq⟩
  | ret =>
    intro x hx Q ρ h hq φ w t hr he ht
    simp [trCode] at hx; subst hx
    exact wp_ret ⟨rfl, ht, φ, ρ, h, Stp.refl hr, he, hq⟩
  | _ => intro x hx Q ρ h hq; simp [trCode] at hx; subst hx; exact hq.elim
end
end Go.Ai
