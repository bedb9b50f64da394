import Derived.Test.YtejgaeinkojgpaaV2
set_option linter.unusedVariables false
set_option linter.unusedSimpArgs false
namespace Go.Proofs.Ytejgaeinkojgpaa
open Go Go.Ai Go.Proofs

def DK.res (d : DK) : List Bool := d.cs.map Ci.re
def Fit (n : Nat) (m : Ms) : Prop := m.Ok ∧ m.first + (m.mask.length : Nat) ≤ (n : Int)
def setB (m : Ms) (l : List Bool) : Nat → List Bool
  | 0 => l
  | i + 1 => if m.mask[i]? = some true then (setB m l i).set (m.first.toNat + i) (m.on[i]?.getD false) else setB m l i
theorem setB_len (m : Ms) (l : List Bool) : ∀ i, (setB m l i).length = l.length
  | 0 => rfl
  | i + 1 => by unfold setB; split <;> simp [setB_len m l i]
theorem setC_reG (cs : List Ci) (on : Bool) (k : Nat) : (setC cs true on k).map Ci.re = (cs.map Ci.re).set k on := by
  unfold setC
  split
  · rw [List.map_set]; rfl
  · rename_i hc
    rw [List.set_eq_of_length_le]
    have := List.getElem?_eq_none_iff.1 hc
    simpa using this
theorem setC_loG (cs : List Ci) (on : Bool) (k : Nat) : (setC cs true on k).map Ci.lo = cs.map Ci.lo := by
  unfold setC
  split
  · rename_i c hc
    rw [List.map_set]
    apply List.ext_getElem?
    intro i
    by_cases h : k = i
    · subst h
      have hk := (List.getElem?_eq_some_iff.1 hc).1
      rw [List.getElem?_set_self (by simpa using hk), List.getElem?_map, hc]; rfl
    · rw [List.getElem?_set_ne h]
  · rfl
theorem setM_B (m : Ms) (cs : List Ci) : ∀ i, (setM m cs i).map Ci.re = setB m (cs.map Ci.re) i
  | 0 => rfl
  | i + 1 => by
    unfold setM setB
    split
    · rw [setC_reG, setM_B m cs i]
    · exact setM_B m cs i
theorem setM_L (m : Ms) (cs : List Ci) : ∀ i, (setM m cs i).map Ci.lo = cs.map Ci.lo
  | 0 => rfl
  | i + 1 => by
    unfold setM
    split
    · rw [setC_loG, setM_L m cs i]
    · exact setM_L m cs i
theorem setLs_re (on : Bool) : ∀ (zs : List Int) (cs : List Ci), (setLs cs on zs).map Ci.re = cs.map Ci.re
  | [], _ => rfl
  | z :: zs, cs => by
    rw [setLs, List.foldl_cons]
    have e : (setC cs false on z.toNat).map Ci.re = cs.map Ci.re := by
      unfold setC
      split
      · rename_i c hc
        rw [List.map_set]
        apply List.ext_getElem?
        intro i
        by_cases h : z.toNat = i
        · subst h
          have hk := (List.getElem?_eq_some_iff.1 hc).1
          rw [List.getElem?_set_self (by simpa using hk), List.getElem?_map, hc]; rfl
        · rw [List.getElem?_set_ne h]
      · rfl
    rw [← e]
    exact setLs_re on zs _
theorem setB_get (m : Ms) (l : List Bool) : ∀ (j k : Nat), (setB m l j)[k]? = if m.first.toNat ≤ k ∧ k < m.first.toNat + j ∧ m.mask[k - m.first.toNat]? = some true then l[k]?.map (fun _ => m.on[k - m.first.toNat]?.getD false) else l[k]?
  | 0, k => by rw [if_neg (by omega)]; rfl
  | j + 1, k => by
    unfold setB
    by_cases hm : m.mask[j]? = some true
    · rw [if_pos hm]
      by_cases hk : m.first.toNat + j = k
      · subst hk
        have e : m.first.toNat + j - m.first.toNat = j := by omega
        rw [e, if_pos ⟨by omega, by omega, hm⟩]
        by_cases hl : m.first.toNat + j < l.length
        · rw [List.getElem?_set_self (by rw [setB_len]; exact hl), List.getElem?_eq_getElem hl]; rfl
        · have e2 : l[m.first.toNat + j]? = none := List.getElem?_eq_none (by omega)
          rw [List.getElem?_eq_none (by rw [List.length_set, setB_len]; omega), e2]; rfl
      · rw [List.getElem?_set_ne hk, setB_get m l j k]
        by_cases hc : m.first.toNat ≤ k ∧ k < m.first.toNat + j ∧ m.mask[k - m.first.toNat]? = some true
        · rw [if_pos hc, if_pos ⟨hc.1, by omega, hc.2.2⟩]
        · rw [if_neg hc, if_neg fun h => hc ⟨h.1, by omega, h.2.2⟩]
    · rw [if_neg hm, setB_get m l j k]
      by_cases hc : m.first.toNat ≤ k ∧ k < m.first.toNat + j ∧ m.mask[k - m.first.toNat]? = some true
      · rw [if_pos hc, if_pos ⟨hc.1, by omega, hc.2.2⟩]
      · rw [if_neg hc, if_neg fun h => hc ⟨h.1, ?_, h.2.2⟩]
        obtain ⟨h1, h2, h3⟩ := h
        refine Nat.lt_of_le_of_ne (by omega) fun e => hm ?_
        rw [e] at h3
        rw [show m.first.toNat + j - m.first.toNat = j by omega] at h3; exact h3
/-- the Set that was made, put to what was told: what is told now -/
theorem Snt.apply {n : Nat} {nw tw : List Bool} {s f : Nat} {m : Ms} {tw' : List Bool} (S : Snt n nw tw s f m tw') (h1 : nw.length = n) (h2 : tw.length = n) : setB m tw m.mask.length = tw' := by
  have nb := S.nb
  have hf : m.first.toNat = f := by have := nb.fst; simp only at this; omega
  have hl := nb.len
  simp only at hl
  apply List.ext_getElem?
  intro k
  rw [setB_get, hf, nb.told k]
  by_cases c1 : f ≤ k ∧ k < f + m.mask.length
  · have hm := nb.mkd (k - f) (by show k - f < m.mask.length; omega)
    have ho := nb.on (k - f) (by show k - f < m.mask.length; omega)
    simp only at hm ho
    rw [show f + (k - f) = k by omega] at hm ho
    rw [if_pos (show k < min n (f + 32) by omega)]
    by_cases hd : nw[k]? = tw[k]?
    · have : decide (nw[k]? ≠ tw[k]?) = false := by simp [hd]
      rw [this] at hm
      rw [if_neg (by rw [hm]; simp)]; exact hd.symm
    · have : decide (nw[k]? ≠ tw[k]?) = true := by simp [hd]
      rw [this] at hm ho
      rw [if_pos ⟨c1.1, c1.2, hm⟩, ho]
      have e1 := List.getElem?_eq_getElem (l := nw) (i := k) (by omega)
      have e2 := List.getElem?_eq_getElem (l := tw) (i := k) (by omega)
      rw [e1, e2]; simp
  · rw [if_neg fun h => c1 ⟨h.1, h.2.1⟩]
    by_cases c2 : k < min n (f + 32)
    · rw [if_pos c2]
      by_cases c3 : k < f
      · exact (nb.bef k c3).symm
      · exact (nb.gap k (by show f + m.mask.length ≤ k; omega) c2).symm
    · rw [if_neg c2]
/-- a message is out that is not yet acknowledged -/
def StO (n : Nat) (S R : DK) (W : List Ms) : Prop := ∃ x, S.op = some x ∧ x.serial = S.last ∧ x.kind = 1 ∧ Fit n x ∧ 1 ≤ S.last ∧ (∀ m, (m ∈ W ∨ m ∈ S.out) → m.kind = 1 → m.serial = S.last → m = x) ∧
  ((R.heard = S.last - 1 ∧ setB x R.res x.mask.length = S.told) ∨ (R.heard = S.last ∧ R.res = S.told))
/-- one direction: S tells R; W is on the way to R, V to S -/
structure Dir (n : Nat) (c : Bool) (S R : DK) (W V : List Ms) : Prop where
  cl : S.cs.length = n
  tl : S.told.length = n
  rl : R.cs.length = n
  l0 : 0 ≤ S.last
  ag : 1 ≤ S.again ∧ S.again ≤ 8 ∧ 0 ≤ S.age ∧ S.age < S.again
  kd : ∀ m, (m ∈ W ∨ m ∈ S.out) → m.kind = 1 ∨ m.kind = 2
  sets : ∀ m, (m ∈ W ∨ m ∈ S.out) → m.kind = 1 → Fit n m ∧ 1 ≤ m.serial ∧ m.serial ≤ S.last
  acks : ∀ m, (m ∈ V ∨ m ∈ R.out) → m.kind = 2 → m = ackM m.serial ∧ 1 ≤ m.serial ∧ m.serial ≤ R.heard
  st : (S.op = none ∧ R.heard = S.last ∧ R.res = S.told ∧ (c = true → S.told = S.locals)) ∨ StO n S R W
/-- the number of circuits that are due -/
def dif (n : Nat) (S : DK) : Nat := (List.range n).countP fun k => decide (S.locals[k]? ≠ S.told[k]?)
theorem dif_le (n : Nat) (S : DK) : dif n S ≤ n := by unfold dif; exact Nat.le_trans List.countP_le_length (by simp)
theorem countP_lt' {α : Type} {p q : α → Bool} : ∀ {l : List α}, (∀ x ∈ l, p x = true → q x = true) → (∃ x ∈ l, q x = true ∧ p x = false) → l.countP p + 1 ≤ l.countP q
  | [], _, h => by obtain ⟨x, hx, -⟩ := h; cases hx
  | a :: l, h1, h2 => by
    have hm : l.countP p ≤ l.countP q := List.countP_mono_left fun x hx h => h1 x (List.mem_cons_of_mem _ hx) h
    rw [List.countP_cons, List.countP_cons]
    obtain ⟨x, hx, hq, hp⟩ := h2
    rcases List.mem_cons.1 hx with rfl | hx
    · simp only [hq, hp]; simp; omega
    · have ih := countP_lt' (fun y hy => h1 y (List.mem_cons_of_mem _ hy)) ⟨x, hx, hq, hp⟩
      have := h1 a (List.mem_cons_self ..)
      cases ha : p a
      · cases hb : q a
        · simp; omega
        · simp; omega
      · rw [this ha]; simp; omega
section
variable {n : Nat} {c : Bool} {S R : DK} {W V : List Ms}
/-- S sends what is due -/
theorem Dir.next (D : Dir n false S R W V) (hn : n ≤ 256) (hs : S.last ≤ 1000) : Dir n true S.next R W V ∧ ((S.next = S ∧ (S.op.isSome = true ∨ S.locals = S.told)) ∨ (S.op = none ∧ ∃ m, S.next.out = S.out ++ [m] ∧ m.kind = 1 ∧ m.serial = S.last + 1 ∧ S.next.last = S.last + 1 ∧ S.next.op = some m ∧ dif n S.next + 1 ≤ dif n S)) := by
  by_cases h : S.op.isSome = true ∨ S.locals = S.told
  · have e : S.next = S := by unfold DK.next; rw [if_pos h]
    rw [e]
    refine ⟨⟨D.cl, D.tl, D.rl, D.l0, D.ag, D.kd, D.sets, D.acks, ?_⟩, .inl ⟨rfl, h⟩⟩
    rcases D.st with ⟨h1, h2, h3, -⟩ | h1
    · refine .inl ⟨h1, h2, h3, fun _ => ?_⟩
      rcases h with h | h
      · rw [h1] at h; cases h
      · exact h.symm
    · exact .inr h1
  · have hop : S.op = none := by
      cases e : S.op with
      | none => rfl
      | some x => exact absurd (.inl (by rw [e]; rfl)) h
    have hne : S.locals ≠ S.told := fun e => h (.inr e)
    obtain ⟨s, hsn⟩ : ∃ s : Nat, S.last = s := ⟨S.last.toNat, by have := D.l0; omega⟩
    have b : Bs n { S with out := [] } S.locals S.told s false := ⟨D.cl, rfl, rfl, D.tl, hsn, rfl, by show S.op.isSome = false; rw [hop]; rfl, (fun m hm => by have : S.op = some m := hm; rw [hop] at this; cases this), fun h => by cases h⟩
    obtain ⟨f, m, eo, sn, b'⟩ := b.sent hne hn (by omega)
    have e0 : (DK.next { S with out := [] }) = DK.went { S with out := [] } := by unfold DK.next; rw [if_neg (by exact h)]
    have e : S.next = S.went := by unfold DK.next; rw [if_neg h]
    have em : m = S.msg := by
      rw [e0] at eo
      have : [DK.msg { S with out := [] }] = [m] := eo
      exact (List.cons.inj this).1.symm
    subst em
    have et : (DK.next { S with out := [] }).told = S.went.told := by rw [e0]; rfl
    rw [et] at sn
    have hlo : S.locals.length = n := by rw [DK.locals_len, D.cl]
    have ap := sn.apply hlo D.tl
    have hw : S.went.last = S.last + 1 := by
      show IntKind.u32.wrap (S.last + 1) = _
      rw [u32_wrap_small (by omega) (by omega)]
    have hse : S.msg.serial = S.last + 1 := by rw [sn.se, hsn]; omega
    have h3 : R.heard = S.last ∧ R.res = S.told := by
      rcases D.st with ⟨-, h2, h3, -⟩ | ⟨x, hx, -⟩
      · exact ⟨h2, h3⟩
      · rw [hop] at hx; cases hx
    have fit : Fit n S.msg := by
      refine ⟨sn.ok, ?_⟩
      have h1 := sn.nb.fst
      have h2 := sn.nb.len
      simp only at h1 h2
      omega
    have oe : S.went.out = S.out ++ [S.msg] := rfl
    rw [e]
    refine ⟨⟨D.cl, ?_, D.rl, by rw [hw]; omega, ⟨D.ag.1, D.ag.2.1, by show (0 : Int) ≤ 0; omega, by show (0 : Int) < S.again; have := D.ag.1; omega⟩, fun x hx => ?_, fun x hx hk => ?_, D.acks, .inr ⟨S.msg, rfl, by rw [hw]; exact hse, sn.k, fit, by rw [hw]; omega, fun x hx hk hxs => ?_, .inl ⟨by rw [hw, h3.1]; omega, by rw [h3.2]; exact ap⟩⟩⟩, .inr ⟨hop, S.msg, oe, sn.k, hse, hw, rfl, ?_⟩⟩
    · show (nx S.locals 0 ⟨-1, [], [], S.told⟩).told.length = n
      rw [nx_tl]; exact D.tl
    · rw [oe] at hx
      rcases hx with hx | hx
      · exact D.kd x (.inl hx)
      · rcases List.mem_append.1 hx with hx | hx
        · exact D.kd x (.inr hx)
        · have : x = S.msg := by simpa using hx
          subst this; exact .inl sn.k
    · rw [oe] at hx
      have old : (x ∈ W ∨ x ∈ S.out) → Fit n x ∧ 1 ≤ x.serial ∧ x.serial ≤ S.went.last := fun hx => by
        obtain ⟨k1, k2, k3⟩ := D.sets x hx hk
        exact ⟨k1, k2, by rw [hw]; omega⟩
      rcases hx with hx | hx
      · exact old (.inl hx)
      · rcases List.mem_append.1 hx with hx | hx
        · exact old (.inr hx)
        · have : x = S.msg := by simpa using hx
          subst this
          exact ⟨fit, by rw [hse]; omega, by rw [hse, hw]; omega⟩
    · rw [oe] at hx
      have old : (x ∈ W ∨ x ∈ S.out) → x = S.msg := fun hx => by
        have := (D.sets x hx hk).2.2
        rw [hxs, hw] at this; omega
      rcases hx with hx | hx
      · exact old (.inl hx)
      · rcases List.mem_append.1 hx with hx | hx
        · exact old (.inr hx)
        · simpa using hx
    · unfold dif
      have hd := sn.nb.dif
      have ht := sn.nb.told
      simp only at ht
      have el : S.went.locals = S.locals := rfl
      refine countP_lt' (fun k hk hp => ?_) ⟨f, List.mem_range.2 sn.fn, ?_, ?_⟩
      · rw [el, decide_eq_true_iff] at hp
        rw [decide_eq_true_iff]
        rw [ht k] at hp
        intro e
        split at hp
        · exact hp rfl
        · exact hp e
      · rw [decide_eq_true_iff]; exact hd
      · rw [el, decide_eq_false_iff_not, ht f, if_pos (by have := sn.nb.fi; exact this)]
        simp
end

section
variable {n : Nat} {c : Bool} {S R R' : DK} {W V W' V' : List Ms}
theorem next_sh (S : DK) : S.next.cs = S.cs ∧ S.next.heard = S.heard ∧ S.next.again = S.again ∧ ((S.next = S) ∨ (S.next.out = S.out ++ [S.msg] ∧ S.next.last = IntKind.u32.wrap (S.last + 1))) := by
  unfold DK.next; split
  · exact ⟨rfl, rfl, rfl, .inl rfl⟩
  · exact ⟨rfl, rfl, rfl, .inr ⟨rfl, rfl⟩⟩
theorem Dir.recv (D : Dir n c S R W V) (h1 : R'.cs.length = n) (h2 : R'.heard = R.heard) (h3 : R'.res = R.res) (h4 : ∀ m, m ∈ R'.out → m ∈ R.out ∨ m.kind = 1) : Dir n c S R' W V := by
  refine ⟨D.cl, D.tl, h1, D.l0, D.ag, D.kd, D.sets, fun m hm hk => ?_, ?_⟩
  · rw [h2]
    refine D.acks m ?_ hk
    rcases hm with hm | hm
    · exact .inl hm
    · rcases h4 m hm with h | h
      · exact .inr h
      · omega
  · have st := D.st
    unfold StO at st ⊢
    rw [h2, h3]; exact st
theorem Dir.sub (D : Dir n c S R W V) (hW : ∀ m, m ∈ W' → m ∈ W) (hV : ∀ m, m ∈ V' → m ∈ V) : Dir n c S R W' V' := by
  refine ⟨D.cl, D.tl, D.rl, D.l0, D.ag, fun m hm => D.kd m (hm.imp (hW m) id), fun m hm => D.sets m (hm.imp (hW m) id), fun m hm => D.acks m (hm.imp (hV m) id), ?_⟩
  rcases D.st with h | ⟨x, h1, h2, h3, h4, h5, h6, h7⟩
  · exact .inl h
  · exact .inr ⟨x, h1, h2, h3, h4, h5, fun m hm => h6 m (hm.imp (hW m) id), h7⟩
theorem Dir.takeS (D : Dir n c S R W V) : Dir n c { S with out := [] } R (W ++ S.out) V := by
  have hm' : ∀ m, (m ∈ W ++ S.out ∨ m ∈ ({ S with out := [] } : DK).out) → m ∈ W ∨ m ∈ S.out := fun m hm => by
    rcases hm with hm | hm
    · exact List.mem_append.1 hm
    · cases hm
  refine ⟨D.cl, D.tl, D.rl, D.l0, D.ag, fun m hm => D.kd m (hm' m hm), fun m hm => D.sets m (hm' m hm), D.acks, ?_⟩
  rcases D.st with h | ⟨x, h1, h2, h3, h4, h5, h6, h7⟩
  · exact .inl h
  · exact .inr ⟨x, h1, h2, h3, h4, h5, fun m hm => h6 m (hm' m hm), h7⟩
theorem Dir.takeR (D : Dir n c S R W V) : Dir n c S { R with out := [] } W (V ++ R.out) := by
  refine ⟨D.cl, D.tl, D.rl, D.l0, D.ag, D.kd, D.sets, fun m hm => D.acks m ?_, D.st⟩
  rcases hm with hm | hm
  · exact List.mem_append.1 hm
  · cases hm
/-- S makes a change that its direction does not see, but for its messages -/
theorem Dir.send (D : Dir n c S R W V) {S' : DK} (h1 : S'.cs.length = n) (h2 : S'.told = S.told) (h3 : S'.last = S.last) (h4 : S'.op = S.op) (h5 : S'.locals = S.locals) (h6 : S'.again = S.again) (h7 : 0 ≤ S'.age ∧ S'.age < S.again) (h8 : ∀ m, m ∈ S'.out → m ∈ S.out ∨ m.kind = 2 ∨ S.op = some m) : Dir n c S' R W V := by
  have opk : ∀ m, S.op = some m → m.kind = 1 ∧ Fit n m ∧ 1 ≤ m.serial ∧ m.serial ≤ S.last := fun m hm => by
    rcases D.st with ⟨h, -⟩ | ⟨x, k1, k2, k3, k4, k5, -⟩
    · rw [h] at hm; cases hm
    · rw [k1] at hm; cases hm
      exact ⟨k3, k4, by omega, by omega⟩
  refine ⟨h1, by rw [h2]; exact D.tl, D.rl, by rw [h3]; exact D.l0, by rw [h6]; exact ⟨D.ag.1, D.ag.2.1, h7⟩, fun m hm => ?_, fun m hm hk => ?_, D.acks, ?_⟩
  · rcases hm with hm | hm
    · exact D.kd m (.inl hm)
    · rcases h8 m hm with h | h | h
      · exact D.kd m (.inr h)
      · exact .inr h
      · exact .inl (opk m h).1
  · rw [h3]
    rcases hm with hm | hm
    · exact D.sets m (.inl hm) hk
    · rcases h8 m hm with h | h | h
      · exact D.sets m (.inr h) hk
      · omega
      · exact (opk m h).2
  · rcases D.st with ⟨k1, k2, k3, k4⟩ | ⟨x, k1, k2, k3, k4, k5, k6, k7⟩
    · exact .inl ⟨by rw [h4]; exact k1, by rw [h3]; exact k2, by rw [h2]; exact k3, by rw [h2, h5]; exact k4⟩
    · refine .inr ⟨x, by rw [h4]; exact k1, by rw [h3]; exact k2, k3, k4, by rw [h3]; exact k5, fun m hm hk hs => ?_, by rw [h3, h2]; exact k7⟩
      rw [h3] at hs
      rcases hm with hm | hm
      · exact k6 m (.inl hm) hk hs
      · rcases h8 m hm with h | h | h
        · exact k6 m (.inr h) hk hs
        · omega
        · rw [k1] at h; exact (Option.some.inj h).symm
theorem tick_sh (S : DK) (h : 1 ≤ S.again ∧ S.again ≤ 8 ∧ 0 ≤ S.age ∧ S.age < S.again) : S.tick.cs = S.cs ∧ S.tick.told = S.told ∧ S.tick.last = S.last ∧ S.tick.op = S.op ∧ S.tick.again = S.again ∧ S.tick.heard = S.heard ∧ (0 ≤ S.tick.age ∧ S.tick.age < S.again) ∧ (∀ m, m ∈ S.tick.out → m ∈ S.out ∨ S.op = some m) ∧ (∀ m, m ∈ S.out → m ∈ S.tick.out) ∧ S.tick.out.length ≤ S.out.length + 1 ∧
    (S.op = none ∧ S.tick = S ∨ (∃ x, S.op = some x ∧ (x ∈ S.tick.out ∨ S.tick.age = S.age + 1))) := by
  cases e : S.op with
  | none =>
    rw [DK.tick_none S e]
    exact ⟨rfl, rfl, rfl, e, rfl, rfl, h.2.2, fun m hm => .inl hm, fun m hm => hm, by omega, .inl ⟨rfl, rfl⟩⟩
  | some x =>
    rw [DK.tick_some S e]
    have hw : IntKind.i64.wrap (S.age + 1) = S.age + 1 := i64_wrap (by omega) (by omega)
    rw [hw]
    split
    · refine ⟨rfl, rfl, rfl, e, rfl, rfl, ⟨by show (0 : Int) ≤ 0; omega, by show (0 : Int) < _; omega⟩, fun m hm => ?_, fun m hm => List.mem_append_left _ hm, by simp, .inr ⟨x, rfl, .inl (by simp)⟩⟩
      rcases List.mem_append.1 hm with h | h
      · exact .inl h
      · have : m = x := by simpa using h
        subst this; exact .inr rfl
    · exact ⟨rfl, rfl, rfl, e, rfl, rfl, ⟨by show (0 : Int) ≤ S.age + 1; omega, by show S.age + 1 < S.again; omega⟩, fun m hm => .inl hm, fun m hm => hm, by show S.out.length ≤ _; omega, .inr ⟨x, rfl, .inr rfl⟩⟩
theorem Dir.tick (D : Dir n c S R W V) : Dir n c S.tick R W V := by
  obtain ⟨h1, h2, h3, h4, h5, h6, h7, h8, -⟩ := tick_sh S D.ag
  refine D.send (by rw [h1]; exact D.cl) h2 h3 h4 (by unfold DK.locals; rw [h1]) h5 h7 fun m hm => ?_
  rcases h8 m hm with h | h
  · exact .inl h
  · exact .inr (.inr h)
theorem Dir.opk (D : Dir n c S R W V) {x : Ms} (hx : S.op = some x) : x.kind = 1 ∧ x.serial = S.last ∧ Fit n x := by
  rcases D.st with ⟨h, -⟩ | ⟨y, k1, k2, k3, k4, k5, -⟩
  · rw [h] at hx; cases hx
  · rw [k1] at hx; cases hx
    exact ⟨k3, k2, k4⟩
end
/-- what a desk does that hears -/
def DK.hr (d : DK) (m : Ms) : DK := if m.kind = 1 then d.heardS m else d.ackd m.serial
theorem heardS_sh (d : DK) (m : Ms) : (d.heardS m).cs.length = d.cs.length ∧ (d.heardS m).told = d.told ∧ (d.heardS m).last = d.last ∧ (d.heardS m).op = d.op ∧ (d.heardS m).locals = d.locals ∧ (d.heardS m).again = d.again ∧ (d.heardS m).age = d.age ∧ (d.heardS m).out = d.out ++ [ackM m.serial] := by
  unfold DK.heardS DK.got
  split
  · exact ⟨by simp only [setM_len], rfl, rfl, rfl, setM_L m d.cs _, rfl, rfl, rfl⟩
  · exact ⟨rfl, rfl, rfl, rfl, rfl, rfl, rfl, rfl⟩
/-- two desks, and what is on the way to b and to a -/
structure Pr (n : Nat) (a b : DK) (Wb Wa : List Ms) : Prop where
  ab : Dir n true a b Wb Wa
  ba : Dir n true b a Wa Wb
section
variable {n : Nat} {a b : DK} {Wb Wa Wb' Wa' : List Ms}
theorem Pr.symm (P : Pr n a b Wb Wa) : Pr n b a Wa Wb := ⟨P.ba, P.ab⟩
theorem Pr.sub (P : Pr n a b Wb Wa) (h1 : ∀ m, m ∈ Wb' → m ∈ Wb) (h2 : ∀ m, m ∈ Wa' → m ∈ Wa) : Pr n a b Wb' Wa' := ⟨P.ab.sub h1 h2, P.ba.sub h2 h1⟩
theorem Pr.take (P : Pr n a b Wb Wa) : Pr n { a with out := [] } b (Wb ++ a.out) Wa := ⟨P.ab.takeS, P.ba.takeR⟩
theorem Pr.tick (P : Pr n a b Wb Wa) : Pr n a.tick b Wb Wa := by
  obtain ⟨h1, h2, h3, h4, h5, h6, h7, h8, -⟩ := tick_sh a P.ab.ag
  refine ⟨P.ab.tick, P.ba.recv (by rw [h1]; exact P.ab.cl) h6 (by unfold DK.res; rw [h1]) fun m hm => ?_⟩
  rcases h8 m hm with h | h
  · exact .inl h
  · exact .inr (P.ab.opk h).1
theorem Pr.setAll (P : Pr n a b Wb Wa) (hn : n ≤ 256) (hs : a.last ≤ 1000) (on : Bool) (zs : List Int) : Pr n (a.setAll on zs) b Wb Wa := by
  have cl : ({ a with cs := setLs a.cs on zs } : DK).cs.length = n := by simp only [setLs_len]; exact P.ab.cl
  have D0 : Dir n false { a with cs := setLs a.cs on zs } b Wb Wa := by
    refine ⟨cl, P.ab.tl, P.ab.rl, P.ab.l0, P.ab.ag, P.ab.kd, P.ab.sets, P.ab.acks, ?_⟩
    rcases P.ab.st with ⟨k1, k2, k3, -⟩ | k
    · exact .inl ⟨k1, k2, k3, fun h => by cases h⟩
    · exact .inr k
  have hx := next_sh { a with cs := setLs a.cs on zs }
  refine ⟨(D0.next hn hs).1, P.ba.recv (by unfold DK.setAll; rw [hx.1]; exact cl) hx.2.1 ?_ fun m hm => ?_⟩
  · unfold DK.setAll DK.res; rw [hx.1]; exact setLs_re on zs a.cs
  · unfold DK.setAll at hm
    rcases hx.2.2.2 with h | ⟨h, -⟩
    · rw [h] at hm; exact .inl hm
    · rw [h] at hm
      rcases List.mem_append.1 hm with h | h
      · exact .inl h
      · have : m = DK.msg { a with cs := setLs a.cs on zs } := by simpa using h
        subst this; exact .inr rfl
/-- a hears a message that is on the way to it -/
theorem Pr.fit (P : Pr n a b Wb Wa) {m : Ms} (hm : m ∈ Wa) : Fit n m ∧ (m.kind = 1 ∨ m.kind = 2) := by
  have hk := P.ba.kd m (.inl hm)
  refine ⟨?_, hk⟩
  rcases hk with hk | hk
  · exact (P.ba.sets m (.inl hm) hk).1
  · obtain ⟨h1, h2, -⟩ := P.ab.acks m (.inl hm) hk
    rw [h1]
    refine ⟨⟨.inr rfl, by show m.serial ≠ 0; omega, rfl, .inl ⟨rfl, rfl, rfl⟩⟩, ?_⟩
    show (0 : Int) + ((0 : Nat) : Int) ≤ n
    omega
theorem Dir.op0 {c : Bool} {S R : DK} {W V : List Ms} (D : Dir n c S R W V) {x : Ms} (hx : S.op = some x) (hh : R.heard = S.last) : Dir n false { S with op := none } R W V := by
  refine ⟨D.cl, D.tl, D.rl, D.l0, D.ag, D.kd, D.sets, D.acks, .inl ⟨rfl, hh, ?_, fun h => by cases h⟩⟩
  rcases D.st with ⟨k1, -⟩ | ⟨y, k1, k2, k3, k4, k5, k6, k7⟩
  · rw [hx] at k1; cases k1
  · rcases k7 with ⟨k8, -⟩ | ⟨-, k8⟩
    · omega
    · exact k8
theorem Pr.hear (P : Pr n a b Wb Wa) (hn : n ≤ 256) (hs : a.last ≤ 1000) {m : Ms} (hm : m ∈ Wa) : Pr n (a.hr m) b Wb Wa := by
  obtain ⟨fit, hk⟩ := P.fit hm
  unfold DK.hr
  by_cases h1 : m.kind = 1
  · rw [if_pos h1]
    obtain ⟨k1, k2, k3, k4, k5, k6, k7, k8⟩ := heardS_sh a m
    obtain ⟨-, s1, s2⟩ := P.ba.sets m (.inl hm) h1
    have h0 := P.ba.l0
    refine ⟨P.ab.send (by rw [k1]; exact P.ab.cl) k2 k3 k4 k5 k6 (by rw [k7]; exact P.ab.ag.2.2) fun x hx => ?_, ?_⟩
    · rw [k8] at hx
      rcases List.mem_append.1 hx with h | h
      · exact .inl h
      · have : x = ackM m.serial := by simpa using h
        subst this; exact .inr (.inl rfl)
    · have D := P.ba
      have hhd : (a.heardS m).heard = if a.heard < m.serial then m.serial else a.heard := by unfold DK.heardS DK.got; split <;> rfl
      have hle : a.heard ≤ (a.heardS m).heard ∧ m.serial ≤ (a.heardS m).heard := by rw [hhd]; split <;> omega
      refine ⟨D.cl, D.tl, by rw [k1]; exact D.rl, D.l0, D.ag, D.kd, D.sets, fun x hx hkx => ?_, ?_⟩
      · have old : (x ∈ Wb ∨ x ∈ a.out) → x = ackM x.serial ∧ 1 ≤ x.serial ∧ x.serial ≤ (a.heardS m).heard := fun hx => by
          obtain ⟨q1, q2, q3⟩ := D.acks x hx hkx
          exact ⟨q1, q2, by omega⟩
        rcases hx with hx | hx
        · exact old (.inl hx)
        · rw [k8] at hx
          rcases List.mem_append.1 hx with h | h
          · exact old (.inr h)
          · have : x = ackM m.serial := by simpa using h
            subst this; exact ⟨rfl, s1, hle.2⟩
      · rcases D.st with ⟨q1, q2, q3, q4⟩ | ⟨x, q1, q2, q3, q4, q5, q6, q7⟩
        · have e : a.heardS m = { a with out := a.out ++ [ackM m.serial] } := by unfold DK.heardS DK.got; rw [if_neg (by omega)]
          rw [e]; exact .inl ⟨q1, q2, q3, q4⟩
        · refine .inr ⟨x, q1, q2, q3, q4, q5, q6, ?_⟩
          by_cases hlt : a.heard < m.serial
          · rcases q7 with ⟨q8, q9⟩ | ⟨q8, -⟩
            · have hms : m.serial = b.last := by omega
              have hmx := q6 m (.inl hm) h1 hms
              subst hmx
              refine .inr ⟨by rw [hhd, if_pos hlt]; exact hms, ?_⟩
              have e : (a.heardS m).res = setB m a.res m.mask.length := by
                unfold DK.res DK.heardS DK.got; rw [if_pos hlt]; exact setM_B m a.cs _
              rw [e]; exact q9
            · omega
          · have e : a.heardS m = { a with out := a.out ++ [ackM m.serial] } := by unfold DK.heardS DK.got; rw [if_neg hlt]
            rw [e]; exact q7
  · rw [if_neg h1]
    have h2 : m.kind = 2 := hk.resolve_left h1
    obtain ⟨q1, q2, q3⟩ := P.ab.acks m (.inl hm) h2
    cases e : a.op with
    | none => rw [DK.ackd_none a e]; exact P
    | some x =>
      rw [DK.ackd_some a e]
      have hxs := (P.ab.opk e).2.1
      split
      · rename_i hxm
        have hb : b.heard = a.last := by
          rcases P.ab.st with ⟨k1, -⟩ | ⟨y, k1, k2, k3, k4, k5, k6, k7⟩
          · rw [e] at k1; cases k1
          · rcases k7 with ⟨k8, -⟩ | ⟨k8, -⟩ <;> omega
        have D0 := P.ab.op0 e hb
        have hx := next_sh { a with op := none }
        refine ⟨(D0.next hn hs).1, P.ba.recv (by rw [hx.1]; exact P.ab.cl) hx.2.1 (by unfold DK.res; rw [hx.1]) fun y hy => ?_⟩
        rcases hx.2.2.2 with h | ⟨h, -⟩
        · rw [h] at hy; exact .inl hy
        · rw [h] at hy
          rcases List.mem_append.1 hy with h | h
          · exact .inl h
          · have : y = DK.msg { a with op := none } := by simpa using h
            subst this; exact .inr rfl
      · exact P
/-- at rest: the other side has what is blocked here -/
theorem Pr.rest (P : Pr n a b Wb Wa) (h : a.op = none) : b.res = a.locals := by
  rcases P.ab.st with ⟨-, -, k3, k4⟩ | ⟨x, k1, -⟩
  · rw [k3]; exact k4 rfl
  · rw [h] at k1; cases k1
end

theorem ackd_out (d : DK) (s : Int) : ∀ x, x ∈ d.out → x ∈ (d.ackd s).out := by
  intro x hx
  cases e : d.op with
  | none => rw [DK.ackd_none d e]; exact hx
  | some y =>
    rw [DK.ackd_some d e]
    split
    · rcases (next_sh { d with op := none }).2.2.2 with h | ⟨h, -⟩
      · rw [h]; exact hx
      · rw [h]; exact List.mem_append_left _ hx
    · exact hx
theorem hr_out (d : DK) (m : Ms) : ∀ x, x ∈ d.out → x ∈ (d.hr m).out := by
  intro x hx
  unfold DK.hr
  split
  · rw [(heardS_sh d m).2.2.2.2.2.2.2]; exact List.mem_append_left _ hx
  · exact ackd_out d _ x hx
section
variable {n : Nat} {a b : DK} {Wb Wa : List Ms}
/-- what an ack does: nothing, or the next Set -/
theorem Pr.acked (P : Pr n a b Wb Wa) (hn : n ≤ 256) (hs : a.last ≤ 1000) {m : Ms} (hm : m ∈ Wa) (h2 : m.kind = 2) : (a.hr m = a ∧ ∀ x, a.op = some x → m.serial ≠ a.last) ∨ (a.hr m = { a with op := none }) ∨ (∃ y, (a.hr m).out = a.out ++ [y] ∧ y.kind = 1 ∧ y.serial = a.last + 1 ∧ (a.hr m).last = a.last + 1 ∧ (a.hr m).op = some y ∧ dif n (a.hr m) + 1 ≤ dif n a ∧ (a.hr m).locals = a.locals) := by
  obtain ⟨q1, q2, q3⟩ := P.ab.acks m (.inl hm) h2
  have e0 : a.hr m = a.ackd m.serial := by unfold DK.hr; rw [if_neg (by omega)]
  rw [e0]
  cases e : a.op with
  | none => rw [DK.ackd_none a e]; exact .inl ⟨rfl, fun x h => by cases h⟩
  | some x =>
    rw [DK.ackd_some a e]
    have hxs := (P.ab.opk e).2.1
    by_cases hxm : x.serial = m.serial
    · rw [if_pos hxm]
      right
      have hb : b.heard = a.last := by
        rcases P.ab.st with ⟨k1, -⟩ | ⟨y, k1, k2, k3, k4, k5, k6, k7⟩
        · rw [e] at k1; cases k1
        · rcases k7 with ⟨k8, -⟩ | ⟨k8, -⟩ <;> omega
      have D0 := P.ab.op0 e hb
      rcases (D0.next hn hs).2 with ⟨h, -⟩ | ⟨-, y, h1, h2, h3, h4, h5, h6⟩
      · exact .inl h
      · exact .inr ⟨y, h1, h2, h3, h4, h5, h6, by unfold DK.locals; rw [(next_sh { a with op := none }).1]⟩
    · rw [if_neg hxm]
      exact .inl ⟨rfl, fun x h => by omega⟩
theorem Pr.hear_n (P : Pr n a b Wb Wa) (hn : n ≤ 256) (hs : a.last ≤ 1000) {m : Ms} (hm : m ∈ Wa) : (a.hr m).last + dif n (a.hr m) ≤ a.last + dif n a ∧ (a.hr m).last ≤ a.last + 1 ∧ (a.hr m).out.length ≤ a.out.length + 1 ∧ (a.hr m).locals = a.locals ∧ (a.op = none → (a.hr m).op = none) := by
  obtain ⟨fit, hk⟩ := P.fit hm
  by_cases h1 : m.kind = 1
  · have e : a.hr m = a.heardS m := by unfold DK.hr; rw [if_pos h1]
    rw [e]
    obtain ⟨k1, k2, k3, k4, k5, k6, k7, k8⟩ := heardS_sh a m
    have ed : dif n (a.heardS m) = dif n a := by unfold dif; rw [k2, k5]
    exact ⟨by rw [ed, k3]; omega, by rw [k3]; omega, by rw [k8]; simp, k5, fun h => by rw [k4]; exact h⟩
  · rcases P.acked hn hs hm (hk.resolve_left h1) with ⟨h, -⟩ | h | ⟨y, h2, h3, h4, h5, h6, h7, h8⟩
    · rw [h]; exact ⟨by omega, by omega, by omega, rfl, fun h => h⟩
    · rw [h]; exact ⟨by show a.last + dif n a ≤ _; omega, by show a.last ≤ _; omega, by show a.out.length ≤ _; omega, rfl, fun _ => rfl⟩
    · refine ⟨by rw [h5]; omega, by omega, by rw [h2]; simp, h8, fun h0 => ?_⟩
      exfalso
      have e0 : a.hr m = a.ackd m.serial := by unfold DK.hr; rw [if_neg h1]
      rw [e0, DK.ackd_none a h0, h0] at h6
      cases h6
end
/-- rounds left, without what is on the way -/
def Qw (n : Nat) (S R : DK) (p : Nat) : Prop := ((∃ m, m ∈ R.out ∧ m.kind = 2 ∧ m.serial = S.last) ∧ 3 * dif n S + 1 ≤ p) ∨ ((∃ m, m ∈ S.out ∧ m.kind = 1 ∧ m.serial = S.last) ∧ 3 * dif n S + 2 ≤ p) ∨ 3 * dif n S + (S.again - S.age).toNat + 2 ≤ p
def Q (n : Nat) (S R : DK) (W V : List Ms) (p : Nat) : Prop := S.op = none ∨ ((∃ m, m ∈ V ∧ m.kind = 2 ∧ m.serial = S.last) ∧ 3 * dif n S + 1 ≤ p + 1) ∨ ((∃ m, m ∈ W ∧ m.kind = 1 ∧ m.serial = S.last) ∧ 3 * dif n S + 2 ≤ p + 1) ∨ Qw n S R p
def T (n : Nat) (S R : DK) (W V : List Ms) (p w : Nat) : Prop := S.op = none ∨ ((∃ m, (m ∈ V ∨ m ∈ R.out) ∧ m.kind = 2 ∧ m.serial = S.last) ∧ 3 * dif n S + 1 ≤ p) ∨ ((∃ m, (m ∈ W ∨ m ∈ S.out) ∧ m.kind = 1 ∧ m.serial = S.last) ∧ 3 * dif n S + 2 ≤ p) ∨ 3 * dif n S + (S.again - S.age).toNat + 2 ≤ w
section
variable {n : Nat} {S R : DK} {W V Wr Vr : List Ms} {p w : Nat} {m : Ms}
theorem T.init (h : 1 ≤ S.again ∧ S.again ≤ 8 ∧ 0 ≤ S.age ∧ S.age < S.again) (hn : n ≤ 80) : T n S R W V 250 250 := by
  have := dif_le n S
  exact .inr (.inr (.inr (by omega)))
theorem T.mono {p' w' : Nat} (t : T n S R W V p w) (h1 : p ≤ p') (h2 : w ≤ w') : T n S R W V p' w' := by
  rcases t with h | ⟨h, h3⟩ | ⟨h, h3⟩ | h
  · exact .inl h
  · exact .inr (.inl ⟨h, by omega⟩)
  · exact .inr (.inr (.inl ⟨h, by omega⟩))
  · exact .inr (.inr (.inr (by omega)))
theorem T.zero (t : T n S R W V 0 0) : S.op = none := by
  rcases t with h | ⟨-, h⟩ | ⟨-, h⟩ | h
  · exact h
  · omega
  · omega
  · omega
theorem T.tickS {c : Bool} (D : Dir n c S R W V) (t : T n S R W V (p + 1) (p + 1)) : T n S.tick R W V (p + 1) p := by
  obtain ⟨h1, h2, h3, h4, h5, h6, h7, h8, h9, -, h10⟩ := tick_sh S D.ag
  have el : S.tick.locals = S.locals := by unfold DK.locals; rw [h1]
  have ed : dif n S.tick = dif n S := by unfold dif; rw [h2, el]
  unfold T
  rw [h3, h4, h5, ed]
  rcases t with h | ⟨h, hh⟩ | ⟨⟨m, hm, hk⟩, hh⟩ | h
  · exact .inl h
  · exact .inr (.inl ⟨h, hh⟩)
  · exact .inr (.inr (.inl ⟨⟨m, hm.imp id (h9 m), hk⟩, hh⟩))
  · have ag := D.ag
    rcases h10 with ⟨h11, -⟩ | ⟨x, hx, h12 | h12⟩
    · exact .inl h11
    · obtain ⟨k1, k2, -⟩ := D.opk hx
      exact .inr (.inr (.inl ⟨⟨x, .inr h12, k1, k2⟩, by omega⟩))
    · exact .inr (.inr (.inr (by rw [h12]; omega)))
theorem T.tickR {c : Bool} (D : Dir n c R S V W) (t : T n S R W V p w) : T n S R.tick W V p w := by
  obtain ⟨-, -, -, -, -, -, -, -, h9, -⟩ := tick_sh R D.ag
  rcases t with h | ⟨⟨m, hm, hk⟩, hh⟩ | h | h
  · exact .inl h
  · exact .inr (.inl ⟨⟨m, hm.imp id (h9 m), hk⟩, hh⟩)
  · exact .inr (.inr (.inl h))
  · exact .inr (.inr (.inr h))
theorem T.takeS (t : T n S R W V p w) : T n { S with out := [] } R (W ++ S.out) V p w := by
  rcases t with h | h | ⟨⟨m, hm, hk⟩, hh⟩ | h
  · exact .inl h
  · exact .inr (.inl h)
  · exact .inr (.inr (.inl ⟨⟨m, .inl (List.mem_append.2 hm), hk⟩, hh⟩))
  · exact .inr (.inr (.inr h))
theorem T.takeR (t : T n S R W V p w) : T n S { R with out := [] } W (V ++ R.out) p w := by
  rcases t with h | ⟨⟨m, hm, hk⟩, hh⟩ | h | h
  · exact .inl h
  · exact .inr (.inl ⟨⟨m, .inl (List.mem_append.2 hm), hk⟩, hh⟩)
  · exact .inr (.inr (.inl h))
  · exact .inr (.inr (.inr h))
theorem T.q (t : T n S R W V (p + 1) p) (h1 : S.out = []) (h2 : R.out = []) : Q n S R W V p := by
  rcases t with h | ⟨⟨m, hm, hk⟩, hh⟩ | ⟨⟨m, hm, hk⟩, hh⟩ | h
  · exact .inl h
  · rw [h2] at hm
    exact .inr (.inl ⟨⟨m, hm.resolve_right (by simp), hk⟩, hh⟩)
  · rw [h1] at hm
    exact .inr (.inr (.inl ⟨⟨m, hm.resolve_right (by simp), hk⟩, hh⟩))
  · exact .inr (.inr (.inr (.inr (.inr h))))
theorem Q.t (q : Q n S R [] [] p) : T n S R [] [] p p := by
  rcases q with h | ⟨⟨m, hm, -⟩, -⟩ | ⟨⟨m, hm, -⟩, -⟩ | ⟨⟨m, hm, hk⟩, hh⟩ | ⟨⟨m, hm, hk⟩, hh⟩ | h
  · exact .inl h
  · cases hm
  · cases hm
  · exact .inr (.inl ⟨⟨m, .inr hm, hk⟩, hh⟩)
  · exact .inr (.inr (.inl ⟨⟨m, .inr hm, hk⟩, hh⟩))
  · exact .inr (.inr (.inr h))
/-- S hears -/
theorem Q.hearS (q : Q n S R Wr (m :: Vr) p) (P : Pr n S R W V) (hn : n ≤ 256) (hs : S.last ≤ 1000) (hm : m ∈ V) : Q n (S.hr m) R Wr Vr p := by
  obtain ⟨fit, hk⟩ := P.fit hm
  have same : ∀ S' : DK, S'.op = S.op → S'.last = S.last → dif n S' = dif n S → S'.again = S.again → S'.age = S.age → (∀ x, x ∈ S.out → x ∈ S'.out) → (S.op = none ∨ m.kind ≠ 2 ∨ m.serial ≠ S.last) → Q n S' R Wr Vr p := by
    intro S' e1 e2 e3 e4 e5 e6 e7
    unfold Q Qw
    rw [e1, e2, e3, e4, e5]
    rcases q with h | ⟨⟨x, hx, hxk⟩, hh⟩ | h | h | ⟨⟨x, hx, hxk⟩, hh⟩ | h
    · exact .inl h
    · rcases e7 with e7 | e7
      · exact .inl e7
      · refine .inr (.inl ⟨⟨x, ?_, hxk⟩, hh⟩)
        rcases List.mem_cons.1 hx with rfl | hx
        · rcases e7 with e7 | e7
          · exact absurd hxk.1 e7
          · exact absurd hxk.2 e7
        · exact hx
    · exact .inr (.inr (.inl h))
    · exact .inr (.inr (.inr (.inl h)))
    · exact .inr (.inr (.inr (.inr (.inl ⟨⟨x, e6 x hx, hxk⟩, hh⟩))))
    · exact .inr (.inr (.inr (.inr (.inr h))))
  by_cases h1 : m.kind = 1
  · have e : S.hr m = S.heardS m := by unfold DK.hr; rw [if_pos h1]
    rw [e]
    obtain ⟨k1, k2, k3, k4, k5, k6, k7, k8⟩ := heardS_sh S m
    exact same _ k4 k3 (by unfold dif; rw [k2, k5]) k6 k7 (fun x hx => by rw [k8]; exact List.mem_append_left _ hx) (.inr (.inl (by omega)))
  · rcases P.acked hn hs hm (hk.resolve_left h1) with ⟨h, h3⟩ | h | ⟨y, h2, h3, h4, h5, h6, h7, h8⟩
    · rw [h]
      refine same S rfl rfl rfl rfl rfl (fun x hx => hx) ?_
      cases e : S.op with
      | none => exact .inl rfl
      | some x => exact .inr (.inr (h3 x e))
    · rw [h]; exact .inl rfl
    · refine .inr (.inr (.inr (.inr (.inl ⟨⟨y, by rw [h2]; simp, h3, by rw [h4, h5]⟩, ?_⟩))))
      have h3d : S.op = none ∨ 3 * dif n S ≤ p := by
        rcases q with h | ⟨-, hh⟩ | ⟨-, hh⟩ | ⟨-, hh⟩ | ⟨-, hh⟩ | h
        · exact .inl h
        · exact .inr (by omega)
        · exact .inr (by omega)
        · exact .inr (by omega)
        · exact .inr (by omega)
        · exact .inr (by omega)
      rcases h3d with h0 | h0
      · exfalso
        have e0 : S.hr m = S.ackd m.serial := by unfold DK.hr; rw [if_neg h1]
        rw [e0, DK.ackd_none S h0, h0] at h6
        cases h6
      · omega
/-- R hears -/
theorem Q.hearR (q : Q n S R (m :: Wr) Vr p) : Q n S (R.hr m) Wr Vr p := by
  rcases q with h | h | ⟨⟨x, hx, hxk⟩, hh⟩ | ⟨⟨x, hx, hxk⟩, hh⟩ | h | h
  · exact .inl h
  · exact .inr (.inl h)
  · rcases List.mem_cons.1 hx with rfl | hx
    · refine .inr (.inr (.inr (.inl ⟨⟨ackM x.serial, ?_, rfl, hxk.2⟩, by omega⟩)))
      unfold DK.hr
      rw [if_pos hxk.1, (heardS_sh R x).2.2.2.2.2.2.2]; simp
    · exact .inr (.inr (.inl ⟨⟨x, hx, hxk⟩, hh⟩))
  · exact .inr (.inr (.inr (.inl ⟨⟨x, hr_out R m x hx, hxk⟩, hh⟩)))
  · exact .inr (.inr (.inr (.inr (.inl h))))
  · exact .inr (.inr (.inr (.inr (.inr h))))
end
end Go.Proofs.Ytejgaeinkojgpaa
