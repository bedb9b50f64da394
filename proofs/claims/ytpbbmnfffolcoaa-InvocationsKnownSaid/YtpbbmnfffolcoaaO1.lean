import Derived.Test.YtpbbmnfffolcoaaCC
set_option linter.unusedVariables false
set_option linter.unusedSimpArgs false
namespace Go.Proofs.Ytpbbmnfffolcoaa
open Go Go.Ai Go.Proofs

/-- an invocation's row -/
def Bk.at (b : Bk) (i : Nat) : Iv := b.is[i]?.getD iv0
def endE (es : List En) (i : Nat) : Bool := es.any fun e => decide (e.id = (i : Int))
theorem endE_app (a c : List En) (i : Nat) : endE (a ++ c) i = (endE a i || endE c i) := by unfold endE; rw [List.any_append]
theorem endE_one (e : En) (i : Nat) : endE [e] i = decide (e.id = (i : Int)) := by simp [endE]
theorem at_some {b : Bk} {i : Nat} (hl : b.is.length = 128) (hi : i < 128) : b.is[i]? = some (b.at i) := by
  unfold Bk.at; rw [List.getElem?_eq_getElem (by omega)]; rfl
theorem isO_b {b : Bk} {i : Nat} (hl : b.is.length = 128) (hi : i < 128) : b.isO (i : Int) = opn (b.at i) := isO_at hi (at_some hl hi)
theorem at_set {b : Bk} {i j : Nat} (hl : b.is.length = 128) (hi : i < 128) (x : Iv) (nx : Nat) (es : List En) : Bk.at ⟨b.is.set i x, nx, es⟩ j = if i = j then x else b.at j := by
  unfold Bk.at
  simp only [List.getElem?_set]
  by_cases h : i = j
  · subst h; rw [if_pos rfl, if_pos rfl, if_pos (by omega)]; rfl
  · rw [if_neg h, if_neg h]
theorem at_over {b : Bk} {i j : Nat} (hl : b.is.length = 128) (hi : i < 128) (how code : Int) (bs : List Nat) : (b.over i how code bs).at j = if i = j then iv0 else b.at j := at_set hl hi _ _ _
theorem opn_iv0 : opn iv0 = false := rfl
/-- what the law holds of a book whose endings it has not looked at yet: open A, left F, heard S -/
structure Pre (d : Nat → Int) (A : List Bool) (F : List Int) (S : List ByteArray) (b : Bk) (rs : Bool) (last : ByteArray) : Prop where
  n1 : A.length = 128
  n2 : F.length = 128
  n3 : S.length = 128
  n : b.is.length = 128
  op : ∀ i, i < 128 → A[i]? = some (opn (b.at i) || endE b.es i)
  ex : ∀ i, i < 128 → opn (b.at i) = true → endE b.es i = false
  was : ∀ e ∈ b.es, ∃ i : Nat, i < 128 ∧ e.id = i
  nd : b.es.Pairwise fun a c => a.id ≠ c.id
  lf : ∀ i, i < 128 → opn (b.at i) = true → F[i]? = some ((b.at i).wt - d i) ∧ 1 ≤ (b.at i).wt ∧ (b.at i).wt ≤ 6
  hd : ∀ i, i < 128 → opn (b.at i) = true → ∃ s, S[i]? = some s ∧ bOf s = (b.at i).pb
  res : rs = true → ∀ e ∈ b.es, e.how = 1 → ∀ (i : Nat) s, e.id = i → S[i]? = some s → e.val = bOf s ++ bOf last
section
variable {d d' : Nat → Int} {A : List Bool} {F : List Int} {S : List ByteArray} {b : Bk} {rs : Bool} {last : ByteArray}
theorem Pre.dd (p : Pre d A F S b rs last) (h : ∀ i, i < 128 → opn (b.at i) = true → d i = d' i) : Pre d' A F S b rs last :=
  ⟨p.n1, p.n2, p.n3, p.n, p.op, p.ex, p.was, p.nd, fun i hi ho => by rw [← h i hi ho]; exact p.lf i hi ho, p.hd, p.res⟩
theorem Pre.over (p : Pre d A F S b rs last) {i : Nat} (hi : i < 128) (ho : opn (b.at i) = true) (how code : Int) (bs : List Nat) (hr : rs = true → how = 1 → ∀ s, S[i]? = some s → bs = bOf s ++ bOf last) : Pre d A F S (b.over i how code bs) rs last := by
  have he : (b.over i how code bs).es = b.es ++ [⟨i, how, code, bs⟩] := rfl
  have hE : ∀ j, endE (b.over i how code bs).es j = (endE b.es j || decide (i = j)) := fun j => by
    rw [he, endE_app, endE_one]; congr 1; simp only [decide_eq_decide]; omega
  have hop : ∀ j, opn ((b.over i how code bs).at j) = true → i ≠ j ∧ opn (b.at j) = true ∧ (b.over i how code bs).at j = b.at j := fun j h => by
    rw [at_over p.n hi] at h ⊢
    by_cases e : i = j
    · rw [if_pos e] at h; cases h
    · rw [if_neg e] at h ⊢; exact ⟨e, h, rfl⟩
  refine ⟨p.n1, p.n2, p.n3, by show (b.is.set i iv0).length = 128; rw [List.length_set]; exact p.n, fun j hj => ?_, fun j hj h => ?_, fun e hm => ?_, ?_, fun j hj h => ?_, fun j hj h => ?_, fun hrs e hm hh j s hej hs => ?_⟩
  · rw [p.op j hj, hE, at_over p.n hi]
    by_cases e : i = j
    · subst e
      rw [if_pos rfl, ho]; simp
    · rw [if_neg e]; simp [e]
  · obtain ⟨h1, h2, -⟩ := hop j h
    rw [hE, p.ex j hj h2]; simp [h1]
  · rw [he] at hm
    rcases List.mem_append.1 hm with h | h
    · exact p.was e h
    · rw [List.mem_singleton.1 h]; exact ⟨i, hi, rfl⟩
  · rw [he, List.pairwise_append]
    refine ⟨p.nd, List.pairwise_singleton _ _, fun x hx y hy => ?_⟩
    rw [List.mem_singleton.1 hy]
    intro e1
    have := p.ex i hi ho
    unfold endE at this
    rw [List.any_eq_false] at this
    exact this x hx (by simpa using e1)
  · obtain ⟨h1, h2, h3⟩ := hop j h
    rw [h3]; exact p.lf j hj h2
  · obtain ⟨h1, h2, h3⟩ := hop j h
    rw [h3]; exact p.hd j hj h2
  · rw [he] at hm
    rcases List.mem_append.1 hm with h | h
    · exact p.res hrs e h hh j s hej hs
    · have he2 := List.mem_singleton.1 h
      subst he2
      simp only at hej hh ⊢
      have : i = j := by omega
      subst this
      exact hr hrs hh s hs
theorem Pre.close (p : Pre d A F S b rs last) : Pre d A F S b.close rs last := iter_inv (f := Bk.close1) (P := fun b => Pre d A F S b rs last) (fun b i p => by
    unfold Bk.close1
    split
    · rename_i h
      obtain ⟨j, hj, hj'⟩ := isO_nat h
      have : i = j := by omega
      subst this
      rw [isO_b p.n hj'] at h
      exact p.over hj' h 5 0 [] (fun _ h => by omega)
    · exact p) p 128
theorem Pre.tick1 {c : Int} {n : Nat} (hn : n < 128) (p : Pre (fun i => if i < n then c - 1 else c) A F S b false last) : Pre (fun i => if i < n + 1 then c - 1 else c) A F S (b.tick1 n) false last := by
  have same : ∀ b' : Bk, opn (b'.at n) = false → Pre (fun i => if i < n then c - 1 else c) A F S b' false last → Pre (fun i => if i < n + 1 then c - 1 else c) A F S b' false last := fun b' h0 p' => p'.dd fun i hi ho => by
    have hne : i ≠ n := fun e => by subst e; rw [h0] at ho; cases ho
    by_cases h : i < n
    · rw [if_pos h, if_pos (by omega)]
    · rw [if_neg h, if_neg (by omega)]
  cases ho : b.isO (n : Int) with
  | false => rw [tick1_no ho]; exact same b (by rw [← isO_b p.n hn]; exact ho) p
  | true =>
    have hx := at_some p.n hn
    have ho' : opn (b.at n) = true := by rw [← isO_b p.n hn]; exact ho
    by_cases hw : 0 < (b.at n).wt - 1
    · rw [tick1_go ho hx hw]
      have hat : ∀ j, Bk.at ⟨b.is.set n { b.at n with wt := (b.at n).wt - 1 }, b.nx, b.es⟩ j = if n = j then { b.at n with wt := (b.at n).wt - 1 } else b.at j := fun j => at_set p.n hn _ _ _
      have hopn : ∀ j, opn (Bk.at ⟨b.is.set n { b.at n with wt := (b.at n).wt - 1 }, b.nx, b.es⟩ j) = opn (b.at j) := fun j => by
        rw [hat]; split
        · rename_i e; subst e; rfl
        · rfl
      refine ⟨p.n1, p.n2, p.n3, by show (b.is.set _ _).length = 128; rw [List.length_set]; exact p.n, fun j hj => by rw [hopn]; exact p.op j hj, fun j hj h => by rw [hopn] at h; exact p.ex j hj h, p.was, p.nd, fun j hj h => ?_, fun j hj h => ?_, fun h => by cases h⟩
      · rw [hopn] at h
        have hl := p.lf j hj h
        rw [hat]
        by_cases e : n = j
        · subst e
          rw [if_pos rfl, if_pos (by omega)]
          rw [if_neg (by omega)] at hl
          simp only
          refine ⟨?_, by omega, by omega⟩
          rw [hl.1, show (b.at n).wt - 1 - (c - 1) = (b.at n).wt - c by omega]
        · rw [if_neg e]
          by_cases h2 : j < n
          · rw [if_pos h2] at hl; rw [if_pos (by omega)]; exact hl
          · rw [if_neg h2] at hl; rw [if_neg (by omega)]; exact hl
      · rw [hopn] at h
        rw [hat]
        by_cases e : n = j
        · subst e; rw [if_pos rfl]; exact p.hd _ hj h
        · rw [if_neg e]; exact p.hd _ hj h
    · have hcl : ∀ how, opn ((b.over n how 0 []).at n) = false := fun how => by rw [at_over p.n hn, if_pos rfl]; rfl
      by_cases hc : (b.at n).cl = 2 ∨ (b.at n).cl = 4
      · rw [tick1_res ho hx hw hc]
        exact same _ (hcl 1) (p.over hn ho' 1 0 [] (fun h => by cases h))
      · rw [tick1_out ho hx hw hc]
        exact same _ (hcl 4) (p.over hn ho' 4 0 [] (fun h => by cases h))
theorem Pre.tick {c : Int} (p : Pre (fun _ => c) A F S b false last) : Pre (fun _ => c - 1) A F S b.tick false last := by
  have : ∀ n, n ≤ 128 → Pre (fun i => if i < n then c - 1 else c) A F S (iterB Bk.tick1 b n) false last := by
    intro n
    induction n with
    | zero => intro _; exact p.dd fun i hi _ => by rw [if_neg (by omega)]
    | succ n ih => intro h; rw [iterB_succ]; exact Pre.tick1 (by omega) (ih (by omega))
  have h := this 128 (Nat.le_refl _)
  unfold Bk.tick
  generalize iterB Bk.tick1 b 128 = bb at *
  exact h.dd fun i hi _ => by rw [if_pos hi]
theorem Pre.cancel (p : Pre d A F S b rs last) (id : Int) : Pre d A F S (b.cancel id) rs last := by
  unfold Bk.cancel
  split
  · rename_i h
    obtain ⟨j, rfl, hj⟩ := isO_nat h
    rw [isO_b p.n hj] at h
    rw [Int.toNat_natCast]
    exact p.over hj h 5 0 [] (fun _ h => by omega)
  · exact p
/-- with no endings under way the words on results say nothing -/
theorem Pre.free (p : Pre d A F S b rs last) (h0 : b.es = []) (rs' : Bool) (last' : ByteArray) : Pre d A F S b rs' last' :=
  ⟨p.n1, p.n2, p.n3, p.n, p.op, p.ex, p.was, p.nd, p.lf, p.hd, fun _ e he => by rw [h0] at he; cases he⟩
/-- one ending is looked at -/
theorem Pre.step (p : Pre d A F S b rs last) {A' : List Bool} {k : Nat} {e : En} (hA : ∀ i, i < 128 → A'[i]? = some (opn (b.at i) || endE (b.es.drop k) i)) (hn : A'.length = 128) (he : b.es[k]? = some e) : ∃ j : Nat, j < 128 ∧ e.id = (j : Int) ∧ A'[j]? = some true ∧ ∀ i, i < 128 → (A'.set j false)[i]? = some (opn (b.at i) || endE (b.es.drop (k + 1)) i) := by
  have hk := (List.getElem?_eq_some_iff.1 he).1
  have hd : b.es.drop k = e :: b.es.drop (k + 1) := by
    rw [List.drop_eq_getElem_cons hk]; congr 1; rw [List.getElem?_eq_getElem hk] at he; exact Option.some.inj he
  have hm := List.mem_of_getElem? he
  obtain ⟨j, hj, hej⟩ := p.was e hm
  have hE : ∀ i, endE (b.es.drop k) i = (decide (j = i) || endE (b.es.drop (k + 1)) i) := fun i => by
    rw [hd]; unfold endE; rw [List.any_cons]; congr 1; rw [hej, decide_eq_decide]; omega
  refine ⟨j, hj, hej, by rw [hA j hj, hE]; simp, fun i hi => ?_⟩
  rw [List.getElem?_set]
  by_cases e1 : j = i
  · subst e1
    rw [if_pos rfl, if_pos (by omega)]
    have h1 : opn (b.at j) = false := by
      cases h : opn (b.at j) with
      | false => rfl
      | true =>
        have := p.ex j hj h
        unfold endE at this
        rw [List.any_eq_false] at this
        exact absurd (by simpa using hej) (this e hm)
    have h2 : endE (b.es.drop (k + 1)) j = false := by
      have hp := p.nd
      rw [← List.take_append_drop k b.es, hd, List.pairwise_append, List.pairwise_cons] at hp
      unfold endE
      rw [List.any_eq_false]
      intro x hx h
      exact hp.2.1.1 x hx (by rw [hej]; exact (of_decide_eq_true h).symm)
    rw [h1, h2]; rfl
  · rw [if_neg e1, hA i hi, hE]; simp [e1]
/-- all endings are looked at -/
theorem Pre.done (p : Pre d A F S b rs last) {A' : List Bool} (hA : ∀ i, i < 128 → A'[i]? = some (opn (b.at i) || endE (b.es.drop b.es.length) i)) (hn : A'.length = 128) : Pre d A' F S { b with es := [] } true ByteArray.empty :=
  ⟨hn, p.n2, p.n3, p.n, fun i hi => by rw [hA i hi, List.drop_length]; rfl, fun i hi _ => rfl, (fun e he => by cases he), List.Pairwise.nil, p.lf, p.hd, fun _ e he => by cases he⟩
/-- a new invocation -/
theorem Pre.ask (p : Pre d A F S b rs last) (h0 : b.es = []) {i : Nat} (hi : i < 128) {op cl wt : Int} (hw : 1 ≤ wt ∧ wt ≤ 6) (hc : cl ≠ 0) (hd0 : d i = 0) (nx : Nat) : Pre d (A.set i true) (F.set i wt) (S.set i ByteArray.empty) ⟨b.is.set i ⟨op, cl, wt, []⟩, nx, b.es⟩ rs last := by
  have hat : ∀ j, Bk.at ⟨b.is.set i ⟨op, cl, wt, []⟩, nx, b.es⟩ j = if i = j then ⟨op, cl, wt, []⟩ else b.at j := fun j => at_set p.n hi _ _ _
  have ho1 : opn ⟨op, cl, wt, []⟩ = true := by unfold opn; simp [hc]
  have hE : ∀ j, endE b.es j = false := fun j => by rw [h0]; rfl
  refine ⟨by rw [List.length_set]; exact p.n1, by rw [List.length_set]; exact p.n2, by rw [List.length_set]; exact p.n3, by show (b.is.set _ _).length = 128; rw [List.length_set]; exact p.n, fun j hj => ?_, fun j hj h => hE j, p.was, p.nd, fun j hj h => ?_, fun j hj h => ?_, fun _ e he => by rw [show _ = [] from h0] at he; cases he⟩
  · rw [hat, List.getElem?_set]
    by_cases e : i = j
    · rw [if_pos e, if_pos e, if_pos (by rw [p.n1]; exact hi), ho1]; rfl
    · rw [if_neg e, if_neg e]; exact p.op j hj
  · rw [hat] at h ⊢
    rw [List.getElem?_set]
    by_cases e : i = j
    · rw [if_pos e, if_pos e, if_pos (by rw [p.n2]; exact hi), ← e, hd0]
      simp only; exact ⟨by rw [Int.sub_zero], hw.1, hw.2⟩
    · rw [if_neg e] at h ⊢; rw [if_neg e]; exact p.lf j hj h
  · rw [hat] at h ⊢
    rw [List.getElem?_set]
    by_cases e : i = j
    · rw [if_pos e, if_pos e, if_pos (by rw [p.n3]; exact hi)]; exact ⟨_, rfl, rfl⟩
    · rw [if_neg e] at h ⊢; rw [if_neg e]; exact p.hd j hj h
/-- a part is heard -/
theorem Pre.part (p : Pre d A F S b rs last) (h0 : b.es = []) {i : Nat} (hi : i < 128) (ho : opn (b.at i) = true) {s v : ByteArray} (hs : S[i]? = some s) {l : List Nat} (hv : bOf v = l) : Pre d A F (S.set i (s ++ v)) ⟨b.is.set i { b.at i with pb := (b.at i).pb ++ l }, b.nx, b.es⟩ rs last := by
  have hat : ∀ j, Bk.at ⟨b.is.set i { b.at i with pb := (b.at i).pb ++ l }, b.nx, b.es⟩ j = if i = j then { b.at i with pb := (b.at i).pb ++ l } else b.at j := fun j => at_set p.n hi _ _ _
  have hopn : ∀ j, opn (Bk.at ⟨b.is.set i { b.at i with pb := (b.at i).pb ++ l }, b.nx, b.es⟩ j) = opn (b.at j) := fun j => by
    rw [hat]; split
    · rename_i e; subst e; rfl
    · rfl
  refine ⟨p.n1, p.n2, by rw [List.length_set]; exact p.n3, by show (b.is.set _ _).length = 128; rw [List.length_set]; exact p.n, fun j hj => by rw [hopn]; exact p.op j hj, fun j hj h => by rw [hopn] at h; exact p.ex j hj h, p.was, p.nd, fun j hj h => ?_, fun j hj h => ?_, fun _ e he => by rw [show _ = [] from h0] at he; cases he⟩
  · rw [hopn] at h
    have := p.lf j hj h
    rw [hat]
    by_cases e : i = j
    · subst e; rw [if_pos rfl]; exact this
    · rw [if_neg e]; exact this
  · rw [hopn] at h
    obtain ⟨s', h1, h2⟩ := p.hd j hj h
    rw [hat, List.getElem?_set]
    by_cases e : i = j
    · subst e
      rw [if_pos rfl, if_pos rfl, if_pos (by rw [p.n3]; exact hi)]
      rw [hs] at h1; cases h1
      exact ⟨_, rfl, by rw [bOf_app, h2, hv]⟩
    · rw [if_neg e, if_neg e]; exact ⟨s', h1, h2⟩
/-- a tick takes one from each -/
theorem Pre.dec (p : Pre (fun _ => 0) A F S b rs last) : Pre (fun _ => 1) A (F.map fun x => x - 1) S b rs last :=
  ⟨p.n1, by rw [List.length_map]; exact p.n2, p.n3, p.n, p.op, p.ex, p.was, p.nd, fun i hi h => by
    have := p.lf i hi h
    rw [List.getElem?_map, this.1]
    exact ⟨by simp, this.2⟩, p.hd, p.res⟩
theorem none_open {c : Int} (p : Pre (fun _ => c) A F S b rs last) (hF : ∀ x ∈ F, x ≤ 6) (hc : c ≤ -6) : ∀ i, i < 128 → opn (b.at i) = false := fun i hi => by
  cases h : opn (b.at i) with
  | false => rfl
  | true =>
    have := p.lf i hi h
    have := hF _ (List.mem_of_getElem? this.1)
    omega
theorem cnt_zero {b : Bk} (hl : b.is.length = 128) (h : ∀ i, i < 128 → opn (b.at i) = false) : b.cnt = 0 := by
  unfold Bk.cnt
  rw [List.countP_eq_zero]
  intro x hx
  obtain ⟨i, hi, rfl⟩ := List.getElem_of_mem hx
  have := h i (by omega)
  unfold Bk.at at this
  rw [List.getElem?_eq_getElem hi] at this
  simp only [Option.getD_some] at this
  rw [this]; decide
end
end Go.Proofs.Ytpbbmnfffolcoaa
