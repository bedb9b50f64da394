import Derived.Test.YtimfgagdfmmeeaaDoorP1
set_option linter.unusedVariables false
set_option linter.unusedSimpArgs false
namespace Go.Proofs.YtimfgagdfmmeeaaDoor
open Go Go.Ai Go.Proofs

/-- gathered along a stream -/
def accN {α : Type} (g : List Int → Int → List α) (s : List Int) : Nat → List α
  | 0 => []
  | i + 1 => accN g s i ++ g (s.take i) (s.getD i 0)
theorem accN_app {α : Type} {g : List Int → Int → List α} {s t : List Int} : ∀ {i : Nat}, i ≤ s.length → accN g (s ++ t) i = accN g s i
  | 0, _ => rfl
  | i + 1, h => by
    simp only [accN]
    rw [accN_app (by omega), List.take_append_of_le_length (by omega), List.getD_eq_getElem?_getD, List.getD_eq_getElem?_getD, List.getElem?_append_left (by omega)]
def acc {α : Type} (g : List Int → Int → List α) (s : List Int) : List α := accN g s s.length
theorem acc_snoc {α : Type} (g : List Int → Int → List α) (s : List Int) (b : Int) : acc g (s ++ [b]) = acc g s ++ g s b := by
  unfold acc
  rw [List.length_append]
  show accN g (s ++ [b]) (s.length + 1) = _
  simp only [accN]
  rw [accN_app (Nat.le_refl _), List.take_left, List.getD_eq_getElem?_getD, List.getElem?_append_right (Nat.le_refl _), Nat.sub_self]
  rfl
def gE (p : List Int) (b : Int) : List Nat := if b = 0 ∧ tr p = 6 then [p.length + 1] else []
def gP (p : List Int) (b : Int) : List Int := if b = 1 ∨ tr p ≠ 5 then [b] else []
/-- where flags end -/
def endsL (s : List Int) : List Nat := acc gE s
/-- without stuffed zeros -/
def plainL (s : List Int) : List Int := acc gP s
/-- seven ones -/
def Ab (s : List Int) : Prop := ∃ i, i < s.length ∧ tr (s.take (i + 1)) = 7
theorem Ab_nil : ¬ Ab [] := fun ⟨i, h, _⟩ => by simp at h
theorem Ab_snoc (s : List Int) (b : Int) : Ab (s ++ [b]) ↔ Ab s ∨ tr (s ++ [b]) = 7 := by
  constructor
  · rintro ⟨i, h1, h2⟩
    rw [List.length_append] at h1
    by_cases h : i < s.length
    · rw [List.take_append_of_le_length (by omega)] at h2
      exact .inl ⟨i, h, h2⟩
    · have e : i = s.length := by simp at h1; omega
      subst e
      rw [List.take_of_length_le (by simp)] at h2
      exact .inr h2
  · rintro (⟨i, h1, h2⟩ | h)
    · exact ⟨i, by rw [List.length_append]; omega, by rw [List.take_append_of_le_length (by omega)]; exact h2⟩
    · exact ⟨s.length, by simp, by rw [List.take_of_length_le (by simp)]; exact h⟩
theorem endsL_snoc (s : List Int) (b : Int) : endsL (s ++ [b]) = endsL s ++ gE s b := acc_snoc gE s b
theorem plainL_snoc (s : List Int) (b : Int) : plainL (s ++ [b]) = plainL s ++ gP s b := acc_snoc gP s b
theorem plainL_nil : plainL [] = [] := rfl
theorem snoc_ind {C : List Int → Prop} (h0 : C []) (h1 : ∀ s b, C s → C (s ++ [b])) (s : List Int) : C s := by
  have : ∀ n (s : List Int), s.length = n → C s := fun n => by
    induction n with
    | zero => intro s h; rw [List.eq_nil_of_length_eq_zero h]; exact h0
    | succ n ih =>
      intro s h
      have hne : s ≠ [] := fun e => by subst e; simp at h
      rw [← List.dropLast_concat_getLast hne]
      exact h1 _ _ (ih _ (by rw [List.length_dropLast]; omega))
  exact this _ s rfl
theorem endsL_le (s : List Int) : ∀ e ∈ endsL s, e ≤ s.length := by
  refine snoc_ind (C := fun s => ∀ e ∈ endsL s, e ≤ s.length) (fun e h => by cases h) (fun s b ih e he => ?_) s
  rw [endsL_snoc] at he
  rw [List.length_append]
  rcases List.mem_append.1 he with h | h
  · have := ih e h; omega
  · unfold gE at h
    split at h
    · rw [List.mem_singleton.1 h]; simp
    · cases h
theorem plainL_len (s : List Int) : (plainL s).length ≤ s.length := by
  refine snoc_ind (C := fun s => (plainL s).length ≤ s.length) (Nat.le_refl _) (fun s b ih => ?_) s
  rw [plainL_snoc, List.length_append, List.length_append]
  unfold gP
  split <;> simp <;> omega
theorem plainL_bits {s : List Int} (h : Bits s) : Bits (plainL s) := by
  refine snoc_ind (C := fun s => Bits s → Bits (plainL s)) (fun _ z hz => by cases hz) (fun s b ih hb => ?_) s h
  rw [plainL_snoc]
  refine (ih fun z hz => hb z (List.mem_append_left _ hz)).app ?_
  unfold gP
  split
  · intro z hz; exact hb z (List.mem_append_right _ hz)
  · intro z hz; cases hz
/-- the parts between flags -/
def partsL (s : List Int) (L : List Nat) : List (List Int) := (List.range (L.length - 1)).map fun j => (s.drop (L.getD j 0)).take (L.getD (j + 1) 0 - L.getD j 0)
open Classical in
/-- what one part adds to errors and contents -/
noncomputable def jud (x : Nat × List (List Int)) (p : List Int) : Nat × List (List Int) :=
  if Ab p then (x.1 + 1, x.2)
  else if (plainL p.dropLast).length ≤ 7 then x
  else if ((plainL p.dropLast).length - 7) % 8 ≠ 0 ∨ (plainL p.dropLast).length - 7 < 40 ∨ 2240 < (plainL p.dropLast).length - 7 then (x.1 + 1, x.2)
  else (x.1, x.2 ++ [octs ((plainL p.dropLast).take ((plainL p.dropLast).length - 7))])
noncomputable def jf (s : List Int) : Nat × List (List Int) := (partsL s (endsL s)).foldl jud (0, [])
theorem getD_le {L : List Nat} {n : Nat} (h : ∀ e ∈ L, e ≤ n) (j : Nat) : L.getD j 0 ≤ n := by
  rw [List.getD_eq_getElem?_getD]
  cases hj : L[j]? with
  | none => exact Nat.zero_le _
  | some e => exact h e (List.mem_of_getElem? hj)
theorem part_app {s t : List Int} {x y : Nat} (hx : x ≤ s.length) (hy : y ≤ s.length) : ((s ++ t).drop x).take (y - x) = (s.drop x).take (y - x) := by
  rw [List.drop_append_of_le_length hx, List.take_append_of_le_length (by rw [List.length_drop]; omega)]
theorem parts_app {s t : List Int} {L : List Nat} (h : ∀ e ∈ L, e ≤ s.length) : partsL (s ++ t) L = partsL s L := by
  unfold partsL
  refine List.map_congr_left fun j _ => ?_
  exact part_app (getD_le h _) (getD_le h _)
/-- what holds of a scanner that has read a stream -/
structure InS (s : List Int) (c : Sc) : Prop where
  on : c.on = tr s
  kl : c.ke.length ≤ 2247
  no : endsL s = [] → c.hu = true ∧ c.er = 0 ∧ c.fo = []
  so : ∀ e, (endsL s).getLast? = some e → tr (s.drop e) = tr s ∧ (c.hu = true ↔ Ab (s.drop e)) ∧ (Ab (s.drop e) → c.er = (jf s).1 + 1) ∧ (¬ Ab (s.drop e) → c.er = (jf s).1) ∧ c.fo = (jf s).2 ∧ c.ma = (plainL (s.drop e)).length ∧ c.ke = (plainL (s.drop e)).take 2247
theorem last_le {s : List Int} {e : Nat} (h : (endsL s).getLast? = some e) : e ≤ s.length := endsL_le s e (List.mem_of_getLast? h)
/-- no new flag -/
theorem InS.plain {s : List Int} {c c' : Sc} {b : Int} (I : InS s c) (hg : gE s b = []) (h1 : c'.on = tr (s ++ [b])) (h2 : c'.ke.length ≤ 2247) (h3 : c'.fo = c.fo)
    (h4 : c.hu = true → c'.hu = true ∧ c'.er = c.er) (h5 : c.hu = false → (tr s + 1 = 7 ∧ b = 1 → c'.hu = true ∧ c'.er = c.er + 1) ∧ (¬ (tr s + 1 = 7 ∧ b = 1) → c'.hu = false ∧ c'.er = c.er))
    (h6 : ∀ zs, c.ke = zs.take 2247 → c.ma = zs.length → c'.ke = (zs ++ gP s b).take 2247 ∧ c'.ma = (zs ++ gP s b).length) : InS (s ++ [b]) c' := by
  have hE : endsL (s ++ [b]) = endsL s := by rw [endsL_snoc, hg, List.append_nil]
  have hJ : jf (s ++ [b]) = jf s := by unfold jf; rw [hE, parts_app (endsL_le s)]
  refine ⟨h1, h2, fun h => ?_, fun e he => ?_⟩
  · rw [hE] at h
    obtain ⟨a, b', c''⟩ := I.no h
    obtain ⟨k1, k2⟩ := h4 a
    exact ⟨k1, by rw [k2, b'], by rw [h3, c'']⟩
  · rw [hE] at he
    have hel := last_le he
    obtain ⟨k1, k2, k3, k4, k5, k6, k7⟩ := I.so e he
    rw [List.drop_append_of_le_length hel, hJ]
    have ht : tr (s.drop e ++ [b]) = tr (s ++ [b]) := by rw [tr_snoc, tr_snoc, k1]
    have hp : gP (s.drop e) b = gP s b := by unfold gP; rw [k1]
    obtain ⟨m1, m2⟩ := h6 _ k7 k6
    rw [plainL_snoc, hp]
    have hA := Ab_snoc (s.drop e) b
    rw [ht, tr_snoc] at hA
    refine ⟨ht, ?_, fun hab => ?_, fun hab => ?_, by rw [h3, k5], m2, m1⟩
    · cases hu : c.hu with
      | true => exact ⟨fun _ => hA.2 (.inl (k2.1 hu)), fun _ => (h4 hu).1⟩
      | false =>
        obtain ⟨n1, n2⟩ := h5 hu
        have hna : ¬ Ab (s.drop e) := fun h => by rw [k2.2 h] at hu; cases hu
        by_cases h7 : tr s + 1 = 7 ∧ b = 1
        · exact ⟨fun _ => hA.2 (.inr (by rw [if_pos h7.2]; exact h7.1)), fun _ => (n1 h7).1⟩
        · constructor
          · intro h; rw [(n2 h7).1] at h; cases h
          · intro h
            rcases hA.1 h with h | h
            · exact absurd h hna
            · split at h
              · exact absurd ⟨h, by assumption⟩ h7
              · cases h
    · cases hu : c.hu with
      | true => rw [(h4 hu).2, k3 (k2.1 hu)]
      | false =>
        obtain ⟨n1, n2⟩ := h5 hu
        have hna : ¬ Ab (s.drop e) := fun h => by rw [k2.2 h] at hu; cases hu
        rcases hA.1 hab with h | h
        · exact absurd h hna
        · split at h
          · rw [(n1 ⟨h, by assumption⟩).2, k4 hna]
          · cases h
    · have hna : ¬ Ab (s.drop e) := fun h => hab (hA.2 (.inl h))
      have hu : c.hu = false := by
        cases hu : c.hu with
        | false => rfl
        | true => exact absurd (k2.1 hu) hna
      obtain ⟨n1, n2⟩ := h5 hu
      by_cases h7 : tr s + 1 = 7 ∧ b = 1
      · exact absurd (hA.2 (.inr (by rw [if_pos h7.2]; exact h7.1))) hab
      · rw [(n2 h7).2, k4 hna]
theorem InS.flag {s : List Int} {c : Sc} (I : InS s c) (h6 : tr s = 6) : InS (s ++ [0]) (Sc.fin { c with on := 0 }) := by
  have hE : endsL (s ++ [0]) = endsL s ++ [s.length + 1] := by rw [endsL_snoc]; unfold gE; rw [if_pos ⟨rfl, h6⟩]
  have ht : tr (s ++ [0]) = 0 := by rw [tr_snoc]; rfl
  have hF : (Sc.fin { c with on := 0 }).on = 0 ∧ (Sc.fin { c with on := 0 }).ke = [] ∧ (Sc.fin { c with on := 0 }).hu = false ∧ (Sc.fin { c with on := 0 }).ma = 0 := by
    unfold Sc.fin
    split
    · exact ⟨rfl, rfl, rfl, rfl⟩
    split
    · exact ⟨rfl, rfl, rfl, rfl⟩
    · exact ⟨rfl, rfl, rfl, rfl⟩
  obtain ⟨f1, f2, f3, f4⟩ := hF
  refine ⟨by rw [f1, ht], by rw [f2]; simp, fun h => (by rw [hE] at h; simp at h), fun e he => ?_⟩
  rw [hE, List.getLast?_append] at he
  have he : s.length + 1 = e := by simpa using he
  subst he
  have hd : (s ++ [0]).drop (s.length + 1) = [] := List.drop_eq_nil_of_le (by simp)
  rw [hd, ht, f2, f3, f4]
  have hres : (Sc.fin { c with on := 0 }).er = (jf (s ++ [0])).1 ∧ (Sc.fin { c with on := 0 }).fo = (jf (s ++ [0])).2 := by
    cases hL : (endsL s).getLast? with
    | none =>
      have h0 : endsL s = [] := List.getLast?_eq_none_iff.1 hL
      obtain ⟨a, b', c''⟩ := I.no h0
      have hj : jf (s ++ [0]) = (0, []) := by unfold jf; rw [hE, h0]; rfl
      rw [hj]
      unfold Sc.fin
      rw [if_pos (.inl a)]
      exact ⟨b', c''⟩
    | some e =>
      obtain ⟨k1, k2, k3, k4, k5, k6, k7⟩ := I.so e hL
      have hel := last_le hL
      have hne : endsL s ≠ [] := fun e => by rw [e] at hL; cases hL
      have hlen : (endsL s).length ≠ 0 := fun h => hne (List.eq_nil_of_length_eq_zero h)
      have hge : (endsL s).getD ((endsL s).length - 1) 0 = e := by
        rw [List.getLast?_eq_getElem?] at hL
        rw [List.getD_eq_getElem?_getD, hL]; rfl
      have hp : partsL (s ++ [0]) (endsL s ++ [s.length + 1]) = partsL s (endsL s) ++ [s.drop e ++ [0]] := by
        unfold partsL
        rw [List.length_append, show (endsL s).length + [s.length + 1].length - 1 = ((endsL s).length - 1) + 1 by simp; omega, List.range_succ, List.map_append]
        have gl : ∀ j, j < (endsL s).length → (endsL s ++ [s.length + 1]).getD j 0 = (endsL s).getD j 0 := fun j hj => by
          rw [List.getD_eq_getElem?_getD, List.getD_eq_getElem?_getD, List.getElem?_append_left hj]
        congr 1
        · refine List.map_congr_left fun j hj => ?_
          have hj := List.mem_range.1 hj
          rw [gl j (by omega), gl (j + 1) (by omega)]
          exact part_app (getD_le (endsL_le s) _) (getD_le (endsL_le s) _)
        · simp only [List.map_cons, List.map_nil]
          rw [gl ((endsL s).length - 1) (by omega), hge, show (endsL s).length - 1 + 1 = (endsL s).length by omega]
          have : (endsL s ++ [s.length + 1]).getD (endsL s).length 0 = s.length + 1 := by
            rw [List.getD_eq_getElem?_getD, List.getElem?_append_right (Nat.le_refl _), Nat.sub_self]; rfl
          rw [this, List.drop_append_of_le_length hel, List.take_of_length_le (by rw [List.length_append, List.length_drop]; simp; omega)]
      have hj : jf (s ++ [0]) = jud (jf s) (s.drop e ++ [0]) := by
        unfold jf
        rw [hE, hp, List.foldl_append]; rfl
      have hAb : Ab (s.drop e ++ [0]) ↔ Ab (s.drop e) := by
        rw [Ab_snoc, tr_snoc]
        exact ⟨fun h => h.elim id fun h => by simp at h, .inl⟩
      rw [hj]
      unfold jud
      rw [List.dropLast_concat]
      generalize s.drop e = rest at *
      by_cases hA : Ab rest
      · rw [if_pos (hAb.2 hA)]
        unfold Sc.fin
        rw [if_pos (.inl (k2.2 hA))]
        exact ⟨k3 hA, k5⟩
      · rw [if_neg fun h => hA (hAb.1 h)]
        have hu : ¬ c.hu = true := fun h => hA (k2.1 h)
        unfold Sc.fin
        simp only
        rw [← k6]
        by_cases h7 : c.ma ≤ 7
        · rw [if_pos (.inr h7), if_pos h7]
          exact ⟨k4 hA, k5⟩
        · rw [if_neg (fun h => h.elim hu h7), if_neg h7]
          by_cases hb : (c.ma - 7) % 8 ≠ 0 ∨ c.ma - 7 < 40 ∨ 2240 < c.ma - 7
          · rw [if_pos hb, if_pos hb]
            exact ⟨by rw [← k4 hA], k5⟩
          · rw [if_neg hb, if_neg hb]
            refine ⟨k4 hA, ?_⟩
            show c.fo ++ [octs (c.ke.take (c.ma - 7))] = _
            rw [k5, k7, List.take_take, Nat.min_eq_left (by omega)]
  refine ⟨rfl, ⟨(fun h => by cases h), fun h => absurd h Ab_nil⟩, fun h => absurd h Ab_nil, fun _ => hres.1, hres.2, rfl, rfl⟩
theorem InS.read {s : List Int} {c : Sc} {b : Int} (I : InS s c) (hb : b = 0 ∨ b = 1) : InS (s ++ [b]) (c.read b) := by
  have ho := I.on
  have tl : ∀ l : List Int, (l.take 2247).length ≤ 2247 := fun l => by rw [List.length_take]; omega
  rcases hb with rfl | rfl
  · have ht : tr (s ++ [0]) = 0 := by rw [tr_snoc]; rfl
    have hg : tr s ≠ 6 → gE s 0 = [] := fun h => by unfold gE; rw [if_neg fun k => h k.2]
    by_cases h6 : c.on = 6
    · have hz : c.read 0 = Sc.fin { c with on := 0 } := by show c.zero = _; unfold Sc.zero; rw [if_neg (by omega), if_pos h6]
      rw [hz]
      exact I.flag (by omega)
    by_cases h5 : c.on = 5
    · have hz : c.read 0 = { c with on := 0 } := by show c.zero = _; unfold Sc.zero; rw [if_pos h5]
      rw [hz]
      have hp : gP s 0 = [] := by unfold gP; rw [if_neg (by omega)]
      exact I.plain (hg (by omega)) ht.symm I.kl rfl (fun h => ⟨h, rfl⟩) (fun h => ⟨(fun k => by cases k.2), fun _ => ⟨h, rfl⟩⟩) fun zs h1 h2 => by rw [hp, List.append_nil]; exact ⟨h1, h2⟩
    · rw [zero_lt I.kl h5 h6]
      have hp : gP s 0 = [0] := by unfold gP; rw [if_pos (.inr (by omega))]
      exact I.plain (hg (by omega)) ht.symm (tl _) rfl (fun h => ⟨h, rfl⟩) (fun h => ⟨(fun k => by cases k.2), fun _ => ⟨h, rfl⟩⟩) fun zs h1 h2 => by
        rw [hp]; simp only; rw [h1, take_app, List.length_append]; exact ⟨rfl, by rw [h2]; rfl⟩
  · have ht : tr (s ++ [1]) = tr s + 1 := by rw [tr_snoc]; rfl
    have hg : gE s 1 = [] := by unfold gE; rw [if_neg (by simp)]
    have hp : gP s 1 = [1] := by unfold gP; rw [if_pos (.inl rfl)]
    have hone : c.read 1 = if c.on + 1 = 7 ∧ c.hu = false then { c.keep 1 with on := c.on + 1, er := c.er + 1, hu := true } else { c.keep 1 with on := c.on + 1 } := rfl
    rw [hone, keep_eq I.kl]
    have key : ∀ zs : List Int, c.ke = zs.take 2247 → c.ma = zs.length → (c.ke ++ [1]).take 2247 = (zs ++ gP s 1).take 2247 ∧ c.ma + 1 = (zs ++ gP s 1).length := fun zs h1 h2 => by
      rw [hp, h1, take_app, List.length_append, h2]; exact ⟨rfl, rfl⟩
    by_cases h7 : c.on + 1 = 7 ∧ c.hu = false
    · rw [if_pos h7]
      exact I.plain hg (by rw [ht, ← ho]) (tl _) rfl (fun h => by rw [h7.2] at h; cases h) (fun _ => ⟨fun _ => ⟨rfl, rfl⟩, fun k => absurd ⟨by omega, rfl⟩ k⟩) key
    · rw [if_neg h7]
      exact I.plain hg (by rw [ht, ← ho]) (tl _) rfl (fun h => ⟨h, rfl⟩) (fun h => ⟨fun k => absurd ⟨by omega, h⟩ h7, fun _ => ⟨h, rfl⟩⟩) key
theorem InS.new : InS [] Sc.new := ⟨rfl, by simp [Sc.new], fun _ => ⟨rfl, rfl, rfl⟩, fun e he => by cases he⟩
theorem InS.all {s : List Int} (h : Bits s) : InS s (Sc.new.feed s) := by
  refine snoc_ind (C := fun s => Bits s → InS s (Sc.new.feed s)) (fun _ => InS.new) (fun s b ih hb => ?_) s h
  rw [feed_app]
  exact (ih fun z hz => hb z (List.mem_append_left _ hz)).read (hb b (List.mem_append_right _ (List.mem_singleton.2 rfl)))
open Classical in
noncomputable def scanO (s : List Int) : List (List Int) := match (endsL s).getLast? with | none => [] | some _ => (jf s).2
open Classical in
noncomputable def scanE (s : List Int) : Nat := match (endsL s).getLast? with | none => 0 | some e => (jf s).1 + if Ab (s.drop e) then 1 else 0
open Classical in
noncomputable def scanH (s : List Int) : Bool := match (endsL s).getLast? with | none => true | some e => decide (Ab (s.drop e))
/-- the scanner answers as the reference -/
theorem scan_eq {s : List Int} (h : Bits s) : (Sc.new.feed s).fo = scanO s ∧ (Sc.new.feed s).er = scanE s ∧ (Sc.new.feed s).hu = scanH s := by
  classical
  have I := InS.all h
  unfold scanO scanE scanH
  cases hL : (endsL s).getLast? with
  | none =>
    obtain ⟨a, b, c⟩ := I.no (List.getLast?_eq_none_iff.1 hL)
    exact ⟨c, b, a⟩
  | some e =>
    obtain ⟨k1, k2, k3, k4, k5, k6, k7⟩ := I.so e hL
    refine ⟨k5, ?_, ?_⟩
    · show _ = _ + _
      by_cases hA : Ab (s.drop e)
      · rw [if_pos hA, k3 hA]
      · rw [if_neg hA, k4 hA]; rfl
    · show Sc.hu _ = decide _
      rw [Bool.eq_iff_iff, k2, decide_eq_true_iff]
/-- what was found before does not matter -/
theorem read_fo (s : Sc) (a : List (List Int)) (b : Int) : Sc.read { s with fo := a ++ s.fo } b = { s.read b with fo := a ++ (s.read b).fo } := by
  unfold Sc.read
  split
  · unfold Sc.one Sc.keep
    simp only
    split <;> rfl
  · unfold Sc.zero Sc.fin Sc.keep
    simp only
    split
    · rfl
    split
    · split
      · rfl
      split
      · rfl
      · simp
    · rfl
theorem feed_fo : ∀ (zs : List Int) (s : Sc) (a : List (List Int)), Sc.feed { s with fo := a ++ s.fo } zs = { s.feed zs with fo := a ++ (s.feed zs).fo }
  | [], s, a => rfl
  | z :: zs, s, a => by rw [feed_cons, feed_cons, read_fo, feed_fo]
theorem feed_rest (zs : List Int) (s : Sc) : s.feed zs = { Sc.feed { s with fo := [] } zs with fo := s.fo ++ (Sc.feed { s with fo := [] } zs).fo } := by
  have := feed_fo zs { s with fo := [] } s.fo
  simp only [List.append_nil] at this
  exact this
end Go.Proofs.YtimfgagdfmmeeaaDoor
