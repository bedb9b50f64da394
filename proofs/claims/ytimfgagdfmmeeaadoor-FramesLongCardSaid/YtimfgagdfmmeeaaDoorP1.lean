import Derived.Test.YtimfgagdfmmeeaaDoorSA
set_option linter.unusedVariables false
set_option linter.unusedSimpArgs false
namespace Go.Proofs.YtimfgagdfmmeeaaDoor
open Go Go.Ai Go.Proofs

theorem grp_ofL : ∀ {l : List Int} {i : Nat} {z : Int}, l[i]? = some z → grp (ofL l) i = digs z.toNat 8
  | [], i, z, h => by simp at h
  | y :: l, 0, z, h => by
    simp at h; subst h
    have e : ofL (y :: l) = digs y.toNat 8 ++ ofL l := by simp [ofL]
    unfold grp
    rw [e, Nat.mul_zero, List.drop_zero, List.take_left' (digs_len _ _)]
  | y :: l, i + 1, z, h => by
    have e : ofL (y :: l) = digs y.toNat 8 ++ ofL l := by simp [ofL]
    have ih := grp_ofL (l := l) (i := i) (z := z) (by simpa using h)
    unfold grp at ih ⊢
    rw [e, show 8 * (i + 1) = 8 + 8 * i by omega, ← List.drop_drop, List.drop_left' (digs_len _ _)]
    exact ih
theorem octs_ofL {l : List Int} (h : ∀ z ∈ l, 0 ≤ z ∧ z ≤ 255) : octs (ofL l) = l := by
  have hlen : (ofL l).length / 8 = l.length := by rw [ofL_len]; omega
  apply List.ext_getElem
  · rw [octs_len, hlen]
  · intro i h1 h2
    have hi : l[i]? = some l[i] := List.getElem?_eq_getElem h2
    rw [octs_get (by omega), grp_ofL hi, valN_digs]
    have := h _ (List.getElem_mem h2)
    generalize l[i] = z at *
    have : z.toNat % 2 ^ 8 = z.toNat := Nat.mod_eq_of_lt (by omega)
    rw [this]; omega
theorem feed_app (s : Sc) (a b : List Int) : s.feed (a ++ b) = (s.feed a).feed b := by unfold Sc.feed; rw [List.foldl_append]
theorem feed_cons (s : Sc) (b : Int) (l : List Int) : s.feed (b :: l) = (s.read b).feed l := rfl
theorem feed_nil (s : Sc) : s.feed [] = s := rfl
theorem take_app (l t : List Int) (n : Nat) : (l.take n ++ t).take n = (l ++ t).take n := by
  by_cases h : l.length ≤ n
  · rw [List.take_of_length_le h]
  · rw [List.take_append_of_le_length (by rw [List.length_take]; omega), List.take_append_of_le_length (by omega), List.take_take, Nat.min_self]
/-- what a scanner keeps -/
theorem keep_ke {s : Sc} (h : s.ke.length ≤ 2247) (b : Int) : (s.keep b).ke = (s.ke ++ [b]).take 2247 := by
  show (if s.ke.length < 2247 then s.ke ++ [b] else s.ke) = _
  split
  · rw [List.take_of_length_le (by rw [List.length_append]; simp; omega)]
  · rw [List.take_append_of_le_length (by omega), List.take_of_length_le h]
theorem keep_eq {s : Sc} (h : s.ke.length ≤ 2247) (b : Int) : s.keep b = { s with ma := s.ma + 1, ke := (s.ke ++ [b]).take 2247 } := by
  rw [← keep_ke h b]; rfl
theorem one_lt {s : Sc} (h : s.ke.length ≤ 2247) (ho : s.on < 6) : s.read 1 = { s with on := s.on + 1, ma := s.ma + 1, ke := (s.ke ++ [1]).take 2247 } := by
  show s.one = _
  unfold Sc.one
  rw [if_neg (by omega), keep_eq h]
theorem zero_lt {s : Sc} (h : s.ke.length ≤ 2247) (h5 : s.on ≠ 5) (h6 : s.on ≠ 6) : s.read 0 = { s with on := 0, ma := s.ma + 1, ke := (s.ke ++ [0]).take 2247 } := by
  show s.zero = _
  unfold Sc.zero
  rw [if_neg h5, if_neg h6, keep_eq (s := { s with on := 0 }) h]
/-- six ones, a zero -/
theorem six (s : Sc) (h : s.ke.length ≤ 2247) (ho : s.on = 0) : s.feed [1, 1, 1, 1, 1, 1, 0] = Sc.fin { s with on := 0, ma := s.ma + 6, ke := (s.ke ++ [1, 1, 1, 1, 1, 1]).take 2247 } := by
  have tl : ∀ l : List Int, (l.take 2247).length ≤ 2247 := fun l => by rw [List.length_take]; omega
  have hz : ∀ t : Sc, t.on = 6 → t.read 0 = Sc.fin { t with on := 0 } := fun t ht => by
    show t.zero = _
    unfold Sc.zero
    rw [if_neg (by omega), if_pos ht]
  rw [feed_cons, one_lt h (by omega), feed_cons, one_lt (tl _) (by simp only; omega), feed_cons, one_lt (tl _) (by simp only; omega), feed_cons, one_lt (tl _) (by simp only; omega), feed_cons, one_lt (tl _) (by simp only; omega), feed_cons, one_lt (tl _) (by simp only; omega), feed_cons, feed_nil, hz _ (by simp only; omega)]
  simp only [take_app, List.append_assoc, List.cons_append, List.nil_append]
/-- a flag where no ones stand before it that matter -/
theorem feed_fl0 {s : Sc} (h : s.ke.length ≤ 2247) (h5 : s.on ≠ 5) (h6 : s.on ≠ 6) : s.feed fl = Sc.fin { s with on := 0, ma := s.ma + 7, ke := (s.ke ++ [0, 1, 1, 1, 1, 1, 1]).take 2247 } := by
  show s.feed (0 :: [1, 1, 1, 1, 1, 1, 0]) = _
  rw [feed_cons, zero_lt h h5 h6, six _ (by simp only [List.length_take]; omega) rfl]
  simp only [take_app, List.append_assoc, List.cons_append, List.nil_append]
/-- behind a flag -/
def bare (er : Nat) (fo : List (List Int)) : Sc := ⟨false, er, 0, 0, [], fo⟩
theorem fin_on {s : Sc} (ho : s.on = 0) : ∃ (er : Nat) (t : List (List Int)), t.length ≤ 1 ∧ s.fin = bare er (s.fo ++ t) ∧ (s.ma ≤ 7 → t = []) := by
  unfold Sc.fin bare
  split
  · exact ⟨s.er, [], by simp, by rw [ho, List.append_nil], fun _ => rfl⟩
  split
  · exact ⟨s.er + 1, [], by simp, by rw [ho, List.append_nil], fun _ => rfl⟩
  · rename_i h1 h2
    exact ⟨s.er, [octs (s.ke.take (s.ma - 7))], by simp, by rw [ho], fun h => absurd (.inr h) h1⟩
/-- a flag is always found -/
theorem feed_flag (s : Sc) (h : s.ke.length ≤ 2247) : ∃ (er : Nat) (t : List (List Int)), t.length ≤ 1 ∧ s.feed fl = bare er (s.fo ++ t) := by
  show ∃ (er : Nat) (t : List (List Int)), t.length ≤ 1 ∧ s.feed (0 :: [1, 1, 1, 1, 1, 1, 0]) = _
  rw [feed_cons]
  by_cases h6 : s.on = 6
  · have hz : s.read 0 = Sc.fin { s with on := 0 } := by
      show s.zero = _
      unfold Sc.zero; rw [if_neg (by omega), if_pos h6]
    obtain ⟨er, t, h1, h2, -⟩ := fin_on (s := { s with on := 0 }) rfl
    rw [hz, h2, six _ (by simp [bare]) rfl]
    obtain ⟨er2, t2, h3, h4, h5⟩ := fin_on (s := { bare er (s.fo ++ t) with on := 0, ma := (bare er (s.fo ++ t)).ma + 6, ke := ((bare er (s.fo ++ t)).ke ++ [1, 1, 1, 1, 1, 1]).take 2247 }) rfl
    rw [h4, h5 (by simp [bare])]
    exact ⟨er2, t, h1, by simp [bare]⟩
  · have hz : ∃ s1 : Sc, s.read 0 = s1 ∧ s1.on = 0 ∧ s1.fo = s.fo ∧ s1.ke.length ≤ 2247 := by
      by_cases h5 : s.on = 5
      · exact ⟨{ s with on := 0 }, by show s.zero = _; unfold Sc.zero; rw [if_pos h5], rfl, rfl, h⟩
      · exact ⟨_, zero_lt h h5 h6, rfl, rfl, by simp only [List.length_take]; omega⟩
    obtain ⟨s1, h1, h2, h3, h4⟩ := hz
    rw [h1, six s1 h4 h2]
    obtain ⟨er2, t2, k3, k4, -⟩ := fin_on (s := { s1 with on := 0, ma := s1.ma + 6, ke := (s1.ke ++ [1, 1, 1, 1, 1, 1]).take 2247 }) rfl
    rw [k4]
    exact ⟨er2, t2, k3, by rw [h3]⟩
/-- within a content -/
theorem feed_stf : ∀ {zs : List Int} {s : Sc}, Bits zs → s.hu = false → s.on < 5 → s.ke.length ≤ 2247 → ∃ k, k < 5 ∧ s.feed (stf zs s.on) = { s with on := k, ma := s.ma + zs.length, ke := (s.ke ++ zs).take 2247 }
  | [], s, _, _, ho, hk => ⟨s.on, ho, by rw [stf, feed_nil]; simp [List.take_of_length_le hk]⟩
  | b :: l, s, hb, hh, ho, hk => by
    have tl : ∀ l : List Int, (l.take 2247).length ≤ 2247 := fun l => by rw [List.length_take]; omega
    rcases hb b List.mem_cons_self with rfl | rfl
    · rw [stf_zero, feed_cons, zero_lt hk (by omega) (by omega)]
      obtain ⟨k, h1, h2⟩ := feed_stf (zs := l) (s := { s with on := 0, ma := s.ma + 1, ke := (s.ke ++ [0]).take 2247 }) hb.tail hh (by simp) (tl _)
      refine ⟨k, h1, h2.trans ?_⟩
      simp only [take_app, List.append_assoc, List.singleton_append, List.length_cons, Nat.add_assoc, Nat.add_comm 1]
    · by_cases h5 : s.on + 1 = 5
      · rw [stf_five _ h5, feed_cons, one_lt hk (by omega), feed_cons]
        have hz : Sc.read { s with on := s.on + 1, ma := s.ma + 1, ke := (s.ke ++ [1]).take 2247 } 0 = { s with on := 0, ma := s.ma + 1, ke := (s.ke ++ [1]).take 2247 } := by
          show Sc.zero _ = _
          unfold Sc.zero; rw [if_pos (by simp only; omega)]
        rw [hz]
        obtain ⟨k, h1, h2⟩ := feed_stf (zs := l) (s := { s with on := 0, ma := s.ma + 1, ke := (s.ke ++ [1]).take 2247 }) hb.tail hh (by simp) (tl _)
        refine ⟨k, h1, h2.trans ?_⟩
        simp only [take_app, List.append_assoc, List.singleton_append, List.length_cons, Nat.add_assoc, Nat.add_comm 1]
      · rw [stf_one _ h5, feed_cons, one_lt hk (by omega)]
        obtain ⟨k, h1, h2⟩ := feed_stf (zs := l) (s := { s with on := s.on + 1, ma := s.ma + 1, ke := (s.ke ++ [1]).take 2247 }) hb.tail hh (by simp only; omega) (tl _)
        refine ⟨k, h1, h2.trans ?_⟩
        simp only [take_app, List.append_assoc, List.singleton_append, List.length_cons, Nat.add_assoc, Nat.add_comm 1]
/-- one content and its flag -/
theorem feed_one {er : Nat} {fo : List (List Int)} {b : List Int} (hw : ¬ Wide b) (hb : ∀ z ∈ b, 0 ≤ z ∧ z ≤ 255) : (bare er fo).feed (stf (ofL b) 0 ++ fl) = bare er (fo ++ [b]) := by
  unfold Wide at hw
  have hl := ofL_len b
  obtain ⟨k, h1, h2⟩ := feed_stf (zs := ofL b) (s := bare er fo) (ofL_bit b) rfl (by simp [bare]) (by simp [bare])
  rw [feed_app]
  have h2' : (bare er fo).feed (stf (ofL b) 0) = ⟨false, er, k, 8 * b.length, ofL b, fo⟩ := by
    refine h2.trans ?_
    simp only [bare, List.nil_append, hl, Nat.zero_add]
    rw [List.take_of_length_le (by omega)]
  rw [h2', feed_fl0 (by simp only; omega) (by simp only; omega) (by simp only; omega)]
  unfold Sc.fin bare
  rw [if_neg (by simp; omega), if_neg (by simp only; omega)]
  simp only [Nat.add_sub_cancel]
  congr 3
  rw [List.take_take, List.take_append_of_le_length (by omega), Nat.min_eq_left (by omega), List.take_of_length_le (by omega), octs_ofL hb]
theorem feed_many : ∀ {ls : List (List Int)} {er : Nat} {fo : List (List Int)}, (∀ b ∈ ls, ¬ Wide b) → (∀ b ∈ ls, ∀ z ∈ b, 0 ≤ z ∧ z ≤ 255) → (bare er fo).feed (ls.flatMap fun b => stf (ofL b) 0 ++ fl) = bare er (fo ++ ls)
  | [], er, fo, _, _ => by simp [feed_nil]
  | b :: ls, er, fo, hw, hb => by
    rw [List.flatMap_cons, feed_app, feed_one (hw b List.mem_cons_self) (hb b List.mem_cons_self), feed_many (fun x hx => hw x (List.mem_cons_of_mem _ hx)) fun x hx => hb x (List.mem_cons_of_mem _ hx)]
    simp
/-- a joined stream, whatever was read before -/
theorem feed_jn {s : Sc} {ls : List (List Int)} (h : s.ke.length ≤ 2247) (hw : ∀ b ∈ ls, ¬ Wide b) (hb : ∀ b ∈ ls, ∀ z ∈ b, 0 ≤ z ∧ z ≤ 255) : ∃ (er : Nat) (t : List (List Int)), t.length ≤ 1 ∧ s.feed (jn ls) = bare er (s.fo ++ t ++ ls) := by
  obtain ⟨er, t, h1, h2⟩ := feed_flag s h
  refine ⟨er, t, h1, ?_⟩
  unfold jn
  rw [feed_app, h2, feed_many hw hb]
theorem feed_new {ls : List (List Int)} (hw : ∀ b ∈ ls, ¬ Wide b) (hb : ∀ b ∈ ls, ∀ z ∈ b, 0 ≤ z ∧ z ≤ 255) : Sc.new.feed (jn ls) = bare 0 ls := by
  unfold jn
  have : Sc.new.feed fl = bare 0 [] := by
    rw [feed_fl0 (by simp [Sc.new]) (by simp [Sc.new]) (by simp [Sc.new])]
    unfold Sc.fin; rw [if_pos (.inl rfl)]; rfl
  rw [feed_app, this, feed_many hw hb, List.nil_append]
end Go.Proofs.YtimfgagdfmmeeaaDoor
