import Derived.Test.YtejgaeinkojgpaaR1
set_option linter.unusedVariables false
set_option linter.unusedSimpArgs false
namespace Go.Proofs.Ytejgaeinkojgpaa
open Go Go.Ai Go.Proofs

def eOf (k : Nat) : Nat := (k + 1) % 256 % 50
def r1 (a : Int) (k : Nat) : DK := ⟨cs1 (k % 50), a, 0, tl1 (k % 50), 1, 0, some (mOf 1 (k % 50)), [mOf 1 (k % 50)]⟩
def rt (a age : Int) (k : Nat) (out : List Ms) : DK := ⟨cs2 (k % 50) (eOf k), a, age, tl1 (k % 50), 1, 0, some (mOf 1 (k % 50)), out⟩
def r3 (a : Int) (k : Nat) : DK := ⟨cs2 (k % 50) (eOf k), a, 0, (tl1 (k % 50)).set (eOf k) true, 2, 0, some (mOf 2 (eOf k)), [mOf 2 (eOf k)]⟩
theorem w1 : IntKind.u32.wrap (0 + 1) = 1 := by decide
theorem w2 : IntKind.u32.wrap (1 + 1) = 2 := by decide
theorem set_r1 (a : Int) (k : Nat) : (DK.fresh (List.replicate 50 ⟨false, false⟩) a).setAll true [((k % 50 : Nat) : Int)] = r1 a k := by
  have hk : k % 50 < 50 := Nat.mod_lt _ (by decide)
  have s1 := set_one ⟨k % 50, hk⟩
  have x1 := nx_one ⟨k % 50, hk⟩
  have n1 := ne_one ⟨k % 50, hk⟩
  simp only at s1 x1 n1
  unfold DK.setAll DK.fresh
  simp only [List.length_replicate]
  rw [s1]
  unfold DK.next
  rw [if_neg (by rintro (h | h); cases h; exact n1 h)]
  unfold DK.went DK.msg DK.locals
  simp only [x1, w1, List.nil_append]
  rfl
theorem set_r2 (a : Int) {k : Nat} (hk : k < 256) : DK.setAll { r1 a k with out := [] } true [((eOf k : Nat) : Int)] = rt a 0 k [] := by
  have s2 := set_two ⟨k, hk⟩
  simp only at s2
  unfold DK.setAll r1
  simp only
  unfold eOf
  rw [s2]
  unfold DK.next
  rw [if_pos (.inl rfl)]
  rfl
theorem tick_rt {ev t k : Nat} (h1 : 1 ≤ ev) (h8 : ev ≤ 8) (ht : 1 ≤ t) (ht2 : t ≤ 1000) : (rt ev (((t - 1) % ev : Nat) : Int) k []).tick = rt ev ((t % ev : Nat) : Int) k (if t % ev = 0 then [mOf 1 (k % 50)] else []) := by
  have hlt : (t - 1) % ev < ev := Nat.mod_lt _ h1
  have hw : IntKind.i64.wrap ((((t - 1) % ev : Nat) : Int) + 1) = (((t - 1) % ev + 1 : Nat) : Int) := by rw [i64_wrap] <;> omega
  have e : t % ev = if (t - 1) % ev + 1 = ev then 0 else (t - 1) % ev + 1 := by
    have : t = (t - 1) + 1 := by omega
    rw [this, Nat.add_mod, Nat.add_sub_cancel]
    by_cases h : ev = 1
    · subst h; simp [Nat.mod_one]
    · rw [Nat.mod_eq_of_lt (show 1 < ev by omega)]
      split
      · rename_i h2; rw [h2, Nat.mod_self]
      · rw [Nat.mod_eq_of_lt (by omega)]
  rw [DK.tick_some _ (m := mOf 1 (k % 50)) rfl]
  simp only [rt, hw, List.nil_append]
  by_cases h : (t - 1) % ev + 1 = ev
  · rw [if_pos h] at e
    rw [if_pos (by omega), e]
    rfl
  · rw [if_neg h] at e
    rw [if_neg (by omega), if_neg (by omega), e]
theorem ack_r3 (a age : Int) {k : Nat} (hk : k < 256) : (rt a age k []).ackd 1 = r3 a k := by
  have x2 := nx_two ⟨k, hk⟩
  have n2 := ne_two ⟨k, hk⟩
  simp only at x2 n2
  rw [DK.ackd_some _ (x := mOf 1 (k % 50)) rfl, if_pos (show (mOf 1 (k % 50)).serial = 1 from rfl)]
  unfold DK.next rt
  rw [if_neg (by rintro (h | h); cases h; exact n2 h)]
  unfold DK.went DK.msg DK.locals eOf
  simp only [x2, w2, List.nil_append]
  rfl
def RpI (D G L T : Nat) (ev ticks k N : Nat) (r : Value) (m : Nat) (ρ : Env) (h : AHeap) : Prop := ∃ t opv outv, t + m = N + 1 ∧ 1 ≤ t ∧ get ρ 12 = some (.int .i64 (t : Nat)) ∧ get ρ 1 = some (.int .u8 (ticks : Nat)) ∧ get ρ 2 = some (.int .u8 (k : Nat)) ∧ get ρ 7 = some (.int .i64 (ev : Nat)) ∧ get ρ 8 = some (.pointer (some ⟨D, 0, none⟩)) ∧ get ρ 11 = some r ∧
  DAt h D G L T (rt ev (((t - 1) % ev : Nat) : Int) k []) opv outv ∧ MsgL h r [mOf 1 (k % 50)] ∧ Off h D G L T outv r
def RpE (D G L T : Nat) (ev k : Nat) (ρ : Env) (h : AHeap) : Prop := ∃ age opv outv, get ρ 2 = some (.int .u8 (k : Nat)) ∧ get ρ 8 = some (.pointer (some ⟨D, 0, none⟩)) ∧ DAt h D G L T (rt ev age k []) opv outv
theorem ft_nil {D G L T B : Nat} {outv : Value} (h : ftD D G L T (.slice none 0 0) B) : ftD D G L T outv B := by
  obtain ⟨i, hi | hi | hi | hi | ⟨-, hi⟩⟩ := h
  · exact ⟨i, .inl hi⟩
  · exact ⟨i, .inr (.inl hi)⟩
  · exact ⟨i, .inr (.inr (.inl hi))⟩
  · exact ⟨i, .inr (.inr (.inr (.inl hi)))⟩
  · simp [slB] at hi
end Go.Proofs.Ytejgaeinkojgpaa
