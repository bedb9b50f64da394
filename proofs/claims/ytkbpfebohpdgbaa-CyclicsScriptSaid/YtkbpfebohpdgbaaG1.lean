import Derived.Test.YtkbpfebohpdgbaaD8
import Derived.Test.YtkbpfebohpdgbaaRun
set_option linter.unusedVariables false
set_option linter.unusedSimpArgs false
namespace Go.Proofs.Ytkbpfebohpdgbaa
open Go Go.Ai Go.Proofs

theorem num_lt (k : Nat) : num k < 128 := by unfold num; omega
theorem lst_head {a b : Nat} (h : a < b) : (lst a b).headD [] = msg a := by
  have := lst_get (a := a) (b := b) (i := 0) (by omega)
  rw [← List.head?_eq_getElem?] at this
  simp [List.headD_eq_head?_getD, this]
theorem num_aft (s : Nat) : aft (num s) 1 = num (s + 1) := by unfold aft num; omega
theorem aft_num (x p : Nat) : aft (num x) ((p + 1 : Nat) : Int) = (x + p) % 128 := by unfold aft num; omega
theorem num_succ (k : Nat) : num (k + 1) = k % 128 := by unfold num; omega
/-- one end, alone: n loads given, k of them sent -/
def CE (ml mo n k : Nat) : BE := ⟨ml, mo, lst k n, lst 0 k, 0, false, num k, 127, 127, false, false, false⟩
/-- m sent, x told as taken -/
def FE (ml mo n m p : Nat) (L : Bool) (x : Nat) : BE := ⟨ml, mo, lst m n, lst x m, p, L, num m, num x, 127, false, false, false⟩
theorem ce_new (ml mo : Nat) : BE.new ml mo = CE ml mo 0 0 := rfl
theorem ce_accept {ml mo g : Nat} : (CE ml mo g 0).accept (msg g) = if 64 ≤ g then (CE ml mo g 0, 9) else (CE ml mo (g + 1) 0, 0) := by
  unfold BE.accept
  have h1 : (CE ml mo g 0).st = 0 := rfl
  have h2 : (CE ml mo g 0).q.length = g := lst_len 0 g
  have hm := msg_len g
  rw [h1, h2, if_neg (by simp), if_neg (by omega)]
  split
  · rfl
  · have : lst 0 (g + 1) = lst 0 g ++ [msg g] := lst_succ (by omega)
    unfold CE; rw [this]
def limAt (ml mo k : Nat) : Bool := decide (ml ≤ k) || decide (mo ≤ tot (lst 0 k))
theorem ce_lim (ml mo n k : Nat) : (CE ml mo n k).lim = limAt ml mo k := by
  unfold BE.lim limAt CE; simp only [lst_len, Nat.sub_zero]
theorem ce_new1 {ml mo n k : Nat} (hk : k < n) (hl : limAt ml mo k = false) : (CE ml mo n k).choose = (CE ml mo n (k + 1), k % 128, some (msg k)) := by
  have hf1 : (CE ml mo n k).f1 = CE ml mo n k := by unfold BE.f1; rw [ce_lim, hl, if_neg (by simp)]
  have hf : (CE ml mo n k).force = CE ml mo n k := by
    unfold BE.force; rw [hf1]; unfold BE.f2; rw [if_neg (by simp [CE])]
  have e1 : (lst k n).headD [] = msg k := lst_head hk
  have e2 : (lst k n).drop 1 = lst (k + 1) n := lst_drop (by omega)
  have e3 : lst 0 (k + 1) = lst 0 k ++ [msg k] := lst_succ (by omega)
  unfold BE.choose
  rw [hf]
  dsimp only
  rw [if_pos ⟨rfl, by show 0 < (lst k n).length; rw [lst_len]; omega⟩]
  unfold CE
  simp only [e1, e2, e3, num_aft, num_succ]
theorem fe_lim (ml mo n m p : Nat) (L : Bool) (x : Nat) : (FE ml mo n m p L x).lim = (decide (ml ≤ m - x) || decide (mo ≤ tot (lst x m))) := by
  unfold BE.lim FE; simp only [lst_len]
/-- the round -/
theorem round {f : BE} (hno : ¬ (f.fo = false ∧ 0 < f.q.length)) {x m : Nat} (ho : f.o = lst x m) (hx : x < m) (ha : f.ack = num x) {e : BE} (hf : e.force = f) : e.choose = ({ f with pl := f.pl % (m - x) + 1 }, (x + f.pl % (m - x)) % 128, some (msg (x + f.pl % (m - x)))) := by
  unfold BE.choose
  rw [hf]
  dsimp only
  have hl : f.o.length = m - x := by rw [ho, lst_len]
  rw [if_neg hno, hl, if_neg (by omega), ha, aft_num, ho]
  have : (lst x m).getD (f.pl % (m - x)) [] = msg (x + f.pl % (m - x)) := by
    rw [List.getD_eq_getElem?_getD, lst_get (Nat.mod_lt _ (by omega))]; rfl
  rw [this]
theorem ce_turn {ml mo n m : Nat} (hm : 0 < m) (hl : limAt ml mo m = true ∨ m = n) : (CE ml mo n m).choose = (FE ml mo n m 1 (limAt ml mo m) 0, 0, some (msg 0)) := by
  by_cases h : limAt ml mo m = true
  · have hf1 : (CE ml mo n m).f1 = FE ml mo n m 0 true 0 := by unfold BE.f1; rw [ce_lim, h, if_pos ⟨rfl, rfl⟩]; rfl
    have hf : (CE ml mo n m).force = FE ml mo n m 0 true 0 := by
      unfold BE.force; rw [hf1]; unfold BE.f2; rw [if_neg (by simp only [FE, lst_len]; omega)]
    rw [round (f := FE ml mo n m 0 true 0) (by simp [FE]) (x := 0) (m := m) rfl hm rfl hf, h]
    have : (FE ml mo n m 0 true 0).pl % (m - 0) = 0 := Nat.zero_mod _
    rw [this]; rfl
  · have h' : limAt ml mo m = false := by simpa using h
    have hn : m = n := hl.resolve_left h
    have hf1 : (CE ml mo n m).f1 = CE ml mo n m := by unfold BE.f1; rw [ce_lim, h', if_neg (by simp)]
    have hf : (CE ml mo n m).force = FE ml mo n m 0 false 0 := by
      unfold BE.force; rw [hf1]; unfold BE.f2; rw [if_neg (by simp [CE])]; rfl
    rw [round (f := FE ml mo n m 0 false 0) (by simp only [FE, lst_len]; omega) (x := 0) (m := m) rfl hm rfl hf, h']
    have : (FE ml mo n m 0 false 0).pl % (m - 0) = 0 := Nat.zero_mod _
    rw [this]; rfl
theorem fe_turn {ml mo n m p x : Nat} {L : Bool} (hx : x < m) (hL : (decide (ml ≤ m - x) || decide (mo ≤ tot (lst x m))) = L) (hl : L = true ∨ m = n) :
    (FE ml mo n m p L x).choose = (FE ml mo n m (p % (m - x) + 1) L x, (x + p % (m - x)) % 128, some (msg (x + p % (m - x)))) := by
  cases L
  · have hn : m = n := hl.resolve_left (by simp)
    have hf1 : (FE ml mo n m p false x).f1 = FE ml mo n m p false x := by unfold BE.f1; rw [fe_lim, hL, if_neg (by simp)]
    have hf : (FE ml mo n m p false x).force = FE ml mo n m p false x := by
      unfold BE.force; rw [hf1]; unfold BE.f2; rw [if_neg (by simp [FE])]
    rw [round (f := FE ml mo n m p false x) (by simp only [FE, lst_len]; omega) (x := x) (m := m) rfl hx rfl hf]
    rfl
  · have hf1 : (FE ml mo n m p true x).f1 = FE ml mo n m p true x := by unfold BE.f1; rw [if_neg (by simp [FE])]
    by_cases hp : p = m - x
    · have hf : (FE ml mo n m p true x).force = FE ml mo n m 0 true x := by
        unfold BE.force; rw [hf1, fe_lim, hL]; unfold BE.f2; rw [if_pos (by simp only [FE, lst_len]; exact ⟨trivial, hp⟩), if_pos rfl]; rfl
      rw [round (f := FE ml mo n m 0 true x) (by simp [FE]) (x := x) (m := m) rfl hx rfl hf]
      have e1 : (FE ml mo n m 0 true x).pl % (m - x) = 0 := Nat.zero_mod _
      have e2 : p % (m - x) = 0 := by rw [hp]; exact Nat.mod_self _
      rw [e1, e2]; rfl
    · have hf : (FE ml mo n m p true x).force = FE ml mo n m p true x := by
        unfold BE.force; rw [hf1]; unfold BE.f2; rw [if_neg (by simp only [FE, lst_len]; omega)]
      rw [round (f := FE ml mo n m p true x) (by simp [FE]) (x := x) (m := m) rfl hx rfl hf]
      rfl
/-- the state behind r units -/
def RE (ml mo n m r : Nat) : BE := if r ≤ m then CE ml mo n r else FE ml mo n m ((r - 1) % m + 1) (limAt ml mo m) 0
/-- m of n loads are sent before the round -/
structure Gr (ml mo n m : Nat) : Prop where
  le : m ≤ n
  no : ∀ j, j < m → limAt ml mo j = false
  yes : m = n ∨ limAt ml mo m = true
theorem re_choose {ml mo n m r : Nat} (g : Gr ml mo n m) (hm : 0 < m) (hb : m ≤ 64) : (RE ml mo n m r).choose = (RE ml mo n m (r + 1), r % m, some (msg (r % m))) := by
  unfold RE
  rcases Nat.lt_trichotomy r m with h | h | h
  · rw [if_pos (by omega), if_pos (by omega), ce_new1 (by have := g.le; omega) (g.no r h), Nat.mod_eq_of_lt (show r < 128 by omega), Nat.mod_eq_of_lt h]
  · subst h
    rw [if_pos (Nat.le_refl _), if_neg (by omega), ce_turn hm (g.yes.symm), Nat.mod_self, Nat.add_sub_cancel, Nat.mod_self]
  · rw [if_neg (by omega), if_neg (by omega), fe_turn hm (by unfold limAt; rw [Nat.sub_zero]) (g.yes.symm)]
    have hlt : (r - 1) % m < m := Nat.mod_lt _ hm
    have e1 : ((r - 1) % m + 1) % (m - 0) = r % m := by
      rw [Nat.sub_zero, Nat.add_mod, Nat.mod_mod, ← Nat.add_mod, show r - 1 + 1 = r by omega]
    have e2 : r % m < m := Nat.mod_lt _ hm
    rw [e1, Nat.zero_add, Nat.mod_eq_of_lt (show r % m < 128 by omega), Nat.add_sub_cancel]
theorem ce_none {ml mo r : Nat} (h1 : 1 ≤ ml) (h2 : 1 ≤ mo) : (CE ml mo 0 0).choose = (CE ml mo 0 0, 127, none) := by
  have hl : limAt ml mo 0 = false := by
    unfold limAt; rw [lst_nil (Nat.le_refl _)]; simp [tot]; omega
  have hf1 : (CE ml mo 0 0).f1 = CE ml mo 0 0 := by unfold BE.f1; rw [ce_lim, hl, if_neg (by simp)]
  have hf : (CE ml mo 0 0).force = CE ml mo 0 0 := by
    unfold BE.force; rw [hf1]; unfold BE.f2; rw [if_neg (by simp [CE])]
  unfold BE.choose
  rw [hf]
  dsimp only
  rw [if_neg (by simp [CE, lst_nil]), if_pos (by simp [CE, lst_nil])]
  rfl
end Go.Proofs.Ytkbpfebohpdgbaa
