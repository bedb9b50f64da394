import Derived.Test.YtcpcngamfncpdaaE6
set_option linter.unusedVariables false
set_option linter.unusedSimpArgs false
namespace Go.Proofs.Ytcpcngamfncpdaa
open Go Go.Ai Go.Proofs

/-- what an end sends: a new load, an open one again, or none -/
def Snd (a s g n s' n2 c : Nat) (kind : Int) : Prop :=
  (n = 0 ∧ s < g ∧ s' = s + 1 ∧ c = s + 1 ∧ kind = 2 ∧ n2 = 0) ∨ (0 < n ∧ s' = s ∧ c = s + 1 - n ∧ kind = 2 ∧ n2 = n - 1) ∨ (n = 0 ∧ (s = g ∨ a + 127 ≤ s) ∧ s' = s ∧ c = s ∧ kind = 0 ∧ n2 = 0)
theorem EI.next2 {e : BE} {a s g r : Nat} (E : EI e a s g r) : e.next.2.2 = 0 ∧ e.next.1.fb = e.fb ∧ e.next.1.bb = e.bb ∧ e.next.2.1.fb = e.fb ∧ e.next.2.1.bb = e.bb ∧ ∃ s' c, s ≤ s' ∧ EI e.next.1 a s' g r ∧ UnitIs e.next.2.1 c s' r ∧ Snd a s g e.again s' e.next.1.again c e.next.2.1.kind := by
  have hq := E.ql
  have ho := E.ol
  have k1 := E.h1
  have k2 := E.h2
  have k3 := E.h3
  have k4 := E.h4
  have k5 := E.ag
  have hnx : e.next = ({ e.pull with again := e.pull.again - 1 }, e.pull.unit, 0) := by unfold BE.next; rw [E.st, if_neg (by simp)]
  rw [hnx]
  have hb := pull_same e
  refine ⟨rfl, hb.2.2, hb.2.1, by show e.pull.unit.fb = _; unfold BE.unit; split <;> exact hb.2.2, by show e.pull.unit.bb = _; unfold BE.unit; split <;> exact hb.2.1, ?_⟩
  have hp : ∃ s', s ≤ s' ∧ EI e.pull a s' g r ∧ ((e.again = 0 ∧ s < g ∧ s' = s + 1 ∧ e.pull.again = 1) ∨ (0 < e.again ∧ s' = s ∧ e.pull.again = e.again) ∨ (e.again = 0 ∧ s' = s ∧ e.pull.again = 0 ∧ (s = g ∨ a + 127 ≤ s))) := by
    by_cases hc : e.again = 0 ∧ 0 < e.q.length ∧ e.o.length < 127
    · have : e.pull = { e with o := e.o ++ [e.q.headD []], q := e.q.drop 1, sent := aft e.sent 1, again := 1 } := by unfold BE.pull; rw [if_pos hc]
      rw [this]
      refine ⟨s + 1, by omega, ⟨?_, ?_, ?_, ?_, E.ack, E.acc, E.rd, E.fl, E.a0, E.a1, by omega, by omega, by omega, by omega⟩, .inl ⟨hc.1, by omega, rfl, rfl⟩⟩
      · show e.q.drop 1 = _
        rw [E.q, lst_drop (by omega)]
      · show e.o ++ [e.q.headD []] = _
        rw [E.q, E.o, lst_head (by omega), lst_succ k1]
      · show 1 ≤ _; omega
      · show aft e.sent 1 = _
        rw [E.sent, num_aft]
    · have : e.pull = e := by unfold BE.pull; rw [if_neg hc]
      rw [this]
      refine ⟨s, Nat.le_refl _, E, ?_⟩
      by_cases h0 : e.again = 0
      · exact .inr (.inr ⟨h0, rfl, h0, by omega⟩)
      · exact .inr (.inl ⟨by omega, rfl, rfl⟩)
  obtain ⟨s', h1, P, h2⟩ := hp
  have p1 := P.h1
  have p2 := P.h2
  have p3 := P.h3
  have p5 := P.ag
  have pE : EI { e.pull with again := e.pull.again - 1 } a s' g r := ⟨P.q, P.o, by show e.pull.again - 1 ≤ _; omega, P.sent, P.ack, P.acc, P.rd, P.fl, P.a0, P.a1, P.h1, P.h2, P.h3, P.h4⟩
  by_cases ha : 0 < e.pull.again
  · have hu : e.pull.unit = ⟨e.pull.acc, e.pull.bb, aft e.pull.sent (1 - e.pull.again), e.pull.fb, 2, 0, e.pull.o.getD (e.pull.o.length - e.pull.again) []⟩ := by unfold BE.unit; rw [if_pos ha]
    have hl : e.pull.o.getD (e.pull.o.length - e.pull.again) [] = msg (s' - e.pull.again) := by
      rw [P.ol, P.o, List.getD_eq_getElem?_getD, lst_get (by omega)]
      show msg (a + (s' - a - e.pull.again)) = _
      congr 1; omega
    refine ⟨s', s' + 1 - e.pull.again, h1, pE, ?_, ?_⟩
    · rw [hu]
      refine ⟨by show ((e.pull.acc : Nat) : Int) = _; rw [P.acc], ?_, rfl, by omega, by omega, .inl ⟨rfl, by omega, ?_⟩⟩
      · show ((aft e.pull.sent (1 - (e.pull.again : Int)) : Nat) : Int) = _
        rw [P.sent]
        congr 1
        unfold aft num; omega
      · show e.pull.o.getD (e.pull.o.length - e.pull.again) [] = _
        rw [hl]; congr 1; omega
    · have hk : e.pull.unit.kind = 2 := by rw [hu]
      show Snd a s g e.again s' (e.pull.again - 1) _ e.pull.unit.kind
      rw [hk]
      unfold Snd
      rcases h2 with ⟨q1, q2, q3, q4⟩ | ⟨q1, q2, q3⟩ | ⟨q1, q2, q3, q4⟩
      · left; omega
      · right; left; omega
      · omega
  · have hu : e.pull.unit = ⟨e.pull.acc, e.pull.bb, e.pull.sent, e.pull.fb, 0, 0, []⟩ := by unfold BE.unit; rw [if_neg ha]
    rcases h2 with ⟨q1, q2, q3, q4⟩ | ⟨q1, q2, q3⟩ | ⟨q1, q2, q3, q4⟩
    · omega
    · omega
    refine ⟨s', s', h1, pE, ?_, ?_⟩
    · rw [hu]
      exact ⟨by show ((e.pull.acc : Nat) : Int) = _; rw [P.acc], by show ((e.pull.sent : Nat) : Int) = _; rw [P.sent], rfl, Nat.le_refl _, by omega, .inr ⟨rfl, rfl, rfl⟩⟩
    · have hk : e.pull.unit.kind = 0 := by rw [hu]
      show Snd a s g e.again s' (e.pull.again - 1) _ e.pull.unit.kind
      rw [hk]
      unfold Snd
      right; right; omega
/-- what a heard unit does, in bits -/
theorem EI.hear2 {e : BE} {a s g r : Nat} (E : EI e a s g r) {u : UP} {c su ru : Nat} (U : UnitIs u c su ru) (h1 : a ≤ ru) (h2 : ru ≤ s) (h3 : r ≤ su) (h4 : c ≤ r + 127) :
    (e.hear u).1.fb = u.bb ∧ (e.hear u).1.again = (if u.bb = e.fb then min e.again (s - ru) else s - ru) ∧
    ((u.fb = e.bb ∧ u.kind = 2 ∧ c = r + 1 ∧ (e.hear u).1.bb = e.bb ∧ (e.hear u).2.1 ≠ []) ∨ (u.fb = e.bb ∧ ¬ (u.kind = 2 ∧ c = r + 1) ∧ (e.hear u).2.1 = [] ∧ (e.hear u).1.bb = (if c = r then e.bb else !e.bb)) ∨ (u.fb ≠ e.bb ∧ (e.hear u).1.bb = e.bb ∧ (e.hear u).2.1 = [])) := by
  obtain ⟨c1, c2⟩ := U.fine
  obtain ⟨u1, u2, u3, u4, u5, u6⟩ := U
  have k1 := E.h1
  have k3 := E.h3
  have hah : ahd e.ack (num ru) = ru - a := by rw [E.ack]; unfold ahd num; omega
  have hbn : u.back.toNat = num ru := by rw [u1]; simp
  have hw : ¬ ahd e.ack e.sent < ahd e.ack u.back.toNat := by rw [E.len, E.ol, hbn, hah]; omega
  have ho : ((e.abn false).ackd u.back.toNat).o.length = s - ru := by
    show (e.o.drop (ahd e.ack u.back.toNat)).length = _
    rw [hbn, hah, List.length_drop, E.ol]; omega
  have hag : ((e.abn false).ackd u.back.toNat).again = min e.again (s - ru) := by
    show min e.again (e.o.length - ahd e.ack u.back.toNat) = _
    rw [hbn, hah, E.ol]; congr 1; omega
  have ht : (((e.abn false).ackd u.back.toNat).turn u.bb).fb = u.bb ∧ (((e.abn false).ackd u.back.toNat).turn u.bb).again = (if u.bb = e.fb then min e.again (s - ru) else s - ru) ∧ (((e.abn false).ackd u.back.toNat).turn u.bb).bb = e.bb ∧ (((e.abn false).ackd u.back.toNat).turn u.bb).acc = num r := by
    unfold BE.turn
    have hfb : ((e.abn false).ackd u.back.toNat).fb = e.fb := rfl
    rw [hfb]
    split
    · rename_i h; exact ⟨h.symm, hag, rfl, E.acc⟩
    · exact ⟨rfl, ho, rfl, E.acc⟩
  have hcr : (u.fore = (aft (num r) 1 : Nat) ↔ c = r + 1) ∧ (u.fore = (num r : Nat) ↔ c = r) := by
    rw [u2, num_aft]
    unfold num
    omega
  unfold BE.hear
  rw [E.st, c1, if_neg (by simp), if_neg (by simp), if_neg c2, if_neg hw]
  obtain ⟨t1, t2, t3, t4⟩ := ht
  generalize ((e.abn false).ackd u.back.toNat).turn u.bb = e2 at *
  dsimp only
  unfold BE.recv
  rw [t3, t4]
  by_cases hf : u.fb = e.bb
  · rw [if_pos hf]
    by_cases hk : u.kind = 2 ∧ u.fore = (aft (num r) 1 : Nat)
    · rw [if_pos hk]
      rw [if_pos rfl]
      exact ⟨t1, t2, .inl ⟨hf, hk.1, hcr.1.1 hk.2, rfl, by simp⟩⟩
    · rw [if_neg hk]
      have hk' : ¬ (u.kind = 2 ∧ c = r + 1) := fun h => hk ⟨h.1, hcr.1.2 h.2⟩
      by_cases hr : u.fore = (num r : Nat)
      · rw [if_pos hr]
        refine ⟨t1, t2, .inr (.inl ⟨hf, hk', rfl, ?_⟩)⟩
        rw [if_pos (hcr.2.1 hr)]; exact t3
      · rw [if_neg hr]
        refine ⟨t1, t2, .inr (.inl ⟨hf, hk', rfl, ?_⟩)⟩
        rw [if_neg (fun h => hr (hcr.2.2 h))]
        rfl
  · rw [if_neg hf]
    exact ⟨t1, t2, .inr (.inr ⟨hf, t3, rfl⟩)⟩
/-- what is left to do in one direction -/
def PsiG (s g n r : Nat) : Nat := if (0 < n ∧ (s = r + n ∨ s + 1 = r + n)) ∨ (n = 0 ∧ s = r) then (g - r) + (if 0 < n ∧ s + 1 = r + n then 1 else 0) else 302
def Psi (s g n : Nat) (F B : Bool) (r : Nat) : Nat := if F = B then PsiG s g n r else 301
theorem psi_eq {s g n r : Nat} {F B : Bool} (h : F = B) : Psi s g n F B r = PsiG s g n r := if_pos h
theorem psi_ne {s g n r : Nat} {F B : Bool} (h : F ≠ B) : Psi s g n F B r = 301 := if_neg h
theorem psiG_le {s g n r : Nat} (h : g ≤ r + 200) : PsiG s g n r ≤ 302 := by unfold PsiG; split <;> (try split) <;> omega
theorem psiG_good {s g n r : Nat} (h : (0 < n ∧ (s = r + n ∨ s + 1 = r + n)) ∨ (n = 0 ∧ s = r)) : PsiG s g n r = (g - r) + (if 0 < n ∧ s + 1 = r + n then 1 else 0) := if_pos h
theorem psiG_bad {s g n r : Nat} (h : ¬ ((0 < n ∧ (s = r + n ∨ s + 1 = r + n)) ∨ (n = 0 ∧ s = r))) : PsiG s g n r = 302 := if_neg h
/-- one turn, one direction -/
theorem turn_step {a s g n r s' n2 c : Nat} {kd : Int} {F B B' : Bool} (S : Snd a s g n s' n2 c kd) (h1 : a ≤ r) (h2 : r ≤ s) (h3 : s ≤ g) (h4 : n ≤ s - a) (hg : g ≤ a + 200) {r' : Nat}
    (hr : (F = B ∧ kd = 2 ∧ c = r + 1 ∧ B' = B ∧ r' = r + 1) ∨ (F = B ∧ ¬ (kd = 2 ∧ c = r + 1) ∧ r' = r ∧ B' = (if c = r then B else !B)) ∨ (F ≠ B ∧ B' = B ∧ r' = r)) {n' : Nat} (hn : n' = (if B = F then min n2 (s' - r) else s' - r)) :
    s' ≤ g ∧ r ≤ r' ∧ r' ≤ s' ∧ r' ≤ r + 1 ∧ (r < g → r ≤ a + 1 → Psi s' g n' B B' r' + 1 ≤ Psi s g n F B r) ∧ (r = g → r' = g) := by
  have hs : s' ≤ g ∧ s ≤ s' := by
    unfold Snd at S; rcases S with S | S | S <;> omega
  rcases hr with ⟨e1, e2, e3, e4, e5⟩ | ⟨e1, k1, e5, e4⟩ | ⟨e1, e4, e5⟩
  · rw [if_pos e1.symm] at hn
    have hc : (n = 0 ∧ s' = s + 1 ∧ s = r ∧ n' = 0) ∨ (0 < n ∧ s' = s ∧ s = r + n ∧ n' = n - 1) := by
      unfold Snd at S
      rcases S with ⟨q1, q2, q3, q4, q5, q6⟩ | ⟨q1, q2, q3, q4, q5⟩ | ⟨q1, q2, q3, q4, q5, q6⟩
      · left; omega
      · right; omega
      · rw [e2] at q5; cases q5
    refine ⟨hs.1, by omega, by omega, by omega, fun _ _ => ?_, by omega⟩
    rw [psi_eq e1, psi_eq e4.symm, psiG_good (n := n') (by omega), psiG_good (n := n) (by omega)]
    split <;> split <;> omega
  · rw [if_pos e1.symm] at hn
    by_cases hc : c = r
    · rw [if_pos hc] at e4
      have hq : (n = 0 ∧ s' = s ∧ s = r ∧ n' = 0 ∧ (s = g ∨ a + 127 ≤ s)) ∨ (0 < n ∧ s' = s ∧ s + 1 = r + n ∧ n' = n - 1) := by
        unfold Snd at S
        rcases S with ⟨q1, q2, q3, q4, q5, q6⟩ | ⟨q1, q2, q3, q4, q5⟩ | ⟨q1, q2, q3, q4, q5, q6⟩
        · omega
        · right; omega
        · left; omega
      refine ⟨hs.1, by omega, by omega, by omega, fun _ _ => ?_, by omega⟩
      rw [psi_eq e1, psi_eq e4.symm, psiG_good (n := n') (by omega), psiG_good (n := n) (by omega)]
      split <;> split <;> omega
    · rw [if_neg hc] at e4
      have hb : ¬ ((0 < n ∧ (s = r + n ∨ s + 1 = r + n)) ∨ (n = 0 ∧ s = r)) := by
        unfold Snd at S
        rcases S with ⟨q1, q2, q3, q4, q5, q6⟩ | ⟨q1, q2, q3, q4, q5⟩ | ⟨q1, q2, q3, q4, q5, q6⟩
        · have : c ≠ r + 1 := fun h => k1 ⟨q5, h⟩
          omega
        · have : c ≠ r + 1 := fun h => k1 ⟨q4, h⟩
          omega
        · omega
      refine ⟨hs.1, by omega, by omega, by omega, fun _ _ => ?_, by omega⟩
      rw [psi_eq e1, psiG_bad hb, psi_ne (by rw [e4]; cases B <;> simp)]
      omega
  · rw [if_neg (fun h => e1 h.symm)] at hn
    refine ⟨hs.1, by omega, by omega, by omega, fun _ _ => ?_, by omega⟩
    rw [psi_ne e1, psi_eq e4.symm, psiG_good (n := n') (by omega)]
    split <;> omega
theorem bring_cons {p : PS} {k : Nat} {u : UP} {us : List UP} (h : p.us k = u :: us) : p.bring k false = { p with us := upd p.us k us, e := upd p.e k ((p.e k).hear u).1, f := p.f || decide (((p.e k).hear u).2.2 ≠ 0), tk := upd p.tk k (p.tk k ++ ((p.e k).hear u).2.1) } := by
  unfold PS.bring; rw [h]; rfl
def PS.drain (k : Nat) : Nat → PS → PS
  | 0, p => p
  | n + 1, p => PS.drain k n (p.bring k false)
def PS.sent2 (p : PS) : PS := (p.send 0).send 1
def PS.down (p : PS) (k : Nat) : PS := p.drain k (p.us k).length
/-- a turn: each end sends, all is delivered -/
def PS.turn (p : PS) : PS := (p.sent2.down 0).down 1
def PS.hd (p : PS) (k : Nat) : BE × List (List Int) × Int := (p.e k).next.1.hear (p.e (1 - k)).next.2.1
theorem turn_eq {p : PS} (h0 : p.us 0 = []) (h1 : p.us 1 = []) : p.turn.g = p.g ∧ ∀ k, k < 2 → p.turn.e k = (p.hd k).1 ∧ p.turn.us k = [] ∧ p.turn.tk k = p.tk k ++ (p.hd k).2.1 ∧ ((p.e 0).next.2.2 = 0 → (p.e 1).next.2.2 = 0 → (p.hd 0).2.2 = 0 → (p.hd 1).2.2 = 0 → p.turn.f = p.f) := by
  have e2 : p.sent2.us 0 = [(p.e 1).next.2.1] := by simp [PS.sent2, PS.send, upd, h0]
  have e3 : p.sent2.us 1 = [(p.e 0).next.2.1] := by simp [PS.sent2, PS.send, upd, h1]
  have e4 : ∀ k, k < 2 → p.sent2.e k = (p.e k).next.1 := fun k hk => by
    rcases k with _ | _ | k
    · simp [PS.sent2, PS.send, upd]
    · simp [PS.sent2, PS.send, upd]
    · omega
  have e5 : p.sent2.down 0 = p.sent2.bring 0 false := by unfold PS.down; rw [e2]; rfl
  have e6 : p.sent2.bring 0 false = { p.sent2 with us := upd p.sent2.us 0 [], e := upd p.sent2.e 0 (p.hd 0).1, f := p.sent2.f || decide ((p.hd 0).2.2 ≠ 0), tk := upd p.sent2.tk 0 (p.sent2.tk 0 ++ (p.hd 0).2.1) } := by
    rw [bring_cons e2, e4 0 (by omega)]; rfl
  have e7 : (p.sent2.down 0).us 1 = [(p.e 0).next.2.1] := by rw [e5, e6]; simp [upd, e3]
  have e8 : p.turn = (p.sent2.bring 0 false).bring 1 false := by unfold PS.turn; unfold PS.down at e7 ⊢; rw [e7]; show PS.drain 1 1 (p.sent2.down 0) = _; rw [e5]; rfl
  rw [e5] at e7
  have e9 : (p.sent2.bring 0 false).e 1 = (p.e 1).next.1 := by rw [e6]; simp [upd, e4 1 (by omega)]
  have e10 : p.turn = { p.sent2.bring 0 false with us := upd (p.sent2.bring 0 false).us 1 [], e := upd (p.sent2.bring 0 false).e 1 (p.hd 1).1, f := (p.sent2.bring 0 false).f || decide ((p.hd 1).2.2 ≠ 0), tk := upd (p.sent2.bring 0 false).tk 1 ((p.sent2.bring 0 false).tk 1 ++ (p.hd 1).2.1) } := by
    rw [e8, bring_cons e7, e9]; rfl
  have hg : p.sent2.g = p.g := rfl
  have ht : p.sent2.tk = p.tk := rfl
  have hf : (p.e 0).next.2.2 = 0 → (p.e 1).next.2.2 = 0 → p.sent2.f = p.f := fun a b => by simp [PS.sent2, PS.send, upd, a, b]
  rw [e10, e6]
  refine ⟨hg, fun k hk => ?_⟩
  rcases k with _ | _ | k
  · refine ⟨by simp [upd], by simp [upd], by simp [upd, ht], fun a b c d => ?_⟩
    simp [hf a b, c, d]
  · refine ⟨by simp [upd], by simp [upd], by simp [upd, ht], fun a b c d => ?_⟩
    simp [hf a b, c, d]
  · omega
structure L0 (N : Nat) (p : PS) (a s r : Nat → Nat) : Prop where
  f : p.f = false
  E : ∀ k, k < 2 → EI (p.e k) (a k) (s k) (p.g k) (r k)
  T : ∀ k, k < 2 → p.tk k = lst 0 (r k)
  U : ∀ k, k < 2 → p.us k = []
  o : ∀ k, k < 2 → a k ≤ r (1 - k) ∧ r (1 - k) ≤ s k ∧ p.g k ≤ N
def PS.psi (p : PS) (s r : Nat → Nat) (k : Nat) : Nat := Psi (s k) (p.g k) (p.e k).again (p.e k).fb (p.e (1 - k)).bb (r (1 - k))
theorem L0.turn {N : Nat} {p : PS} {a s r : Nat → Nat} (L : L0 N p a s r) : p.turn.g = p.g ∧ ∃ a' s' r', L0 N p.turn a' s' r' ∧ ∀ k, k < 2 → a' k = r (1 - k) ∧ r (1 - k) ≤ r' (1 - k) ∧ r' (1 - k) ≤ r (1 - k) + 1 ∧ (r (1 - k) < p.g k → r (1 - k) ≤ a k + 1 → p.turn.psi s' r' k + 1 ≤ p.psi s r k) ∧ (r (1 - k) = p.g k → r' (1 - k) = p.g k) := by
  obtain ⟨hg, ht⟩ := turn_eq (L.U 0 (by omega)) (L.U 1 (by omega))
  refine ⟨hg, ?_⟩
  have hn : ∀ k, ∃ s' c, k < 2 → (p.e k).next.2.2 = 0 ∧ (p.e k).next.1.fb = (p.e k).fb ∧ (p.e k).next.1.bb = (p.e k).bb ∧ (p.e k).next.2.1.fb = (p.e k).fb ∧ (p.e k).next.2.1.bb = (p.e k).bb ∧ s k ≤ s' ∧ EI (p.e k).next.1 (a k) s' (p.g k) (r k) ∧ UnitIs (p.e k).next.2.1 c s' (r k) ∧ Snd (a k) (s k) (p.g k) (p.e k).again s' (p.e k).next.1.again c (p.e k).next.2.1.kind := by
    intro k
    by_cases hk : k < 2
    · obtain ⟨h1, h2, h3, h4, h5, s', c, h6⟩ := (L.E k hk).next2
      exact ⟨s', c, fun _ => ⟨h1, h2, h3, h4, h5, h6⟩⟩
    · exact ⟨0, 0, fun h => absurd h hk⟩
  obtain ⟨s', hn⟩ := Classical.axiomOfChoice hn
  obtain ⟨c, hn⟩ := Classical.axiomOfChoice hn
  have hh : ∀ k, ∃ r', k < 2 → (p.hd k).2.2 = 0 ∧ (p.hd k).1.fb = (p.e (1 - k)).bb ∧ (p.hd k).1.again = (if (p.e (1 - k)).bb = (p.e k).fb then min (p.e k).next.1.again (s' k - r (1 - k)) else s' k - r (1 - k)) ∧ EI (p.hd k).1 (r (1 - k)) (s' k) (p.g k) r' ∧ lst 0 r' = lst 0 (r k) ++ (p.hd k).2.1 ∧
      (((p.e (1 - k)).fb = (p.e k).bb ∧ (p.e (1 - k)).next.2.1.kind = 2 ∧ c (1 - k) = r k + 1 ∧ (p.hd k).1.bb = (p.e k).bb ∧ r' = r k + 1) ∨ ((p.e (1 - k)).fb = (p.e k).bb ∧ ¬ ((p.e (1 - k)).next.2.1.kind = 2 ∧ c (1 - k) = r k + 1) ∧ r' = r k ∧ (p.hd k).1.bb = (if c (1 - k) = r k then (p.e k).bb else !(p.e k).bb)) ∨ ((p.e (1 - k)).fb ≠ (p.e k).bb ∧ (p.hd k).1.bb = (p.e k).bb ∧ r' = r k)) := by
    intro k
    by_cases hk : k < 2
    · obtain ⟨n1, n2, n3, n4, n5, n6, n7, n8, n9⟩ := hn k hk
      obtain ⟨m1, m2, m3, m4, m5, m6, m7, m8, m9⟩ := hn (1 - k) (by omega)
      obtain ⟨o1, o2, o3⟩ := L.o k hk
      obtain ⟨q1, q2, q3⟩ := L.o (1 - k) (by omega)
      have hkk : 1 - (1 - k) = k := by omega
      rw [hkk] at q1 q2
      have hm3 := m7.h3
      have hc4 := m8.2.2.2.1
      have H1 := n7.hear m8 o1 (by omega) (by omega) (by omega)
      have H2 := n7.hear2 m8 o1 (by omega) (by omega) (by omega)
      rw [m4, m5, n2, n3] at H2
      change (p.hd k).1.fb = _ ∧ (p.hd k).1.again = _ ∧ _ at H2
      obtain ⟨g1, g2, g3⟩ := H2
      obtain ⟨f1, ⟨f2, f3⟩ | ⟨f2, f3, f4⟩⟩ := H1
      · refine ⟨r k, fun _ => ⟨f1, g1, g2, f2, ?_, ?_⟩⟩
        · show _ = _ ++ ((p.e k).next.1.hear (p.e (1 - k)).next.2.1).2.1
          rw [f3, List.append_nil]
        · rcases g3 with ⟨x1, x2, x3, x4, x5⟩ | ⟨x1, x2, x3, x4⟩ | ⟨x1, x2, x3⟩
          · exact absurd f3 x5
          · exact .inr (.inl ⟨x1, x2, rfl, x4⟩)
          · exact .inr (.inr ⟨x1, x2, rfl⟩)
      · refine ⟨r k + 1, fun _ => ⟨f1, g1, g2, f2, ?_, ?_⟩⟩
        · show _ = _ ++ ((p.e k).next.1.hear (p.e (1 - k)).next.2.1).2.1
          rw [f3, lst_succ (Nat.zero_le _)]
        · rcases g3 with ⟨x1, x2, x3, x4, x5⟩ | ⟨x1, x2, x3, x4⟩ | ⟨x1, x2, x3⟩
          · exact .inl ⟨x1, x2, x3, x4, rfl⟩
          · rw [f3] at x3; cases x3
          · rw [f3] at x3; cases x3
    · exact ⟨0, fun h => absurd h hk⟩
  obtain ⟨r', hh⟩ := Classical.axiomOfChoice hh
  have hst : ∀ k, k < 2 → s' k ≤ p.g k ∧ r (1 - k) ≤ r' (1 - k) ∧ r' (1 - k) ≤ s' k ∧ r' (1 - k) ≤ r (1 - k) + 1 ∧ (r (1 - k) < p.g k → r (1 - k) ≤ a k + 1 → Psi (s' k) (p.g k) (p.hd k).1.again (p.e (1 - k)).bb (p.hd (1 - k)).1.bb (r' (1 - k)) + 1 ≤ p.psi s r k) ∧ (r (1 - k) = p.g k → r' (1 - k) = p.g k) := by
    intro k hk
    obtain ⟨n1, n2, n3, n4, n5, n6, n7, n8, n9⟩ := hn k hk
    obtain ⟨o1, o2, o3⟩ := L.o k hk
    obtain ⟨f1, f2, f3, f4, f5, f6⟩ := hh (1 - k) (by omega)
    obtain ⟨-, -, g3, -⟩ := hh k hk
    have hkk : 1 - (1 - k) = k := by omega
    rw [hkk] at f6
    have hsg := (L.E k hk).h2
    have h3 := (L.E k hk).h3
    have h4 := (L.E k hk).h4
    exact turn_step n9 o1 o2 hsg (L.E k hk).ag (by omega) f6 g3
  refine ⟨fun k => r (1 - k), s', r', ⟨?_, ?_, ?_, ?_, ?_⟩, ?_⟩
  · rw [(ht 0 (by omega)).2.2.2 (hn 0 (by omega)).1 (hn 1 (by omega)).1 (hh 0 (by omega)).1 (hh 1 (by omega)).1]; exact L.f
  · intro k hk
    rw [(ht k hk).1, hg]; exact (hh k hk).2.2.2.1
  · intro k hk
    rw [(ht k hk).2.2.1, L.T k hk]; exact (hh k hk).2.2.2.2.1.symm
  · intro k hk; exact (ht k hk).2.1
  · intro k hk
    obtain ⟨s1, s2, s3, s4, s5, s6⟩ := hst k hk
    exact ⟨s2, s3, by rw [hg]; exact (L.o k hk).2.2⟩
  · intro k hk
    obtain ⟨s1, s2, s3, s4, s5, s6⟩ := hst k hk
    refine ⟨rfl, s2, s4, fun h1 h2 => ?_, s6⟩
    unfold PS.psi at *
    rw [(ht k hk).1, (ht (1 - k) (by omega)).1, hg, (hh k hk).2.1]
    exact s5 h1 h2
end Go.Proofs.Ytcpcngamfncpdaa
