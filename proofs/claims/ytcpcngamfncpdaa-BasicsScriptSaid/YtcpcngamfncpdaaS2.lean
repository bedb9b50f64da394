import Derived.Test.YtcpcngamfncpdaaS1
import Derived.Test.YtcpcngamfncpdaaE0
import Derived.Test.YtcpcngamfncpdaaAiXd
set_option linter.unusedVariables false
set_option linter.unusedSimpArgs false
namespace Go.Proofs.Ytcpcngamfncpdaa
open Go Go.Ai Go.Proofs

/-- an end in counts, whatever it has heard -/
structure EX (e : BE) (g s a : Nat) : Prop where
  q : e.q = lst s g
  o : e.o = lst a s
  sent : e.sent = num s
  ack : e.ack = num a
  h1 : a ≤ s
  h2 : s ≤ g
  h3 : s ≤ a + 127
  h4 : g ≤ s + 64
  h6 : e.again ≤ s - a
  h7 : e.acc < 128
  hg : g ≤ 1000
  rd : e.rd = true
/-- the law's model of it -/
def MC (e : BE) (g s a : Nat) : List Value := [.int .i64 (g : Int), .int .i64 (s : Int), .int .i64 (a : Int), .int .i64 ((s - e.again : Nat) : Int), .bool e.fb, .int .u8 (e.acc : Int), .bool e.bb, .bool e.a0, .bool e.a1, .bool e.fl]
theorem EX.st {e : BE} {g s a : Nat} (X : EX e g s a) (hfl : e.fl = false) : e.st = 0 := by unfold BE.st; rw [X.rd, hfl]; rfl
theorem EX.len {e : BE} {g s a : Nat} (X : EX e g s a) : ahd e.ack e.sent = e.o.length := by
  rw [X.ack, X.sent, X.o, lst_len]
  have := X.h1
  have := X.h3
  unfold ahd num; omega
theorem EX.new : EX BE.new 0 0 0 := ⟨rfl, rfl, rfl, rfl, Nat.le_refl _, Nat.le_refl _, by omega, by omega, Nat.le_refl _, by decide, by omega, rfl⟩
theorem EX.accept {e : BE} {g s a : Nat} (X : EX e g s a) (hg : g + 1 ≤ 1000) :
    (e.fl = true ∧ e.accept (msg g) = (e, 6)) ∨ (e.fl = false ∧ g - s = 64 ∧ e.accept (msg g) = (e, 9)) ∨ (e.fl = false ∧ g - s ≠ 64 ∧ e.accept (msg g) = ({ e with q := e.q ++ [msg g] }, 0) ∧ EX { e with q := e.q ++ [msg g] } (g + 1) s a) := by
  have hl : (msg g).length = 2 := rfl
  have hq : e.q.length = g - s := by rw [X.q, lst_len]
  have h4 := X.h4
  have h2 := X.h2
  unfold BE.accept BE.st
  rw [X.rd]
  cases hf : e.fl
  · right
    rw [if_neg (by simp), if_neg (by omega), hq]
    by_cases h64 : g - s = 64
    · left; rw [if_pos (by omega)]; exact ⟨rfl, h64, rfl⟩
    · right
      rw [if_neg (by omega)]
      exact ⟨rfl, h64, rfl, ⟨by rw [lst_succ h2, ← X.q], X.o, X.sent, X.ack, X.h1, by omega, X.h3, by omega, X.h6, X.h7, hg, by first | exact X.rd | rfl⟩⟩
  · left; exact ⟨rfl, by simp⟩
theorem EX.ret {e : BE} {g s a : Nat} (X : EX e g s a) : e.ret (num a) = (lst a g, 0) := by
  have hl := num_lt a
  have h0 : ahd (num a) (num a) = 0 := by unfold ahd; omega
  unfold BE.ret
  rw [X.rd, X.ack, h0, if_pos rfl, if_neg (by omega), X.o, X.q, List.drop_zero, lst_app X.h1 X.h2]
theorem lst_at {a b i : Nat} (h : i < b - a) : (lst a b).getD i [] = msg (a + i) := by
  rw [List.getD_eq_getElem?_getD, lst_get h]; rfl
/-- what Next does, in counts -/
theorem EX.next {e : BE} {g s a : Nat} (X : EX e g s a) (hfl : e.fl = false) :
    (e.again = 0 ∧ s < g ∧ s - a < 127 ∧ e.next = ({ e with o := lst a (s + 1), q := lst (s + 1) g, sent := num (s + 1), again := 0 }, ⟨e.acc, e.bb, (num (s + 1) : Nat), e.fb, 2, 0, msg s⟩, 0) ∧ EX { e with o := lst a (s + 1), q := lst (s + 1) g, sent := num (s + 1), again := 0 } g (s + 1) a) ∨
    (0 < e.again ∧ e.next = ({ e with again := e.again - 1 }, ⟨e.acc, e.bb, (num (s - e.again + 1) : Nat), e.fb, 2, 0, msg (s - e.again)⟩, 0) ∧ EX { e with again := e.again - 1 } g s a) ∨
    (e.again = 0 ∧ ¬ (s < g ∧ s - a < 127) ∧ e.next = (e, ⟨e.acc, e.bb, (num s : Nat), e.fb, 0, 0, []⟩, 0)) := by
  have h1 := X.h1
  have h2 := X.h2
  have h3 := X.h3
  have h4 := X.h4
  have h6 := X.h6
  have hq : e.q.length = g - s := by rw [X.q, lst_len]
  have ho : e.o.length = s - a := by rw [X.o, lst_len]
  have hnx : e.next = ({ e.pull with again := e.pull.again - 1 }, e.pull.unit, 0) := by unfold BE.next; rw [X.st hfl, if_neg (by simp)]
  rw [hnx]
  by_cases hc : e.again = 0 ∧ s < g ∧ s - a < 127
  · left
    obtain ⟨c1, c2, c3⟩ := hc
    have hp : e.pull = { e with o := lst a (s + 1), q := lst (s + 1) g, sent := num (s + 1), again := 1 } := by
      unfold BE.pull
      rw [if_pos ⟨c1, by omega, by omega⟩, X.q, X.o, X.sent, lst_head c2, lst_drop (by omega), lst_succ h1, num_aft]
    have hl : (lst a (s + 1)).length = s + 1 - a := lst_len _ _
    refine ⟨c1, c2, c3, ?_, ⟨rfl, rfl, rfl, X.ack, by omega, by omega, by omega, by omega, Nat.zero_le _, X.h7, X.hg, X.rd⟩⟩
    rw [hp]
    unfold BE.unit
    rw [if_pos Nat.one_pos]
    simp only [hl]
    rw [lst_at (by omega), show a + (s + 1 - a - 1) = s by omega]
    have : aft (num (s + 1)) (1 - ((1 : Nat) : Int)) = num (s + 1) := by unfold aft num; omega
    rw [this]
  · right
    have hp : e.pull = e := by unfold BE.pull; rw [if_neg fun h => hc ⟨h.1, by omega, by omega⟩]
    rw [hp]
    by_cases ha : 0 < e.again
    · left
      refine ⟨ha, ?_, ⟨X.q, X.o, X.sent, X.ack, h1, h2, h3, h4, by show e.again - 1 ≤ _; omega, X.h7, X.hg, X.rd⟩⟩
      unfold BE.unit
      rw [if_pos ha, ho, X.o, lst_at (by omega), show a + (s - a - e.again) = s - e.again by omega, X.sent]
      have : aft (num s) (1 - (e.again : Int)) = num (s - e.again + 1) := by unfold aft num; omega
      rw [this]
      simp only [X.o, X.sent]
    · right
      have h0 : e.again = 0 := by omega
      refine ⟨h0, fun h => hc ⟨h0, h⟩, ?_⟩
      unfold BE.unit
      rw [if_neg ha, X.sent, h0]
      have : ({ e with again := 0 - 1 } : BE) = e := by cases e; simp at h0; simp [h0]
      rw [this]
theorem U4.chk {u : UP} (k : U4 u) : chk u = 0 := by
  unfold Proofs.Ytcpcngamfncpdaa.chk
  have h1 := k.b
  have h2 := k.f
  have h3 := k.k
  have h4 := k.s
  rw [if_neg, if_neg]
  · rintro (⟨h5, h6⟩ | ⟨h5, h6⟩)
    · have := k.l2 h5; omega
    · rw [k.l1 h5] at h6; simp at h6
  · rintro (h5 | h5 | h5 | h5 | ⟨h5, h6⟩)
    · omega
    · omega
    · omega
    · omega
    · exact h5 (k.s1 h6)
/-- behind the acknowledgement, and the bit -/
def BE.heard (e : BE) (b : Nat) (u : UP) : BE := ((e.abn false).ackd b).turn u.bb
theorem heard_same (e : BE) (b : Nat) (u : UP) : (e.heard b u).acc = e.acc ∧ (e.heard b u).bb = e.bb ∧ (e.heard b u).fb = u.bb ∧ (e.heard b u).a0 = e.a1 ∧ (e.heard b u).a1 = false ∧ (e.heard b u).fl = e.fl := by
  unfold BE.heard BE.turn
  split
  · rename_i h; exact ⟨rfl, rfl, h.symm, rfl, rfl, rfl⟩
  · exact ⟨rfl, rfl, rfl, rfl, rfl, rfl⟩
theorem EX.hear {e : BE} {g s a : Nat} (X : EX e g s a) (hfl : e.fl = false) {u : UP} (k : U4 u) {b d : Nat} (hb : u.back = b) (hd : d = ahd (num a) b) :
    (u.kind = 1 ∧ e.hear u = (e, [], 0)) ∨
    (u.kind ≠ 1 ∧ s - a < d ∧ e.hear u = ({ e.abn true with fl := e.a0 || e.a1 }, [], if (e.a0 || e.a1) = true then 6 else 0)) ∨
    (u.kind ≠ 1 ∧ d ≤ s - a ∧ e.hear u = (if ((e.heard b u).recv u).2 = true then (((e.heard b u).recv u).1, [u.load], 0) else (((e.heard b u).recv u).1, [], 0)) ∧ EX (e.heard b u) g s (a + d) ∧ (e.heard b u).again = if u.bb = e.fb then min e.again (s - a - d) else s - a - d) := by
  have hbt : u.back.toNat = b := by omega
  have hbl : b < 128 := by have := k.b; omega
  have hol : e.o.length = s - a := by rw [X.o, lst_len]
  have h1 := X.h1
  have h3 := X.h3
  have h6 := X.h6
  have hss : ahd e.ack e.sent = s - a := by rw [X.ack, X.sent]; unfold ahd num; omega
  unfold BE.hear
  rw [X.st hfl, k.chk, if_neg (by simp), if_neg (by simp), hbt, hss, X.ack, ← hd]
  by_cases k1 : u.kind = 1
  · left; rw [if_pos k1]; exact ⟨k1, rfl⟩
  · right
    rw [if_neg k1]
    by_cases hw : s - a < d
    · left
      rw [if_pos hw]
      refine ⟨k1, hw, ?_⟩
      cases h0 : e.a0 <;> cases h1 : e.a1 <;> simp [BE.abn, hfl]
    · right
      rw [if_neg hw]
      have hack : num (a + d) = b := by rw [hd]; unfold ahd num; omega
      have hdr : e.o.drop (ahd e.ack b) = lst (a + d) s := by rw [X.ack, ← hd, X.o, lst_drop (by omega)]
      have hdl : (lst (a + d) s).length = s - (a + d) := lst_len _ _
      have E1 : EX ((e.abn false).ackd b) g s (a + d) := ⟨X.q, hdr, X.sent, hack.symm, by omega, X.h2, by omega, X.h4, by show min e.again (e.o.length - ahd e.ack b) ≤ s - (a + d); rw [X.ack, ← hd]; omega, X.h7, X.hg, X.rd⟩
      refine ⟨k1, by omega, rfl, ?_, ?_⟩
      · unfold BE.heard BE.turn
        split
        · exact E1
        · exact ⟨E1.q, E1.o, E1.sent, E1.ack, E1.h1, E1.h2, E1.h3, E1.h4, by show ((e.abn false).ackd b).o.length ≤ _; rw [E1.o, hdl]; omega, E1.h7, E1.hg, E1.rd⟩
      · unfold BE.heard BE.turn
        have hfb : ((e.abn false).ackd b).fb = e.fb := rfl
        rw [hfb]
        by_cases hbb : u.bb = e.fb
        · rw [if_pos hbb, if_pos hbb]
          show min e.again (e.o.length - ahd e.ack b) = _
          rw [X.ack, ← hd, hol]
        · rw [if_neg hbb, if_neg hbb]
          show ((e.abn false).ackd b).o.length = _
          rw [E1.o, hdl]; omega
theorem EX.recv {e : BE} {g s a : Nat} (X : EX e g s a) (u : UP) : EX (e.recv u).1 g s a ∧ ((e.recv u).2 = true → u.kind = 2) ∧ (e.recv u).1.fl = e.fl := by
  unfold BE.recv
  split
  · split
    · rename_i h; exact ⟨⟨X.q, X.o, X.sent, X.ack, X.h1, X.h2, X.h3, X.h4, X.h6, aft_lt e.acc 1, X.hg, X.rd⟩, fun _ => h.1, rfl⟩
    · split
      · exact ⟨X, fun h => (by cases h), rfl⟩
      · exact ⟨⟨X.q, X.o, X.sent, X.ack, X.h1, X.h2, X.h3, X.h4, X.h6, X.h7, X.hg, X.rd⟩, fun h => (by cases h), rfl⟩
  · exact ⟨X, fun h => (by cases h), rfl⟩
theorem EX.heardL {e : BE} {g s a : Nat} (X : EX e g s a) (hfl : e.fl = false) {u : UP} (k : U4 u) : (e.hear u).2.2 = (if (e.hear u).1.fl = true then 6 else 0) ∧ ((e.hear u).2.1 = [] ∨ ((e.hear u).2.1 = [u.load] ∧ u.kind = 2)) := by
  obtain ⟨b, hb⟩ : ∃ b : Nat, u.back = b := ⟨u.back.toNat, by have := k.b; omega⟩
  rcases X.hear hfl k hb rfl with ⟨-, h⟩ | ⟨-, -, h⟩ | ⟨-, -, h, XA, -⟩
  · rw [h]; exact ⟨by simp [hfl], .inl rfl⟩
  · rw [h]
    refine ⟨?_, .inl rfl⟩
    cases e.a0 <;> cases e.a1 <;> simp [BE.abn]
  · rw [h]
    obtain ⟨-, r2, r3⟩ := XA.recv u
    have hf : ((e.heard b u).recv u).1.fl = false := by rw [r3, (heard_same e b u).2.2.2.2.2, hfl]
    split
    · rename_i h1; exact ⟨by simp [hf], .inr ⟨rfl, r2 h1⟩⟩
    · exact ⟨by simp [hf], .inl rfl⟩
end Go.Proofs.Ytcpcngamfncpdaa
