import Derived.Test.YtcpcngamfncpdaaE0
set_option linter.unusedVariables false
set_option linter.unusedSimpArgs false
namespace Go.Proofs.Ytcpcngamfncpdaa
open Go Go.Ai Go.Proofs

/-- an end in counts: acknowledged, sent, given, accepted -/
structure EI (e : BE) (a s g r : Nat) : Prop where
  q : e.q = lst s g
  o : e.o = lst a s
  ag : e.again ≤ s - a
  sent : e.sent = num s
  ack : e.ack = num a
  acc : e.acc = num r
  rd : e.rd = true
  fl : e.fl = false
  a0 : e.a0 = false
  a1 : e.a1 = false
  h1 : a ≤ s
  h2 : s ≤ g
  h3 : s ≤ a + 127
  h4 : g ≤ s + 64
theorem EI.new : EI BE.new 0 0 0 0 := ⟨rfl, rfl, Nat.le_refl _, rfl, rfl, rfl, rfl, rfl, rfl, rfl, Nat.le_refl _, Nat.le_refl _, by omega, by omega⟩
theorem EI.st {e : BE} {a s g r : Nat} (E : EI e a s g r) : e.st = 0 := by unfold BE.st; rw [E.rd, E.fl]; rfl
theorem EI.ql {e : BE} {a s g r : Nat} (E : EI e a s g r) : e.q.length = g - s := by rw [E.q, lst_len]
theorem EI.ol {e : BE} {a s g r : Nat} (E : EI e a s g r) : e.o.length = s - a := by rw [E.o, lst_len]
theorem EI.len {e : BE} {a s g r : Nat} (E : EI e a s g r) : ahd e.ack e.sent = e.o.length := by
  rw [E.ol, E.ack, E.sent]
  have := E.h1
  have := E.h3
  unfold ahd num; omega
theorem EI.accept {e : BE} {a s g r : Nat} (E : EI e a s g r) : (64 ≤ g - s ∧ e.accept (msg g) = (e, 9)) ∨ (g - s < 64 ∧ (e.accept (msg g)).2 = 0 ∧ EI (e.accept (msg g)).1 a s (g + 1) r) := by
  have hq := E.ql
  have h3 : ¬ ((msg g).length < 2 ∨ 273 < (msg g).length) := by simp [msg]
  unfold BE.accept
  rw [E.st, if_neg (by simp), if_neg h3, hq]
  by_cases h : 64 ≤ g - s
  · exact .inl ⟨h, by rw [if_pos h]⟩
  · rw [if_neg h]
    refine .inr ⟨by omega, rfl, ⟨?_, E.o, E.ag, E.sent, E.ack, E.acc, E.rd, E.fl, E.a0, E.a1, E.h1, by have := E.h2; omega, E.h3, by omega⟩⟩
    show e.q ++ [msg g] = _
    rw [E.q, lst_succ E.h2]
/-- a unit that an end with r accepted and s sent loads has sent; it is load c, or tells c = s -/
def UnitIs (u : UP) (c s r : Nat) : Prop := u.back = (num r : Nat) ∧ u.fore = (num c : Nat) ∧ u.st = 0 ∧ c ≤ s ∧ s ≤ c + 126 ∧ ((u.kind = 2 ∧ 1 ≤ c ∧ u.load = msg (c - 1)) ∨ (u.kind = 0 ∧ c = s ∧ u.load = []))
theorem EI.next {e : BE} {a s g r : Nat} (E : EI e a s g r) : e.next.2.2 = 0 ∧ ∃ s' c, s ≤ s' ∧ EI e.next.1 a s' g r ∧ UnitIs e.next.2.1 c s' r := by
  have hq := E.ql
  have ho := E.ol
  have k1 := E.h1
  have k2 := E.h2
  have k3 := E.h3
  have k4 := E.h4
  have k5 := E.ag
  have hnx : e.next = ({ e.pull with again := e.pull.again - 1 }, e.pull.unit, 0) := by unfold BE.next; rw [E.st, if_neg (by simp)]
  rw [hnx]
  refine ⟨rfl, ?_⟩
  have hp : ∃ s', s ≤ s' ∧ EI e.pull a s' g r ∧ (0 < e.pull.again ∨ s' = s) := by
    by_cases hc : e.again = 0 ∧ 0 < e.q.length ∧ e.o.length < 127
    · have : e.pull = { e with o := e.o ++ [e.q.headD []], q := e.q.drop 1, sent := aft e.sent 1, again := 1 } := by unfold BE.pull; rw [if_pos hc]
      rw [this]
      refine ⟨s + 1, by omega, ⟨?_, ?_, ?_, ?_, E.ack, E.acc, E.rd, E.fl, E.a0, E.a1, by omega, by omega, by omega, by omega⟩, .inl Nat.one_pos⟩
      · show e.q.drop 1 = _
        rw [E.q, lst_drop (by omega)]
      · show e.o ++ [e.q.headD []] = _
        rw [E.q, E.o, lst_head (by omega), lst_succ k1]
      · show 1 ≤ _; omega
      · show aft e.sent 1 = _
        rw [E.sent, num_aft]
    · have : e.pull = e := by unfold BE.pull; rw [if_neg hc]
      rw [this]
      exact ⟨s, Nat.le_refl _, E, .inr rfl⟩
  obtain ⟨s', h1, P, h2⟩ := hp
  have hb := pull_same e
  have p1 := P.h1
  have p2 := P.h2
  have p3 := P.h3
  have p5 := P.ag
  have pE : EI { e.pull with again := e.pull.again - 1 } a s' g r := ⟨P.q, P.o, by show e.pull.again - 1 ≤ _; omega, P.sent, P.ack, P.acc, P.rd, P.fl, P.a0, P.a1, P.h1, P.h2, P.h3, P.h4⟩
  by_cases ha : 0 < e.pull.again
  · refine ⟨s', s' + 1 - e.pull.again, h1, pE, ?_⟩
    have hu : e.pull.unit = ⟨e.pull.acc, e.pull.bb, aft e.pull.sent (1 - e.pull.again), e.pull.fb, 2, 0, e.pull.o.getD (e.pull.o.length - e.pull.again) []⟩ := by unfold BE.unit; rw [if_pos ha]
    have hl : e.pull.o.getD (e.pull.o.length - e.pull.again) [] = msg (s' - e.pull.again) := by
      rw [P.ol, P.o, List.getD_eq_getElem?_getD, lst_get (by omega)]
      show msg (a + (s' - a - e.pull.again)) = _
      congr 1; omega
    rw [hu]
    refine ⟨by show ((e.pull.acc : Nat) : Int) = _; rw [P.acc], ?_, rfl, by omega, by omega, .inl ⟨rfl, by omega, ?_⟩⟩
    · show ((aft e.pull.sent (1 - (e.pull.again : Int)) : Nat) : Int) = _
      rw [P.sent]
      congr 1
      unfold aft num; omega
    · show e.pull.o.getD (e.pull.o.length - e.pull.again) [] = _
      rw [hl]; congr 1; omega
  · have hss : s' = s := by rcases h2 with h | h; exact absurd h ha; exact h
    refine ⟨s', s', h1, pE, ?_⟩
    have hu : e.pull.unit = ⟨e.pull.acc, e.pull.bb, e.pull.sent, e.pull.fb, 0, 0, []⟩ := by unfold BE.unit; rw [if_neg ha]
    rw [hu]
    exact ⟨by show ((e.pull.acc : Nat) : Int) = _; rw [P.acc], by show ((e.pull.sent : Nat) : Int) = _; rw [P.sent], rfl, Nat.le_refl _, by omega, .inr ⟨rfl, rfl, rfl⟩⟩
theorem UnitIs.fine {u : UP} {c s r : Nat} (U : UnitIs u c s r) : chk u = 0 ∧ u.kind ≠ 1 := by
  obtain ⟨h1, h2, h3, -, -, h4⟩ := U
  have n1 := num_lt r
  have n2 := num_lt c
  unfold chk
  rw [h1, h2, h3]
  rcases h4 with ⟨k, -, l⟩ | ⟨k, -, l⟩
  · rw [k, l]
    have : (msg (c - 1)).length = 2 := rfl
    rw [this, if_neg (by simp; omega), if_neg (by simp)]
    exact ⟨rfl, by decide⟩
  · rw [k, l, if_neg (by simp; omega), if_neg (by simp)]
    exact ⟨rfl, by decide⟩
/-- an end hears a unit of the other one -/
theorem EI.hear {e : BE} {a s g r : Nat} (E : EI e a s g r) {u : UP} {c su ru : Nat} (U : UnitIs u c su ru) (h1 : a ≤ ru) (h2 : ru ≤ s) (h3 : r ≤ su) (h4 : c ≤ r + 127) :
    (e.hear u).2.2 = 0 ∧ ((EI (e.hear u).1 ru s g r ∧ (e.hear u).2.1 = []) ∨ (EI (e.hear u).1 ru s g (r + 1) ∧ (e.hear u).2.1 = [msg r] ∧ r + 1 ≤ su)) := by
  obtain ⟨c1, c2⟩ := U.fine
  obtain ⟨u1, u2, u3, u4, u5, u6⟩ := U
  have k1 := E.h1
  have k3 := E.h3
  have hah : ahd e.ack (num ru) = ru - a := by rw [E.ack]; unfold ahd num; omega
  have hbn : u.back.toNat = num ru := by rw [u1]; simp
  have hw : ¬ ahd e.ack e.sent < ahd e.ack u.back.toNat := by rw [E.len, E.ol, hbn, hah]; omega
  have E2 : EI (((e.abn false).ackd u.back.toNat).turn u.bb) ru s g r ∧ (((e.abn false).ackd u.back.toNat).turn u.bb).acc = e.acc := by
    have E1 : EI ((e.abn false).ackd u.back.toNat) ru s g r := by
      rw [hbn]
      refine ⟨E.q, ?_, ?_, E.sent, rfl, E.acc, E.rd, E.fl, E.a1, rfl, h2, E.h2, by omega, E.h4⟩
      · show e.o.drop (ahd e.ack (num ru)) = _
        rw [hah, E.o, lst_drop (by omega)]; congr 1; omega
      · show min e.again (e.o.length - ahd e.ack (num ru)) ≤ _
        rw [hah, E.ol]; have := E.ag; omega
    unfold BE.turn
    split
    · exact ⟨E1, rfl⟩
    · exact ⟨⟨E1.q, E1.o, by show ((e.abn false).ackd u.back.toNat).o.length ≤ _; rw [E1.ol]; omega, E1.sent, E1.ack, E1.acc, E1.rd, E1.fl, E1.a0, E1.a1, E1.h1, E1.h2, E1.h3, E1.h4⟩, rfl⟩
  unfold BE.hear
  rw [E.st, c1, if_neg (by simp), if_neg (by simp), if_neg c2, if_neg hw]
  obtain ⟨E2, -⟩ := E2
  generalize ((e.abn false).ackd u.back.toNat).turn u.bb = e2 at *
  dsimp only
  unfold BE.recv
  by_cases hf : u.fb = e2.bb
  · rw [if_pos hf]
    by_cases hk : u.kind = 2 ∧ u.fore = (aft e2.acc 1 : Nat)
    · rw [if_pos hk]
      have hcr : c = r + 1 := by
        have := hk.2
        rw [u2, E2.acc, num_aft] at this
        unfold num at this
        omega
      have hl : u.load = msg r := by
        rcases u6 with ⟨-, -, l⟩ | ⟨k, -, -⟩
        · rw [l, hcr]; rfl
        · rw [hk.1] at k; cases k
      rw [if_pos rfl]
      refine ⟨rfl, .inr ⟨⟨E2.q, E2.o, E2.ag, E2.sent, E2.ack, by show aft e2.acc 1 = _; rw [E2.acc, num_aft], E2.rd, E2.fl, E2.a0, E2.a1, E2.h1, E2.h2, E2.h3, E2.h4⟩, by rw [hl], by omega⟩⟩
    · rw [if_neg hk]
      split
      · exact ⟨rfl, .inl ⟨E2, rfl⟩⟩
      · exact ⟨rfl, .inl ⟨⟨E2.q, E2.o, E2.ag, E2.sent, E2.ack, E2.acc, E2.rd, E2.fl, E2.a0, E2.a1, E2.h1, E2.h2, E2.h3, E2.h4⟩, rfl⟩⟩
  · rw [if_neg hf]
    exact ⟨rfl, .inl ⟨E2, rfl⟩⟩

/-- the units under way: their counts do not fall -/
def Ch : Nat → Nat → List UP → Nat → Nat → Prop
  | ls, lr, [], hs, hr => ls ≤ hs ∧ lr ≤ hr
  | ls, lr, u :: us, hs, hr => ∃ c s r, UnitIs u c s r ∧ ls ≤ s ∧ lr ≤ r ∧ Ch s r us hs hr
theorem Ch.up : ∀ {us : List UP} {ls lr hs hr hs' hr' : Nat}, Ch ls lr us hs hr → hs ≤ hs' → hr ≤ hr' → Ch ls lr us hs' hr'
  | [], _, _, _, _, _, _, h, k1, k2 => ⟨Nat.le_trans h.1 k1, Nat.le_trans h.2 k2⟩
  | u :: us, _, _, _, _, _, _, ⟨c, s, r, h1, h2, h3, h4⟩, k1, k2 => ⟨c, s, r, h1, h2, h3, h4.up k1 k2⟩
theorem Ch.push : ∀ {us : List UP} {ls lr s r c : Nat} {u : UP}, Ch ls lr us s r → UnitIs u c s r → Ch ls lr (us ++ [u]) s r
  | [], _, _, s, r, c, u, h, k => ⟨c, s, r, k, h.1, h.2, Nat.le_refl _, Nat.le_refl _⟩
  | x :: us, _, _, _, _, _, _, ⟨c, s, r, h1, h2, h3, h4⟩, k => ⟨c, s, r, h1, h2, h3, h4.push k⟩
theorem Ch.le : ∀ {us : List UP} {ls lr hs hr : Nat}, Ch ls lr us hs hr → ls ≤ hs ∧ lr ≤ hr
  | [], _, _, _, _, h => h
  | u :: us, _, _, _, _, ⟨c, s, r, _, h2, h3, h4⟩ => ⟨Nat.le_trans h2 h4.le.1, Nat.le_trans h3 h4.le.2⟩
theorem Ch.low : ∀ {us : List UP} {ls lr hs hr ls' lr' : Nat}, Ch ls lr us hs hr → ls' ≤ ls → lr' ≤ lr → Ch ls' lr' us hs hr
  | [], _, _, _, _, _, _, h, k1, k2 => ⟨Nat.le_trans k1 h.1, Nat.le_trans k2 h.2⟩
  | u :: us, _, _, _, _, _, _, ⟨c, s, r, h1, h2, h3, h4⟩, k1, k2 => ⟨c, s, r, h1, Nat.le_trans k1 h2, Nat.le_trans k2 h3, h4⟩

def upd {α : Type} (f : Nat → α) (k : Nat) (v : α) : Nat → α := fun i => if i = k then v else f i
theorem upd_same {α : Type} (f : Nat → α) (k : Nat) (v : α) : upd f k v k = v := if_pos rfl
theorem upd_ne {α : Type} (f : Nat → α) {k i : Nat} (v : α) (h : i ≠ k) : upd f k v i = f i := if_neg h

/-- two ends and the units that are under way to each -/
structure PS where
  e : Nat → BE
  us : Nat → List UP
  tk : Nat → List (List Int)
  g : Nat → Nat
  f : Bool
def PS.new : PS := ⟨fun _ => BE.new, fun _ => [], fun _ => [], fun _ => 0, false⟩
def PS.send (p : PS) (k : Nat) : PS := { p with e := upd p.e k (p.e k).next.1, us := upd p.us (1 - k) (p.us (1 - k) ++ [(p.e k).next.2.1]), f := p.f || decide ((p.e k).next.2.2 ≠ 0) }
def PS.bring (p : PS) (k : Nat) (lost : Bool) : PS := match p.us k with
  | [] => p
  | u :: us => if lost = true then { p with us := upd p.us k us } else { p with us := upd p.us k us, e := upd p.e k ((p.e k).hear u).1, f := p.f || decide (((p.e k).hear u).2.2 ≠ 0), tk := upd p.tk k (p.tk k ++ ((p.e k).hear u).2.1) }
def PS.give (p : PS) (k : Nat) : PS := { p with e := upd p.e k ((p.e k).accept (msg (p.g k))).1, g := upd p.g k (if ((p.e k).accept (msg (p.g k))).2 = 0 then p.g k + 1 else p.g k) }

/-- what holds of two ends, whatever units are lost -/
def Inv (N : Nat) (p : PS) : Prop := p.f = false ∧ ∃ a s r : Nat → Nat, ∀ k, k < 2 → EI (p.e k) (a k) (s k) (p.g k) (r k) ∧ p.tk k = lst 0 (r k) ∧ Ch (r (1 - k)) (a (1 - k)) (p.us (1 - k)) (s k) (r k) ∧ p.g k ≤ N
theorem Inv.new : Inv 0 PS.new := ⟨rfl, fun _ => 0, fun _ => 0, fun _ => 0, fun k _ => ⟨EI.new, rfl, ⟨Nat.le_refl _, Nat.le_refl _⟩, Nat.le_refl _⟩⟩
theorem Inv.give {N : Nat} {p : PS} (I : Inv N p) {k : Nat} (hk : k < 2) : Inv (N + 1) (p.give k) := by
  obtain ⟨hf, a, s, r, h⟩ := I
  refine ⟨hf, a, s, r, fun i hi => ?_⟩
  obtain ⟨E, T, C, G⟩ := h i hi
  by_cases hik : i = k
  · subst hik
    simp only [PS.give, upd_same]
    rcases E.accept with ⟨-, h1⟩ | ⟨-, h1, h2⟩
    · rw [h1, if_neg (show ¬ (9 : Int) = 0 by decide)]; exact ⟨E, T, C, by omega⟩
    · rw [h1, if_pos rfl]; exact ⟨h2, T, C, by omega⟩
  · simp only [PS.give, upd_ne _ _ hik]
    exact ⟨E, T, C, by omega⟩
theorem Inv.send {N : Nat} {p : PS} (I : Inv N p) {k : Nat} (hk : k < 2) : Inv N (p.send k) := by
  obtain ⟨hf, a, s, r, h⟩ := I
  obtain ⟨E, T, C, G⟩ := h k hk
  obtain ⟨h0, s', c, h1, E', U⟩ := E.next
  refine ⟨by simp [PS.send, hf, h0], a, upd s k s', r, fun i hi => ?_⟩
  by_cases hik : i = k
  · subst hik
    simp only [PS.send, upd_same]
    exact ⟨E', T, (C.up h1 (Nat.le_refl _)).push U, G⟩
  · have h2 : 1 - i ≠ 1 - k := by omega
    simp only [PS.send, upd_ne _ _ hik, upd_ne _ _ h2]
    exact h i hi
theorem Inv.bring {N : Nat} {p : PS} (I : Inv N p) {k : Nat} (hk : k < 2) (lost : Bool) : Inv N (p.bring k lost) := by
  obtain ⟨hf, a, s, r, h⟩ := I
  unfold PS.bring
  cases hu : p.us k with
  | nil => exact ⟨hf, a, s, r, h⟩
  | cons u us =>
    have hkk : 1 - (1 - k) = k := by omega
    obtain ⟨Em, Tm, Cm, Gm⟩ := h (1 - k) (by omega)
    rw [hkk, hu] at Cm
    obtain ⟨c, su, ru, U, l1, l2, C'⟩ := Cm
    dsimp only
    cases lost with
    | true =>
      rw [if_pos rfl]
      refine ⟨hf, a, s, r, fun i hi => ?_⟩
      by_cases hik : 1 - i = k
      · have : i = 1 - k := by omega
        subst this
        simp only [hkk, upd_same]
        exact ⟨Em, Tm, C'.low l1 l2, Gm⟩
      · simp only [upd_ne _ _ hik]
        exact h i hi
    | false =>
      rw [if_neg (by simp)]
      obtain ⟨E, T, C, G⟩ := h k hk
      have e1 := C'.le
      have e2 := E.h3
      have e3 := Em.h1
      have e4 := Em.h3
      have e5 := C.le
      have U' := U
      obtain ⟨-, -, -, u4, -⟩ := U'
      have e6 : s (1 - k) ≤ r k + 127 := by omega
      obtain ⟨h0, h1⟩ := E.hear U l2 (by omega) l1 (by omega)
      rcases h1 with ⟨E', h1⟩ | ⟨E', h1, h2⟩
      · refine ⟨by simp [hf, h0], upd a k ru, s, r, fun i hi => ?_⟩
        by_cases hik : i = k
        · subst hik
          have hne : 1 - i ≠ i := by omega
          simp only [upd_same, upd_ne _ _ hne, h1, List.append_nil]
          exact ⟨E', T, C, G⟩
        · have hi' : i = 1 - k := by omega
          subst hi'
          simp only [upd_ne _ _ hik, hkk, upd_same]
          exact ⟨Em, Tm, C'.low l1 (Nat.le_refl _), Gm⟩
      · refine ⟨by simp [hf, h0], upd a k ru, s, upd r k (r k + 1), fun i hi => ?_⟩
        by_cases hik : i = k
        · subst hik
          have hne : 1 - i ≠ i := by omega
          simp only [upd_same, upd_ne _ _ hne, h1]
          exact ⟨E', by rw [T, lst_succ (Nat.zero_le _)], C.up (Nat.le_refl _) (by omega), G⟩
        · have hi' : i = 1 - k := by omega
          subst hi'
          simp only [upd_ne _ _ hik, hkk, upd_same]
          exact ⟨Em, Tm, C'.low h2 (Nat.le_refl _), Gm⟩
/-- what the law asks of an end -/
theorem Inv.good {N : Nat} {p : PS} (I : Inv N p) {k : Nat} (hk : k < 2) : ∃ n, p.tk k = lst 0 n ∧ n ≤ p.g (1 - k) ∧ (p.e k).acc = num n ∧ (p.e (1 - k)).ret (num n) = (lst n (p.g (1 - k)), 0) := by
  obtain ⟨hf, a, s, r, h⟩ := I
  obtain ⟨E, T, C, G⟩ := h k hk
  obtain ⟨Em, Tm, Cm, Gm⟩ := h (1 - k) (by omega)
  have hkk : 1 - (1 - k) = k := by omega
  rw [hkk] at Cm
  have e1 := Cm.le
  have e2 := Em.h1
  have e3 := Em.h2
  have e4 := Em.h3
  have e5 := C.le
  refine ⟨r k, T, by omega, E.acc, ?_⟩
  have n1 := num_lt (r k)
  have hah : ahd (p.e (1 - k)).ack (num (r k)) = r k - a (1 - k) := by rw [Em.ack]; unfold ahd num; omega
  unfold BE.ret
  rw [if_pos Em.rd, hah, Em.ol, if_neg (by omega), Em.o, Em.q, lst_drop (by omega), show a (1 - k) + (r k - a (1 - k)) = r k by omega, lst_app (by omega) e3]
/-- every unit under way is one that may be heard -/
theorem Inv.unit {N : Nat} {p : PS} (I : Inv N p) {k : Nat} (hk : k < 2) {u : UP} {us : List UP} (hu : p.us k = u :: us) : 0 ≤ u.back ∧ 0 ≤ u.fore ∧ ahd (p.e k).ack (p.e k).sent = (p.e k).o.length := by
  obtain ⟨hf, a, s, r, h⟩ := I
  obtain ⟨E, -⟩ := h k hk
  obtain ⟨Em, Tm, Cm, Gm⟩ := h (1 - k) (by omega)
  have hkk : 1 - (1 - k) = k := by omega
  rw [hkk, hu] at Cm
  obtain ⟨c, su, ru, ⟨u1, u2, -⟩, -⟩ := Cm
  exact ⟨by rw [u1]; omega, by rw [u2]; omega, E.len⟩
end Go.Proofs.Ytcpcngamfncpdaa
