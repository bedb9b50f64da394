import Derived.Test.YtkbpfebohpdgbaaE6
set_option linter.unusedVariables false
set_option linter.unusedSimpArgs false
namespace Go.Proofs.Ytkbpfebohpdgbaa
open Go Go.Ai Go.Proofs

/-- what an end sends: a new load, an open one again, or none -/
def Snd (a s g pl s' pl' c : Nat) (kind : Int) : Prop :=
  (s < g ∧ s' = s + 1 ∧ c = s + 1 ∧ pl' = pl ∧ kind = 2) ∨ (s' = s ∧ a < s ∧ kind = 2 ∧ ∃ p, p < s - a ∧ c = a + p + 1 ∧ pl' = p + 1 ∧ (p = pl % (s - a) ∨ p = 0)) ∨ (s' = s ∧ s = a ∧ g = s ∧ c = s ∧ pl' ≤ pl)
theorem force_pl (e : BE) (h : e.pl ≤ e.o.length) : e.force.pl = e.pl ∨ e.force.pl = 0 := by
  have h1 : e.f1.pl = e.pl ∨ e.f1.pl = 0 := by unfold BE.f1; split; exact .inr rfl; exact .inl rfl
  unfold BE.force BE.f2
  split
  · split
    · exact .inr rfl
    · exact h1
  · exact h1
theorem force_open (e : BE) (hml : 1 ≤ e.ml) (hmo : 1 ≤ e.mo) (ho : e.o = []) (hp : e.pl = 0) : e.force.fo = false := by
  have hl : e.lim = false := by
    unfold BE.lim; rw [ho]; simp [tot]; omega
  unfold BE.force
  have h1 : e.f1 = e := by unfold BE.f1; rw [hl, if_neg (by simp)]
  rw [h1, hl]
  unfold BE.f2
  rw [ho, hp]
  split
  · rfl
  · rename_i h2
    simpa using h2
theorem force_pl_new (e : BE) (h : e.force.fo = false) : e.force.pl = e.pl := by
  have hl := force_lim e h
  have h1 : e.f1 = e := by unfold BE.f1; rw [hl, if_neg (by simp)]
  unfold BE.force
  rw [h1, hl]
  unfold BE.f2
  split
  · rfl
  · rfl
theorem EI.next2 {e : BE} {a s g r : Nat} (E : EI e a s g r) (hml : 1 ≤ e.ml) (hmo : 1 ≤ e.mo) (hpl : e.pl ≤ s - a) : e.next.2.2 = 0 ∧ e.next.1.ml = e.ml ∧ e.next.1.mo = e.mo ∧ ∃ s' c, s ≤ s' ∧ EI e.next.1 a s' g r ∧ UnitIs e.next.2.1 c s' r ∧ Snd a s g e.pl s' e.next.1.pl c e.next.2.1.kind := by
  have F := E.force
  have hlim := force_lim e
  have hfn := force_pl_new e
  have hfp := force_pl e (by rw [E.ol]; exact hpl)
  have hfo := force_open e hml hmo
  have hacc := E.acc
  have hml' := (force_same e).1
  have hmo' := (force_same e).2.1
  have hoo := (force_same e).2.2.2.1
  have hol0 := E.ol
  obtain ⟨n, z, e', hch⟩ : ∃ n z e', e.choose = (e', n, z) := ⟨_, _, _, rfl⟩
  have hnx := next_eq E.fl hch
  rw [hnx]
  refine ⟨rfl, ?_⟩
  have hql := F.ql
  have hol := F.ol
  have k1 := F.h1
  have k2 := F.h2
  have k3 := F.h3
  have k4 := F.h4
  have k5 := F.ml
  unfold BE.choose at hch
  generalize e.force = f at *
  dsimp only at hch
  by_cases hA : f.fo = false ∧ 0 < f.q.length
  · rw [if_pos hA] at hch
    simp only [Prod.mk.injEq] at hch
    obtain ⟨rfl, rfl, rfl⟩ := hch
    have hl := hlim hA.1
    have hpe := hfn hA.1
    unfold BE.lim at hl
    simp only [Bool.or_eq_false_iff, decide_eq_false_iff_not] at hl
    have hlt : f.o.length < f.ml := by rw [hoo, hml']; omega
    have hhd : f.q.headD [] = msg s := by rw [F.q, lst_head (by omega)]
    refine ⟨hml', hmo', s + 1, s + 1, by omega, ⟨?_, ?_, ?_, F.ack, F.acc, F.fl, F.a0, F.a1, F.ml, by omega, by omega, by show s + 1 ≤ a + f.ml; omega, by omega⟩, ?_, .inl ⟨by omega, rfl, rfl, hpe, rfl⟩⟩
    · show f.q.drop 1 = _
      rw [F.q, lst_drop (by omega)]
    · show f.o ++ [f.q.headD []] = _
      rw [hhd, F.o, lst_succ k1]
    · show aft f.sent 1 = _
      rw [F.sent, num_aft]
    · refine ⟨by show ((e.acc : Nat) : Int) = _; rw [hacc], ?_, rfl, Nat.le_refl _, by omega, .inl ⟨rfl, by omega, ?_⟩⟩
      · show ((aft f.sent 1 : Nat) : Int) = _
        rw [F.sent, num_aft]
      · show f.q.headD [] = _
        rw [hhd]; rfl
  · rw [if_neg hA] at hch
    by_cases h0 : f.o.length = 0
    · rw [if_pos h0] at hch
      simp only [Prod.mk.injEq] at hch
      obtain ⟨rfl, rfl, rfl⟩ := hch
      have hf0 : f.fo = false := hfo (by rw [← hoo]; exact List.eq_nil_of_length_eq_zero h0) (by omega)
      have hq0 : ¬ 0 < f.q.length := fun h => hA ⟨hf0, h⟩
      refine ⟨hml', hmo', s, s, Nat.le_refl _, F, ⟨by show ((e.acc : Nat) : Int) = _; rw [hacc], ?_, rfl, Nat.le_refl _, by omega, .inr ⟨rfl, rfl, rfl⟩⟩, .inr (.inr ⟨rfl, by omega, by omega, rfl, by show f.pl ≤ e.pl; rcases hfp with h | h <;> omega⟩)⟩
      show ((f.sent : Nat) : Int) = _
      rw [F.sent]
    · rw [if_neg h0] at hch
      simp only [Prod.mk.injEq] at hch
      obtain ⟨rfl, rfl, rfl⟩ := hch
      have hp : f.pl % f.o.length < f.o.length := Nat.mod_lt _ (by omega)
      have hpp : f.pl % f.o.length = e.pl % (s - a) ∨ f.pl % f.o.length = 0 := by
        rcases hfp with h | h
        · left; rw [h, hol]
        · right; rw [h]; exact Nat.zero_mod _
      generalize f.pl % f.o.length = p at *
      refine ⟨hml', hmo', s, a + p + 1, Nat.le_refl _, ⟨F.q, F.o, F.sent, F.ack, F.acc, F.fl, F.a0, F.a1, F.ml, F.h1, F.h2, F.h3, F.h4⟩, ⟨by show ((e.acc : Nat) : Int) = _; rw [hacc], ?_, rfl, by omega, by omega, .inl ⟨rfl, by omega, ?_⟩⟩, .inr (.inl ⟨rfl, by omega, rfl, p, by omega, rfl, rfl, hpp⟩)⟩
      · show ((aft f.ack ((p + 1 : Nat) : Int) : Nat) : Int) = _
        rw [F.ack, aft_num, num_succ]
      · show f.o.getD p [] = _
        rw [F.o, List.getD_eq_getElem?_getD, lst_get (by omega)]
        rfl
/-- what a heard unit does to the place, and when its load is taken -/
theorem EI.hear2 {e : BE} {a s g r : Nat} (E : EI e a s g r) {u : UP} {c su ru : Nat} (U : UnitIs u c su ru) (h1 : a ≤ ru) (h2 : ru ≤ s) (h3 : r ≤ su) (h4 : c ≤ r + 127) :
    (e.hear u).1.pl = e.pl - (ru - a) ∧ (e.hear u).1.ml = e.ml ∧ (e.hear u).1.mo = e.mo ∧ (u.kind = 2 → c = r + 1 → (e.hear u).2.1 ≠ []) ∧ ((e.hear u).2.1 ≠ [] → c = r + 1) := by
  obtain ⟨c1, c2⟩ := U.fine
  obtain ⟨u1, u2, u3, u4, u5, u6⟩ := U
  have k1 := E.h1
  have k3 := E.h3
  have k5 := E.ml
  have hah : ahd e.ack (num ru) = ru - a := by rw [E.ack]; unfold ahd num; omega
  have hbn : u.back.toNat = num ru := by rw [u1]; simp
  have hw : ¬ e.o.length < ahd e.ack u.back.toNat := by rw [E.ol, hbn, hah]; omega
  have hpl : ((e.abn false).ackd u.back.toNat).pl = e.pl - (ru - a) := by rw [hbn, ← hah]; rfl
  have hml : ((e.abn false).ackd u.back.toNat).ml = e.ml := rfl
  have hmo : ((e.abn false).ackd u.back.toNat).mo = e.mo := rfl
  unfold BE.hear
  rw [E.st, c1, if_neg (by simp), if_neg (by simp), if_neg c2, if_neg hw]
  generalize (e.abn false).ackd u.back.toNat = e2 at *
  by_cases hk : u.kind = 2 ∧ u.fore = (aft e.acc 1 : Nat)
  · rw [if_pos hk]
    refine ⟨hpl, hml, hmo, (fun _ _ h => by cases h), fun _ => ?_⟩
    have := hk.2
    rw [u2, E.acc, num_aft] at this
    unfold num at this
    omega
  · rw [if_neg hk]
    refine ⟨hpl, hml, hmo, (fun h5 h6 => absurd ⟨h5, ?_⟩ hk), fun h => absurd rfl h⟩
    rw [u2, E.acc, num_aft, h6]
/-- what is left to do in one direction -/
def Wt (s T r : Nat) : Nat := if T ≤ r then r - T else if T < s then 2 + (s - T) else 2
def Phi (a s g pl r : Nat) : Nat := 2 * (g - r) + 2 * (g - s) + Wt s (a + pl) r + (r - a)
/-- one turn, one direction -/
theorem turn_step {a s g pl r s' pl' c : Nat} {kd : Int} (S : Snd a s g pl s' pl' c kd) (h1 : a ≤ r) (h2 : r ≤ s) (h3 : s ≤ g) (h4 : pl ≤ s - a) {r' : Nat} (hr : r' = r ∨ r' = r + 1) (hr2 : kd = 2 → c = r + 1 → r' = r + 1) (hr3 : r' = r + 1 → c = r + 1) :
    s' ≤ g ∧ r ≤ r' ∧ r' ≤ s' ∧ r' ≤ r + 1 ∧ pl' - (r - a) ≤ s' - r ∧ (r < g → r ≤ a + 1 → Phi r s' g (pl' - (r - a)) r' + 1 ≤ Phi a s g pl r) ∧ (r = g → r' = g) := by
  have hm : 0 < s - a → pl % (s - a) = (if pl = s - a then 0 else pl) := fun h => by
    split
    · rename_i h5; rw [h5]; exact Nat.mod_self _
    · exact Nat.mod_eq_of_lt (by omega)
  have hc : r' = r + 1 ∧ c = r + 1 ∨ r' = r ∧ (kd = 2 → c ≠ r + 1) := by
    rcases hr with h | h
    · exact .inr ⟨h, fun k1 k2 => by have := hr2 k1 k2; omega⟩
    · exact .inl ⟨h, hr3 h⟩
  clear hr hr2 hr3
  unfold Phi Wt
  rcases S with ⟨k1, rfl, rfl, rfl, rfl⟩ | ⟨rfl, k1, rfl, p, k2, rfl, rfl, k3⟩ | ⟨rfl, rfl, rfl, rfl, k4⟩
  · have hc : r' = r + 1 ∧ s + 1 = r + 1 ∨ r' = r ∧ s + 1 ≠ r + 1 := hc.imp id fun h => ⟨h.1, h.2 rfl⟩
    refine ⟨by omega, by omega, by omega, by omega, by omega, fun _ _ => ?_, by omega⟩
    split <;> split <;> (try split) <;> (try split) <;> omega
  · have hc : r' = r + 1 ∧ a + p + 1 = r + 1 ∨ r' = r ∧ a + p + 1 ≠ r + 1 := hc.imp id fun h => ⟨h.1, h.2 rfl⟩
    rw [hm (by omega)] at k3
    refine ⟨by omega, by omega, by omega, by omega, by omega, fun _ _ => ?_, by omega⟩
    rcases k3 with k3 | k3
    · split at k3 <;> split <;> split <;> (try split) <;> (try split) <;> omega
    · split <;> split <;> (try split) <;> (try split) <;> omega
  · have hc : r' = r := by rcases hc with h | h <;> omega
    refine ⟨by omega, by omega, by omega, by omega, by omega, fun _ _ => by omega, by omega⟩
theorem bring_cons {p : PS} {k : Nat} {u : UP} {us : List UP} (h : p.us k = u :: us) : p.bring k false = { p with us := upd p.us k us, e := upd p.e k ((p.e k).hear u).1, f := p.f || decide (((p.e k).hear u).2.2 ≠ 0), tk := upd p.tk k (p.tk k ++ ((p.e k).hear u).2.1) } := by
  unfold PS.bring; rw [h]; rfl
def PS.drain (k : Nat) : Nat → PS → PS
  | 0, p => p
  | n + 1, p => PS.drain k n (p.bring k false)
def PS.sent2 (p : PS) : PS := (p.send 0).send 1
def PS.down (p : PS) (k : Nat) : PS := p.drain k (p.us k).length
/-- a turn: each end sends, all is delivered -/
def PS.turn (p : PS) : PS := (p.sent2.down 0).down 1
def PS.hd (p : PS) (k : Nat) : BE × List (List Int) × Int := (p.e k).next.1.hear (p.e (1 - k)).next.2.1
theorem turn_eq {p : PS} (h0 : p.us 0 = []) (h1 : p.us 1 = []) : p.turn.g = p.g ∧ ∀ k, k < 2 → p.turn.e k = (p.hd k).1 ∧ p.turn.us k = [] ∧ p.turn.tk k = p.tk k ++ (p.hd k).2.1 ∧ ((p.e 0).next.2.2 = 0 → (p.e 1).next.2.2 = 0 → (p.hd 0).2.2 = 0 → (p.hd 1).2.2 = 0 → p.turn.f = p.f) := by
  have e2 : p.sent2.us 0 = [(p.e 1).next.2.1] := by simp [PS.sent2, PS.send, upd, h0]
  have e3 : p.sent2.us 1 = [(p.e 0).next.2.1] := by simp [PS.sent2, PS.send, upd, h1]
  have e4 : ∀ k, k < 2 → p.sent2.e k = (p.e k).next.1 := fun k hk => by
    rcases k with _ | _ | k
    · simp [PS.sent2, PS.send, upd]
    · simp [PS.sent2, PS.send, upd]
    · omega
  have e5 : p.sent2.down 0 = p.sent2.bring 0 false := by unfold PS.down; rw [e2]; rfl
  have e6 : p.sent2.bring 0 false = { p.sent2 with us := upd p.sent2.us 0 [], e := upd p.sent2.e 0 (p.hd 0).1, f := p.sent2.f || decide ((p.hd 0).2.2 ≠ 0), tk := upd p.sent2.tk 0 (p.sent2.tk 0 ++ (p.hd 0).2.1) } := by
    rw [bring_cons e2, e4 0 (by omega)]; rfl
  have e7 : (p.sent2.down 0).us 1 = [(p.e 0).next.2.1] := by rw [e5, e6]; simp [upd, e3]
  have e8 : p.turn = (p.sent2.bring 0 false).bring 1 false := by unfold PS.turn; unfold PS.down at e7 ⊢; rw [e7]; show PS.drain 1 1 (p.sent2.down 0) = _; rw [e5]; rfl
  rw [e5] at e7
  have e9 : (p.sent2.bring 0 false).e 1 = (p.e 1).next.1 := by rw [e6]; simp [upd, e4 1 (by omega)]
  have e10 : p.turn = { p.sent2.bring 0 false with us := upd (p.sent2.bring 0 false).us 1 [], e := upd (p.sent2.bring 0 false).e 1 (p.hd 1).1, f := (p.sent2.bring 0 false).f || decide ((p.hd 1).2.2 ≠ 0), tk := upd (p.sent2.bring 0 false).tk 1 ((p.sent2.bring 0 false).tk 1 ++ (p.hd 1).2.1) } := by
    rw [e8, bring_cons e7, e9]; rfl
  have hg : p.sent2.g = p.g := rfl
  have ht : p.sent2.tk = p.tk := rfl
  have hf : (p.e 0).next.2.2 = 0 → (p.e 1).next.2.2 = 0 → p.sent2.f = p.f := fun a b => by simp [PS.sent2, PS.send, upd, a, b]
  rw [e10, e6]
  refine ⟨hg, fun k hk => ?_⟩
  rcases k with _ | _ | k
  · refine ⟨by simp [upd], by simp [upd], by simp [upd, ht], fun a b c d => ?_⟩
    simp [hf a b, c, d]
  · refine ⟨by simp [upd], by simp [upd], by simp [upd, ht], fun a b c d => ?_⟩
    simp [hf a b, c, d]
  · omega
structure L0 (N : Nat) (p : PS) (a s r : Nat → Nat) : Prop where
  f : p.f = false
  E : ∀ k, k < 2 → EI (p.e k) (a k) (s k) (p.g k) (r k)
  T : ∀ k, k < 2 → p.tk k = lst 0 (r k)
  U : ∀ k, k < 2 → p.us k = []
  o : ∀ k, k < 2 → a k ≤ r (1 - k) ∧ r (1 - k) ≤ s k ∧ (p.e k).pl ≤ s k - a k ∧ p.g k ≤ N ∧ 1 ≤ (p.e k).ml ∧ 1 ≤ (p.e k).mo
def Adv (a s g pl r a' s' pl' r' : Nat) : Prop := a' = r ∧ r ≤ r' ∧ r' ≤ r + 1 ∧ (r < g → r ≤ a + 1 → Phi a' s' g pl' r' + 1 ≤ Phi a s g pl r) ∧ (r = g → r' = g)
theorem L0.turn {N : Nat} {p : PS} {a s r : Nat → Nat} (L : L0 N p a s r) : p.turn.g = p.g ∧ ∃ a' s' r', L0 N p.turn a' s' r' ∧ ∀ k, k < 2 → Adv (a k) (s k) (p.g k) (p.e k).pl (r (1 - k)) (a' k) (s' k) (p.turn.e k).pl (r' (1 - k)) := by
  obtain ⟨hg, ht⟩ := turn_eq (L.U 0 (by omega)) (L.U 1 (by omega))
  refine ⟨hg, ?_⟩
  have hn : ∀ k, ∃ s' c, k < 2 → (p.e k).next.2.2 = 0 ∧ (p.e k).next.1.ml = (p.e k).ml ∧ (p.e k).next.1.mo = (p.e k).mo ∧ s k ≤ s' ∧ EI (p.e k).next.1 (a k) s' (p.g k) (r k) ∧ UnitIs (p.e k).next.2.1 c s' (r k) ∧ Snd (a k) (s k) (p.g k) (p.e k).pl s' (p.e k).next.1.pl c (p.e k).next.2.1.kind := by
    intro k
    by_cases hk : k < 2
    · obtain ⟨o1, o2, o3, o4, o5, o6⟩ := L.o k hk
      obtain ⟨h1, h2, h3, s', c, h4⟩ := (L.E k hk).next2 o5 o6 o3
      exact ⟨s', c, fun _ => ⟨h1, h2, h3, h4⟩⟩
    · exact ⟨0, 0, fun h => absurd h hk⟩
  obtain ⟨s', hn⟩ := Classical.axiomOfChoice hn
  obtain ⟨c, hn⟩ := Classical.axiomOfChoice hn
  have hh : ∀ k, ∃ r', k < 2 → (p.hd k).2.2 = 0 ∧ (p.hd k).1.pl = (p.e k).next.1.pl - (r (1 - k) - a k) ∧ (p.hd k).1.ml = (p.e k).ml ∧ (p.hd k).1.mo = (p.e k).mo ∧ EI (p.hd k).1 (r (1 - k)) (s' k) (p.g k) r' ∧ lst 0 r' = lst 0 (r k) ++ (p.hd k).2.1 ∧ (r' = r k ∨ r' = r k + 1) ∧ ((p.e (1 - k)).next.2.1.kind = 2 → c (1 - k) = r k + 1 → r' = r k + 1) ∧ (r' = r k + 1 → c (1 - k) = r k + 1) := by
    intro k
    by_cases hk : k < 2
    · obtain ⟨n1, n2, n3, n4, n5, n6, n7⟩ := hn k hk
      obtain ⟨m1, m2, m3, m4, m5, m6, m7⟩ := hn (1 - k) (by omega)
      obtain ⟨o1, o2, o3, o4, o5, o6⟩ := L.o k hk
      obtain ⟨q1, q2, q3, q4, q5, q6⟩ := L.o (1 - k) (by omega)
      have hkk : 1 - (1 - k) = k := by omega
      rw [hkk] at q1 q2
      have hml := m5.ml
      have hm3 := m5.h3
      have hc4 := m6.2.2.2.1
      have H1 := n5.hear m6 o1 (by omega) (by omega) (by omega)
      have H2 := n5.hear2 m6 o1 (by omega) (by omega) (by omega)
      obtain ⟨g1, g2, g3, g4, g5⟩ := H2
      obtain ⟨f1, ⟨f2, f3⟩ | ⟨f2, f3, f4⟩⟩ := H1
      · refine ⟨r k, fun _ => ⟨f1, g1, g2.trans n2, g3.trans n3, f2, ?_, .inl rfl, fun k1 k2 => absurd f3 (g4 k1 k2), fun h => by omega⟩⟩
        show _ = _ ++ ((p.e k).next.1.hear (p.e (1 - k)).next.2.1).2.1
        rw [f3, List.append_nil]
      · refine ⟨r k + 1, fun _ => ⟨f1, g1, g2.trans n2, g3.trans n3, f2, ?_, .inr rfl, fun _ _ => rfl, fun _ => g5 (by rw [f3]; simp)⟩⟩
        show _ = _ ++ ((p.e k).next.1.hear (p.e (1 - k)).next.2.1).2.1
        rw [f3, lst_succ (Nat.zero_le _)]
    · exact ⟨0, fun h => absurd h hk⟩
  obtain ⟨r', hh⟩ := Classical.axiomOfChoice hh
  have hst : ∀ k, k < 2 → s' k ≤ p.g k ∧ r (1 - k) ≤ r' (1 - k) ∧ r' (1 - k) ≤ s' k ∧ r' (1 - k) ≤ r (1 - k) + 1 ∧ (p.turn.e k).pl ≤ s' k - r (1 - k) ∧ (r (1 - k) < p.g k → r (1 - k) ≤ a k + 1 → Phi (r (1 - k)) (s' k) (p.g k) (p.turn.e k).pl (r' (1 - k)) + 1 ≤ Phi (a k) (s k) (p.g k) (p.e k).pl (r (1 - k))) ∧ (r (1 - k) = p.g k → r' (1 - k) = p.g k) := by
    intro k hk
    obtain ⟨n1, n2, n3, n4, n5, n6, n7⟩ := hn k hk
    obtain ⟨o1, o2, o3, o4, o5, o6⟩ := L.o k hk
    obtain ⟨f1, f2, f3, f4, f5, f6, f7, f8, f9⟩ := hh (1 - k) (by omega)
    obtain ⟨-, g2, -⟩ := hh k hk
    have hkk : 1 - (1 - k) = k := by omega
    rw [hkk] at f8 f9
    have hsg := (L.E k hk).h2
    rw [(ht k hk).1, g2]
    exact turn_step n7 o1 o2 hsg o3 f7 f8 f9
  refine ⟨fun k => r (1 - k), s', r', ⟨?_, ?_, ?_, ?_, ?_⟩, ?_⟩
  · rw [(ht 0 (by omega)).2.2.2 (hn 0 (by omega)).1 (hn 1 (by omega)).1 (hh 0 (by omega)).1 (hh 1 (by omega)).1]; exact L.f
  · intro k hk
    rw [(ht k hk).1, hg]; exact (hh k hk).2.2.2.2.1
  · intro k hk
    rw [(ht k hk).2.2.1, L.T k hk]; exact (hh k hk).2.2.2.2.2.1.symm
  · intro k hk; exact (ht k hk).2.1
  · intro k hk
    obtain ⟨s1, s2, s3, s4, s5, s6, s7⟩ := hst k hk
    refine ⟨s2, s3, s5, by rw [hg]; exact (L.o k hk).2.2.2.1, ?_, ?_⟩
    · rw [(ht k hk).1, (hh k hk).2.2.1]; exact (L.o k hk).2.2.2.2.1
    · rw [(ht k hk).1, (hh k hk).2.2.2.1]; exact (L.o k hk).2.2.2.2.2
  · intro k hk
    obtain ⟨s1, s2, s3, s4, s5, s6, s7⟩ := hst k hk
    exact ⟨rfl, s2, s4, s6, s7⟩
end Go.Proofs.Ytkbpfebohpdgbaa
