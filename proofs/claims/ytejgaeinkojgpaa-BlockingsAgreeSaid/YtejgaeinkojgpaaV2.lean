import Derived.Test.YtejgaeinkojgpaaK15
import Derived.Test.YtejgaeinkojgpaaP1
set_option linter.unusedVariables false
set_option linter.unusedSimpArgs false
namespace Go.Proofs.Ytejgaeinkojgpaa
open Go Go.Ai Go.Proofs

theorem u32_wrap_small {n : Int} (h1 : 0 ≤ n) (h2 : n ≤ 4294967295) : IntKind.u32.wrap n = n := by
  have : IntKind.u32.wrap n = n % 4294967296 := by unfold IntKind.wrap; simp [IntKind.bits, IntKind.signed]
  omega
/-- what the law knows of a desk -/
structure Bs (n : Nat) (d : DK) (nw tw : List Bool) (s : Nat) (op : Bool) : Prop where
  cl : d.cs.length = n
  lo : d.locals = nw
  td : d.told = tw
  tl : tw.length = n
  la : d.last = (s : Int)
  ou : d.out = []
  o1 : d.op.isSome = op
  o2 : ∀ m, d.op = some m → m.serial = (s : Int)
  o3 : op = true → 1 ≤ s
theorem Bs.nl {n : Nat} {d : DK} {nw tw : List Bool} {s : Nat} {op : Bool} (b : Bs n d nw tw s op) : nw.length = n := by rw [← b.lo, DK.locals_len, b.cl]
theorem Bs.idle {n : Nat} {d : DK} {nw tw : List Bool} {s : Nat} {op : Bool} (b : Bs n d nw tw s op) (h : op = true ∨ nw = tw) : d.next = d := by
  unfold DK.next
  rw [if_pos (by rw [b.o1, b.lo, b.td]; exact h)]
theorem nx_tl : ∀ (l : List Bool) (i : Nat) (s : NX), (nx l i s).told.length = s.told.length
  | [], _, _ => rfl
  | b :: l, i, s => by
    unfold nx
    split
    · rfl
    · split
      · exact nx_tl l (i + 1) s
      · rw [nx_tl l (i + 1)]; simp [NX.add]
/-- the Set that is sent -/
structure Snt (n : Nat) (nw tw : List Bool) (s f : Nat) (m : Ms) (tw' : List Bool) : Prop where
  k : m.kind = 1
  se : m.serial = ((s + 1 : Nat) : Int)
  nb : NB nw tw f (min n (f + 32)) ⟨m.first, m.mask, m.on, tw'⟩
  fn : f < n
  ok : m.Ok
theorem Bs.sent {n : Nat} {d : DK} {nw tw : List Bool} {s : Nat} (b : Bs n d nw tw s false) (h : nw ≠ tw) (hn : n ≤ 256) (hs : s ≤ 1000) : ∃ f m, d.next.out = [m] ∧ Snt n nw tw s f m d.next.told ∧ Bs n { d.next with out := [] } nw d.next.told (s + 1) true := by
  have hop : d.op.isSome ≠ true := by rw [b.o1]; decide
  have hne : d.locals ≠ d.told := by rw [b.lo, b.td]; exact h
  have e : d.next = d.went := by unfold DK.next; rw [if_neg (by rintro (h | h) <;> contradiction)]
  have hl : nw.length = tw.length := by rw [b.nl, b.tl]
  have hw : IntKind.u32.wrap (d.last + 1) = ((s + 1 : Nat) : Int) := by rw [b.la, u32_wrap_small (by omega) (by omega)]; omega
  rcases nx_A hl nw 0 rfl (by omega) (fun k hk => by omega) with h' | ⟨f, nb⟩
  · exact absurd h' h
  · have hfn : f < n := by
      have hd := nb.dif
      refine Nat.lt_of_not_le fun hle => hd ?_
      rw [List.getElem?_eq_none (by rw [b.nl]; exact hle), List.getElem?_eq_none (by rw [b.tl]; exact hle)]
    have et : (nx nw 0 ⟨-1, [], [], tw⟩).told = d.next.told := by rw [e, ← b.lo, ← b.td]; rfl
    rw [b.nl] at nb
    refine ⟨f, d.msg, by rw [e]; show d.out ++ [d.msg] = _; rw [b.ou]; rfl, ⟨rfl, hw, ?_, hfn, ?_⟩, ?_⟩
    · unfold DK.msg; rw [b.lo, b.td]; simp only; rw [← et]; exact nb
    · have m1 : d.msg.mask = (nx nw 0 ⟨-1, [], [], tw⟩).mask := by unfold DK.msg; rw [b.lo, b.td]
      have m2 : d.msg.on = (nx nw 0 ⟨-1, [], [], tw⟩).on := by unfold DK.msg; rw [b.lo, b.td]
      have m3 : d.msg.first = (nx nw 0 ⟨-1, [], [], tw⟩).first := by unfold DK.msg; rw [b.lo, b.td]
      have l1 := nb.len
      have l2 := nb.pos
      refine ⟨.inl rfl, ?_, by rw [m1, m2]; exact nb.el, .inr ⟨rfl, by rw [m1]; exact l2, by rw [m1]; omega, by rw [m3, nb.fst]; omega, by rw [m3, m1, nb.fst]; omega, ?_, by rw [m1]; exact nb.last, fun i hi => ?_⟩⟩
      · show IntKind.u32.wrap (d.last + 1) ≠ 0; rw [hw]; omega
      · rw [m1, nb.mkd 0 l2, Nat.add_zero]
        simp [nb.dif]
      · rw [m2] at hi
        have hlt := (List.getElem?_eq_some_iff.1 hi).1
        rw [nb.el] at hlt
        rw [nb.on i hlt] at hi
        rw [m1, nb.mkd i hlt]
        simp only [Option.some.injEq, Bool.and_eq_true] at hi
        rw [hi.1]
    · refine ⟨by rw [e]; exact b.cl, by rw [e]; exact b.lo, rfl, ?_, by rw [e]; exact hw, rfl, by rw [e]; rfl, fun m hm => ?_, fun _ => by omega⟩
      · rw [← et, nx_tl]; exact b.tl
      · rw [e] at hm
        have : m = d.msg := (Option.some.inj hm).symm
        subst this; exact hw
theorem setLs_lo (on : Bool) : ∀ (zs : List Int) (cs : List Ci), (setLs cs on zs).map Ci.lo = zs.foldl (fun l z => l.set z.toNat on) (cs.map Ci.lo)
  | [], _ => rfl
  | z :: zs, cs => by
    rw [setLs, List.foldl_cons, List.foldl_cons]
    have e : (setC cs false on z.toNat).map Ci.lo = (cs.map Ci.lo).set z.toNat on := by
      unfold setC
      split
      · rw [List.map_set]; rfl
      · rename_i hc
        rw [List.set_eq_of_length_le]
        have := List.getElem?_eq_none_iff.1 hc
        simpa using this
    rw [← e]
    exact setLs_lo on zs _
theorem Bs.setls {n : Nat} {d : DK} {nw tw : List Bool} {s : Nat} {op : Bool} (b : Bs n d nw tw s op) (on : Bool) (zs : List Int) : Bs n { d with cs := setLs d.cs on zs } (zs.foldl (fun l z => l.set z.toNat on) nw) tw s op :=
  ⟨by simp only [setLs_len]; exact b.cl, by rw [← b.lo]; exact setLs_lo on zs d.cs, b.td, b.tl, b.la, b.ou, b.o1, b.o2, b.o3⟩
theorem Bs.noop {n : Nat} {d : DK} {nw tw : List Bool} {s : Nat} {op : Bool} (b : Bs n d nw tw s op) : Bs n { d with op := none } nw tw s false := ⟨b.cl, b.lo, b.td, b.tl, b.la, b.ou, rfl, (fun m h => by cases h), fun h => by cases h⟩
theorem Bs.ack0 {n : Nat} {d : DK} {nw tw : List Bool} {s : Nat} (b : Bs n d nw tw s true) : d.ackd ((s + 1 : Nat) : Int) = d := by
  cases e : d.op with
  | none => exact DK.ackd_none d e _
  | some x => rw [DK.ackd_some d e, if_neg (by rw [b.o2 x e]; omega)]
theorem Bs.ack1 {n : Nat} {d : DK} {nw tw : List Bool} {s : Nat} (b : Bs n d nw tw s true) : d.ackd (s : Int) = DK.next { d with op := none } := by
  cases e : d.op with
  | none => have := b.o1; rw [e] at this; cases this
  | some x => rw [DK.ackd_some d e, if_pos (b.o2 x e)]
theorem fold_len (on : Bool) : ∀ (zs : List Int) (l : List Bool), (zs.foldl (fun l z => l.set z.toNat on) l).length = l.length
  | [], _ => rfl
  | z :: zs, l => by rw [List.foldl_cons, fold_len on zs]; simp
end Go.Proofs.Ytejgaeinkojgpaa
