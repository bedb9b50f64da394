/- The operations' laws, ninth part. Generic. -/
import Derived.Test.YtcpcngamfncpdaaAiJ
import Derived.ChangeKeysEq
import Derived.Lib.ConvBytes
set_option linter.unusedVariables false
namespace Go.Ai
section
variable {P : Program}

theorem snd_append {o : Oper} {t xt e : TypeId} {dx : TypeDesc} {size bytes : Nat} {z : Value} {s x : Operand} {s' x' : XA} (ho : o.op = .call { callee := .builtin .append, args := #[s, x], argTypes := #[t, xt] })
    (hs : trA s = some s') (hxx : trA x = some x') (ht : P.underlying t = some (.slice e)) (hx : P.underlying xt = some dx) (hdx : plainArg dx = true) (hn : szOf P e = some size) (hb : byOf P e = some bytes) (hz : zeroOf P e = some z) :
    Snd P o (.append size bytes (cellsL z) s' x') := by
  intro ρ h v h' φ w a hx' hr he
  simp only [xop, Option.bind_eq_some_iff] at hx'
  obtain ⟨sv, hsv, xv, hxv, n, hlen, news, hnews, hx'⟩ := hx'
  split at hx'
  · rename_i hc
    obtain ⟨φ', v', w', h1, h2, h3⟩ := appendV_sound (P := P) (ty := o.type) hr ht hx hdx hn hb hz hc.1 hc.2 (ev_sound he hs hsv) (ev_sound he hxx hxv) hlen hnews hx'
    refine ⟨φ', v', w', _, ?_, .inl rfl, h2, h3⟩
    simp only [execOp, ho, resolve, invoke, builtin, Sem.run_bind, Sem.run_pure, Result.andThen_ok, List.map_toArray, List.map_cons, List.map_nil, h1]
  · cases hx'

theorem snd_copy {o : Oper} {t xt e : TypeId} {size : Nat} {s x : Operand} {s' x' : XA} (ho : o.op = .call { callee := .builtin .copy, args := #[s, x], argTypes := #[t, xt] })
    (hs : trA s = some s') (hxx : trA x = some x') (ht : P.underlying t = some (.slice e)) (hn : szOf P e = some size) : Snd P o (.copy size s' x') := by
  intro ρ h v h' φ w a hx' hr he
  simp only [xop, Option.bind_eq_some_iff] at hx'
  obtain ⟨sv, hsv, xv, hxv, n, hlen, hx'⟩ := hx'
  have hS := ev_sound he hs hsv
  have hX := ev_sound he hxx hxv
  have hL := lenV_sound (P := P) hlen hX w
  split at hx'
  · rename_i q l c
    simp only [Option.bind_eq_some_iff] at hx'
    obtain ⟨cs, hcs, hx'⟩ := hx'
    have hle : ∀ a l2 c, xv = .slice a l2 c → min n l ≤ l2 := by intro a l2 c he; subst he; simp [lenV] at hlen; omega
    obtain ⟨us, hfc, hus, hulen⟩ := firstV_sound (P := P) hr hcs hX hle
    cases q with
    | none =>
      simp only [Option.some.injEq, Prod.mk.injEq] at hx'
      obtain ⟨rfl, rfl⟩ := hx'
      have hq : a.eval s = .slice none l c := by
        generalize a.eval s = u at hS
        cases hS; rfl
      refine ⟨φ, _, w, _, ?_, .inl rfl, Stp.refl hr, .int _ _⟩
      simp [execOp, ho, resolve, invoke, builtin, Builtin.copy_, run_underlying ht, hq, hL, run_size hn, goInt]
      simp [hfc]
    | some ad =>
      have hq : ∃ b c', a.eval s = .slice (some b) l c' ∧ ((l = 0 ∧ c' = 0) ∨ PR φ ad b) := by
        generalize a.eval s = u at hS
        cases hS with
        | slice hp hc => exact ⟨_, _, rfl, hp⟩
      obtain ⟨b, c', hq, hp⟩ := hq
      simp only at hx'
      split at hx'
      · rename_i hnil
        simp only [Option.some.injEq, Prod.mk.injEq] at hx'
        obtain ⟨rfl, rfl⟩ := hx'
        have hu : us = [] := by rw [hnil] at hus; exact hus.nil_inv
        subst hu
        refine ⟨φ, _, w, _, ?_, .inl rfl, Stp.refl hr, .int _ _⟩
        simp [execOp, ho, resolve, invoke, builtin, Builtin.copy_, run_underlying ht, hq, hL, run_size hn, goInt]
        simp [hfc, storeCells]
      · rename_i hnil
        simp only [Option.map_eq_some_iff, Prod.mk.injEq] at hx'
        obtain ⟨h2, hst, rfl, rfl⟩ := hx'
        have hp' : PR φ ad b := by
          rcases hp with ⟨h1, _⟩ | h1
          · exfalso
            apply hnil
            have : us.length = 0 := by rw [hulen, h1]; simp
            rw [← hus.1] at this
            exact List.eq_nil_of_length_eq_zero this
          · exact h1
        obtain ⟨w', hrun, hstp⟩ := storeV_sound (P := P) hr hst hp' hus
        refine ⟨φ, _, w', _, ?_, .inl rfl, hstp, .int _ _⟩
        simp [execOp, ho, resolve, invoke, builtin, Builtin.copy_, run_underlying ht, hq, hL, run_size hn, goInt]
        simp [hfc, hrun]
  · cases hx'

theorem run_askRoom (n : Nat) (w : World) : (askRoom n).run P w = .ok () w := by
  unfold askRoom
  split
  · rfl
  · rfl

theorem snd_mkslice {o : Oper} {t e : TypeId} {size bytes : Nat} {z : Value} {l c : Operand} {l' c' : XA} (ho : o.op = .makeSlice t l c)
    (hl : trA l = some l') (hc : trA c = some c') (ht : P.underlying t = some (.slice e)) (hn : szOf P e = some size) (hb : byOf P e = some bytes) (hz : zeroOf P e = some z) (hf : (cellsL z).all flat = true) :
    Snd P o (.mkslice size bytes (cellsL z) l' c') := by
  intro ρ h v h' φ w a hx' hr he
  simp only [xop, Option.bind_eq_some_iff] at hx'
  obtain ⟨lv, hlv, cv, hcv, li, hli, ci, hci, hx'⟩ := hx'
  split at hx'
  · rename_i hcond
    obtain ⟨c1, c2, c3, c4, c5, c6⟩ := hcond
    simp only [Option.some.injEq, Prod.mk.injEq] at hx'
    obtain ⟨rfl, rfl⟩ := hx'
    obtain ⟨k1, rfl⟩ := int?_inv hli
    obtain ⟨k2, rfl⟩ := int?_inv hci
    have e1 : a.eval l = .int k1 li := (ev_sound he hl hlv).int_inv
    have e2 : a.eval c = .int k2 ci := (ev_sound he hc hcv).int_inv
    have hzc : z.cells.size = size := by rw [← Array.length_toList, cells_toList, c5]
    obtain ⟨i, hi, hib⟩ : ∃ i, P.info? e = some i ∧ i.bytes = bytes := by
      unfold byOf at hb
      cases hi : P.info? e with
      | none => simp [hi] at hb
      | some i => simp [hi] at hb; exact ⟨i, rfl, hb⟩
    have w1 : IntKind.i64.wrap li = li := IntWalk.i64_in _ (by omega)
    have w2 : IntKind.i64.wrap ci = ci := IntWalk.i64_in _ (by omega)
    have hcells := range_zeros z.cells ci.toNat (by omega)
    rw [hzc, cells_toList] at hcells
    obtain ⟨φ', hs, hnew⟩ := Stp.alloc hr (zeros (cellsL z) ci.toNat) ((Array.range (ci.toNat * size)).map (fun i => z.cells[i % z.cells.size]!)) e (fun i v hv => by
      rw [← Array.getElem?_toList, hzc, hcells]
      refine ⟨v, hv, VR.of_flat φ ?_⟩
      have hm := List.mem_of_getElem? hv
      simp only [zeros, List.mem_flatten, List.mem_replicate] at hm
      obtain ⟨m, ⟨_, rfl⟩, hm⟩ := hm
      exact List.all_eq_true.1 hf v hm)
    have hcu : ci.toNat < unk := by
      have : ci.toNat ≤ 9223372036854775807 := by omega
      exact Nat.lt_of_le_of_lt this (by decide)
    refine ⟨φ', .slice (some ⟨w.heap.size, 0, none⟩) li.toNat ci.toNat, _, _, ?_, .inl rfl, hs, .slice (.inr ⟨rfl, _, _, _, hnew, by simp⟩) (capR_known hcu)⟩
    have t1 : ¬ (ci < 0) := by omega
    have t2 : ¬ ((bytes : Int) * ci > 281474976710656) := by rw [Int.mul_comm]; omega
    have t3 : ¬ (li < 0) := by omega
    have t4 : ¬ (li > ci) := by omega
    simp [execOp, ho, Instr.makeSlice, e1, e2, run_underlying ht, asInt, asIntOf, typeInfo, hi, hib, w1, w2, t1, t2, t3, t4, run_size hn, newRow]
    split
    · rename_i h0
      have e0 : ∀ f : Nat → Value, (Array.range (ci.toNat * size)).map f = #[] := fun f => Array.eq_empty_of_size_eq_zero (by simp [h0])
      rw [e0, e0]
    · simp [run_zero hz]
  · cases hx'

theorem app_growz {P : Program} {t xt ty e : TypeId} {k k2 : IntKind} {size bytes : Nat} {z : Value} (ht : P.underlying t = some (.slice e)) (hx : P.underlying xt = some (.int k)) (hn : szOf P e = some size) (hb : byOf P e = some bytes) (hz : zeroOf P e = some z) {n : Nat} {w : World}
    (h0 : 0 < n) (hsz : 0 < size) (hzs : z.cells.size = size) (h63 : n ≤ 9223372036854775807) (hfit : n * bytes ≤ 140737488355328) :
    (Builtin.append_ #[t, xt] ty #[.slice none 0 0, .int k2 n]).run P w =
      .ok (.slice (some ⟨w.heap.size, 0, none⟩) n (grownCap w n 0 e))
        (w.drew.alloc (.cells (Builtin.zeroCells z.cells n ++ Builtin.zeroCells z.cells (grownCap w n 0 e - n)) e)) := by
  have h1 : (#[t, xt] : Array TypeId)[1]? = some xt := rfl
  have h0' : (#[t, xt] : Array TypeId)[0]? = some t := rfl
  have k0 : (#[Value.slice none 0 0, Value.int k2 n] : Array Value)[0]? = some (.slice none 0 0) := rfl
  have k1 : (#[Value.slice none 0 0, Value.int k2 n] : Array Value)[1]? = some (.int k2 n) := rfl
  obtain ⟨i, hi, hiz⟩ := zeroOf_inv hz
  have hib : i.bytes = bytes := by unfold byOf at hb; rw [hi] at hb; simpa using hb
  have hfit2 := growslice_fits (need := n) (old := 0) (by omega) hfit
  have hw : IntKind.i64.wrap (n : Int) = n := IntWalk.i64_in _ (by omega)
  have t1 : ¬ ((n : Int) < 0) := by omega
  have t2 : ¬ (281474976710656 < (n : Int) * i.bytes) := by rw [hib]; have : ((n * bytes : Nat) : Int) ≤ 140737488355328 := by omega
                                                            simp only [Int.natCast_mul] at this; omega
  have hn' : ¬ (n = 0) := by omega
  have h63' : ¬ (9223372036854775807 < (n : Int)) := by omega
  have h48' : ¬ (281474976710656 < Builtin.nextslicecap n 0 * i.bytes) := by rw [hib]; omega
  simp [Builtin.append_, run_underlying ht, run_underlying hx, run_size hn, typeInfo, hi, asInt, asIntOf, hw, t1, t2, hn', h63', h48', Question.forced, newRow, grownCap, run_zero hz, Builtin.firstCells]
  intro hmul
  have := Nat.mul_pos h0 hsz
  omega
theorem app_growz2 {P : Program} {t xt ty e : TypeId} {k k2 : IntKind} {size bytes : Nat} {z : Value} (ht : P.underlying t = some (.slice e)) (hx : P.underlying xt = some (.int k)) (hn : szOf P e = some size) (hb : byOf P e = some bytes) (hz : zeroOf P e = some z) {n sl c : Nat} {a : Addr} {w : World} {old : List Value}
    (hold : (Builtin.firstCells size sl (.slice (some a) sl c)).run P w.drew = .ok old.toArray w.drew)
    (h0 : 0 < n) (hsz : 0 < size) (hzs : z.cells.size = size) (hg : c < sl + n) (h63 : sl + n ≤ 9223372036854775807) (hfit : (sl + n) * bytes ≤ 140737488355328) :
    (Builtin.append_ #[t, xt] ty #[.slice (some a) sl c, .int k2 n]).run P w =
      .ok (.slice (some ⟨w.heap.size, 0, none⟩) (sl + n) (grownCap w (sl + n) c e))
        (w.drew.alloc (.cells (old.toArray ++ Builtin.zeroCells z.cells n ++ Builtin.zeroCells z.cells (grownCap w (sl + n) c e - (sl + n))) e)) := by
  have h1 : (#[t, xt] : Array TypeId)[1]? = some xt := rfl
  have h0' : (#[t, xt] : Array TypeId)[0]? = some t := rfl
  have k0 : (#[Value.slice (some a) sl c, Value.int k2 n] : Array Value)[0]? = some (.slice (some a) sl c) := rfl
  have k1 : (#[Value.slice (some a) sl c, Value.int k2 n] : Array Value)[1]? = some (.int k2 n) := rfl
  obtain ⟨i, hi, hiz⟩ := zeroOf_inv hz
  have hib : i.bytes = bytes := by unfold byOf at hb; rw [hi] at hb; simpa using hb
  have hfit2 := growslice_fits (need := sl + n) (old := c) hg hfit
  have hw : IntKind.i64.wrap (n : Int) = n := IntWalk.i64_in _ (by omega)
  have t1 : ¬ ((n : Int) < 0) := by omega
  have t2 : ¬ (281474976710656 < (n : Int) * i.bytes) := by
    rw [hib]
    have h2 : n * bytes ≤ (sl + n) * bytes := Nat.mul_le_mul_right _ (by omega)
    have : ((n * bytes : Nat) : Int) ≤ 140737488355328 := by omega
    simp only [Int.natCast_mul] at this; omega
  have hn' : ¬ (sl + n ≤ c) := by omega
  have h63' : ¬ (9223372036854775807 < ((sl : Int) + (n : Int))) := by omega
  have h48' : ¬ (281474976710656 < Builtin.nextslicecap (sl + n) c * i.bytes) := by rw [hib]; omega
  simp [Builtin.append_, run_underlying ht, run_underlying hx, run_size hn, typeInfo, hi, asInt, asIntOf, hw, t1, t2, hn', h63', h48', Question.forced, newRow, grownCap, run_zero hz, hold]
  intro hmul
  have := Nat.mul_pos h0 hsz
  omega
theorem app_roomz {P : Program} {t xt ty e : TypeId} {k k2 : IntKind} {size : Nat} (ht : P.underlying t = some (.slice e)) (hx : P.underlying xt = some (.int k)) (hn : szOf P e = some size) (hi : ∃ i, P.info? e = some i) {sl c : Nat} {a : Addr} {w : World} (hr : sl ≤ c) :
    (Builtin.append_ #[t, xt] ty #[.slice (some a) sl c, .int k2 0]).run P w = .ok (.slice (some a) sl c) w := by
  have h1 : (#[t, xt] : Array TypeId)[1]? = some xt := rfl
  have h0' : (#[t, xt] : Array TypeId)[0]? = some t := rfl
  obtain ⟨i, hi⟩ := hi
  have hw : IntKind.i64.wrap (0 : Int) = 0 := IntWalk.i64_in _ (by omega)
  simp [Builtin.append_, run_underlying ht, run_underlying hx, run_size hn, typeInfo, hi, asInt, asIntOf, hw, hr, storeCells]
theorem app_roomzN {P : Program} {t xt ty e : TypeId} {k k2 : IntKind} {size bytes : Nat} {z : Value} (ht : P.underlying t = some (.slice e)) (hx : P.underlying xt = some (.int k)) (hn : szOf P e = some size) (hb : byOf P e = some bytes) (hz : zeroOf P e = some z) {n sl c : Nat} {a : Addr} {w : World}
    (h0 : 0 < n) (hsz : 0 < size) (hr : sl + n ≤ c) (h63 : sl + n ≤ 9223372036854775807) (hfit : (sl + n) * bytes ≤ 140737488355328) :
    (Builtin.append_ #[t, xt] ty #[.slice (some a) sl c, .int k2 n]).run P w = ((storeCells (a.add (sl * size)) (Builtin.zeroCells z.cells n).toList).run P w).andThen fun _ w' => .ok (.slice (some a) (sl + n) c) w' := by
  have h1 : (#[t, xt] : Array TypeId)[1]? = some xt := rfl
  have h0' : (#[t, xt] : Array TypeId)[0]? = some t := rfl
  obtain ⟨i, hi, hiz⟩ := zeroOf_inv hz
  have hib : i.bytes = bytes := by unfold byOf at hb; rw [hi] at hb; simpa using hb
  have hw : IntKind.i64.wrap (n : Int) = n := IntWalk.i64_in _ (by omega)
  have t1 : ¬ ((n : Int) < 0) := by omega
  have t2 : ¬ (281474976710656 < (n : Int) * i.bytes) := by
    rw [hib]
    have h2 : n * bytes ≤ (sl + n) * bytes := Nat.mul_le_mul_right _ (by omega)
    have : ((n * bytes : Nat) : Int) ≤ 140737488355328 := by omega
    simp only [Int.natCast_mul] at this; omega
  have h3 : ¬ (n = 0 ∨ size = 0) := by omega
  have h3' : ¬ (n = 0) := by omega
  have h3'' : ¬ (size = 0) := by omega
  simp [Builtin.append_, run_underlying ht, run_underlying hx, run_size hn, typeInfo, hi, asInt, asIntOf, hw, t1, t2, hr, run_zero hz]
  intro hmul
  have := Nat.mul_pos h0 hsz
  omega
theorem snd_appz {P : Program} {o : Oper} {t xt e : TypeId} {k : IntKind} {size bytes : Nat} {z : Value} {s x : Operand} {s' x' : XA} (ho : o.op = .call { callee := .builtin .append, args := #[s, x], argTypes := #[t, xt] })
    (hs : trA s = some s') (hxx : trA x = some x') (ht : P.underlying t = some (.slice e)) (hx : P.underlying xt = some (.int k)) (hn : szOf P e = some size) (hb : byOf P e = some bytes) (hz : zeroOf P e = some z) (hf : (cellsL z).all flat = true) :
    Snd P o (.appz size bytes (cellsL z) s' x') := by
  intro ρ h v h' φ w a hx' hr he
  simp only [xop, Option.bind_eq_some_iff] at hx'
  obtain ⟨sv, hsv, lv, hlv, li, hli, hx'⟩ := hx'
  split at hx'
  · split at hx'
    · rename_i hc
      obtain ⟨c1, c2, c3, c4, c5⟩ := hc
      cases hx'
      obtain ⟨k2, rfl⟩ := int?_inv hli
      have e1 : a.eval x = .int k2 li := (ev_sound he hxx hlv).int_inv
      have e2 : a.eval s = .slice none 0 0 := by
        have := ev_sound he hs hsv
        exact this.flat_eq rfl
      obtain ⟨n, rfl⟩ : ∃ n : Nat, li = n := ⟨li.toNat, by omega⟩
      have hzc : z.cells.size = size := by rw [← Array.length_toList, cells_toList, c4]
      have hcn : n * bytes ≤ 140737488355328 := by
        have : ((n * bytes : Nat) : Int) ≤ 140737488355328 := by simpa using c2
        omega
      have hrun := app_growz (P := P) (t := t) (xt := xt) (ty := o.type) (e := e) (k := k) (k2 := k2) (w := w) ht hx hn hb hz (n := n) (by omega) c5 hzc (by omega) hcn
      have hge := grownCap_ge w n 0 e
      have hcells := range_zeros z.cells n (by omega)
      rw [cells_toList, hzc] at hcells
      have hst2 : Stp φ h w φ h w.drew := Stp.drew hr _
      obtain ⟨φ', hstp, hnew⟩ := Stp.alloc hst2.hr (zeros (cellsL z) n) (Builtin.zeroCells z.cells n ++ Builtin.zeroCells z.cells (grownCap w n 0 e - n)) e (fun i v hv => by
        refine ⟨v, ?_, VR.of_flat φ ?_⟩
        · have hlt := (List.getElem?_eq_some_iff.1 hv).1
          have hsz : (Builtin.zeroCells z.cells n).size = (zeros (cellsL z) n).length := by
            unfold Builtin.zeroCells; rw [← hcells, hzc]; simp
          rw [Array.getElem?_append_left (by rw [hsz]; exact hlt), ← Array.getElem?_toList]
          unfold Builtin.zeroCells
          rw [hzc, hcells]; exact hv
        · have hm := List.mem_of_getElem? hv
          simp only [zeros, List.mem_flatten, List.mem_replicate] at hm
          obtain ⟨m, ⟨_, rfl⟩, hm⟩ := hm
          exact List.all_eq_true.1 hf v hm)
      refine ⟨φ', .slice (some ⟨w.heap.size, 0, none⟩) n (grownCap w n 0 e), _, _, ?_, .inl rfl, hst2.trans hstp, ?_⟩
      · simp only [execOp, ho, resolve, invoke, builtin, Sem.run_bind, Sem.run_pure, Result.andThen_ok, List.map_toArray, List.map_cons, List.map_nil, e1, e2, hrun]
      · have hz1 : (0 : Nat) + n ≤ grownCap w (0 + n) 0 e := by simpa using hge
        refine .slice (.inr ⟨rfl, _, _, _, hnew, by simp⟩) (.inr ⟨by omega, by simpa using hge, .inr ⟨_, _, _, hnew, ?_⟩⟩)
        simp [Builtin.zeroCells, hzc]
        rw [← Nat.add_mul]; congr 1; omega
    · cases hx'
  · rename_i ad sl sc
    split at hx'
    case isFalse hnc =>
      split at hx'
      case isFalse => cases hx'
      rename_i hc
      obtain ⟨c1, cu, c4, c5, c6, g3, g2⟩ := hc
      subst cu
      obtain ⟨k2, rfl⟩ := int?_inv hli
      have e1 : a.eval x = .int k2 li := (ev_sound he hxx hlv).int_inv
      have hsr := ev_sound he hs hsv
      obtain ⟨n, rfl⟩ : ∃ n : Nat, li = n := ⟨li.toNat, by omega⟩
      simp only [Int.toNat_natCast] at g2 g3 hx'
      have hzc : z.cells.size = size := by rw [← Array.length_toList, cells_toList, c4]
      generalize e2 : a.eval s = u at hsr
      cases hsr
      rename_i b c' hp hcap
      have hc2 : sl ≤ c' ∧ (c' = 0 ∨ ∃ B s m, φ ad.block = some (B, s, m) ∧ ad.off + c' * size = m) := by
        rcases hcap with ⟨h1, _⟩ | ⟨_, h1, h2⟩
        · omega
        · exact ⟨h1, h2.imp id (fun ⟨B, s, m, e1, e2⟩ => ⟨B, s, m, e1, by rw [← e2, Nat.add_sub_cancel_left]⟩)⟩
      split at hx'
      · rename_i h0
        have h0 : n = 0 := by omega
        subst h0
        cases hx'
        obtain ⟨i, hi, _⟩ := zeroOf_inv hz
        refine ⟨φ, .slice (some b) sl c', w, _, ?_, .inl rfl, Stp.refl hr, .slice hp hcap⟩
        have hrun := app_roomz (P := P) (t := t) (xt := xt) (ty := o.type) (e := e) (k := k) (k2 := k2) (w := w) (a := b) ht hx hn ⟨i, hi⟩ hc2.1
        simp only [execOp, ho, resolve, invoke, builtin, Sem.run_bind, Sem.run_pure, Result.andThen_ok, List.map_toArray, List.map_cons, List.map_nil, e1, e2, Int.natCast_zero, hrun]
      · rename_i h0
        have hn0 : 0 < n := by omega
        have hcells := range_zeros z.cells n (by omega)
        rw [cells_toList, hzc] at hcells
        have hzl : (Builtin.zeroCells z.cells n).toList = zeros (cellsL z) n := by unfold Builtin.zeroCells; rw [hzc]; exact hcells
        have hzLf : ∀ φ : Phi, LR φ (zeros (cellsL z) n) (Builtin.zeroCells z.cells n).toList := fun φ => by
          rw [hzl]
          refine ⟨rfl, fun i v u hv hu => ?_⟩
          rw [hv] at hu; cases hu
          refine VR.of_flat φ ?_
          have hm := List.mem_of_getElem? hv
          simp only [zeros, List.mem_flatten, List.mem_replicate] at hm
          obtain ⟨m, ⟨_, rfl⟩, hm⟩ := hm
          exact List.all_eq_true.1 hf v hm
        have hzlen : (Builtin.zeroCells z.cells n).toList.length = n * size := by rw [hzl]; simp [zeros, c4]
        split at hx'
        case h_2 => cases hx'
        rename_i ob hob
        split at hx'
        case isFalse => cases hx'
        rename_i hown
        obtain ⟨ho1, ho2⟩ := hown
        simp only [Option.map_eq_some_iff, Prod.mk.injEq] at hx'
        obtain ⟨old, hold, rfl, rfl⟩ := hx'
        have hone : (zeros (cellsL z) n).all oneC = true := by
          rw [List.all_eq_true]
          intro v hv
          simp only [zeros, List.mem_flatten, List.mem_replicate] at hv
          obtain ⟨m, ⟨_, rfl⟩, hm⟩ := hv
          exact List.all_eq_true.1 ho2 v hm
        obtain ⟨B, sh, m, cs, T, fz, f1, f2, f3, f4, f5⟩ := hr.obj _ ob hob
        have := f5 ho1; subst this
        obtain ⟨old', hoL, holen, hoget⟩ := getN_LR f4 hold
        have hzz : (List.replicate n (cellsL z)).flatten = zeros (cellsL z) n := rfl
        rw [hzz]
        by_cases hroom : sl + n ≤ c'
        · obtain ⟨_, B', s', n', h3, rfl⟩ : PR φ ad b := by
            rcases hp with ⟨_, h1⟩ | h1
            · omega
            · exact h1
          rw [f1] at h3; cases h3
          have hm : ad.off + c' * size = m := by
            rcases hc2.2 with h1 | ⟨B2, s2, m2, h1, h2⟩
            · omega
            · rw [f1] at h1; cases h1; exact h2
          have hmul : (sl + n) * size ≤ c' * size := Nat.mul_le_mul_right _ hroom
          rw [Nat.add_mul] at hmul
          have hrun := run_storeCells_at (P := P) B (sh + ad.off + sl * size) T (Builtin.zeroCells z.cells n).toList 0 cs w f2 (by omega) ((hzLf φ).oneC hone)
          have happ := app_roomzN (P := P) (t := t) (xt := xt) (ty := o.type) (e := e) (k := k) (k2 := k2) (w := w) (a := ⟨B, sh + ad.off, none⟩) (sl := sl) (c := c') ht hx hn hb hz hn0 c5 hroom g2 g3
          rw [Addr_add_lit _ _ rfl] at happ
          simp only [hrun, Result.andThen_ok] at happ
          obtain ⟨φ', hmv, hnew⟩ := Stp.moved hr hob ho1 f1 ad.off (by omega)
          have hget1 : (h.set ad.block none ++ [some (⟨true, ob.cells.drop ad.off⟩ : AObj)])[h.length]? = some (some ⟨true, ob.cells.drop ad.off⟩) := by
            rw [List.getElem?_append_right (by simp)]; simp
          have hrow := Stp.row hmv.hr hget1 rfl hnew f2 (by omega) (cs.toList.take (sh + ad.off + sl * size + 0) ++ (Builtin.zeroCells z.cells n).toList ++ cs.toList.drop (sh + ad.off + sl * size + 0 + (Builtin.zeroCells z.cells n).toList.length)).toArray
            (by simp only [List.size_toArray, List.length_append, List.length_take, List.length_drop, Array.length_toList] at hzlen ⊢; omega) (old ++ zeros (cellsL z) n) (fun i v hv => by
              obtain ⟨u, hu, hvu⟩ := ((hoL.mono hmv.ext).append (hzLf φ')).get hv
              refine ⟨u, ?_, hvu⟩
              simp only [List.getElem?_toArray]
              have hi : i < sl * size + n * size := by
                have := (List.getElem?_eq_some_iff.1 hu).1
                simp only [List.length_append, holen, hzlen] at this; exact this
              rw [List.getElem?_append_left (by simp only [List.length_append, List.length_take, Array.length_toList] at hzlen ⊢; omega)]
              by_cases hi2 : i < sl * size
              · rw [List.getElem?_append_left (by simp only [List.length_take, Array.length_toList]; omega), List.getElem?_take, if_pos (by omega), Array.getElem?_toList]
                rw [List.getElem?_append_left (by omega)] at hu
                rw [hoget i hi2]; exact hu
              · rw [List.getElem?_append_right (by simp only [List.length_take, Array.length_toList]; omega)]
                rw [List.getElem?_append_right (by omega)] at hu
                rw [← hu]; congr 1
                simp only [List.length_take, Array.length_toList]; omega)
          have hset : (h.set ad.block none ++ [some (⟨true, ob.cells.drop ad.off⟩ : AObj)]).set h.length (some ⟨true, old ++ zeros (cellsL z) n⟩) = h.set ad.block none ++ [some ⟨true, old ++ zeros (cellsL z) n⟩] := by
            rw [List.set_append_right _ _ (by simp)]; simp
          rw [hset] at hrow
          refine ⟨φ', .slice (some ⟨B, sh + ad.off, none⟩) (sl + n) c', _, _, ?_, .inl rfl, hmv.trans hrow, ?_⟩
          · simp only [execOp, ho, resolve, invoke, builtin, Sem.run_bind, Sem.run_pure, Result.andThen_ok, List.map_toArray, List.map_cons, List.map_nil, e1, e2, happ]
          · refine .slice (.inr ⟨rfl, _, _, _, hnew, by simp⟩) (.inr ⟨by omega, hroom, .inr ⟨_, _, _, hnew, ?_⟩⟩)
            simp only [Nat.zero_add, Nat.add_sub_cancel_left]
            omega
        · have hfo : (Builtin.firstCells size sl (.slice (some b) sl c')).run P w.drew = .ok old'.toArray w.drew := by
            rcases Nat.eq_zero_or_pos sl with hl0 | hl0
            · subst hl0
              have : old' = [] := List.eq_nil_of_length_eq_zero (by simpa using holen)
              subst this
              simp [Builtin.firstCells, loadCells, loadCellsFrom]
            · obtain ⟨_, B', s', n', h3, rfl⟩ : PR φ ad b := by
                rcases hp with ⟨h1, _⟩ | h1
                · omega
                · exact h1
              rw [f1] at h3; cases h3
              refine run_firstCells_some w.drew size sl _ sl c' old' holen fun j v hj => ?_
              have hj2 : j < sl * size := by rw [← holen]; exact (List.getElem?_eq_some_iff.1 hj).1
              rw [Addr_add_lit _ _ rfl, World.cell?_drew]
              simp only [World.cell?, f2]
              rw [hoget j hj2]; simpa using hj
          have hrun := app_growz2 (P := P) (t := t) (xt := xt) (ty := o.type) (e := e) (k := k) (k2 := k2) (w := w) (a := b) ht hx hn hb hz hfo hn0 c5 hzc (by omega) g2 g3
          have hge := grownCap_ge w (sl + n) c' e
          have hk := Stp.kill hr ad.block
          have hst2 : Stp φ h w φ (h.set ad.block none) w.drew := hk.trans (Stp.drew hk.hr _)
          obtain ⟨φ', hstp, hnew⟩ := Stp.alloc hst2.hr (old ++ zeros (cellsL z) n) (old'.toArray ++ Builtin.zeroCells z.cells n ++ Builtin.zeroCells z.cells (grownCap w (sl + n) c' e - (sl + n))) e (fun i v hv => by
            obtain ⟨u, hu, hvu⟩ := (hoL.append (hzLf φ)).get hv
            refine ⟨u, ?_, hvu⟩
            rw [Array.getElem?_append_left (by have := (List.getElem?_eq_some_iff.1 hu).1; simpa using this)]
            rw [← Array.getElem?_toList]
            simpa using hu)
          have hkl : (h.set ad.block none).length = h.length := by simp
          rw [hkl] at hnew
          refine ⟨φ', .slice (some ⟨w.heap.size, 0, none⟩) (sl + n) (grownCap w (sl + n) c' e), _, _, ?_, .inl rfl, hst2.trans hstp, ?_⟩
          · simp only [execOp, ho, resolve, invoke, builtin, Sem.run_bind, Sem.run_pure, Result.andThen_ok, List.map_toArray, List.map_cons, List.map_nil, e1, e2, hrun]
          · refine .slice (.inr ⟨rfl, _, _, _, hnew, by simp⟩) (.inr ⟨by omega, hge, .inr ⟨_, _, _, hnew, ?_⟩⟩)
            simp [Builtin.zeroCells, hzc, holen]
            rw [← Nat.add_mul, ← Nat.add_mul]; congr 1; omega
    rename_i hc
    obtain ⟨c1, c2, c3, c4, c5, c6⟩ := hc
    obtain ⟨k2, rfl⟩ := int?_inv hli
    have e1 : a.eval x = .int k2 li := (ev_sound he hxx hlv).int_inv
    have hsr := ev_sound he hs hsv
    obtain ⟨n, rfl⟩ : ∃ n : Nat, li = n := ⟨li.toNat, by omega⟩
    have hzc : z.cells.size = size := by rw [← Array.length_toList, cells_toList, c4]
    generalize e2 : a.eval s = u at hsr
    cases hsr
    rename_i b c' hp hcap
    have hcc : c' = sc := by
      rcases hcap with ⟨_, h1⟩ | ⟨h1, _⟩
      · exact h1
      · omega
    subst hcc
    split at hx'
    · rename_i h0
      have h0 : n = 0 := by omega
      subst h0
      cases hx'
      obtain ⟨i, hi, _⟩ := zeroOf_inv hz
      refine ⟨φ, .slice (some b) sl c', w, _, ?_, .inl rfl, Stp.refl hr, .slice hp hcap⟩
      have hrun := app_roomz (P := P) (t := t) (xt := xt) (ty := o.type) (e := e) (k := k) (k2 := k2) (w := w) (a := b) ht hx hn ⟨i, hi⟩ c3
      simp only [execOp, ho, resolve, invoke, builtin, Sem.run_bind, Sem.run_pure, Result.andThen_ok, List.map_toArray, List.map_cons, List.map_nil, e1, e2, Int.natCast_zero, hrun]
    · rename_i h0
      split at hx'
      case isFalse => cases hx'
      rename_i hg
      obtain ⟨g1, g2, g3⟩ := hg
      simp only [Int.toNat_natCast] at g1 g2 g3 hx'
      simp only [Option.map_eq_some_iff, Prod.mk.injEq] at hx'
      obtain ⟨old, hold, rfl, rfl⟩ := hx'
      have hst2 : Stp φ h w φ h w.drew := Stp.drew hr _
      obtain ⟨old', hfo, hoL, holen⟩ := firstV_sound (P := P) hst2.hr hold (.slice hp hcap) (by intro a' l' c'' he'; cases he'; exact Nat.le_refl _)
      have hrun := app_growz2 (P := P) (t := t) (xt := xt) (ty := o.type) (e := e) (k := k) (k2 := k2) (w := w) (a := b) ht hx hn hb hz hfo (by omega) c5 hzc g1 g3 g2
      have hge := grownCap_ge w (sl + n) c' e
      have hcells := range_zeros z.cells n (by omega)
      rw [cells_toList, hzc] at hcells
      have hzl : (Builtin.zeroCells z.cells n).toList = zeros (cellsL z) n := by unfold Builtin.zeroCells; rw [hzc]; exact hcells
      have hzL : LR φ (zeros (cellsL z) n) (Builtin.zeroCells z.cells n).toList := by
        rw [hzl]
        refine ⟨rfl, fun i v u hv hu => ?_⟩
        rw [hv] at hu; cases hu
        refine VR.of_flat φ ?_
        have hm := List.mem_of_getElem? hv
        simp only [zeros, List.mem_flatten, List.mem_replicate] at hm
        obtain ⟨m, ⟨_, rfl⟩, hm⟩ := hm
        exact List.all_eq_true.1 hf v hm
      obtain ⟨φ', hstp, hnew⟩ := Stp.alloc hst2.hr (old ++ zeros (cellsL z) n) (old'.toArray ++ Builtin.zeroCells z.cells n ++ Builtin.zeroCells z.cells (grownCap w (sl + n) c' e - (sl + n))) e (fun i v hv => by
        obtain ⟨u, hu, hvu⟩ := (hoL.append hzL).get hv
        refine ⟨u, ?_, hvu⟩
        rw [Array.getElem?_append_left (by have := (List.getElem?_eq_some_iff.1 hu).1; simpa using this)]
        rw [← Array.getElem?_toList]
        simpa using hu)
      refine ⟨φ', .slice (some ⟨w.heap.size, 0, none⟩) (sl + n) (grownCap w (sl + n) c' e), _, _, ?_, .inl rfl, hst2.trans hstp, ?_⟩
      · simp only [execOp, ho, resolve, invoke, builtin, Sem.run_bind, Sem.run_pure, Result.andThen_ok, List.map_toArray, List.map_cons, List.map_nil, e1, e2, hrun]
      · refine .slice (.inr ⟨rfl, _, _, _, hnew, by simp⟩) (.inr ⟨by omega, hge, .inr ⟨_, _, _, hnew, ?_⟩⟩)
        simp [Builtin.zeroCells, hzc, holen]
        rw [← Nat.add_mul, ← Nat.add_mul]; congr 1; omega
  · cases hx'

theorem bytes_fold : ∀ (l : List Value) (acc s : ByteArray), l.foldlM (fun (s : ByteArray) v => match v with | .int .u8 n => some (s.push (UInt8.ofNat n.toNat)) | _ => none) acc = some s →
    ∃ ns : List Int, l = ns.map (Value.int .u8) ∧ s = ns.foldl (fun r n => r.push (UInt8.ofNat n.toNat)) acc
  | [], acc, s, h => by simp at h; subst h; exact ⟨[], rfl, rfl⟩
  | v :: l, acc, s, h => by
    simp only [List.foldlM_cons, bind, Option.bind_eq_some_iff] at h
    obtain ⟨x, hx, hr⟩ := h
    split at hx
    · rename_i n
      cases hx
      obtain ⟨ns, h1, h2⟩ := bytes_fold l _ s hr
      exact ⟨n :: ns, by simp [h1], by simpa using h2⟩
    · cases hx

theorem snd_b2s {o : Oper} {s t e : TypeId} {x : Operand} {x' : XA} (ho : o.op = .convert s t x) (hx' : trA x = some x') (hs : P.underlying s = some (.slice e)) (he : P.underlying e = some (.int .u8)) (hd : P.underlying t = some .string) : Snd P o (.b2s x') := by
  refine Snd.of_pure fun ρ h v h' φ w a hx hr her => ?_
  simp only [xop, Option.bind_eq_some_iff] at hx
  obtain ⟨xv, hxv, hx⟩ := hx
  have hv := ev_sound her hx' hxv
  split at hx
  · rename_i l c
    simp only [Option.some.injEq, Prod.mk.injEq] at hx
    obtain ⟨rfl, rfl⟩ := hx
    have hq : a.eval x = .slice none l c := by
      generalize a.eval x = u at hv
      cases hv; rfl
    refine ⟨rfl, .string ByteArray.empty, ?_, .string _⟩
    simp [execOp, ho, convert, run_underlying hs, run_underlying hd, run_underlying he, hq, Conv.bytesToString]
  · rename_i ad l c
    simp only [Option.bind_eq_some_iff, Option.map_eq_some_iff, Prod.mk.injEq] at hx
    obtain ⟨cs, hcs, str, hstr, rfl, rfl⟩ := hx
    have hq : ∃ b c', a.eval x = .slice (some b) l c' ∧ ((l = 0 ∧ c' = 0) ∨ PR φ ad b) := by
      generalize a.eval x = u at hv
      cases hv with
      | slice hp hc => exact ⟨_, _, rfl, hp⟩
    obtain ⟨b, c', hq, hp⟩ := hq
    have hload : ∃ cs' : List Value, (∀ (j : Nat) (v : Value), cs'[j]? = some v → w.cell? (b.add j) = some v) ∧ cs'.length = l ∧ LR φ cs cs' := by
      split at hcs
      · rename_i h0
        cases hcs; subst h0
        exact ⟨[], fun j v h => by simp at h, rfl, LR.nil φ⟩
      · rename_i h0
        have hp' : PR φ ad b := by rcases hp with ⟨h1, _⟩ | h1; · omega
                                   · exact h1
        obtain ⟨l', h1, h2, h3⟩ := loadV_sound hr hcs hp'
        exact ⟨l', h3, h2, h1⟩
    obtain ⟨cs', hl, hlen, hL⟩ := hload
    have hfold : cs.foldlM (fun (s : ByteArray) v => match v with | .int .u8 n => some (s.push (UInt8.ofNat n.toNat)) | _ => none) ByteArray.empty = some str := by
      cases cs with
      | nil => simpa [bytesOf] using hstr
      | cons v r => exact hstr
    obtain ⟨ns, rfl, hns⟩ := bytes_fold cs _ _ hfold
    have hcc := hL.flat_eq (by rw [List.all_eq_true]; intro y hy; simp at hy; obtain ⟨n, _, rfl⟩ := hy; rfl)
    subst hcc
    have hlo := run_loadCells_list (P := P) w b _ hl
    rw [hlen] at hlo
    have hrun := run_bytesToString (P := P) w b l c' ns hlo
    refine ⟨rfl, .string str, ?_, .string _⟩
    rw [← hns] at hrun
    simp only [execOp, ho, convert, Sem.run_bind, run_underlying hs, run_underlying hd, run_underlying he, hq, Result.andThen_ok, hrun, Sem.run_pure]
  · cases hx

/-- the leaves of a struct type -/
def leaves (P : Program) : Nat → TypeId → Nat → Option (List (Nat × Nat))
  | 0, _, _ => none
  | d + 1, t, off =>
    match P.underlying t with
    | some (.int _) => some [(off, 0)]
    | some .bool => some [(off, 1)]
    | some .string => some [(off, 2)]
    | some (.struct fs) => if P.stoodInHeld t = true then none else (szOf P t).bind fun N => fs.toList.foldr (fun f acc => if f.name = "_" then none else (szOf P f.type).bind fun n => if f.offset + n ≤ N ∧ 0 < n then (leaves P d f.type (off + f.offset)).bind fun l => acc.map (l ++ ·) else none) (some [])
    | some (.array len e) => (szOf P t).bind fun N => (szOf P e).bind fun n => if 0 < n ∧ len * n ≤ N then (List.range len).foldr (fun i acc => (leaves P d e (off + i * n)).bind fun l => acc.map (l ++ ·)) (some []) else none
    | _ => none

theorem allEq_append (l m : List Value) : ∀ (a b : List (Nat × Nat)), allEq l m (a ++ b) = (allEq l m a).bind fun x => (allEq l m b).map fun y => x && y
  | [], b => by simp [allEq]
  | (o, tag) :: a, b => by
    simp only [List.cons_append, allEq, allEq_append l m a b]
    cases leafEq tag l[o]? m[o]? <;> simp
    cases allEq l m a <;> simp
    cases allEq l m b <;> simp [Bool.and_assoc]

/-- a value of type t seen at a place of a list of cells -/
def Sees (P : Program) (t : TypeId) (x : Value) (l : List Value) (off : Nat) : Prop :=
  ∃ d, P.underlying t = some d ∧ if aggB d then ∃ (xs : Array Value) (n : Nat), x = .agg xs ∧ szOf P t = some n ∧ ∀ i, i < n → xs[i]? = l[off + i]? else l[off]? = some x

theorem part_sees {ft : TypeId} {xs : Array Value} {l : List Value} {off o N n : Nat} {fd : TypeDesc} (hN : ∀ i, i < N → xs[i]? = l[off + i]?) (hfd : P.underlying ft = some fd) (hn : szOf P ft = some n) (hon : o + n ≤ N) (h0 : 0 < n)
    (hdef : aggB fd = false → (l[off + o]?).isSome = true) (w : World) : ∃ x, (part ft xs o).run P w = .ok x w ∧ Sees P ft x l (off + o) := by
  by_cases hb : aggB fd = true
  · refine ⟨.agg (xs.extract o (o + n)), ?_, fd, hfd, ?_⟩
    · simp [part, run_agg hfd, hb, run_size hn]
    · rw [if_pos hb]
      refine ⟨_, n, rfl, hn, fun i hi => ?_⟩
      rw [Array.getElem?_extract]
      have hh := hN (o + i) (by omega)
      rw [Nat.add_assoc]
      split
      · exact hh
      · rename_i hc
        rw [← hh]
        rw [Array.getElem?_eq_none]; omega
  · have hb' : aggB fd = false := by simpa using hb
    obtain ⟨x, hx⟩ := Option.isSome_iff_exists.1 (hdef hb')
    refine ⟨x, ?_, fd, hfd, by rw [if_neg hb]; exact hx⟩
    have := hN o (by omega)
    rw [hx] at this
    simp [part, run_agg hfd, hb', this]

def leafFold (P : Program) (d : Nat) (off N : Nat) (f : Field) (acc : Option (List (Nat × Nat))) : Option (List (Nat × Nat)) :=
  if f.name = "_" then none else (szOf P f.type).bind fun n => if f.offset + n ≤ N ∧ 0 < n then (leaves P d f.type (off + f.offset)).bind fun l => acc.map (l ++ ·) else none

theorem leaf_inv {tag : Nat} {x y : Option Value} {b : Bool} (h : leafEq tag x y = some b) : x.isSome = true ∧ y.isSome = true := by
  unfold leafEq at h
  split at h <;> simp_all

/-- what is compared is there -/
theorem leaves_there {l m : List Value} : ∀ (d : Nat) (t : TypeId) (off : Nat) (lv : List (Nat × Nat)) (b : Bool) (td : TypeDesc), leaves P d t off = some lv → allEq l m lv = some b → P.underlying t = some td → aggB td = false → (l[off]?).isSome = true ∧ (m[off]?).isSome = true := by
  intro d t off lv b td hlv hb hd hagg
  cases d with
  | zero => simp [leaves] at hlv
  | succ d =>
    simp only [leaves, hd] at hlv
    cases td <;> simp [aggB] at hagg hlv
    all_goals
      subst hlv
      simp only [allEq, Option.bind_eq_some_iff] at hb
      obtain ⟨a, ha, _⟩ := hb
      exact leaf_inv ha

theorem leaves_sound {l m : List Value} : ∀ (d : Nat) (t : TypeId) (off : Nat) (lv : List (Nat × Nat)) (b : Bool) (x y : Value), leaves P d t off = some lv → allEq l m lv = some b → Sees P t x l off → Sees P t y m off →
    ∀ D w, d ≤ D → (Op.equalIn D t x y).run P w = .ok b w := by
  intro d
  induction d with
  | zero => intro t off lv b x y h; simp [leaves] at h
  | succ d ih =>
    intro t off lv b x y hlv hb hx hy D w hD
    obtain ⟨D, rfl⟩ : ∃ k, D = k + 1 := ⟨D - 1, by omega⟩
    obtain ⟨td, hd, hx⟩ := hx
    obtain ⟨td2, hd2, hy⟩ := hy
    rw [hd] at hd2; cases hd2
    simp only [leaves, hd] at hlv
    cases td with
    | int k =>
      simp only [Option.some.injEq] at hlv
      subst hlv
      simp [aggB] at hx hy
      simp only [allEq, hx, hy, Option.bind_eq_some_iff, Option.map_eq_some_iff, Option.some.injEq] at hb
      obtain ⟨a, ha, _, rfl, rfl⟩ := hb
      cases x <;> cases y <;> simp [leafEq] at ha
      obtain ⟨hk, rfl⟩ := ha
      subst hk
      rw [run_equalIn_int w D t _ k _ _ hd]; simp
    | bool =>
      simp only [Option.some.injEq] at hlv
      subst hlv
      simp [aggB] at hx hy
      simp only [allEq, hx, hy, Option.bind_eq_some_iff, Option.map_eq_some_iff, Option.some.injEq] at hb
      obtain ⟨a, ha, _, rfl, rfl⟩ := hb
      cases x <;> cases y <;> simp [leafEq] at ha
      subst ha
      rw [run_equalIn_bool' w D t _ _ hd]; simp
    | string =>
      simp only [Option.some.injEq] at hlv
      subst hlv
      simp [aggB] at hx hy
      simp only [allEq, hx, hy, Option.bind_eq_some_iff, Option.map_eq_some_iff, Option.some.injEq] at hb
      obtain ⟨a, ha, _, rfl, rfl⟩ := hb
      cases x <;> cases y <;> simp [leafEq] at ha
      subst ha
      rw [run_equalIn_string w D t _ _ hd]; simp
    | struct fs =>
      simp only [aggB, if_true] at hx hy
      obtain ⟨xs, N, rfl, hN, hxs⟩ := hx
      obtain ⟨ys, N2, rfl, hN2, hys⟩ := hy
      rw [hN] at hN2; cases hN2
      simp only at hlv
      split at hlv
      · cases hlv
      · rename_i hst
        have hst' : P.stoodInHeld t = false := by simpa using hst
        simp only [hN, Option.bind_some] at hlv
        have hfo : P.fieldsOf t = fs := by simp [Program.fieldsOf, hd]
        rw [run_equalIn_struct w D t xs ys (by rw [hfo]; exact hd) hst', hfo]
        have key : ∀ (fl : List Field) (lv : List (Nat × Nat)) (b : Bool), fl.foldr (leafFold P d off N) (some []) = some lv → allEq l m lv = some b → (Op.eqFields D xs ys fl).run P w = .ok b w := by
          intro fl
          induction fl with
          | nil => intro lv b h1 h2; simp at h1; subst h1; simp [allEq] at h2; subst h2; rfl
          | cons f fl ihf =>
            intro lv b h1 h2
            simp only [List.foldr_cons, leafFold] at h1
            split at h1
            · cases h1
            · rename_i hnm
              simp only [Option.bind_eq_some_iff] at h1
              obtain ⟨n, hn, h1⟩ := h1
              split at h1
              · rename_i hc
                simp only [Option.bind_eq_some_iff, Option.map_eq_some_iff] at h1
                obtain ⟨lf, hlf, lr, hlr, rfl⟩ := h1
                rw [allEq_append] at h2
                simp only [Option.bind_eq_some_iff, Option.map_eq_some_iff] at h2
                obtain ⟨b1, hb1, b2, hb2, rfl⟩ := h2
                obtain ⟨fd, hfd⟩ : ∃ fd, P.underlying f.type = some fd := by
                  cases d with
                  | zero => simp [leaves] at hlf
                  | succ d =>
                    simp only [leaves] at hlf
                    cases hq : P.underlying f.type with
                    | none => simp [hq] at hlf
                    | some fd => exact ⟨fd, rfl⟩
                obtain ⟨a1, r1, s1⟩ := part_sees hxs hfd hn hc.1 hc.2 (fun hb => (leaves_there d f.type _ lf b1 fd hlf hb1 hfd hb).1) w
                obtain ⟨a2, r2, s2⟩ := part_sees hys hfd hn hc.1 hc.2 (fun hb => (leaves_there d f.type _ lf b1 fd hlf hb1 hfd hb).2) w
                have r3 := ih f.type _ lf b1 a1 a2 hlf hb1 s1 s2 D w (by omega)
                simp only [Op.eqFields, ne_eq, hnm, not_false_eq_true, if_true, Sem.run_bind, r1, r2, r3, Result.andThen_ok]
                cases b1
                · simp
                · simp only [Bool.not_true, Bool.false_eq_true, if_false, Bool.true_and]
                  exact ihf lr b2 hlr hb2
              · cases h1
        exact key fs.toList lv b hlv hb
    | array len e =>
      simp only [aggB, if_true] at hx hy
      obtain ⟨xs, N, rfl, hN, hxs⟩ := hx
      obtain ⟨ys, N2, rfl, hN2, hys⟩ := hy
      rw [hN] at hN2; cases hN2
      simp only [hN, Option.bind_some] at hlv
      obtain ⟨n, hn, hlv⟩ := Option.bind_eq_some_iff.1 hlv
      split at hlv
      · rename_i hc
        obtain ⟨it, hi, his⟩ := szOf_inv hn
        have hcs : P.cellsOf e = n := by simp [Program.cellsOf, hi, his]
        rw [run_equalIn_array (P := P) w D xs ys hd hi, hcs]
        have key : ∀ (is : List Nat) (lv : List (Nat × Nat)) (b : Bool), (∀ i ∈ is, i < len) → is.foldr (fun i acc => (leaves P d e (off + i * n)).bind fun l => acc.map (l ++ ·)) (some []) = some lv → allEq l m lv = some b → (Op.eqItems D e n xs ys is).run P w = .ok b w := by
          intro is
          induction is with
          | nil => intro lv b _ h1 h2; simp at h1; subst h1; simp [allEq] at h2; subst h2; rfl
          | cons i is ihf =>
            intro lv b hlt h1 h2
            simp only [List.foldr_cons, Option.bind_eq_some_iff, Option.map_eq_some_iff] at h1
            obtain ⟨lf, hlf, lr, hlr, rfl⟩ := h1
            rw [allEq_append] at h2
            simp only [Option.bind_eq_some_iff, Option.map_eq_some_iff] at h2
            obtain ⟨b1, hb1, b2, hb2, rfl⟩ := h2
            obtain ⟨fd, hfd⟩ : ∃ fd, P.underlying e = some fd := by
              cases d with
              | zero => simp [leaves] at hlf
              | succ d =>
                simp only [leaves] at hlf
                cases hq : P.underlying e with
                | none => simp [hq] at hlf
                | some fd => exact ⟨fd, rfl⟩
            have hil := hlt i (List.mem_cons_self ..)
            have hin : i * n + n ≤ N := by
              have : (i + 1) * n ≤ len * n := Nat.mul_le_mul_right _ hil
              rw [Nat.add_mul, Nat.one_mul] at this
              omega
            obtain ⟨a1, r1, s1⟩ := part_sees hxs hfd hn hin hc.1 (fun hb => (leaves_there d e _ lf b1 fd hlf hb1 hfd hb).1) w
            obtain ⟨a2, r2, s2⟩ := part_sees hys hfd hn hin hc.1 (fun hb => (leaves_there d e _ lf b1 fd hlf hb1 hfd hb).2) w
            have r3 := ih e _ lf b1 a1 a2 hlf hb1 s1 s2 D w (by omega)
            simp only [Op.eqItems, Sem.run_bind, r1, r2, r3, Result.andThen_ok]
            cases b1
            · simp
            · simp only [Bool.not_true, Bool.false_eq_true, if_false, Bool.true_and]
              exact ihf lr b2 (fun j hj => hlt j (List.mem_cons_of_mem _ hj)) hlr hb2
        exact key (List.range len) lv b (fun i hi => List.mem_range.1 hi) hlv hb
      · cases hlv
    | _ => simp at hlv

/-- a row's mark: its block is written no more -/
theorem Stp.mark {φ : Phi} {h : AHeap} {w : World} (hr : HR φ h w) {A : Nat} {cells : List Value} (hA : h[A]? = some (some ⟨true, cells⟩)) {B s n : Nat} (hφ : φ A = some (B, s, n)) (k : Nat) :
    Stp φ h w φ (h.set A (some ⟨false, cells⟩)) (w.freeze ⟨B, k, none⟩ 1) := by
  have hs : (w.freeze ⟨B, k, none⟩ 1).heap.size = w.heap.size := by unfold World.freeze; rw [if_neg (by decide)]; simp
  have ne : ∀ b, b ≠ B → (w.freeze ⟨B, k, none⟩ 1).heap[b]? = w.heap[b]? := fun b hb => by
    unfold World.freeze; rw [if_neg (by decide)]
    simp only [Array.getElem?_modify]
    rw [if_neg fun e => hb e.symm]
  have eq : ∀ cs T fz, w.heap[B]? = some (.cells cs T fz) → ∃ fz', (w.freeze ⟨B, k, none⟩ 1).heap[B]? = some (.cells cs T fz') := fun cs T fz hB => by
    unfold World.freeze; rw [if_neg (by decide)]
    simp only [Array.getElem?_modify, if_true, hB, Option.map_some]
    exact ⟨_, rfl⟩
  have old : ∀ (X : Nat) (o : AObj), (h.set A (some ⟨false, cells⟩))[X]? = some (some o) → (X = A ∧ o = ⟨false, cells⟩) ∨ (X ≠ A ∧ h[X]? = some (some o)) := by
    intro X o hX
    rcases get_set hX with ⟨e, h1⟩ | ⟨e, h1⟩
    · exact .inr ⟨e, h1⟩
    · exact .inl ⟨e, (Option.some.inj h1).symm⟩
  have own : ∀ (X : Nat) (o : AObj), (h.set A (some ⟨false, cells⟩))[X]? = some (some o) → o.own = true → X ≠ A ∧ h[X]? = some (some o) := by
    intro X o hX ho
    rcases old X o hX with ⟨_, rfl⟩ | h1
    · cases ho
    · exact h1
  obtain ⟨B0, s0, n0, cs0, T0, fz0, e1, e2, e3, e4, e5⟩ := hr.obj A _ hA
  rw [hφ] at e1; cases e1
  refine ⟨ext.refl φ, ⟨fun X o hX => ?_, fun X X' o o' b s s' n n' hX ho hX' p1 p2 => ?_, fun X hX => hr.dom X (by simpa using hX)⟩, ?_, ?_, ?_, by rw [hs]; exact Nat.le_refl _, fun b hb hn => ?_, fun b ⟨X, o, s, n, hX, ho, e⟩ hlt => ⟨X, o, s, n, (own X o hX ho).2, ho, e⟩, by have := hr.new0 (w' := w); simpa using this⟩
  · rcases old X o hX with ⟨rfl, rfl⟩ | ⟨hne, h1⟩
    · obtain ⟨fz', hfz⟩ := eq _ _ _ e2
      exact ⟨B, s, n, cs0, T0, fz', hφ, hfz, e3, e4, fun h => by cases h⟩
    · obtain ⟨b, s, n, cs, T, fz, g1, g2, g3, g4, g5⟩ := hr.obj X o h1
      by_cases hb : b = B
      · subst hb
        obtain ⟨fz', hfz⟩ := eq _ _ _ g2
        refine ⟨b, s, n, cs, T, fz', g1, hfz, g3, g4, fun ho => ?_⟩
        exact absurd (hr.inj X A o _ b s _ n _ h1 ho hA g1 hφ) hne
      · exact ⟨b, s, n, cs, T, fz, g1, by rw [ne b hb]; exact g2, g3, g4, g5⟩
  · have h1 := own X o hX ho
    rcases old X' o' hX' with ⟨rfl, rfl⟩ | ⟨_, h2⟩
    · exact hr.inj X X' o _ b s s' n n' h1.2 ho hA p1 p2
    · exact hr.inj X X' o o' b s s' n n' h1.2 ho h2 p1 p2
  · unfold World.freeze; rw [if_neg (by decide)]
  · unfold World.freeze; rw [if_neg (by decide)]
  · unfold World.freeze; rw [if_neg (by decide)]
  · by_cases hbB : b = B
    · subst hbB
      exact absurd ⟨A, _, _, _, hA, rfl, hφ⟩ hn
    · exact ne b hbB
theorem snd_s2b {o : Oper} {s t e : TypeId} {x : Operand} {x' : XA} {d : TypeDesc} (ho : o.op = .convert s t x) (hx' : trA x = some x') (hs : P.underlying s = some d) (hd : P.underlying t = some (.slice e)) (he : P.underlying e = some (.int .u8)) : Snd P o (.s2b x') := by
  intro ρ h v h' φ w a hx hr her
  simp only [xop, Option.bind_eq_some_iff, Option.map_eq_some_iff, Prod.mk.injEq] at hx
  obtain ⟨xv, hxv, str, hstr, rfl, rfl⟩ := hx
  have e1 := ev_sound her hx' hxv
  rw [str?_inv hstr] at e1
  have e2 : a.eval x = .string str := by generalize a.eval x = u at e1; cases e1; rfl
  have hge := grownCap_ge w str.size 0 e
  have st1 : Stp φ h w φ h w.drew := Stp.drew hr _
  obtain ⟨φ', st2, hnew⟩ := Stp.alloc st1.hr (str.data.toList.map fun b => .int .u8 (b.toNat : Int)) (Lib.bytesCells w e str) e (fun i v hv => by
    obtain ⟨b, hb, rfl⟩ := Option.map_eq_some_iff.1 (by rw [List.getElem?_map] at hv; exact hv)
    refine ⟨_, ?_, .int _ _⟩
    unfold Lib.bytesCells
    have hi : i < str.data.size := by have := (List.getElem?_eq_some_iff.1 hb).1; simpa using this
    rw [Array.getElem?_append_left (by simpa using hi), Array.getElem?_map]
    rw [Array.getElem?_toList] at hb
    rw [hb]; rfl)
  have hA : (h ++ [some (⟨true, str.data.toList.map fun b => Value.int .u8 (b.toNat : Int)⟩ : AObj)])[h.length]? = some (some ⟨true, str.data.toList.map fun b => .int .u8 (b.toNat : Int)⟩) := by simp
  have st3 := Stp.mark st2.hr hA hnew (Lib.bytesCells w e str).size
  have hset : (h ++ [some (⟨true, str.data.toList.map fun b => Value.int .u8 (b.toNat : Int)⟩ : AObj)]).set h.length (some ⟨false, str.data.toList.map fun b => .int .u8 (b.toNat : Int)⟩) = h ++ [some ⟨false, str.data.toList.map fun b => .int .u8 (b.toNat : Int)⟩] := by
    rw [List.set_append_right _ _ (Nat.le_refl _)]; simp
  rw [hset] at st3
  have hsz : (Lib.bytesCells w e str).size = grownCap w str.size 0 e := by
    unfold Lib.bytesCells
    simp only [Array.size_append, Array.size_map, Array.size_replicate]
    have : str.data.size = str.size := rfl
    omega
  refine ⟨φ', .slice (some ⟨w.heap.size, 0, none⟩) str.size (grownCap w str.size 0 e), Lib.bytesWorld w e str, _, ?_, .inl rfl, (st1.trans st2).trans st3, ?_⟩
  · simp [execOp, ho, e2, Lib.run_convert_string_bytes w s t e str hs hd he]
  · refine .slice (.inr ⟨rfl, _, _, _, hnew, by simp⟩) (.inr ⟨by omega, hge, .inr ⟨_, _, _, hnew, ?_⟩⟩)
    rw [hsz]; simp
theorem snd_mark {o : Oper} {t e : TypeId} {x : Operand} {x' : XA} (ho : o.op = .convert t t x) (hx' : trA x = some x') (hd : P.underlying t = some (.slice e)) (he : P.underlying e = some (.int .u8)) : Snd P o (.mark x') := by
  intro ρ h v h' φ w a hx hr her
  simp only [xop, Option.bind_eq_some_iff] at hx
  obtain ⟨xv, hxv, hx⟩ := hx
  have e1 := ev_sound her hx' hxv
  split at hx
  · rename_i ad l c
    split at hx
    · rename_i ob hob
      split at hx
      · rename_i hc
        obtain ⟨hc1, hc2⟩ := hc
        simp only [Option.some.injEq, Prod.mk.injEq] at hx
        obtain ⟨rfl, rfl⟩ := hx
        obtain ⟨b, c', hq, hp, hcap⟩ : ∃ b c', a.eval x = .slice (some b) l c' ∧ PR φ ad b ∧ VR φ (.slice (some ad) l c) (.slice (some b) l c') := by
          generalize a.eval x = u at e1
          have e0 := e1
          cases e1
          rename_i b c' hp hcap
          exact ⟨b, c', rfl, hp.resolve_left fun h => hc2 h.1, e0⟩
        obtain ⟨hs, B, s, n, hφ, rfl⟩ := hp
        obtain ⟨B0, s0, n0, cs0, T0, fz0, g1, g2, g3, g4, g5⟩ := hr.obj _ ob hob
        rw [hφ] at g1; cases g1
        have hob' : h[ad.block]? = some (some ⟨true, ob.cells⟩) := by rw [hob, ← hc1]
        refine ⟨φ, _, _, _, ?_, .inl rfl, Stp.mark hr hob' hφ cs0.size, hcap⟩
        have hsh : w.shape? B = some (T0, cs0.size) := by simp [World.shape?, g2]
        simp [execOp, ho, hq, convert, run_underlying hd, run_underlying he, markStringish, hsh]
      · cases hx
    · cases hx
  · cases hx
theorem snd_eqs {o : Oper} {neg : Bool} {t t' : TypeId} {x y : Operand} {x' y' : XA} {td : TypeDesc} {N : Nat} {lv : List (Nat × Nat)} (ho : o.op = .binOp (if neg then .neq else .eql) t x y t') (hx' : trA x = some x') (hy' : trA y = some y')
    (hd : P.underlying t = some td) (hag : aggB td = true) (hN : szOf P t = some N) (hm : P.eqGuardType P.depth t = false) (hlv : leaves P 64 t 0 = some lv) : Snd P o (.eqs neg lv x' y') := by
  refine Snd.of_pure fun ρ h v h' φ w a hx hr he => ?_
  simp only [xop, Option.bind_eq_some_iff, Option.map_eq_some_iff, Prod.mk.injEq] at hx
  obtain ⟨xv, hxv, l, hl, yv, hyv, m, hm2, b, hb, rfl, rfl⟩ := hx
  have e1 := ev_sound he hx' hxv
  have e2 := ev_sound he hy' hyv
  rw [agg?_inv hl] at e1; rw [agg?_inv hm2] at e2
  obtain ⟨l', e1, L1⟩ := e1.agg_invL
  obtain ⟨m', e2, L2⟩ := e2.agg_invL
  have hb' : allEq l' m' lv = some b := by
    have : ∀ (lv : List (Nat × Nat)) (b : Bool), allEq l m lv = some b → allEq l' m' lv = some b := by
      intro lv
      induction lv with
      | nil => intro b h; exact h
      | cons p r ih =>
        obtain ⟨o, tag⟩ := p
        intro b h
        simp only [allEq, Option.bind_eq_some_iff, Option.map_eq_some_iff] at h ⊢
        obtain ⟨b1, h1, b2, h2, rfl⟩ := h
        refine ⟨b1, ?_, b2, ih _ h2, rfl⟩
        obtain ⟨i1, i2⟩ := leaf_inv h1
        obtain ⟨u1, j1⟩ := Option.isSome_iff_exists.1 i1
        obtain ⟨u2, j2⟩ := Option.isSome_iff_exists.1 i2
        obtain ⟨c1, k1, q1⟩ := L1.get j1
        obtain ⟨c2, k2, q2⟩ := L2.get j2
        rw [j1, j2] at h1; rw [k1, k2]
        have f1 : flat u1 = true ∧ flat u2 = true := by cases u1 <;> cases u2 <;> simp [leafEq] at h1 <;> exact ⟨rfl, rfl⟩
        rw [q1.flat_eq f1.1, q2.flat_eq f1.2]; exact h1
    exact this lv b hb
  have hsee : ∀ l : List Value, Sees P t (.agg l.toArray) l 0 := fun l => ⟨_, hd, by rw [if_pos hag]; exact ⟨l.toArray, N, rfl, hN, fun i _ => by simp⟩⟩
  have hrun := leaves_sound (P := P) 64 t 0 lv b _ _ hlv hb' (hsee l') (hsee m') 10000 w (by omega)
  refine ⟨rfl, .bool (if neg then !b else b), ?_, .bool _⟩
  have hg : ∀ op, (eqGuard op t x y (.agg l'.toArray) (.agg m'.toArray)).run P w = .ok () w := fun op => run_eqGuard_agg w op t x y _ _ hm
  cases neg
  · simp only [execOp, ho, Bool.false_eq_true, if_false, e1, e2, Sem.run_bind, hg, Result.andThen_ok, run_eql_struct, hrun, Sem.run_pure]
  · simp only [execOp, ho, if_true, e1, e2, Sem.run_bind, hg, Result.andThen_ok, run_neq_struct, hrun, Sem.run_pure]

end
end Go.Ai
