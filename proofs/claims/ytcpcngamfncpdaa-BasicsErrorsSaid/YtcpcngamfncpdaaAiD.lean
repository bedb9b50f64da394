/- From the model's operations to the small language's, and that they agree: the operations without append, copy, make. Generic. -/
import Derived.Test.YtcpcngamfncpdaaAiC
set_option linter.unusedVariables false
namespace Go.Ai

def szOf (P : Program) (t : TypeId) : Option Nat := (P.info? t).map (·.size)
def byOf (P : Program) (t : TypeId) : Option Nat := (P.info? t).map (·.bytes)
def zeroOf (P : Program) (t : TypeId) : Option Value := (P.info? t).bind (·.zero)
def aggB : TypeDesc → Bool
  | .struct _ | .array _ _ => true
  | _ => false

section
variable {P : Program}
theorem run_size {t : TypeId} {n : Nat} (h : szOf P t = some n) (w : World) : (sizeOf t).run P w = .ok n w := by
  unfold szOf at h
  cases hi : P.info? t with
  | none => simp [hi] at h
  | some i => simp [hi] at h; simp [sizeOf, typeInfo, hi, h]
theorem run_zero {t : TypeId} {z : Value} (h : zeroOf P t = some z) (w : World) : (zeroValue t).run P w = .ok z w := by
  unfold zeroOf at h
  cases hi : P.info? t with
  | none => simp [hi] at h
  | some i => simp [hi] at h; simp [zeroValue, typeInfo, hi, h]
theorem run_agg {t : TypeId} {d : TypeDesc} (h : P.underlying t = some d) (w : World) : (isAgg t).run P w = .ok (aggB d) w := by
  simp only [isAgg, Sem.run_bind, run_underlying h, Result.andThen_ok]
  cases d <;> rfl

/-- an operation and its small form agree -/
def Snd (P : Program) (o : Oper) (x : XOp) : Prop := ∀ ρ h v h' φ w (a : Act), xop x ρ h = some (v, h') → HR φ h w → ER φ ρ a.tmps →
  ∃ φ' v' w' nx, (execOp a.eval o).run P w = .ok nx w' ∧ (nx = .value v' ∨ (nx = .skip ∧ v' = undef)) ∧ Stp φ h w φ' h' w' ∧ VR φ' v v'

/-- an operation that leaves the world alone -/
theorem Snd.of_pure {o : Oper} {x : XOp} (k : ∀ ρ h v h' φ w (a : Act), xop x ρ h = some (v, h') → HR φ h w → ER φ ρ a.tmps →
    h' = h ∧ ∃ v', (execOp a.eval o).run P w = .ok (.value v') w ∧ VR φ v v') : Snd P o x := by
  intro ρ h v h' φ w a hx hr he
  obtain ⟨rfl, v', h1, h2⟩ := k ρ h v h' φ w a hx hr he
  exact ⟨φ, v', w, _, h1, .inl rfl, Stp.refl hr, h2⟩

theorem snd_mv {o : Oper} {x : Operand} {y : XA} (ho : o.op = .move x ∨ o.op = .assign x) (hy : trA x = some y) : Snd P o (.mv y) := by
  refine Snd.of_pure fun ρ h v h' φ w a hx hr he => ?_
  simp only [xop, Option.map_eq_some_iff, Prod.mk.injEq] at hx
  obtain ⟨u, hu, rfl, rfl⟩ := hx
  refine ⟨rfl, a.eval x, ?_, ev_sound he hy hu⟩
  rcases ho with ho | ho <;> simp [execOp, ho]

theorem bool?_inv {v : Value} {t : Bool} (h : bool? v = some t) : v = .bool t := by cases v <;> simp_all [bool?]
theorem int?_inv {v : Value} {t : Int} (h : int? v = some t) : ∃ k, v = .int k t := by cases v <;> simp_all [int?]
theorem addr?_inv {v : Value} {t : Addr} (h : addr? v = some t) : v = .pointer (some t) := by
  cases v <;> simp [addr?] at h
  rename_i a; cases a <;> simp at h; subst h; rfl
theorem str?_inv {v : Value} {t : ByteArray} (h : str? v = some t) : v = .string t := by cases v <;> simp_all [str?]
theorem agg?_inv {v : Value} {t : List Value} (h : agg? v = some t) : v = .agg t.toArray := by
  cases v <;> simp [agg?] at h
  subst h; simp

theorem VR.bool_inv {φ : Phi} {b : Bool} {u : Value} (h : VR φ (.bool b) u) : u = .bool b := h.flat_eq rfl
theorem VR.int_inv {φ : Phi} {k : IntKind} {b : Int} {u : Value} (h : VR φ (.int k b) u) : u = .int k b := h.flat_eq rfl
theorem VR.ptr_inv {φ : Phi} {a : Addr} {u : Value} (h : VR φ (.pointer (some a)) u) : ∃ b, u = .pointer (some b) ∧ PR φ a b := by
  cases h with | ptr p => exact ⟨_, rfl, p⟩

theorem snd_pick {o : Oper} {c a' b' : Operand} {x y z : XA} (ho : o.op = .pick c a' b') (hx' : trA c = some x) (hy : trA a' = some y) (hz : trA b' = some z) : Snd P o (.pick x y z) := by
  refine Snd.of_pure fun ρ h v h' φ w a hx hr he => ?_
  simp only [xop, Option.bind_eq_some_iff, Option.map_eq_some_iff, Prod.mk.injEq] at hx
  obtain ⟨cv, hcv, t, ht, u, hu, rfl, rfl⟩ := hx
  have hc := ev_sound he hx' hcv
  rw [bool?_inv ht] at hc
  refine ⟨rfl, if t then a.eval a' else a.eval b', ?_, ?_⟩
  · simp only [execOp, ho, hc.bool_inv]; cases t <;> simp [asBool]
  · cases t
    · exact ev_sound he hz hu
    · exact ev_sound he hy hu

theorem snd_box {o : Oper} {t : TypeId} {x : Operand} {y : XA} (ho : o.op = .box t x) (hy : trA x = some y) : Snd P o (.box y) := by
  intro ρ h v h' φ w a hx hr he
  simp only [xop, Option.map_eq_some_iff, allocV, Prod.mk.injEq] at hx
  obtain ⟨u, hu, rfl, rfl⟩ := hx
  have hv := (ev_sound he hy hu).cellsR
  obtain ⟨φ', hs, hn⟩ := Stp.alloc hr (cellsL u) (a.eval x).cells t (fun i v h => by
    obtain ⟨b, hb, hvb⟩ := hv.get h
    rw [← cells_toList] at hb
    exact ⟨b, by simpa using hb, hvb⟩)
  refine ⟨φ', .pointer (some ⟨w.heap.size, 0, none⟩), _, _, ?_, .inl rfl, hs, .ptr ⟨rfl, _, _, _, hn, by simp⟩⟩
  simp [execOp, ho, Instr.box, newVar, newRow]

theorem snd_alloc {o : Oper} {t : TypeId} {z : Value} (ho : o.op = .alloc t) (hz : zeroOf P t = some z) (hf : (cellsL z).all flat = true) : Snd P o (.alloc (cellsL z)) := by
  intro ρ h v h' φ w a hx hr he
  simp only [xop, allocV, Option.some.injEq, Prod.mk.injEq] at hx
  obtain ⟨rfl, rfl⟩ := hx
  obtain ⟨φ', hs, hn⟩ := Stp.alloc hr (cellsL z) z.cells t (fun i v h => by
    have := (LR.of_flat φ hf).get h
    obtain ⟨b, hb, hvb⟩ := this
    rw [← cells_toList] at hb
    exact ⟨b, by simpa using hb, hvb⟩)
  refine ⟨φ', .pointer (some ⟨w.heap.size, 0, none⟩), _, _, ?_, .inl rfl, hs, .ptr ⟨rfl, _, _, _, hn, by simp⟩⟩
  simp [execOp, ho, Instr.alloc, run_zero hz, newVar, newRow]

theorem load1V_sound {φ : Phi} {h : AHeap} {w : World} (hr : HR φ h w) {ad b : Addr} {v : Value} (hl : load1V h ad = some v) (hp : PR φ ad b) : ∃ u, w.cell? b = some u ∧ VR φ v u := by
  unfold load1V at hl
  split at hl
  · cases hl
  · simp only [Option.bind_eq_some_iff] at hl
    obtain ⟨cs, hcs, hv⟩ := hl
    obtain ⟨B, s, n, h1, h2⟩ := hr.read hcs
    obtain ⟨_, B', s', n', h3, rfl⟩ := hp
    rw [h1] at h3; cases h3
    exact h2 _ v hv

theorem loadV_sound {φ : Phi} {h : AHeap} {w : World} (hr : HR φ h w) {ad b : Addr} {n : Nat} {l : List Value} (hl : loadV h ad n = some l) (hp : PR φ ad b) :
    ∃ l', LR φ l l' ∧ l'.length = n ∧ ∀ (j : Nat) (v : Value), l'[j]? = some v → w.cell? (b.add j) = some v := by
  unfold loadV at hl
  split at hl
  · cases hl
  · simp only [Option.bind_eq_some_iff] at hl
    obtain ⟨cs, hcs, hv⟩ := hl
    obtain ⟨B, s, m, h1, h2⟩ := hr.read hcs
    obtain ⟨_, B', s', n', h3, rfl⟩ := hp
    rw [h1] at h3; cases h3
    have hlen := getN_len hv
    have key : ∀ i, i < n → ∃ u, w.cell? ⟨B, s + ad.off + i, none⟩ = some u ∧ ∀ v, l[i]? = some v → VR φ v u := by
      intro i hi
      have hg : l[i]? = some l[i] := List.getElem?_eq_getElem (by omega)
      obtain ⟨u, hu, hvu⟩ := h2 _ _ (getN_get hv hg)
      refine ⟨u, by rw [← hu]; congr 2; omega, fun v hv' => ?_⟩
      rw [hg] at hv'; cases hv'; exact hvu
    let l' := (List.range n).map fun i => ((w.cell? ⟨B, s + ad.off + i, none⟩).getD undef)
    refine ⟨l', ⟨by simp [l', hlen], fun i x y hx hy => ?_⟩, by simp [l'], fun j v hj => ?_⟩
    · have hi : i < n := by rw [← hlen]; exact (List.getElem?_eq_some_iff.1 hx).1
      obtain ⟨u, hu, hvu⟩ := key i hi
      simp [l', hi, hu] at hy
      subst hy; exact hvu x hx
    · have hi : j < n := by have := (List.getElem?_eq_some_iff.1 hj).1; simpa [l'] using this
      obtain ⟨u, hu, hvu⟩ := key j hi
      simp [l', hi, hu] at hj
      subst hj
      rw [Addr_add_lit _ _ rfl]; exact hu

theorem snd_load1 {o : Oper} {t : TypeId} {x : Operand} {y : XA} {d : TypeDesc} (ho : o.op = .load t x) (hy : trA x = some y) (hd : P.underlying t = some d) (hb : aggB d = false) : Snd P o (.load1 y) := by
  refine Snd.of_pure fun ρ h v h' φ w a hx hr he => ?_
  simp only [xop, Option.bind_eq_some_iff, Option.map_eq_some_iff, Prod.mk.injEq] at hx
  obtain ⟨u, hu, ad, had, v', hl, rfl, rfl⟩ := hx
  have hv := ev_sound he hy hu
  rw [addr?_inv had] at hv
  obtain ⟨b, hb', hp⟩ := hv.ptr_inv
  obtain ⟨u', h1, h2⟩ := load1V_sound hr hl hp
  refine ⟨rfl, u', ?_, h2⟩
  simp [execOp, ho, hb', Instr.loadAt, Instr.sureAddr, loadVar, run_agg hd, hb, h1]

theorem snd_loadN {o : Oper} {t : TypeId} {x : Operand} {y : XA} {d : TypeDesc} {n : Nat} (ho : o.op = .load t x) (hy : trA x = some y) (hd : P.underlying t = some d) (hb : aggB d = true) (hn : szOf P t = some n) : Snd P o (.loadN n y) := by
  refine Snd.of_pure fun ρ h v h' φ w a hx hr he => ?_
  simp only [xop, Option.bind_eq_some_iff, Option.map_eq_some_iff, Prod.mk.injEq] at hx
  obtain ⟨u, hu, ad, had, l, hl, rfl, rfl⟩ := hx
  have hv := ev_sound he hy hu
  rw [addr?_inv had] at hv
  obtain ⟨b, hb', hp⟩ := hv.ptr_inv
  obtain ⟨l', h1, h2, h3⟩ := loadV_sound hr hl hp
  refine ⟨rfl, .agg l'.toArray, ?_, VR.aggL h1⟩
  have := run_loadCells_list (P := P) w b l' h3
  rw [h2] at this
  simp [execOp, ho, hb', Instr.loadAt, Instr.sureAddr, loadVar, run_agg hd, hb, run_size hn, this]

theorem VR.oneC {φ : Phi} {v u : Value} (h : VR φ v u) : u.oneCell' = v.oneCell' := by cases h <;> rfl
theorem LR.oneC {φ : Phi} {l l' : List Value} (h : LR φ l l') (hl : l.all Ai.oneC = true) : ∀ v ∈ l', v.oneCell' = true := by
  intro v hv
  obtain ⟨i, hi⟩ := List.mem_iff_getElem?.1 hv
  have hlt : i < l.length := by rw [h.1]; exact (List.getElem?_eq_some_iff.1 hi).1
  have := h.2 i l[i] v (List.getElem?_eq_getElem hlt) hi
  rw [this.oneC]
  exact List.all_eq_true.1 hl _ (List.getElem_mem hlt)

/-- writing a list of cells -/
theorem storeV_sound {φ : Phi} {h h' : AHeap} {w : World} (hr : HR φ h w) {ad b : Addr} {vs us : List Value} (hs : storeV h ad vs = some h') (hp : PR φ ad b) (hl : LR φ vs us) :
    ∃ w', (storeCells b us).run P w = .ok () w' ∧ Stp φ h w φ h' w' := by
  unfold storeV at hs
  split at hs
  · cases hs
  · split at hs
    · rename_i o ho
      split at hs
      · rename_i hc
        obtain ⟨h1, h2, h3⟩ := hc
        cases hs
        obtain ⟨B, s, n, cs, T, fz, e1, e2, e3, e4, e5⟩ := hr.obj _ o ho
        have := e5 h1; subst this
        obtain ⟨_, B', s', n', e6, rfl⟩ := hp
        rw [e1] at e6; cases e6
        have hlen : us.length = vs.length := hl.1.symm
        have hin : o.cells.length ≤ n := by
          rcases Nat.lt_or_ge n o.cells.length with hlt | hge
          · obtain ⟨u, hu, _⟩ := e4 n _ (List.getElem?_eq_getElem hlt)
            have := (Array.getElem?_eq_some_iff.1 hu).1
            omega
          · exact hge
        have hrun := run_storeCells_at (P := P) B (s + ad.off) T us 0 cs w e2 (by omega) (hl.oneC h2)
        refine ⟨_, hrun, Stp.row hr ho h1 e1 e2 e3 _ ?_ _ ?_⟩
        · simp only [List.size_toArray, List.length_append, List.length_take, List.length_drop, Array.length_toList]; omega
        · intro i v hv
          rw [setN_eq _ _ _ h3] at hv
          simp only [List.getElem?_toArray]
          rw [List.getElem?_append] at hv ⊢
          rw [List.getElem?_append] at hv ⊢
          simp only [List.length_append, List.length_take, Array.length_toList] at hv ⊢
          have m1 : min ad.off o.cells.length = ad.off := by omega
          have m2 : min (s + ad.off + 0) cs.size = s + ad.off := by omega
          rw [m1] at hv; rw [m2]
          by_cases c1 : i < ad.off + vs.length
          · rw [if_pos c1] at hv
            rw [if_pos (by omega)]
            by_cases c2 : i < ad.off
            · rw [if_pos c2, List.getElem?_take, if_pos c2] at hv
              rw [if_pos (by omega), List.getElem?_take, if_pos (by omega)]
              obtain ⟨u, hu, hvu⟩ := e4 i v hv
              exact ⟨u, by simpa using hu, hvu⟩
            · rw [if_neg c2] at hv
              rw [if_neg (by omega)]
              obtain ⟨u, hu, hvu⟩ := hl.get hv
              exact ⟨u, by rw [← hu]; congr 1; omega, hvu⟩
          · rw [if_neg c1, List.getElem?_drop] at hv
            rw [if_neg (by omega), List.getElem?_drop]
            obtain ⟨u, hu, hvu⟩ := e4 _ v hv
            refine ⟨u, ?_, hvu⟩
            rw [Array.getElem?_toList, ← hu]; congr 1; omega
      · cases hs
    · cases hs

theorem snd_store {o : Oper} {t : TypeId} {x z : Operand} {y u : XA} {n : Nat} (ho : o.op = .store t x z) (hy : trA x = some y) (hz : trA z = some u) (hn : szOf P t = some n) : Snd P o (.store n y u) := by
  intro ρ h v h' φ w a hx hr he
  simp only [xop, Option.bind_eq_some_iff] at hx
  obtain ⟨pv, hpv, ad, had, sv, hsv, hx⟩ := hx
  split at hx
  · rename_i hlen
    simp only [Option.map_eq_some_iff, Prod.mk.injEq] at hx
    obtain ⟨h1, hst, rfl, rfl⟩ := hx
    have hv := ev_sound he hy hpv
    rw [addr?_inv had] at hv
    obtain ⟨b, hb', hp⟩ := hv.ptr_inv
    have hc := (ev_sound he hz hsv).cellsR
    obtain ⟨w', hrun, hstp⟩ := storeV_sound (P := P) hr hst hp hc
    refine ⟨φ, undef, w', .skip, ?_, .inr ⟨rfl, rfl⟩, hstp, VR.undef φ⟩
    have e1 : (a.eval z).cells.size = n := by
      rw [← Array.length_toList, cells_toList, ← hc.1, hlen]
    rw [← cells_toList] at hrun
    simp [execOp, ho, hb', Instr.storeAt, Instr.sureAddr, storeVar, run_size hn, e1, hrun]
  · cases hx

theorem snd_nilck {o : Oper} {x : Operand} {y : XA} (ho : o.op = .nilCheck x) (hy : trA x = some y) : Snd P o (.nilck y) := by
  refine Snd.of_pure fun ρ h v h' φ w a hx hr he => ?_
  simp only [xop, Option.bind_eq_some_iff, Option.map_eq_some_iff, Prod.mk.injEq] at hx
  obtain ⟨u, hu, ad, had, rfl, rfl⟩ := hx
  have hv := ev_sound he hy hu
  have e := addr?_inv had
  subst e
  obtain ⟨b, hb', hp⟩ := hv.ptr_inv
  exact ⟨rfl, .pointer (some b), by simp [execOp, ho, hb'], .ptr hp⟩

theorem snd_faddr {o : Oper} {t : TypeId} {k : Nat} {x : Operand} {y : XA} {fs : Array Field} {f : Field} {n : Nat} (ho : o.op = .fieldAddr t x k) (hy : trA x = some y)
    (hd : P.underlying t = some (.struct fs)) (hf : fs[k]? = some f) (hn : szOf P f.type = some n) (h0 : n ≠ 0) : Snd P o (.faddr f.offset y) := by
  refine Snd.of_pure fun ρ h v h' φ w a hx hr he => ?_
  simp only [xop, Option.bind_eq_some_iff] at hx
  obtain ⟨u, hu, ad, had, hx⟩ := hx
  split at hx
  · cases hx
  · simp only [Option.some.injEq, Prod.mk.injEq] at hx
    obtain ⟨rfl, rfl⟩ := hx
    have hv := ev_sound he hy hu
    rw [addr?_inv had] at hv
    obtain ⟨b, hb', hp⟩ := hv.ptr_inv
    obtain ⟨hs, B, s, m, h1, rfl⟩ := hp
    refine ⟨rfl, .pointer (some ⟨B, s + (ad.off + f.offset), none⟩), ?_, .ptr ⟨rfl, B, s, m, h1, rfl⟩⟩
    simp only [execOp, ho, hb', Instr.fieldAt, Instr.sureAddr, fieldPlace, Sem.run_bind, run_underlying hd, Result.andThen_ok, hf, Sem.run_pure, run_size hn, h0, if_false, Sem.run_ite]
    rw [Addr_add_lit _ _ rfl]
    simp [Nat.add_assoc]

theorem snd_iaddr {o : Oper} {t e : TypeId} {x i : Operand} {y j : XA} {n : Nat} (ho : o.op = .indexAddr t x i) (hy : trA x = some y) (hj : trA i = some j)
    (hd : P.underlying t = some (.slice e)) (hn : szOf P e = some n) : Snd P o (.iaddr n y j) := by
  refine Snd.of_pure fun ρ h v h' φ w a hx hr he => ?_
  simp only [xop, Option.bind_eq_some_iff] at hx
  obtain ⟨sv, hsv, iv, hiv, iz, hiz, hx⟩ := hx
  obtain ⟨k, rfl⟩ := int?_inv hiz
  have hi := (ev_sound he hj hiv).int_inv
  have hs := ev_sound he hy hsv
  split at hx
  · rename_i ad l c
    split at hx
    · rename_i hc
      obtain ⟨c1, c2, c3⟩ := hc
      simp only [Option.some.injEq, Prod.mk.injEq] at hx
      obtain ⟨rfl, rfl⟩ := hx
      cases hv : a.eval x <;> rw [hv] at hs <;> cases hs
      rename_i b hp hcap
      have hp' : PR φ ad b := by
        rcases hp with ⟨h0, _⟩ | hp
        · omega
        · exact hp
      obtain ⟨_, B, s, m, h1, rfl⟩ := hp'
      refine ⟨rfl, .pointer (some ⟨B, s + (ad.off + iz.toNat * n), none⟩), ?_, .ptr ⟨rfl, B, s, m, h1, rfl⟩⟩
      simp only [execOp, ho, hv, hi, Instr.indexAt, asIntOf, Sem.run_bind, run_underlying hd, Result.andThen_ok, Sem.run_pure, run_size hn, c1, c2, and_self, if_true, Sem.run_ite]
      rw [Addr_add_lit _ _ rfl]
      simp [Nat.add_assoc]
    · cases hx
  · cases hx

end
end Go.Ai
