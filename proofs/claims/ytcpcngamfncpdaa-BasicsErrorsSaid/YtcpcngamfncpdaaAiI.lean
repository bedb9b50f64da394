/- The operations' laws, seventh part: slicing of strings and arrays, struct and slice literals, struct equality. Generic. -/
import Derived.Test.YtcpcngamfncpdaaAiH
set_option linter.unusedVariables false
namespace Go.Ai
section
variable {P : Program}

theorem snd_sliceS {o : Oper} {t : TypeId} {x : Operand} {lo hi : Option Operand} {y : XA} {lo' hi' : Option XA} (ho : o.op = .slice t x lo hi none) (hy : trA x = some y)
    (h1 : trO lo = some lo') (h2 : trO hi = some hi') (hd : P.underlying t = some .string) : Snd P o (.sliceS y lo' hi') := by
  refine Snd.of_pure fun ρ h v h' φ w a hx hr he => ?_
  simp only [xop, Option.bind_eq_some_iff, Option.map_eq_some_iff, Prod.mk.injEq] at hx
  obtain ⟨u, hu, s, hs, hh, hhh, ll, hll, rfl, rfl⟩ := hx
  have hv := ev_sound he hy hu
  rw [str?_inv hs] at hv
  have hq : a.eval x = .string s := hv.flat_eq rfl
  have hb := (bounds_sound (P := P) (sl := false) (mx := none) (mx' := none) he h1 h2 rfl rfl hhh hll (by simp) w).resolve_right (fun h => h.2)
  refine ⟨rfl, _, ?_, .string _⟩
  have hb1 := hb.1
  simp only [Option.map_none] at hb1
  simp [execOp, ho, Instr.sliceAt, Instr.slice, run_underlying hd, hq, hb1]

theorem snd_sliceA {o : Oper} {t e : TypeId} {x : Operand} {lo hi mx : Option Operand} {y : XA} {lo' hi' mx' : Option XA} {n len : Nat} (ho : o.op = .slice t x lo hi mx) (hy : trA x = some y)
    (h1 : trO lo = some lo') (h2 : trO hi = some hi') (h3 : trO mx = some mx') (hd : P.underlying t = some (.array len e)) (hn : szOf P e = some n) : Snd P o (.sliceA len n y lo' hi' mx') := by
  refine Snd.of_pure fun ρ h v h' φ w a hx hr he => ?_
  simp only [xop, Option.bind_eq_some_iff] at hx
  obtain ⟨u, hu, ad, had, m, hm, hh, hhh, ll, hll, hx⟩ := hx
  split at hx
  · cases hx
  · rename_i hno
    simp only [not_or, ne_eq, Decidable.not_not] at hno
    simp only [Option.some.injEq, Prod.mk.injEq] at hx
    obtain ⟨rfl, rfl⟩ := hx
    have hv := ev_sound he hy hu
    rw [addr?_inv had] at hv
    obtain ⟨b, hb', hp⟩ := hv.ptr_inv
    have hb := (bounds_sound (P := P) (sl := false) he h1 h2 h3 hm hhh hll hno.2.1 w).resolve_right (fun h => h.2)
    have lem : m ≤ len := bnd_le (Nat.le_refl _) hm
    have hmu : m - ll < unk := Nat.lt_of_le_of_lt (Nat.le_trans (Nat.sub_le _ _) lem) (Nat.lt_of_not_le hno.2.2)
    refine ⟨rfl, .slice (if m = ll then some b else (some b).map (·.add (ll * n))) (hh - ll) (m - ll), ?_, cut_sound (l := 1) (c' := 1) (.inr hp) hno.1 (by omega) (by omega) (capR_known hmu)⟩
    simp [execOp, ho, Instr.sliceAt, Instr.sureAddr, run_underlying hd, hb', hb.1, run_size hn]
    split <;> rfl

/-- parts of a literal -/
def trParts (off : Nat → Option (Nat × Nat)) : List (Nat × Operand) → Option (List (Nat × Nat × XA))
  | [] => some []
  | (i, x) :: r => (off i).bind fun (o, n) => (trA x).bind fun x' => (trParts off r).map ((o, n, x') :: ·)

theorem foldl_setN (vs : List Value) : ∀ (c : Array Value) (off k : Nat), ((vs.zipIdx k).foldl (fun (cs : Array Value) (p : Value × Nat) => cs.setIfInBounds (off + p.2) p.1) c).toList = setN c.toList (off + k) vs := by
  induction vs with
  | nil => intro c off k; rfl
  | cons v r ih =>
    intro c off k
    simp only [List.zipIdx_cons, List.foldl_cons, ih, setN]
    simp [Nat.add_assoc]

theorem fill_sound {φ : Phi} {ρ : Env} {a : Act} (he : ER φ ρ a.tmps) (place : Nat → Option (Nat × Nat)) : ∀ (ps : List (Nat × Operand)) (ps' : List (Nat × Nat × XA)) (vs : List (Nat × Nat × Value)) (z l : List Value) (c : Array Value),
    trParts place ps = some ps' → evParts ρ ps' = some vs → fillL z vs = some l → LR φ z c.toList →
    ∃ c' : Array Value, Instr.fill place c (ps.map fun (i, x) => (i, a.eval x)) = some c' ∧ LR φ l c'.toList
  | [], ps', vs, z, l, c, h1, h2, h3, h4 => by
    simp [trParts] at h1; subst h1; simp [evParts] at h2; subst h2; simp [fillL] at h3; subst h3
    exact ⟨c, rfl, h4⟩
  | (i, x) :: r, ps', vs, z, l, c, h1, h2, h3, h4 => by
    simp only [trParts, Option.bind_eq_some_iff, Option.map_eq_some_iff] at h1
    obtain ⟨⟨o, n⟩, hp, x', hx', r', hr', rfl⟩ := h1
    simp only [evParts, Option.bind_eq_some_iff, Option.map_eq_some_iff] at h2
    obtain ⟨v, hv, vs', hvs, rfl⟩ := h2
    simp only [fillL] at h3
    split at h3
    · rename_i hc
      have hvx := (ev_sound he hx' hv).cellsR
      have e1 : (a.eval x).cells.size = n := by rw [← Array.length_toList, cells_toList, ← hvx.1, hc.1]
      have e2 : c.size = z.length := by rw [← Array.length_toList, h4.1]
      have hL : ∀ (vs us : List Value) (l l' : List Value) (k : Nat), LR φ vs us → LR φ l l' → LR φ (setN l k vs) (setN l' k us) := by
        intro vs
        induction vs with
        | nil => intro us l l' k hv hl; rw [hv.nil_inv]; exact hl
        | cons v r ih =>
          intro us l l' k hv hl
          obtain ⟨u, r', rfl, h1, h2⟩ := hv.head
          exact ih r' _ _ _ h2 (hl.set k h1)
      have hset : LR φ (setN z o (cellsL v)) (((a.eval x).cells.zipIdx.foldl (fun (cs : Array Value) (p : Value × Nat) => cs.setIfInBounds (o + p.2) p.1) c)).toList := by
        have e := foldl_setN (a.eval x).cells.toList c o 0
        have e2 : (a.eval x).cells.zipIdx.foldl (fun (cs : Array Value) (p : Value × Nat) => cs.setIfInBounds (o + p.2) p.1) c = (((a.eval x).cells.toList.zipIdx 0).foldl (fun (cs : Array Value) (p : Value × Nat) => cs.setIfInBounds (o + p.2) p.1) c) := by
          rw [← Array.foldl_toList]; simp
        rw [e2, e]
        simp only [Nat.add_zero, cells_toList]
        exact hL _ _ _ _ _ hvx h4
      obtain ⟨c', hc', hl'⟩ := fill_sound he place r r' vs' _ l _ hr' hvs h3 hset
      refine ⟨c', ?_, hl'⟩
      simp only [List.map_cons, Instr.fill, hp]
      have hcond : (decide ((a.eval x).cells.size ≠ n) || decide (o + (a.eval x).cells.size > c.size)) = false := by
        have := hc.2
        simp [e1, e2]; omega
      rw [hcond]
      exact hc'
    · cases h3

theorem zeroOf_inv {t : TypeId} {z : Value} (h : zeroOf P t = some z) : ∃ it, P.info? t = some it ∧ it.zero = some z := by
  unfold zeroOf at h
  cases hi : P.info? t with
  | none => simp [hi] at h
  | some i => simp [hi] at h; exact ⟨i, rfl, h⟩
theorem szOf_inv {t : TypeId} {n : Nat} (h : szOf P t = some n) : ∃ it, P.info? t = some it ∧ it.size = n := by
  unfold szOf at h
  cases hi : P.info? t with
  | none => simp [hi] at h
  | some i => simp [hi] at h; exact ⟨i, rfl, h⟩

def places (P : Program) (fs : Array Field) : Option (List (Nat × Nat)) := fs.toList.mapM (fun f => (P.info? f.type).map fun i => (f.offset, i.size))

theorem snd_build {o : Oper} {t : TypeId} {ps : Array (Nat × Operand)} {ps' : List (Nat × Nat × XA)} {z : Value} {place : Nat → Option (Nat × Nat)} (ho : o.op = .build t ps)
    (hb : ∀ parts cells, Instr.fill place z.cells parts = some cells → P.built t parts = some cells) (hf : (cellsL z).all flat = true) (hp : trParts place ps.toList = some ps') : Snd P o (.build (cellsL z) ps') := by
  refine Snd.of_pure fun ρ h v h' φ w a hx hr he => ?_
  simp only [xop, Option.bind_eq_some_iff, Option.map_eq_some_iff, Prod.mk.injEq] at hx
  obtain ⟨vs, hvs, l, hl, rfl, rfl⟩ := hx
  have hz0 : LR φ (cellsL z) z.cells.toList := by rw [cells_toList]; exact LR.of_flat φ hf
  obtain ⟨c', hc', hL⟩ := fill_sound he _ _ _ _ _ _ _ hp hvs hl hz0
  refine ⟨rfl, .agg c', ?_, ?_⟩
  · have hr' := run_build (P := P) w t (ps.map fun (i, x) => (i, a.eval x)) c' (hb _ _ (by simpa using hc'))
    simp only [execOp, ho, Sem.run_bind, hr', Result.andThen_ok]; rfl
  · have := VR.aggL hL; simpa using this

theorem built_struct {t : TypeId} {z : Value} {fs : Array Field} {pl : List (Nat × Nat)} (hz : zeroOf P t = some z) (hd : P.underlying t = some (.struct fs)) (hpl : places P fs = some pl) :
    ∀ parts cells, Instr.fill (pl.toArray[·]?) z.cells parts = some cells → P.built t parts = some cells := by
  intro parts cells hf
  obtain ⟨it, h1, h2⟩ := zeroOf_inv hz
  unfold places at hpl
  unfold Program.built
  rw [h1, hd]
  simp only [h2, hpl]
  exact hf

theorem built_array {t e : TypeId} {z : Value} {n len : Nat} (hz : zeroOf P t = some z) (hd : P.underlying t = some (.array len e)) (hn : szOf P e = some n) :
    ∀ parts cells, Instr.fill (fun i => some (i * n, n)) z.cells parts = some cells → P.built t parts = some cells := by
  intro parts cells hf
  obtain ⟨it, h1, h2⟩ := zeroOf_inv hz
  obtain ⟨ie, h3, h4⟩ := szOf_inv hn
  unfold Program.built
  rw [h1, hd]
  simp only [h2, h3, h4]
  exact hf

/-- n elements of zero -/
def zeros (z : List Value) (n : Nat) : List Value := (List.replicate n z).flatten

theorem zeros_get (z : List Value) (n i : Nat) (hz : z ≠ []) : (zeros z n)[i]? = if i < n * z.length then z[i % z.length]? else none := by
  have hp : 0 < z.length := List.length_pos_iff.2 hz
  induction n generalizing i with
  | zero => simp [zeros]
  | succ n ih =>
    unfold zeros at ih ⊢
    rw [List.replicate_succ, List.flatten_cons, List.getElem?_append]
    split
    · rename_i h
      rw [if_pos (by rw [Nat.add_mul]; omega), Nat.mod_eq_of_lt h]
    · rename_i h
      rw [ih]
      have e : i % z.length = (i - z.length) % z.length := by
        conv => lhs; rw [← Nat.sub_add_cancel (Nat.le_of_not_lt h)]
        simp
      rw [e]
      have : (i - z.length < n * z.length) ↔ (i < (n + 1) * z.length) := by rw [Nat.add_mul]; omega
      simp only [this]
theorem zeros_len (z : List Value) (n : Nat) : (zeros z n).length = n * z.length := by simp [zeros]

theorem range_zeros (z : Array Value) (n : Nat) (hz : 0 < z.size) : ((Array.range (n * z.size)).map (fun i => z[i % z.size]!)).toList = zeros z.toList n := by
  apply List.ext_getElem?
  intro i
  rw [zeros_get _ _ _ (by intro h; simp at h; subst h; simp at hz)]
  simp only [Array.toList_map, Array.toList_range, List.getElem?_map, Array.length_toList]
  split
  · rename_i h
    have hlt : i % z.size < z.size := Nat.mod_lt _ hz
    simp [List.getElem?_range h, hlt]
  · rename_i h
    simp; omega

theorem snd_bslice {o : Oper} {t e : TypeId} {len n : Nat} {ps : Array (Nat × Operand)} {ps' : List (Nat × Nat × XA)} {z : Value} (ho : o.op = .buildSlice t len ps)
    (hd : P.underlying t = some (.slice e)) (hz : zeroOf P e = some z) (hn : szOf P e = some n) (hzn : (cellsL z).length = n) (hpos : 0 < n) (hsm : len * n ≤ 2 ^ 24) (hlu : len < unk) (hf : (cellsL z).all flat = true)
    (hp : trParts (fun i => some (i * n, n)) ps.toList = some ps') : Snd P o (.bslice len (zeros (cellsL z) len) ps') := by
  intro ρ h v h' φ w a hx hr he
  simp only [xop, Option.bind_eq_some_iff, Option.map_eq_some_iff, Prod.mk.injEq] at hx
  obtain ⟨vs, hvs, l, hl, rfl, rfl⟩ := hx
  have hzc : z.cells.size = n := by rw [← Array.length_toList, cells_toList, hzn]
  have hz0 : LR φ (zeros (cellsL z) len) ((Array.range (len * n)).map (fun i => z.cells[i % z.cells.size]!)).toList := by
    have := range_zeros z.cells len (by omega)
    rw [hzc] at this
    rw [hzc, this, cells_toList]
    refine LR.of_flat φ ?_
    rw [List.all_eq_true]
    intro x hx
    simp only [zeros, List.mem_flatten, List.mem_replicate] at hx
    obtain ⟨m, ⟨_, rfl⟩, hm⟩ := hx
    exact List.all_eq_true.1 hf x hm
  obtain ⟨c', hc', hL⟩ := fill_sound he _ _ _ _ _ _ _ hp hvs hl hz0
  obtain ⟨φ', hs, hnew⟩ := Stp.alloc hr l c' e (fun i v h => by
    obtain ⟨b, hb, hvb⟩ := hL.get h
    exact ⟨b, by simpa using hb, hvb⟩)
  refine ⟨φ', .slice (some ⟨w.heap.size, 0, none⟩) len len, _, _, ?_, .inl rfl, hs, .slice (.inr ⟨rfl, _, _, _, hnew, by simp⟩) (capR_known hlu)⟩
  have hno : ¬ (len * n > 2 ^ 24) := by omega
  have hfill : Instr.fill (fun i => some (i * n, n)) ((Array.range (len * n)).map (fun i => z.cells[i % z.cells.size]!)) (ps.map fun (i, x) => (i, a.eval x)).toList = some c' := by simpa using hc'
  simp only [execOp, ho, Instr.buildSlice, Sem.run_bind, run_underlying hd, Result.andThen_ok, run_size hn, Sem.run_ite, hno, if_false]
  by_cases h0 : len * n = 0
  · have e0 : ∀ f : Nat → Value, (Array.range (len * n)).map f = #[] := fun f => Array.eq_empty_of_size_eq_zero (by simp [h0])
    rw [e0] at hfill
    simp only [h0, if_true, Sem.run_pure, Result.andThen_ok]
    rw [h0] at e0
    simp only [e0, hfill]
    simp [newRow]
  · simp only [h0, if_false, Sem.run_bind, run_zero hz, Result.andThen_ok, Sem.run_pure, hfill]
    simp [newRow]
end
end Go.Ai
