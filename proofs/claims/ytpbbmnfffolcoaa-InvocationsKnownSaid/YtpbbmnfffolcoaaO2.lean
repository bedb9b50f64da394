import Derived.Test.YtpbbmnfffolcoaaO1
import Derived.Test.YtpbbmnfffolcoaaDB
set_option linter.unusedVariables false
set_option linter.unusedSimpArgs false
namespace Go.Proofs.Ytpbbmnfffolcoaa
open Go Go.Ai Go.Proofs

def bV (l : List Bool) : List Value := l.map Value.bool
def iV (l : List Int) : List Value := l.map fun x => Value.int .i64 x
def sV (l : List ByteArray) : List Value := l.map Value.string
theorem bV_get {l : List Bool} {i : Nat} {x : Bool} (h : l[i]? = some x) : (bV l)[i]? = some (.bool x) := by simp [bV, h]
theorem iV_get {l : List Int} {i : Nat} {x : Int} (h : l[i]? = some x) : (iV l)[i]? = some (.int .i64 x) := by simp [iV, h]
theorem sV_get {l : List ByteArray} {i : Nat} {x : ByteArray} (h : l[i]? = some x) : (sV l)[i]? = some (.string x) := by simp [sV, h]
theorem bV_set (l : List Bool) (i : Nat) (x : Bool) : (bV l).set i (.bool x) = bV (l.set i x) := by simp [bV, List.map_set]
theorem iV_set (l : List Int) (i : Nat) (x : Int) : (iV l).set i (.int .i64 x) = iV (l.set i x) := by simp [iV, List.map_set]
theorem sV_set (l : List ByteArray) (i : Nat) (x : ByteArray) : (sV l).set i (.string x) = sV (l.set i x) := by simp [sV, List.map_set]
theorem bV_len (l : List Bool) : (bV l).length = l.length := by simp [bV]
theorem iV_len (l : List Int) : (iV l).length = l.length := by simp [iV]
theorem sV_len (l : List ByteArray) : (sV l).length = l.length := by simp [sV]
theorem bOf_inj {s t : ByteArray} (h : bOf s = bOf t) : s = t := by
  unfold bOf at h
  obtain ⟨⟨a⟩⟩ := s
  obtain ⟨⟨c⟩⟩ := t
  simp only at h
  have : a = c := by
    have hi : Function.Injective UInt8.toNat := fun x y e => UInt8.toNat_inj.1 e
    exact (List.map_inj_right fun x y e => hi e).1 h
  rw [this]
theorem bOf_lt (s : ByteArray) : ∀ n ∈ bOf s, n < 256 := by
  unfold bOf
  intro n hn
  obtain ⟨x, hx, rfl⟩ := List.mem_map.1 hn
  exact x.toNat_lt
theorem str_of (t : ByteArray) : bytesOf (bN (bOf t)) = some t := by
  obtain ⟨s, h1, h2⟩ := bytes_str (bOf_lt t)
  rw [h1, bOf_inj h2]
theorem getN4 {l : List Value} {o : Nat} {a b c d : Value} (h : getN l o 4 = some [a, b, c, d]) : l[o]? = some a ∧ l[o + 1]? = some b ∧ l[o + 2]? = some c ∧ l[o + 3]? = some d := by
  obtain ⟨h1, h2⟩ := (getN_eq _ _ _ _).1 h
  have g : ∀ j, j < 4 → l[o + j]? = [a, b, c, d][j]? := fun j hj => by
    rw [h2, List.getElem?_take, if_pos hj, List.getElem?_drop]
  exact ⟨g 0 (by decide), g 1 (by decide), g 2 (by decide), g 3 (by decide)⟩
/-- the book and the law's three lists -/
structure OS (h0 h : AHeap) (R O L H : Nat) (A : List Bool) (F : List Int) (S : List ByteArray) (b : Bk) (dv : Value) : Prop where
  kp : Kp h0 h
  bk : ∃ rs, BkAt h R b rs dv
  far : ∀ X, ftB R dv X → h0.length ≤ X ∧ X ≠ O ∧ X ≠ L ∧ X ≠ H
  oo : h[O]? = some (some ⟨true, bV A⟩)
  ll : h[L]? = some (some ⟨true, iV F⟩)
  hh : h[H]? = some (some ⟨true, sV S⟩)
  ne : O ≠ L ∧ O ≠ H ∧ L ≠ H
  fa : h0.length ≤ O ∧ h0.length ≤ L ∧ h0.length ≤ H
/-- an object beside them -/
structure OT (h : AHeap) (R O L H T : Nat) (dv : Value) (tc : List Value) : Prop where
  get : h[T]? = some (some ⟨true, tc⟩)
  f : ¬ ftB R dv T
  a : T ≠ O ∧ T ≠ L ∧ T ≠ H
section
variable {h0 h h' : AHeap} {R O L H T : Nat} {A A' : List Bool} {F F' : List Int} {S S' : List ByteArray} {b b' : Bk} {dv : Value} {tc : List Value}
theorem OS.keep (s : OS h0 h R O L H A F S b dv) (K : Kp h h') : OS h0 h' R O L H A F S b dv := by
  obtain ⟨rs, B⟩ := s.bk
  exact ⟨s.kp.trans K, ⟨rs, B.kp K⟩, s.far, K.get s.oo, K.get s.ll, K.get s.hh, s.ne, s.fa⟩
theorem OT.keep (t : OT h R O L H T dv tc) (K : Kp h h') : OT h' R O L H T dv tc := ⟨K.get t.get, t.f, t.a⟩
/-- the book goes on -/
theorem OS.book (s : OS h0 h R O L H A F S b dv) (W : WentB h h' R b' dv) : ∃ dv', OS h0 h' R O L H A F S b' dv' ∧ ∀ T tc, OT h R O L H T dv tc → OT h' R O L H T dv' tc := by
  obtain ⟨rs', dv', B', Fr1, n⟩ := W
  have lo := lt_of_get s.oo
  have ll := lt_of_get s.ll
  have lh := lt_of_get s.hh
  have no : ¬ ftB R dv O := fun e => (s.far O e).2.1 rfl
  have nl : ¬ ftB R dv L := fun e => (s.far L e).2.2.1 rfl
  have nh : ¬ ftB R dv H := fun e => (s.far H e).2.2.2 rfl
  have k0 := s.kp.1
  refine ⟨dv', ⟨⟨Nat.le_trans k0 Fr1.1, fun X hX => ?_⟩, ⟨rs', B'⟩, fun X hX => ?_, Fr1.get s.oo no, Fr1.get s.ll nl, Fr1.get s.hh nh, s.ne, s.fa⟩, fun T tc t => ⟨Fr1.get t.get t.f, fun e => ?_, t.a⟩⟩
  · rw [Fr1.2 X (Nat.lt_of_lt_of_le hX k0) (fun e => by have := (s.far X e).1; omega), s.kp.2 X hX]
  · rcases n X hX with e | e
    · exact s.far X e
    · exact ⟨by omega, by omega, by omega, by omega⟩
  · rcases n T e with e | e
    · exact t.f e
    · have := lt_of_get t.get; omega
theorem OS.put (s : OS h0 h R O L H A F S b dv) (Y : Nat) (c : List Value) (hY : ¬ ftB R dv Y) (hYl : h0.length ≤ Y) (hYo : ∃ cs, h[Y]? = some (some ⟨true, cs⟩)) : Kp h0 (h.set Y (some ⟨true, c⟩)) ∧ ∃ rs, BkAt (h.set Y (some ⟨true, c⟩)) R b rs dv := by
  obtain ⟨rs, B⟩ := s.bk
  obtain ⟨cs, hYc⟩ := hYo
  exact ⟨s.kp.set hYl _, rs, B.keep (fun X cs hX => by rw [set_ne (fun e => by subst e; rw [hYc] at hX; cases hX)]; exact hX) fun X hX => set_ne (fun e => hY (by rw [e]; exact hX)) _⟩
theorem OS.setO (s : OS h0 h R O L H A F S b dv) (A' : List Bool) : OS h0 (h.set O (some ⟨true, bV A'⟩)) R O L H A' F S b dv := by
  obtain ⟨k, B⟩ := s.put O (bV A') (fun e => (s.far O e).2.1 rfl) s.fa.1 ⟨_, s.oo⟩
  exact ⟨k, B, s.far, List.getElem?_set_self (lt_of_get s.oo), (set_ne s.ne.1 _).trans s.ll, (set_ne s.ne.2.1 _).trans s.hh, s.ne, s.fa⟩
theorem OS.setL (s : OS h0 h R O L H A F S b dv) (F' : List Int) : OS h0 (h.set L (some ⟨true, iV F'⟩)) R O L H A F' S b dv := by
  obtain ⟨k, B⟩ := s.put L (iV F') (fun e => (s.far L e).2.2.1 rfl) s.fa.2.1 ⟨_, s.ll⟩
  exact ⟨k, B, s.far, (set_ne s.ne.1.symm _).trans s.oo, List.getElem?_set_self (lt_of_get s.ll), (set_ne s.ne.2.2 _).trans s.hh, s.ne, s.fa⟩
theorem OS.setH (s : OS h0 h R O L H A F S b dv) (S' : List ByteArray) : OS h0 (h.set H (some ⟨true, sV S'⟩)) R O L H A F S' b dv := by
  obtain ⟨k, B⟩ := s.put H (sV S') (fun e => (s.far H e).2.2.2 rfl) s.fa.2.2 ⟨_, s.hh⟩
  exact ⟨k, B, s.far, (set_ne s.ne.2.1.symm _).trans s.oo, (set_ne s.ne.2.2.symm _).trans s.ll, List.getElem?_set_self (lt_of_get s.hh), s.ne, s.fa⟩
theorem OT.setX (t : OT h R O L H T dv tc) {Y : Nat} (hY : T ≠ Y) (o : Option AObj) : OT (h.set Y o) R O L H T dv tc := ⟨(set_ne hY.symm _).trans t.get, t.f, t.a⟩
end
/-- what an answer does to them -/
theorem Pre.hear {A : List Bool} {F : List Int} {S : List ByteArray} {b : Bk} {rs rs' : Bool} {last v : ByteArray} {m : Cm} (p : Pre (fun _ => 0) A F S b rs last) (h0 : b.es = []) (hk : okC m) (hk1 : m.k ≠ 1) (hv : bOf v = m.val) :
    (∃ (j : Nat) (s : ByteArray), j < 128 ∧ m.id = (j : Int) ∧ m.k = 3 ∧ A[j]? = some true ∧ S[j]? = some s ∧ (b.heard m).2 = none ∧ Pre (fun _ => 0) A F (S.set j (s ++ v)) (b.heard m).1 rs' v) ∨ ((m.k ≠ 3 ∨ ∃ q, (b.heard m).2 = some q) ∧ Pre (fun _ => 0) A F S (b.heard m).1 rs' v) := by
  have pf := p.free h0 rs' v
  unfold Bk.heard
  by_cases h5 : m.k = 5
  · rw [if_pos h5]
    refine .inr ⟨.inl (by omega), ?_⟩
    simp only
    split
    · rename_i ho
      obtain ⟨j, hj, hj2⟩ := isO_nat ho
      rw [hj, Int.toNat_natCast]
      rw [hj, isO_b p.n hj2] at ho
      exact pf.over hj2 ho 3 _ [] (fun _ h => by omega)
    · exact pf
  rw [if_neg h5]
  cases ho : b.isO m.id with
  | false => rw [if_pos rfl]; exact .inr ⟨.inr ⟨_, rfl⟩, pf⟩
  | true =>
    rw [if_neg (by decide)]
    obtain ⟨j, hj, hj2⟩ := isO_nat ho
    rw [hj, isO_b p.n hj2] at ho
    have hrow : b.row m = b.at j := by unfold Bk.row Bk.at; rw [hj, Int.toNat_natCast]
    rw [hj, Int.toNat_natCast, hrow]
    split
    · exact .inr ⟨.inr ⟨_, rfl⟩, pf.over hj2 ho 3 7 [] (fun _ h => by omega)⟩
    obtain ⟨s, hs, hbs⟩ := p.hd j hj2 ho
    split
    · rename_i h3
      have hA := p.op j hj2
      rw [ho] at hA
      exact .inl ⟨j, s, hj2, rfl, h3, hA, hs, rfl, pf.part h0 hj2 ho hs hv⟩
    rename_i h3
    split
    · exact .inr ⟨.inl h3, pf.over hj2 ho 2 _ _ (fun _ h => by omega)⟩
    · refine .inr ⟨.inl h3, pf.over hj2 ho 1 0 _ fun _ _ s' hs' => ?_⟩
      rw [hs] at hs'; cases hs'
      rw [hbs, hv]
theorem Pre.ask' {A : List Bool} {F : List Int} {S : List ByteArray} {b : Bk} {rs rs' : Bool} {last v : ByteArray} (p : Pre (fun _ => 0) A F S b rs last) (h0 : b.es = []) (hnx : b.nx < 128) {op cl wt : Int} (hw : 1 ≤ wt ∧ wt ≤ 6) (hc : cl ≠ 0) :
    ((b.ask op cl wt).2 = none ∧ Pre (fun _ => 0) A F S (b.ask op cl wt).1 rs' v) ∨ (∃ j, j < 128 ∧ (b.ask op cl wt).2 = some j ∧ A[j]? = some false ∧ Pre (fun _ => 0) (A.set j true) (F.set j wt) (S.set j ByteArray.empty) (b.ask op cl wt).1 rs' v) := by
  have pf := p.free h0 rs' v
  unfold Bk.ask
  cases hz : askF b.is b.nx 128 with
  | none => exact .inl ⟨rfl, pf⟩
  | some j =>
    obtain ⟨hj, ho⟩ := askF_lt 128 hnx hz
    refine .inr ⟨j, hj, rfl, ?_, pf.ask h0 hj hw hc rfl _⟩
    rw [p.op j hj, h0]
    show some (opn (b.is[j]?.getD iv0) || false) = _
    rw [ho]; rfl
theorem OS.ends {h0 h h' : AHeap} {R O L H : Nat} {A : List Bool} {F : List Int} {S : List ByteArray} {b : Bk} {dv : Value} {rs : List (Iv × Value)} (s : OS h0 h R O L H A F S b dv) (B2 : BkAt h' R { b with es := [] } rs (.slice none 0 0)) (hl : h'.length = h.length) (hk : ∀ X, X ≠ R → h'[X]? = h[X]?) : OS h0 h' R O L H A F S { b with es := [] } (.slice none 0 0) ∧ ∀ T tc, OT h R O L H T dv tc → OT h' R O L H T (.slice none 0 0) tc := by
  have hR := s.far R (.inl rfl)
  refine ⟨⟨⟨by rw [hl]; exact s.kp.1, fun X hX => by rw [hk X (fun e => by omega), s.kp.2 X hX]⟩, ⟨rs, B2⟩, fun X hX => ?_, by rw [hk O hR.2.1.symm]; exact s.oo, by rw [hk L hR.2.2.1.symm]; exact s.ll, by rw [hk H hR.2.2.2.symm]; exact s.hh, s.ne, s.fa⟩, fun T tc t => ⟨by rw [hk T (fun e => t.f (.inl e))]; exact t.get, fun e => ?_, t.a⟩⟩
  · rcases hX with rfl | hX
    · exact hR
    · cases hX
  · rcases e with e | e
    · exact t.f (.inl e)
    · cases e
theorem EndL.keep {h h' : AHeap} {r : Value} {es : List En} (l : EndL h r es) (z : Frz h h') (hk : ∀ Y, slB r = some Y → h'[Y]? = h[Y]?) : EndL h' r es := by
  obtain ⟨q, cells, rfl, hf, E⟩ := l
  refine ⟨q, cells, rfl, ?_, E.frz z⟩
  cases q with
  | none => exact hf
  | some a => simpa only [firstV, cellsAt, hk a.block rfl] using hf
theorem mem_set_or {α : Type} {l : List α} {i : Nat} {x y : α} (h : y ∈ l.set i x) : y ∈ l ∨ y = x := List.mem_or_eq_of_mem_set h
end Go.Proofs.Ytpbbmnfffolcoaa
