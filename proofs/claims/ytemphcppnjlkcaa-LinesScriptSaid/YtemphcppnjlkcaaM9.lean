import Derived.Test.YtemphcppnjlkcaaM5
set_option linter.unusedVariables false
set_option linter.unusedSimpArgs false
namespace Go.Proofs.Ytemphcppnjlkcaa
open Go Go.Ai Go.Proofs

/-- what the law holds of the bursts that it has not taken: their bits -/
def RB (h : AHeap) (rs : List Value) (ws : List (List Int)) : Prop := rs.length = ws.length ∧ ∀ (i : Nat) v w, rs[i]? = some v → ws[i]? = some w → (∃ q c, v = .slice q w.length c) ∧ firstV 1 h w.length v = some (bR w)
def iR (ds : List Int) : List Value := ds.map (Value.int .i64)
theorem iR_len (zs : List Int) : (iR zs).length = zs.length := by simp [iR]
theorem iR_app (a b : List Int) : iR (a ++ b) = iR a ++ iR b := by simp [iR]
theorem iR_drop (a : List Int) (k : Nat) : (iR a).drop k = iR (a.drop k) := by simp [iR, List.map_drop]
theorem RB.app {h : AHeap} {rs : List Value} {ws : List (List Int)} (r : RB h rs ws) {q : Option Addr} {c : Nat} {w : List Int} (hf : firstV 1 h w.length (.slice q w.length c) = some (bR w)) : RB h (rs ++ [.slice q w.length c]) (ws ++ [w]) := by
  refine ⟨by simp [r.1], fun i v w' h1 h2 => ?_⟩
  by_cases hi : i < rs.length
  · rw [List.getElem?_append_left hi] at h1
    rw [List.getElem?_append_left (by rw [← r.1]; exact hi)] at h2
    exact r.2 i v w' h1 h2
  · rw [List.getElem?_append_right (by omega)] at h1
    rw [List.getElem?_append_right (by rw [← r.1]; omega), ← r.1] at h2
    have e : i - rs.length = 0 := by
      have := (List.getElem?_eq_some_iff.1 h1).1
      simp at this; omega
    rw [e] at h1 h2
    cases h1; cases h2
    exact ⟨⟨_, _, rfl⟩, hf⟩
theorem RB.drop {h : AHeap} {rs : List Value} {ws : List (List Int)} (r : RB h rs ws) : RB h (rs.drop 1) (ws.drop 1) :=
  ⟨by simp [r.1], fun i v w h1 h2 => r.2 (i + 1) v w (by simpa using h1) (by simpa using h2)⟩
theorem first_fr' {k n : Nat} {h h' : AHeap} {v : Value} {rows : List Value} (hv : ∃ q c, v = .slice q n c) (hf : firstV k h n v = some rows) (hk : ∀ A, slB v = some A → h'[A]? = h[A]?) : firstV k h' n v = some rows := by
  obtain ⟨q, c, rfl⟩ := hv
  exact first_fr hf fun a ha => hk _ (by rw [ha]; rfl)
theorem RB.keep {h h' : AHeap} {rs : List Value} {ws : List (List Int)} (r : RB h rs ws) (hk : ∀ v ∈ rs, ∀ A, slB v = some A → h'[A]? = h[A]?) : RB h' rs ws :=
  ⟨r.1, fun i v w h1 h2 => ⟨(r.2 i v w h1 h2).1, first_fr' (r.2 i v w h1 h2).1 (r.2 i v w h1 h2).2 (hk v (List.mem_of_getElem? h1))⟩⟩
theorem set_self {h : AHeap} {X : Nat} {x : Option AObj} (hX : h[X]? = some x) : h.set X x = h := by
  apply List.ext_getElem?
  intro i
  by_cases hi : X = i
  · subst hi; rw [set_same hX, hX]
  · rw [set_ne hi]
/-- the first is cut off -/
theorem retO_tail {h : AHeap} {q : Option Addr} {n c : Nat} {rows : List Value} (r : RetO 1 h (.slice q n c) n rows) (hn : 0 < n) : ∃ A off, q = some ⟨A, off, none⟩ ∧ c = unk + 1 ∧ RetO 1 h (.slice (some ⟨A, off + 1, none⟩) (n - 1) (unk + 1)) (n - 1) (rows.drop 1) := by
  rcases r with ⟨h1, ⟨_, h0⟩ | ⟨_, _, h0⟩ | ⟨A, off, cells, e, hA, hg⟩⟩
  · omega
  · omega
  · simp only [Value.slice.injEq] at e
    obtain ⟨rfl, -, rfl⟩ := e
    refine ⟨A, off, rfl, rfl, by simp [h1], .inr (.inr ⟨A, off + 1, cells, rfl, hA, ?_⟩)⟩
    obtain ⟨e3, e4⟩ := (getN_eq _ _ _ _).1 hg
    refine (getN_eq _ _ _ _).2 ⟨by split at e3 <;> split <;> omega, ?_⟩
    rw [e4, List.drop_take, List.drop_drop]
    congr 1
    omega

/-- a line, what the law holds of it, and the blocks apart -/
structure OS (H1 h : AHeap) (X : Nat) (dl now sent wt : Int) (l : List Nz) (nq : Option Addr) (nc : Nat) (usl rS dS : Value) (us : List Bu) (rs : List Value) (ws : List (List Int)) (ds : List Int) : Prop where
  line : LineAt h X dl now sent wt l nq nc usl us
  rt : RetO 1 h rS rs.length rs
  rb : RB h rs ws
  du : RetO 1 h dS ds.length (iR ds)
  klen : H1.length ≤ h.length
  keep : ∀ B, B < H1.length → B ≠ X → h[B]? = H1[B]?
  xlt : X < H1.length
  nlt : ∀ a, nq = some a → a.block < H1.length
  ufr : ∀ A, slB usl = some A → H1.length ≤ A
  rv : ∀ v ∈ rs, oneC v = true ∧ ∀ A, slB v = some A → H1.length ≤ A ∧ A < h.length ∧ slB usl ≠ some A ∧ slB rS ≠ some A ∧ slB dS ≠ some A
  rfr : ∀ A, slB rS = some A → H1.length ≤ A ∧ A < h.length ∧ slB usl ≠ some A ∧ (∀ u ∈ us, slB u.v ≠ some A) ∧ slB dS ≠ some A
  dfr : ∀ A, slB dS = some A → H1.length ≤ A ∧ A < h.length ∧ slB usl ≠ some A ∧ ∀ u ∈ us, slB u.v ≠ some A

/-- all blocks of it -/
def FS (X : Nat) (nq : Option Addr) (usl rS dS : Value) (us : List Bu) (rs : List Value) (B : Nat) : Prop := FP X nq usl us B ∨ slB rS = some B ∨ slB dS = some B ∨ ∃ v ∈ rs, slB v = some B

section
variable {H1 h h' : AHeap} {X : Nat} {dl now sent wt : Int} {l : List Nz} {nq : Option Addr} {nc : Nat} {usl rS dS : Value} {us : List Bu} {rs : List Value} {ws : List (List Int)} {ds : List Int}
theorem OS.lt (o : OS H1 h X dl now sent wt l nq nc usl rS dS us rs ws ds) {B : Nat} (f : FS X nq usl rS dS us rs B) : B < h.length := by
  rcases f with f | f | f | ⟨v, hv, f⟩
  · exact o.line.fp_lt f
  · exact (o.rfr B f).2.1
  · exact (o.dfr B f).2.1
  · exact ((o.rv v hv).2 B f).2.1
theorem OS.keepW (o : OS H1 h X dl now sent wt l nq nc usl rS dS us rs ws ds) (hl : h.length ≤ h'.length) (hk : ∀ B, FS X nq usl rS dS us rs B → h'[B]? = h[B]?) (h1 : ∀ B, B < H1.length → h'[B]? = h[B]?) : OS H1 h' X dl now sent wt l nq nc usl rS dS us rs ws ds :=
  ⟨o.line.keepFP hl fun B f => hk B (.inl f), o.rt.keep fun A x hA hx => by rw [hk A (.inr (.inl hA))]; exact hx, o.rb.keep fun v hv A hA => hk A (.inr (.inr (.inr ⟨v, hv, hA⟩))), o.du.keep fun A x hA hx => by rw [hk A (.inr (.inr (.inl hA)))]; exact hx,
    Nat.le_trans o.klen hl, fun B hB hne => by rw [h1 B hB, o.keep B hB hne], o.xlt, o.nlt, o.ufr, fun v hv => ⟨(o.rv v hv).1, fun A hA => ⟨((o.rv v hv).2 A hA).1, Nat.lt_of_lt_of_le ((o.rv v hv).2 A hA).2.1 hl, ((o.rv v hv).2 A hA).2.2⟩⟩,
    fun A hA => ⟨(o.rfr A hA).1, Nat.lt_of_lt_of_le (o.rfr A hA).2.1 hl, (o.rfr A hA).2.2⟩, fun A hA => ⟨(o.dfr A hA).1, Nat.lt_of_lt_of_le (o.dfr A hA).2.1 hl, (o.dfr A hA).2.2⟩⟩
theorem OS.ext (o : OS H1 h X dl now sent wt l nq nc usl rS dS us rs ws ds) (e : Ext h h') : OS H1 h' X dl now sent wt l nq nc usl rS dS us rs ws ds :=
  o.keepW e.1 (fun B f => e.2 B (o.lt f)) fun B hB => e.2 B (Nat.lt_of_lt_of_le hB o.klen)
theorem OS.fpr (o : OS H1 h X dl now sent wt l nq nc usl rS dS us rs ws ds) {A : Nat} (hA : slB rS = some A) : ¬ FP X nq usl us A := fun f => by
  obtain ⟨a1, a2, a3, a4, a5⟩ := o.rfr A hA
  rcases f with rfl | f | ⟨a, ha, e⟩ | ⟨u, hu, f⟩
  · have := o.xlt; omega
  · exact a3 f
  · have := o.nlt a ha; omega
  · exact a4 u hu f
theorem OS.fpd (o : OS H1 h X dl now sent wt l nq nc usl rS dS us rs ws ds) {A : Nat} (hA : slB dS = some A) : ¬ FP X nq usl us A := fun f => by
  obtain ⟨a1, a2, a3, a4⟩ := o.dfr A hA
  rcases f with rfl | f | ⟨a, ha, e⟩ | ⟨u, hu, f⟩
  · have := o.xlt; omega
  · exact a3 f
  · have := o.nlt a ha; omega
  · exact a4 u hu f
/-- the law's 'rest' grows -/
theorem OS.app_rest (o : OS H1 h X dl now sent wt l nq nc usl rS dS us rs ws ds) {A' : Nat} {q : Option Addr} {c : Nat} {w : List Int} (hA : h.length ≤ A') (hg : h'[A']? = some (some ⟨true, rs ++ [.slice q w.length c]⟩)) (hl : h'.length = h.length + 1)
    (hfr : ∀ B, B < h.length → slB rS ≠ some B → h'[B]? = h[B]?) (hf : firstV 1 h w.length (.slice q w.length c) = some (bR w)) (hv : ∀ a, q = some a → H1.length ≤ a.block ∧ a.block < h.length ∧ ¬ FS X nq usl rS dS us rs a.block) (hone : oneC (.slice q w.length c) = true) :
    OS H1 h' X dl now sent wt l nq nc usl (.slice (some ⟨A', 0, none⟩) (rs.length + 1) (unk + 1)) dS us (rs ++ [.slice q w.length c]) (ws ++ [w]) ds := by
  have hA' := lt_of_get hg
  have hk := o.klen
  have hx : ∀ B, FS X nq usl rS dS us rs B → slB rS ≠ some B → h'[B]? = h[B]? := fun B f hne => hfr B (o.lt f) hne
  have hRB : RB h' rs ws := o.rb.keep fun v hv A hA => hx A (.inr (.inr (.inr ⟨v, hv, hA⟩))) ((o.rv v hv).2 A hA).2.2.2.1
  have hF : firstV 1 h' w.length (.slice q w.length c) = some (bR w) := first_fr hf fun a ha => hfr _ (hv a ha).2.1 fun e => (hv a ha).2.2 (.inr (.inl e))
  refine ⟨o.line.keepFP (by omega) fun B f => hx B (.inl f) (fun e => o.fpr e f), ⟨by simp, .inr (.inr ⟨A', 0, _, by simp, hg, getN_all _ _ (by simp)⟩)⟩, hRB.app hF, o.du.keep fun A x hA hx' => by rw [hx A (.inr (.inr (.inl hA))) (fun e => (o.rfr A e).2.2.2.2 hA)]; exact hx',
    by omega, fun B hB hne => by rw [hfr B (by omega) (fun e => by have := (o.rfr B e).1; omega), o.keep B hB hne], o.xlt, o.nlt, o.ufr, fun v hv' => ?_, fun A e => ?_, fun A e => ?_⟩
  · rcases List.mem_append.1 hv' with hv' | hv'
    · refine ⟨(o.rv v hv').1, fun A e => ?_⟩
      obtain ⟨a1, a2, a3, a4, a5⟩ := (o.rv v hv').2 A e
      exact ⟨a1, by omega, a3, fun e' => (by simp [slB] at e'; omega), a5⟩
    · simp at hv'; subst hv'
      refine ⟨hone, fun A e => ?_⟩
      cases q with
      | none => cases e
      | some a =>
        simp [slB] at e; subst e
        obtain ⟨a1, a2, a3⟩ := hv a rfl
        exact ⟨a1, by omega, fun e => a3 (.inl (.inr (.inl e))), fun e' => (by simp [slB] at e'; omega), fun e => a3 (.inr (.inr (.inl e)))⟩
  · simp [slB] at e; subst e
    exact ⟨by omega, hA', fun e => by have := (o.line.ult _ e).2; omega, fun u hu e => by have := ((o.line.bits u hu).2 _ e).2.2; omega, fun e => by have := (o.dfr _ e).2.1; omega⟩
  · obtain ⟨a1, a2, a3, a4⟩ := o.dfr A e
    exact ⟨a1, by omega, a3, a4⟩
/-- the law's 'due' grows -/
theorem OS.app_due (o : OS H1 h X dl now sent wt l nq nc usl rS dS us rs ws ds) {A' : Nat} {d : Int} (hA : h.length ≤ A') (hg : h'[A']? = some (some ⟨true, iR ds ++ [.int .i64 d]⟩)) (hl : h'.length = h.length + 1)
    (hfr : ∀ B, B < h.length → slB dS ≠ some B → h'[B]? = h[B]?) : OS H1 h' X dl now sent wt l nq nc usl rS (.slice (some ⟨A', 0, none⟩) (ds.length + 1) (unk + 1)) us rs ws (ds ++ [d]) := by
  have hA' := lt_of_get hg
  have hk := o.klen
  have hx : ∀ B, FS X nq usl rS dS us rs B → slB dS ≠ some B → h'[B]? = h[B]? := fun B f hne => hfr B (o.lt f) hne
  refine ⟨o.line.keepFP (by omega) fun B f => hx B (.inl f) (fun e => o.fpd e f), o.rt.keep fun A x hA hx' => by rw [hx A (.inr (.inl hA)) (o.rfr A hA).2.2.2.2]; exact hx', o.rb.keep fun v hv A hA => hx A (.inr (.inr (.inr ⟨v, hv, hA⟩))) ((o.rv v hv).2 A hA).2.2.2.2,
    ⟨by simp [iR], .inr (.inr ⟨A', 0, _, by simp, hg, ?_⟩)⟩, by omega, fun B hB hne => by rw [hfr B (by omega) (fun e => by have := (o.dfr B e).1; omega), o.keep B hB hne], o.xlt, o.nlt, o.ufr, fun v hv' => ⟨(o.rv v hv').1, fun A e => ?_⟩, fun A e => ?_, fun A e => ?_⟩
  · rw [iR_app]; exact getN_all _ _ (by simp [iR])
  · obtain ⟨a1, a2, a3, a4, a5⟩ := (o.rv v hv').2 A e
    exact ⟨a1, by omega, a3, a4, fun e' => (by simp [slB] at e'; omega)⟩
  · obtain ⟨a1, a2, a3, a4, a5⟩ := o.rfr A e
    exact ⟨a1, by omega, a3, a4, fun e' => (by simp [slB] at e'; omega)⟩
  · simp [slB] at e; subst e
    exact ⟨by omega, hA', fun e => by have := (o.line.ult _ e).2; omega, fun u hu e => by have := ((o.line.bits u hu).2 _ e).2.2; omega⟩
/-- the first is taken off -/
theorem OS.pop (o : OS H1 h X dl now sent wt l nq nc usl rS dS us rs ws ds) {rS' dS' : Value} (h1 : RetO 1 h rS' (rs.length - 1) (rs.drop 1)) (h2 : RetO 1 h dS' (ds.length - 1) (iR (ds.drop 1))) (e1 : slB rS' = slB rS) (e2 : slB dS' = slB dS) :
    OS H1 h X dl now sent wt l nq nc usl rS' dS' us (rs.drop 1) (ws.drop 1) (ds.drop 1) :=
  ⟨o.line, by simpa using h1, o.rb.drop, by simpa using h2, o.klen, o.keep, o.xlt, o.nlt, o.ufr, fun v hv => by rw [e1, e2]; exact o.rv v (List.mem_of_mem_drop hv), by rw [e1, e2]; exact o.rfr, by rw [e2]; exact o.dfr⟩
/-- an act on the line -/
theorem OS.act (o : OS H1 h X dl now sent wt l nq nc usl rS dS us rs ws ds) {now' sent' wt' : Int} {usl' : Value} {us' : List Bu} (L : LineAt h' X dl now' sent' wt' l nq nc usl' us') (f : FrL h h' X usl)
    (hu : (∀ A, slB usl' = some A → slB usl = some A ∨ h.length ≤ A)) (hv : ∀ u ∈ us', u ∈ us ∨ ∀ A, slB u.v = some A → h.length ≤ A) : OS H1 h' X dl now' sent' wt' l nq nc usl' rS dS us' rs ws ds := by
  have hxl := o.xlt
  have hx : ∀ B, H1.length ≤ B → B < h.length → slB usl ≠ some B → h'[B]? = h[B]? := fun B hB h1 h2 => f.2 B h1 (by omega) h2
  have hun : ∀ A, A < h.length → slB usl ≠ some A → slB usl' ≠ some A := fun A hA hne e => by
    rcases hu A e with h1 | h1
    · exact hne h1
    · omega
  have hvn : ∀ A, A < h.length → (∀ u ∈ us, slB u.v ≠ some A) → ∀ u ∈ us', slB u.v ≠ some A := fun A hA hne u hu' e => by
    rcases hv u hu' with h1 | h1
    · exact hne u h1 e
    · have := h1 A e; omega
  refine ⟨L, o.rt.keep fun A x hA hx' => ?_, o.rb.keep fun v hv' A hA => ?_, o.du.keep fun A x hA hx' => ?_, Nat.le_trans o.klen f.1, fun B hB hne => ?_, o.xlt, o.nlt, fun A hA => ?_, fun v hv' => ⟨(o.rv v hv').1, fun A hA => ?_⟩, fun A hA => ?_, fun A hA => ?_⟩
  · obtain ⟨a1, a2, a3, a4, a5⟩ := o.rfr A hA
    rw [hx A a1 a2 a3]; exact hx'
  · obtain ⟨a1, a2, a3, a4, a5⟩ := (o.rv v hv').2 A hA
    exact hx A a1 a2 a3
  · obtain ⟨a1, a2, a3, a4⟩ := o.dfr A hA
    rw [hx A a1 a2 a3]; exact hx'
  · rw [f.2 B (Nat.lt_of_lt_of_le hB o.klen) hne (fun e => by have := o.ufr B e; omega), o.keep B hB hne]
  · rcases hu A hA with h1 | h1
    · exact o.ufr A h1
    · exact Nat.le_trans o.klen h1
  · obtain ⟨a1, a2, a3, a4, a5⟩ := (o.rv v hv').2 A hA
    exact ⟨a1, Nat.lt_of_lt_of_le a2 f.1, hun A a2 a3, a4, a5⟩
  · obtain ⟨a1, a2, a3, a4, a5⟩ := o.rfr A hA
    exact ⟨a1, Nat.lt_of_lt_of_le a2 f.1, hun A a2 a3, hvn A a2 a4, a5⟩
  · obtain ⟨a1, a2, a3, a4⟩ := o.dfr A hA
    exact ⟨a1, Nat.lt_of_lt_of_le a2 f.1, hun A a2 a3, hvn A a2 a4⟩
theorem OS.tick (o : OS H1 h X dl now sent wt l nq nc usl rS dS us rs ws ds) (hd : dl ≠ 0) (h0 : 0 ≤ now) (h1 : now < 1048576) :
    Valid Try.prog 15 [ptr X 0] h fun r h' => r = .int .i64 0 ∧ OS H1 h' X dl (now + 1) sent wt l nq nc usl rS dS us rs ws ds := by
  refine (tick_ok o.line hd h0 h1).mono ?_
  rintro r h' ⟨rfl, L, hl, hf⟩
  exact ⟨rfl, o.act L ⟨by omega, fun B hB h1 _ => hf B h1⟩ (fun A hA => .inl hA) (fun u hu => .inl hu)⟩
theorem OS.take (o : OS H1 h X dl now sent wt l nq nc usl rS dS us rs ws ds) (hbs : (bitsU us).length ≤ 1048576) (hul : us.length ≤ 1048576) (hw0 : 0 ≤ wt) (hw1 : wt ≤ 1048576) :
    Valid Try.prog 17 [ptr X 0] h fun r h' => FrL h h' X usl ∧ ∃ usl' q, OS H1 h' X dl now sent (wt - (bitsU (ripe us now)).length) l nq nc usl' rS dS (us.drop (ripe us now).length) rs ws ds ∧
      r = .slice q (bitsU (ripe us now)).length (bitsU (ripe us now)).length ∧ firstV 1 h' (bitsU (ripe us now)).length r = some (bR (bitsU (ripe us now))) := by
  refine (take_ok o.line hbs hul hw0 hw1).mono ?_
  rintro r h' ⟨usl', q, L, f, hu, hr, hf⟩
  exact ⟨f, usl', q, o.act L f (fun A hA => .inl (by rw [← hu]; exact hA)) (fun u hu => .inl (List.mem_of_mem_drop hu)), hr, hf⟩
theorem OS.send (o : OS H1 h X dl now sent wt l nq nc usl rS dS us rs ws ds) {qs : Option Addr} {n cs : Nat} {zs : List Int} (hd : dl ≠ 0) (hll : l.length ≤ 1024) (hs : firstV 1 h n (.slice qs n cs) = some (bR zs)) (hp : ∀ z ∈ zs, 0 ≤ z) (hc : checkV zs = 0) (hnz : ∀ x ∈ l, 0 ≤ x.bit)
    (hw0 : 0 ≤ wt) (hw1 : wt ≤ 1048576) (hf : ¬ 1048576 < wt + (remZ l sent zs).length) (hd0 : 0 ≤ dl) (hd1 : dl ≤ 64) (hn0 : 0 ≤ now) (hn1 : now ≤ 1048576) (hs0 : 0 ≤ sent) (hs1 : sent ≤ 1048576) (hus : us.length ≤ 1048576) :
    Valid Try.prog 14 [ptr X 0, .slice qs n cs] h fun r h' => r = .int .i64 0 ∧ FrL h h' X usl ∧ ∃ usl' v, OS H1 h' X dl now (sent + 1) (wt + (remZ l sent zs).length) l nq nc usl' rS dS (us ++ [⟨now + dl, v, remZ l sent zs⟩]) rs ws ds ∧
      (∀ B, FS X nq usl' rS dS (us ++ [⟨now + dl, v, remZ l sent zs⟩]) rs B → FS X nq usl rS dS us rs B ∨ h.length ≤ B) := by
  refine (send_ok o.line hd hll hs hp hc hnz hw0 hw1 hf hd0 hd1 hn0 hn1 hs0 hs1 hus).mono ?_
  rintro r h' ⟨rfl, usl', v, L, f, ⟨A, hA, hle⟩, hv⟩
  refine ⟨rfl, f, usl', v, o.act L f (fun B hB => .inr (by rw [hA] at hB; cases hB; exact hle)) (fun u hu => ?_), fun B fB => ?_⟩
  · rcases List.mem_append.1 hu with hu | hu
    · exact .inl hu
    · simp at hu; subst hu; exact .inr hv
  · rcases fB with (fB | fB | fB | ⟨u, hu, fB⟩) | fB
    · exact .inl (.inl (.inl fB))
    · rw [hA] at fB; cases fB; exact .inr hle
    · exact .inl (.inl (.inr (.inr (.inl fB))))
    · rcases List.mem_append.1 hu with hu | hu
      · exact .inl (.inl (.inr (.inr (.inr ⟨u, hu, fB⟩))))
      · simp at hu; subst hu; exact .inr (hv B fB)
    · exact .inl (.inr fB)
end
end Go.Proofs.Ytemphcppnjlkcaa
