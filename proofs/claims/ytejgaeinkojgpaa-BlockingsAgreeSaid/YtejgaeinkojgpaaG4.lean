import Derived.Test.YtejgaeinkojgpaaG1
import Derived.Test.YtejgaeinkojgpaaK16
set_option linter.unusedVariables false
set_option linter.unusedSimpArgs false
namespace Go.Proofs.Ytejgaeinkojgpaa
open Go Go.Ai Go.Proofs

/-- one side: its desk, the wire to it, what its user wants -/
structure Sd where
  D : Nat
  G : Nat
  L : Nat
  T : Nat
  d : DK
  opv : Value
  outv : Value
  w : Value
  ms : List Ms
  N : Nat
  want : List Bool
def upd (σ : Bool → Sd) (k : Bool) (s : Sd) : Bool → Sd := fun j => if j = k then s else σ j
theorem upd_self (σ : Bool → Sd) (k : Bool) (s : Sd) : upd σ k s k = s := if_pos rfl
theorem upd_ne (σ : Bool → Sd) {k j : Bool} (s : Sd) (h : j ≠ k) : upd σ k s j = σ j := if_neg h
theorem upd_not (σ : Bool → Sd) (k : Bool) (s : Sd) : upd σ k s (!k) = σ (!k) := upd_ne σ s (by cases k <;> decide)
/-- two cells, one of each side -/
def two (f : Bool → Value) : List Value := [f false, f true]
theorem two_get (f : Bool → Value) (k : Bool) : (two f)[k.toNat]? = some (f k) := by cases k <;> rfl
theorem two_set (f : Bool → Value) (k : Bool) (v : Value) : (two f).set k.toNat v = two fun j => if j = k then v else f j := by cases k <;> rfl
def ptr (B : Nat) : Value := .pointer (some ⟨B, 0, none⟩)
def FN (DS WO XO : Nat) (σ : Bool → Sd) (j B : Nat) : Prop := (j = 0 ∧ B = DS) ∨ (j = 1 ∧ B = WO) ∨ (j = 2 ∧ B = XO) ∨ ∃ k : Bool, (j = 3 + k.toNat ∧ ftD (σ k).D (σ k).G (σ k).L (σ k).T (σ k).outv B) ∨ (j = 5 + k.toNat ∧ slB (σ k).w = some B) ∨ (j = 7 + k.toNat ∧ B = (σ k).N)
structure NET (h0 h : AHeap) (DS WO XO n : Nat) (σ : Bool → Sd) : Prop where
  kp : Kp h0 h
  ds : h[DS]? = some (some ⟨true, two fun k => ptr (σ k).D⟩)
  wo : h[WO]? = some (some ⟨true, two fun k => (σ k).w⟩)
  xo : h[XO]? = some (some ⟨true, two fun k => .slice (some ⟨(σ k).N, 0, none⟩) n n⟩)
  A : ∀ k, DAt h (σ k).D (σ k).G (σ k).L (σ k).T (σ k).d (σ k).opv (σ k).outv
  q : ∀ k, MQ h (σ k).w (σ k).ms
  nw : ∀ k, h[(σ k).N]? = some (some ⟨true, bB (σ k).want⟩)
  far : ∀ j B, FN DS WO XO σ j B → h0.length ≤ B
  s : ∀ i j B, FN DS WO XO σ i B → FN DS WO XO σ j B → i = j
section
variable {h0 h h' : AHeap} {DS WO XO n : Nat} {σ : Bool → Sd}
theorem fn0 : FN DS WO XO σ 0 DS := .inl ⟨rfl, rfl⟩
theorem fn1 : FN DS WO XO σ 1 WO := .inr (.inl ⟨rfl, rfl⟩)
theorem fn2 : FN DS WO XO σ 2 XO := .inr (.inr (.inl ⟨rfl, rfl⟩))
theorem fnD (k : Bool) {B : Nat} (h : ftD (σ k).D (σ k).G (σ k).L (σ k).T (σ k).outv B) : FN DS WO XO σ (3 + k.toNat) B := .inr (.inr (.inr ⟨k, .inl ⟨rfl, h⟩⟩))
theorem fnW (k : Bool) {B : Nat} (h : slB (σ k).w = some B) : FN DS WO XO σ (5 + k.toNat) B := .inr (.inr (.inr ⟨k, .inr (.inl ⟨rfl, h⟩)⟩))
theorem fnN (k : Bool) : FN DS WO XO σ (7 + k.toNat) (σ k).N := .inr (.inr (.inr ⟨k, .inr (.inr ⟨rfl, rfl⟩)⟩))
theorem NET.own (S : NET h0 h DS WO XO n σ) {j B : Nat} (hB : FN DS WO XO σ j B) : ∃ cs, h[B]? = some (some ⟨true, cs⟩) := by
  rcases hB with ⟨-, rfl⟩ | ⟨-, rfl⟩ | ⟨-, rfl⟩ | ⟨k, ⟨-, i, hB⟩ | ⟨-, hB⟩ | ⟨-, rfl⟩⟩
  · exact ⟨_, S.ds⟩
  · exact ⟨_, S.wo⟩
  · exact ⟨_, S.xo⟩
  · exact (S.A k).own hB
  · exact (S.q k).own hB
  · exact ⟨_, S.nw k⟩
theorem NET.lt (S : NET h0 h DS WO XO n σ) {j B : Nat} (hB : FN DS WO XO σ j B) : B < h.length := by
  obtain ⟨cs, h1⟩ := S.own hB; exact lt_of_get h1
/-- a heap that has all but one class as before -/
theorem NET.frz (S : NET h0 h DS WO XO n σ) {J : Nat} {X : Nat → Prop} (F : Fr X h h') (hX : ∀ B, X B → FN DS WO XO σ J B) : Frz h h' :=
  F.frz fun B cs hB e => by obtain ⟨cs', h2⟩ := S.own (hX B hB); rw [h2] at e; cases e
theorem NET.oth (S : NET h0 h DS WO XO n σ) {J : Nat} {X : Nat → Prop} (F : Fr X h h') (hX : ∀ B, X B → FN DS WO XO σ J B) {i B : Nat} (hi : i ≠ J) (hB : FN DS WO XO σ i B) : h'[B]? = h[B]? :=
  F.2 B (S.lt hB) fun e => hi (S.s i J B hB (hX B e))
theorem NET.kp0 (S : NET h0 h DS WO XO n σ) {J : Nat} {X : Nat → Prop} (F : Fr X h h') (hX : ∀ B, X B → FN DS WO XO σ J B) : Kp h0 h' := by
  refine ⟨Nat.le_trans S.kp.1 F.1, fun B hB => ?_⟩
  rw [F.2 B (Nat.lt_of_lt_of_le hB S.kp.1) fun e => by have := S.far J B (hX B e); omega]
  exact S.kp.2 B hB
theorem NET.keep (S : NET h0 h DS WO XO n σ) (K : Kp h h') : NET h0 h' DS WO XO n σ :=
  ⟨S.kp.trans K, K.get S.ds, K.get S.wo, K.get S.xo, fun k => (S.A k).kp K, fun k => (S.q k).keep K.frz fun B hB => K.2 B ((S.q k).lt hB), fun k => K.get (S.nw k), S.far, S.s⟩
theorem sep_new {F F' : Nat → Nat → Prop} {n J : Nat} (hs : ∀ i j B, F i B → F j B → i = j) (hl : ∀ i B, F i B → B < n) (hn : ∀ i B, F' i B → F i B ∨ (i = J ∧ n ≤ B)) : ∀ i j B, F' i B → F' j B → i = j := by
  intro i j B h1 h2
  rcases hn i B h1 with h3 | ⟨h3, h4⟩
  · rcases hn j B h2 with h5 | ⟨h5, h6⟩
    · exact hs i j B h3 h5
    · have := hl i B h3; omega
  · rcases hn j B h2 with h5 | ⟨h5, h6⟩
    · have := hl j B h5; omega
    · omega
theorem k_ne {k j : Bool} (h : j ≠ k) (a : Nat) : a + j.toNat ≠ a + k.toNat := by cases k <;> cases j <;> first | exact absurd rfl h | (simp)
/-- a desk makes a step -/
theorem NET.went (S : NET h0 h DS WO XO n σ) (k : Bool) {d' : DK} (W : WentD h h' (σ k).D (σ k).G (σ k).L (σ k).T d' (σ k).outv) : ∃ opv' outv', NET h0 h' DS WO XO n (upd σ k { σ k with d := d', opv := opv', outv := outv' }) := by
  obtain ⟨opv', outv', A', F, nn⟩ := W
  have hX : ∀ B, ftD (σ k).D (σ k).G (σ k).L (σ k).T (σ k).outv B → FN DS WO XO σ (3 + k.toNat) B := fun B hB => fnD k hB
  have z := S.frz F hX
  have ot : ∀ {i B : Nat}, i ≠ 3 + k.toNat → FN DS WO XO σ i B → h'[B]? = h[B]? := fun hi hB => S.oth F hX hi hB
  have hk2 : k.toNat < 2 := by cases k <;> decide
  generalize hs : ({ σ k with d := d', opv := opv', outv := outv' } : Sd) = s'
  have eD : s'.D = (σ k).D := by rw [← hs]
  have eG : s'.G = (σ k).G := by rw [← hs]
  have eL : s'.L = (σ k).L := by rw [← hs]
  have eT : s'.T = (σ k).T := by rw [← hs]
  have ew : s'.w = (σ k).w := by rw [← hs]
  have ems : s'.ms = (σ k).ms := by rw [← hs]
  have eN : s'.N = (σ k).N := by rw [← hs]
  have ewa : s'.want = (σ k).want := by rw [← hs]
  have ed : s'.d = d' := by rw [← hs]
  have eo : s'.opv = opv' := by rw [← hs]
  have eou : s'.outv = outv' := by rw [← hs]
  have gD : ∀ j, (upd σ k s' j).D = (σ j).D := fun j => by unfold upd; split; rename_i h; rw [h, eD]; rfl
  have gw : ∀ j, (upd σ k s' j).w = (σ j).w := fun j => by unfold upd; split; rename_i h; rw [h, ew]; rfl
  have gms : ∀ j, (upd σ k s' j).ms = (σ j).ms := fun j => by unfold upd; split; rename_i h; rw [h, ems]; rfl
  have gN : ∀ j, (upd σ k s' j).N = (σ j).N := fun j => by unfold upd; split; rename_i h; rw [h, eN]; rfl
  have gwa : ∀ j, (upd σ k s' j).want = (σ j).want := fun j => by unfold upd; split; rename_i h; rw [h, ewa]; rfl
  have hn : ∀ i B, FN DS WO XO (upd σ k s') i B → FN DS WO XO σ i B ∨ (i = 3 + k.toNat ∧ h.length ≤ B) := by
    rintro i B (h1 | h1 | h1 | ⟨j, ⟨rfl, h1⟩ | ⟨rfl, h1⟩ | ⟨rfl, h1⟩⟩)
    · exact .inl (.inl h1)
    · exact .inl (.inr (.inl h1))
    · exact .inl (.inr (.inr (.inl h1)))
    · by_cases hj : j = k
      · subst hj
        rw [upd_self, eD, eG, eL, eT, eou] at h1
        rcases nn B h1 with h2 | h2
        · exact .inl (fnD j h2)
        · exact .inr ⟨rfl, h2⟩
      · rw [upd_ne σ s' hj] at h1
        exact .inl (fnD j h1)
    · rw [gw] at h1; exact .inl (fnW j h1)
    · rw [gN] at h1; subst h1; exact .inl (fnN j)
  refine ⟨opv', outv', ?_⟩
  rw [hs]
  refine ⟨S.kp0 F hX, ?_, ?_, ?_, fun j => ?_, fun j => ?_, fun j => ?_, fun i B hB => ?_, sep_new S.s (fun i B hB => S.lt hB) hn⟩
  · simp only [gD]; rw [ot (by omega) fn0]; exact S.ds
  · simp only [gw]; rw [ot (by omega) fn1]; exact S.wo
  · simp only [gN]; rw [ot (by omega) fn2]; exact S.xo
  · by_cases hj : j = k
    · subst hj
      rw [upd_self, eD, eG, eL, eT, ed, eo, eou]; exact A'
    · rw [upd_ne σ s' hj]
      exact (S.A j).keep z fun i B hB => ot (k_ne hj 3) (fnD j ⟨i, hB⟩)
  · rw [gw, gms]
    exact (S.q j).keep z fun B hB => ot (by have : j.toNat < 2 := by cases j <;> decide
                                            omega) (fnW j hB)
  · rw [gN, gwa, ot (by omega) (fnN j)]; exact S.nw j
  · rcases hn i B hB with h1 | ⟨-, h1⟩
    · exact S.far i B h1
    · have := S.kp.1; omega
/-- the wanted blocks of a side -/
theorem NET.want (S : NET h0 h DS WO XO n σ) (k : Bool) (l : List Bool) : NET h0 (h.set (σ k).N (some ⟨true, bB l⟩)) DS WO XO n (upd σ k { σ k with want := l }) := by
  have F : Fr (· = (σ k).N) h (h.set (σ k).N (some ⟨true, bB l⟩)) := Fr.set _ rfl
  have hX : ∀ B, B = (σ k).N → FN DS WO XO σ (7 + k.toNat) B := fun B hB => by subst hB; exact fnN k
  have z := S.frz F hX
  have ot : ∀ {i B : Nat}, i ≠ 7 + k.toNat → FN DS WO XO σ i B → (h.set (σ k).N (some ⟨true, bB l⟩))[B]? = h[B]? := fun hi hB => S.oth F hX hi hB
  have hk2 : k.toNat < 2 := by cases k <;> decide
  generalize hs : ({ σ k with want := l } : Sd) = s'
  have gD : ∀ j, (upd σ k s' j).D = (σ j).D := fun j => by unfold upd; split; rename_i h; rw [h, ← hs]; rfl
  have gw : ∀ j, (upd σ k s' j).w = (σ j).w := fun j => by unfold upd; split; rename_i h; rw [h, ← hs]; rfl
  have gN : ∀ j, (upd σ k s' j).N = (σ j).N := fun j => by unfold upd; split; rename_i h; rw [h, ← hs]; rfl
  have gF : ∀ i B, FN DS WO XO (upd σ k s') i B → FN DS WO XO σ i B := by
    rintro i B (h1 | h1 | h1 | ⟨j, ⟨rfl, h1⟩ | ⟨rfl, h1⟩ | ⟨rfl, h1⟩⟩)
    · exact .inl h1
    · exact .inr (.inl h1)
    · exact .inr (.inr (.inl h1))
    · refine fnD j ?_
      unfold upd at h1
      split at h1
      · rename_i h; rw [h]; rw [← hs] at h1; exact h1
      · exact h1
    · rw [gw] at h1; exact fnW j h1
    · rw [gN] at h1; subst h1; exact fnN j
  refine ⟨S.kp0 F hX, ?_, ?_, ?_, fun j => ?_, fun j => ?_, fun j => ?_, fun i B hB => S.far i B (gF i B hB), fun i j B h1 h2 => S.s i j B (gF i B h1) (gF j B h2)⟩
  · simp only [gD]; rw [ot (by omega) fn0]; exact S.ds
  · simp only [gw]; rw [ot (by omega) fn1]; exact S.wo
  · simp only [gN]; rw [ot (by omega) fn2]; exact S.xo
  · have hj2 : j.toNat < 2 := by cases j <;> decide
    have := (S.A j).keep z fun i B hB => ot (by omega) (fnD j ⟨i, hB⟩)
    unfold upd; split
    · rename_i h; subst h; rw [← hs]; exact this
    · exact this
  · have hj2 : j.toNat < 2 := by cases j <;> decide
    have := (S.q j).keep z fun B hB => ot (by omega) (fnW j hB)
    unfold upd; split
    · rename_i h; subst h; rw [← hs]; exact this
    · exact this
  · by_cases hj : j = k
    · subst hj
      rw [upd_self, ← hs]
      exact List.getElem?_set_self (lt_of_get (S.nw j))
    · rw [upd_ne σ s' hj, ot (k_ne hj 7) (fnN j)]; exact S.nw j
/-- a wire is put in -/
theorem NET.wire (S : NET h0 h DS WO XO n σ) (k : Bool) {w' : Value} {ms' : List Ms} (hl : h.length ≤ h'.length) (hf : ∀ B, B < h.length → slB (σ k).w ≠ some B → h'[B]? = h[B]?) (Q : MQ h' w' ms') (hw : ∀ B, slB w' = some B → slB (σ k).w = some B ∨ h.length ≤ B) :
    h'[WO]? = some (some ⟨true, two fun k => (σ k).w⟩) ∧ NET h0 (h'.set WO (some ⟨true, (two fun k => (σ k).w).set k.toNat w'⟩)) DS WO XO n (upd σ k { σ k with w := w', ms := ms' }) := by
  have F : Fr (fun B => slB (σ k).w = some B) h h' := ⟨hl, hf⟩
  have hX : ∀ B, slB (σ k).w = some B → FN DS WO XO σ (5 + k.toNat) B := fun B hB => fnW k hB
  have z := S.frz F hX
  have ot : ∀ {i B : Nat}, i ≠ 5 + k.toNat → FN DS WO XO σ i B → h'[B]? = h[B]? := fun hi hB => S.oth F hX hi hB
  have hk2 : k.toNat < 2 := by cases k <;> decide
  have hWO : h'[WO]? = some (some ⟨true, two fun k => (σ k).w⟩) := by rw [ot (by omega) fn1]; exact S.wo
  refine ⟨hWO, ?_⟩
  have z2 : Frz h (h'.set WO (some ⟨true, (two fun k => (σ k).w).set k.toNat w'⟩)) := fun B cs hB => frz_set hWO _ B cs (z B cs hB)
  have ne1 : ∀ {i B : Nat}, i ≠ 1 → FN DS WO XO σ i B → WO ≠ B := fun hi hB e => hi (S.s _ _ _ hB (by rw [← e]; exact fn1))
  have ot2 : ∀ {i B : Nat}, i ≠ 5 + k.toNat → i ≠ 1 → FN DS WO XO σ i B → (h'.set WO (some ⟨true, (two fun k => (σ k).w).set k.toNat w'⟩))[B]? = h[B]? := fun hi h1 hB => by rw [set_ne (ne1 h1 hB)]; exact ot hi hB
  generalize hs : ({ σ k with w := w', ms := ms' } : Sd) = s'
  have gD : ∀ j, (upd σ k s' j).D = (σ j).D := fun j => by unfold upd; split; rename_i h; rw [h, ← hs]; rfl
  have gN : ∀ j, (upd σ k s' j).N = (σ j).N := fun j => by unfold upd; split; rename_i h; rw [h, ← hs]; rfl
  have hn : ∀ i B, FN DS WO XO (upd σ k s') i B → FN DS WO XO σ i B ∨ (i = 5 + k.toNat ∧ h.length ≤ B) := by
    rintro i B (h1 | h1 | h1 | ⟨j, ⟨rfl, h1⟩ | ⟨rfl, h1⟩ | ⟨rfl, h1⟩⟩)
    · exact .inl (.inl h1)
    · exact .inl (.inr (.inl h1))
    · exact .inl (.inr (.inr (.inl h1)))
    · refine .inl (fnD j ?_)
      unfold upd at h1
      split at h1
      · rename_i h; rw [h]; rw [← hs] at h1; exact h1
      · exact h1
    · by_cases hj : j = k
      · subst hj
        rw [upd_self, ← hs] at h1
        rcases hw B h1 with h2 | h2
        · exact .inl (fnW j h2)
        · exact .inr ⟨rfl, h2⟩
      · rw [upd_ne σ s' hj] at h1; exact .inl (fnW j h1)
    · rw [gN] at h1; subst h1; exact .inl (fnN j)
  have hwWO : ∀ B, slB w' = some B → WO ≠ B := fun B hB => by
    rcases hw B hB with h2 | h2
    · exact ne1 (by omega) (fnW k h2)
    · have := S.lt (fn1 (DS := DS) (WO := WO) (XO := XO) (σ := σ)); omega
  refine ⟨(S.kp0 F hX).set (S.far 1 WO fn1) _, ?_, ?_, ?_, fun j => ?_, fun j => ?_, fun j => ?_, fun i B hB => ?_, sep_new S.s (fun i B hB => S.lt hB) hn⟩
  · simp only [gD]; rw [ot2 (by omega) (by omega) fn0]; exact S.ds
  · rw [List.getElem?_set_self (lt_of_get hWO), two_set]
    congr 4
    funext j
    unfold upd; split
    · rw [← hs]
    · rfl
  · simp only [gN]; rw [ot2 (by omega) (by omega) fn2]; exact S.xo
  · have hj2 : j.toNat < 2 := by cases j <;> decide
    have := (S.A j).keep z2 fun i B hB => ot2 (by omega) (by omega) (fnD j ⟨i, hB⟩)
    unfold upd; split
    · rename_i h; subst h; rw [← hs]; exact this
    · exact this
  · by_cases hj : j = k
    · subst hj
      rw [upd_self, ← hs]
      exact Q.keep (frz_set hWO _) fun B hB => set_ne (hwWO B hB) _
    · rw [upd_ne σ s' hj]
      have hj2 : j.toNat < 2 := by cases j <;> decide
      exact (S.q j).keep z2 fun B hB => ot2 (k_ne hj 5) (by omega) (fnW j hB)
  · have hj2 : j.toNat < 2 := by cases j <;> decide
    have := ot2 (by omega) (by omega) (fnN (DS := DS) (WO := WO) (XO := XO) (σ := σ) j)
    have e : (upd σ k s' j).want = (σ j).want := by unfold upd; split; rename_i h; rw [h, ← hs]; rfl
    rw [gN, e, this]; exact S.nw j
  · rcases hn i B hB with h1 | ⟨-, h1⟩
    · exact S.far i B h1
    · have := S.kp.1; omega
end

theorem getN_sub {l rows r : List Value} {off n i m : Nat} (h : getN l off n = some rows) (h2 : getN rows i m = some r) (hm : 0 < m) (hn : 0 < n) : getN l (off + i) m = some r := by
  rw [getN_eq] at h h2 ⊢
  obtain ⟨a1, rfl⟩ := h
  obtain ⟨a2, rfl⟩ := h2
  rw [if_neg (by omega)] at a1 a2 ⊢
  rw [List.length_take, List.length_drop] at a2
  refine ⟨by omega, ?_⟩
  rw [List.drop_take, List.drop_drop, List.take_take, Nat.min_eq_left (by omega)]
theorem MsgsR.at {h : AHeap} : ∀ {cells : List Value} {ms : List Ms} {j : Nat} {m : Ms}, MsgsR h cells ms → ms[j]? = some m → ∃ mv ov, getN cells (j * 5) 5 = some (m.cells mv ov) ∧ BitsV h mv m.mask ∧ BitsV h ov m.on
  | _, [], j, m, _, hj => by simp at hj
  | _, x :: ms, 0, m, ⟨mv, ov, r, h1, h2, h3, h4⟩, hj => by
    have : x = m := by simpa using hj
    subst this
    refine ⟨mv, ov, ?_, h2, h3⟩
    rw [h1, getN_eq, if_neg (by omega)]
    exact ⟨by simp [Ms.cells], by simp [Ms.cells]⟩
  | _, x :: ms, j + 1, m, ⟨mv, ov, r, h1, h2, h3, h4⟩, hj => by
    obtain ⟨mv', ov', k1, k2, k3⟩ := MsgsR.at (j := j) h4 (by simpa using hj)
    refine ⟨mv', ov', ?_, k2, k3⟩
    rw [getN_eq, if_neg (by omega)] at k1 ⊢
    obtain ⟨k4, k5⟩ := k1
    have hl : (x.cells mv ov).length = 5 := rfl
    refine ⟨by rw [h1, List.length_append, hl]; omega, ?_⟩
    rw [k5, h1, List.drop_append, hl]
    have e1 : (x.cells mv ov).drop ((j + 1) * 5) = [] := List.drop_eq_nil_of_le (by rw [hl]; omega)
    rw [e1, List.nil_append]
    congr 2
    omega
theorem MQ.elem {h : AHeap} {v : Value} {ms : List Ms} (q : MQ h v ms) {j : Nat} {m : Ms} (hj : ms[j]? = some m) : ∃ A off c cells mv ov, v = .slice (some ⟨A, off, none⟩) ms.length c ∧ h[A]? = some (some ⟨true, cells⟩) ∧ getN cells (off + j * 5) 5 = some (m.cells mv ov) ∧ BitsV h mv m.mask ∧ BitsV h ov m.on := by
  obtain ⟨rows, ⟨h1, ⟨-, h2⟩ | ⟨A, off, cells, rfl, h3, h4⟩⟩, R⟩ := q
  · have := (List.getElem?_eq_some_iff.1 hj).1; omega
  · obtain ⟨mv, ov, k1, k2, k3⟩ := R.at hj
    have := (List.getElem?_eq_some_iff.1 hj).1
    exact ⟨A, off, _, cells, mv, ov, rfl, h3, getN_sub h4 k1 (by decide) (by omega), k2, k3⟩
theorem MQ.shp {h : AHeap} {v : Value} {ms : List Ms} (q : MQ h v ms) : ∃ a c, v = .slice a ms.length c := q.choose_spec.1.shp
theorem MQ.pop {h : AHeap} {v : Value} {m : Ms} {ms : List Ms} (q : MQ h v (m :: ms)) : ∃ v', (∀ (ρ : Env) (x lo : XA), ev ρ x = some v → ev ρ lo = some (.int .i64 1) → xop (.slice 5 x (some lo) none none) ρ h = some (v', h)) ∧ MQ h v' ms ∧ (∀ B, slB v' = some B → slB v = some B) := by
  obtain ⟨rows, r, mv, ov, rr, h1, h2, h3, h4⟩ := q
  obtain ⟨v', k1, k2, k3⟩ := r.behind (j := 1) (by simp)
  refine ⟨v', fun ρ x lo hx hlo => k1 ρ x lo hx hlo, ⟨rr, ?_, h4⟩, k3⟩
  have e : rows.drop (1 * 5) = rr := by rw [h1]; rfl
  rw [e] at k2
  simpa using k2
theorem MsgsR.one {h : AHeap} : ∀ {cells : List Value} {ms : List Ms}, MsgsR h cells ms → cells.all oneC = true
  | _, [], k => by rw [k]; rfl
  | _, m :: ms, ⟨mv, ov, r, h1, h2, h3, h4⟩ => by
    obtain ⟨q, c, rfl⟩ := h2.shape
    obtain ⟨q', c', rfl⟩ := h3.shape
    rw [h1, List.all_append, MsgsR.one h4]; rfl
theorem MsgsR.app {h : AHeap} : ∀ {c1 : List Value} {ms : List Ms} {c2 : List Value} {ms2 : List Ms}, MsgsR h c1 ms → MsgsR h c2 ms2 → MsgsR h (c1 ++ c2) (ms ++ ms2)
  | _, [], c2, ms2, k, k2 => by rw [show _ = ([] : List Value) from k]; exact k2
  | _, m :: ms, c2, ms2, ⟨mv, ov, r, h1, h2, h3, h4⟩, k2 => ⟨mv, ov, r ++ c2, by rw [h1, List.append_assoc], h2, h3, MsgsR.app h4 k2⟩
theorem MQ.app_run {P : Program} {K : Env → AHeap → Prop} {r : List XOper} {ρ : Env} {h : AHeap} {d : Option Nat} {s x : XA} {w xv : Value} {ms ms' : List Ms} {cells' z : List Value} (hz : z.length = 5) (q : MQ h w ms) (hs : ev ρ s = some w) (hx : ev ρ x = some xv) (hl : lenV xv = some ms'.length) (hf : firstV 5 h ms'.length xv = some cells') (R : MsgsR h cells' ms') (hb : ms.length + ms'.length ≤ 1000000)
    (hK : ∀ h' w', h.length ≤ h'.length → (∀ B, B < h.length → slB w ≠ some B → h'[B]? = h[B]?) → MQ h' w' (ms ++ ms') → (∀ B, slB w' = some B → slB w = some B ∨ h.length ≤ B) → xops P K r (put d w' ρ) h') :
    xops P K (⟨d, none, .append 5 64 z s x, []⟩ :: r) ρ h := by
  obtain ⟨rows, rr, R0⟩ := q
  have hown : ∀ B cs, slB w = some B → h[B]? ≠ some (some ⟨false, cs⟩) := fun B cs hB e => by obtain ⟨cs', h2⟩ := rr.own hB; rw [h2] at e; cases e
  refine append_run (k := 5) (by_ := 64) (n := ms.length) (m := ms'.length) (rows := rows) (news := cells') (sl := w) (xv := xv) hz (by decide) hs hx hl hf R.len R.one rr.toO (by omega) (by omega) (fun h0 => ?_) (fun hm h' A' hA' hg hl' hfr => ?_)
  · have e : ms' = [] := List.eq_nil_of_length_eq_zero h0
    subst e
    exact hK h w (Nat.le_refl _) (fun _ _ _ => rfl) (by rw [List.append_nil]; exact ⟨rows, rr, R0⟩) fun B hB => .inl hB
  · have z : Frz h h' := fun B cs hB => by
      rw [hfr B (lt_of_get hB) fun e => hown B cs e hB]; exact hB
    have e : ms.length + ms'.length = (ms ++ ms').length := by simp
    rw [e]
    refine hK h' _ (by omega) hfr ⟨rows ++ cells', RetN.all hg ?_, (R0.frz z).app (R.frz z)⟩ fun B hB => ?_
    · rw [List.length_append, R.len, rr.1, ← e]; omega
    · have : A' = B := Option.some.inj hB
      exact .inr (by omega)
theorem slice1 {h : AHeap} {R : Nat} {cells : List Value} (hR : h[R]? = some (some ⟨true, cells⟩)) (hl : cells.length = 5) : firstV 5 h 1 (.slice (some ⟨R, 0, none⟩) 1 1) = some cells := by
  simp only [firstV, cellsAt, hR]
  rw [if_neg (by decide)]
  simpa using getN_all cells 5 hl.symm

theorem allk {P : Bool → Prop} (k : Bool) (h1 : P k) (h2 : P (!k)) : ∀ j, P j := by
  intro j; cases k <;> cases j <;> first | exact h1 | exact h2
def PP (n : Nat) (σ : Bool → Sd) : Prop := ∀ k, Pr n (σ k).d (σ (!k)).d (σ (!k)).ms (σ k).ms
theorem PP.mk (k : Bool) {n : Nat} {σ : Bool → Sd} (h : Pr n (σ k).d (σ (!k)).d (σ (!k)).ms (σ k).ms) : PP n σ := by
  refine allk (P := fun k => Pr n (σ k).d (σ (!k)).d (σ (!k)).ms (σ k).ms) k h ?_
  rw [Bool.not_not]; exact h.symm
def Wn (σ : Bool → Sd) : Prop := ∀ k, (σ k).want = (σ k).d.locals
def tot (σ : Bool → Sd) : Nat := (σ false).ms.length + (σ false).d.out.length + (σ true).ms.length + (σ true).d.out.length
theorem tot_k (σ : Bool → Sd) (k : Bool) : tot σ = (σ k).ms.length + (σ k).d.out.length + (σ (!k)).ms.length + (σ (!k)).d.out.length := by
  cases k
  · rfl
  · unfold tot; show _ = (σ true).ms.length + (σ true).d.out.length + (σ false).ms.length + (σ false).d.out.length; omega
/-- the registers that stay -/
def Rk (q : Option Addr) (nA c n Da Db DS WO XO : Nat) (ρ : Env) : Prop := get ρ 2 = some (.slice q nA c) ∧ get ρ 7 = some (.int .i64 (n : Nat)) ∧ get ρ 9 = some (ptr Da) ∧ get ρ 11 = some (ptr Db) ∧ get ρ 13 = some (.slice (some ⟨DS, 0, none⟩) 2 2) ∧ get ρ 14 = some (ptr WO) ∧ get ρ 15 = some (ptr XO)
def Ids (σ : Bool → Sd) (Da Db : Nat) : Prop := (σ false).D = Da ∧ (σ true).D = Db
theorem Ids.upd {σ : Bool → Sd} {Da Db : Nat} (I : Ids σ Da Db) (k : Bool) {s : Sd} (h : s.D = (σ k).D) : Ids (upd σ k s) Da Db := by
  cases k
  · exact ⟨h.trans I.1, I.2⟩
  · exact ⟨I.1, h.trans I.2⟩
/-- the state of the two -/
structure Ag (h0 h : AHeap) (DS WO XO n Da Db : Nat) (σ : Bool → Sd) : Prop where
  net : NET h0 h DS WO XO n σ
  ids : Ids σ Da Db
  pp : PP n σ
  wn : Wn σ
theorem Ag.keep {h0 h h' : AHeap} {DS WO XO n Da Db : Nat} {σ : Bool → Sd} (A : Ag h0 h DS WO XO n Da Db σ) (K : Kp h h') : Ag h0 h' DS WO XO n Da Db σ := ⟨A.net.keep K, A.ids, A.pp, A.wn⟩
/-- between two acts -/
def AgI (h0 : AHeap) (DS WO XO n Da Db : Nat) (q : Option Addr) (nA c : Nat) (m : Nat) (ρ : Env) (h : AHeap) : Prop := ∃ i σ, i + m = nA + 200 ∧ Rk q nA c n Da Db DS WO XO ρ ∧ get ρ 16 = some (.int .i64 (i : Nat)) ∧ Ag h0 h DS WO XO n Da Db σ ∧ (∀ k, (σ k).d.last ≤ i) ∧ (∀ k, (σ k).d.out = []) ∧ tot σ ≤ i
/-- behind an act -/
def AgM (h0 : AHeap) (DS WO XO n Da Db : Nat) (q : Option Addr) (nA c : Nat) (i : Nat) (ρ : Env) (h : AHeap) : Prop := ∃ σ, Rk q nA c n Da Db DS WO XO ρ ∧ get ρ 16 = some (.int .i64 (i : Nat)) ∧ Ag h0 h DS WO XO n Da Db σ ∧ (∀ k, (σ k).d.last ≤ (i : Int) + 1) ∧ tot σ ≤ i + 1
/-- all acts are done -/
def AgE (h0 : AHeap) (DS WO XO n Da Db : Nat) (ρ : Env) (h : AHeap) : Prop := ∃ σ, get ρ 7 = some (.int .i64 (n : Nat)) ∧ get ρ 9 = some (ptr Da) ∧ get ρ 11 = some (ptr Db) ∧ get ρ 13 = some (.slice (some ⟨DS, 0, none⟩) 2 2) ∧ get ρ 14 = some (ptr WO) ∧ get ρ 15 = some (ptr XO) ∧ Ag h0 h DS WO XO n Da Db σ ∧ (∀ k, (σ k).d.last ≤ 300) ∧ (∀ k, (σ k).d.out = []) ∧ tot σ ≤ 300
theorem NET.start {h0 g : AHeap} {Da Ga La Ta Db Gb Lb Tb M n : Nat} {d : DK} (K : Kp h0 g) (A : DAt g Da Ga La Ta d (.pointer none) (.slice none 0 0)) (B : DAt g Db Gb Lb Tb d (.pointer none) (.slice none 0 0))
    (fa : ∀ X, ftD Da Ga La Ta (.slice none 0 0) X → h0.length ≤ X ∧ X < M) (fb : ∀ X, ftD Db Gb Lb Tb (.slice none 0 0) X → M ≤ X) (hM : h0.length ≤ M) :
    NET h0 (g ++ [some ⟨true, [ptr Da, ptr Db]⟩, some ⟨true, [.slice none 0 0, .slice none 0 0]⟩, some ⟨true, [.slice (some ⟨g.length + 3, 0, none⟩) n n, .slice (some ⟨g.length + 4, 0, none⟩) n n]⟩, some ⟨true, bB (List.replicate n false)⟩, some ⟨true, bB (List.replicate n false)⟩]) g.length (g.length + 1) (g.length + 2) n
      fun k => if k then ⟨Db, Gb, Lb, Tb, d, .pointer none, .slice none 0 0, .slice none 0 0, [], g.length + 4, List.replicate n false⟩ else ⟨Da, Ga, La, Ta, d, .pointer none, .slice none 0 0, .slice none 0 0, [], g.length + 3, List.replicate n false⟩ := by
  have KA := Kp.app g [some (AObj.mk true [ptr Da, ptr Db]), some (AObj.mk true [.slice none 0 0, .slice none 0 0]), some (AObj.mk true [.slice (some ⟨g.length + 3, 0, none⟩) n n, .slice (some ⟨g.length + 4, 0, none⟩) n n]), some (AObj.mk true (bB (List.replicate n false))), some (AObj.mk true (bB (List.replicate n false)))]
  have hl := K.1
  have la : ∀ X, ftD Da Ga La Ta (.slice none 0 0) X → X < g.length := fun X ⟨i, hX⟩ => A.lt hX
  have lb : ∀ X, ftD Db Gb Lb Tb (.slice none 0 0) X → X < g.length := fun X ⟨i, hX⟩ => B.lt hX
  have cls : ∀ j X, FN g.length (g.length + 1) (g.length + 2) (fun k => if k then ⟨Db, Gb, Lb, Tb, d, .pointer none, .slice none 0 0, .slice none 0 0, [], g.length + 4, List.replicate n false⟩ else ⟨Da, Ga, La, Ta, d, .pointer none, .slice none 0 0, .slice none 0 0, [], g.length + 3, List.replicate n false⟩) j X →
      (j = 0 ∧ X = g.length) ∨ (j = 1 ∧ X = g.length + 1) ∨ (j = 2 ∧ X = g.length + 2) ∨ (j = 3 ∧ ftD Da Ga La Ta (.slice none 0 0) X) ∨ (j = 4 ∧ ftD Db Gb Lb Tb (.slice none 0 0) X) ∨ (j = 7 ∧ X = g.length + 3) ∨ (j = 8 ∧ X = g.length + 4) := by
    rintro j X (h1 | h1 | h1 | ⟨k, ⟨rfl, h1⟩ | ⟨rfl, h1⟩ | ⟨rfl, h1⟩⟩)
    · exact .inl h1
    · exact .inr (.inl h1)
    · exact .inr (.inr (.inl h1))
    · cases k
      · exact .inr (.inr (.inr (.inl ⟨rfl, h1⟩)))
      · exact .inr (.inr (.inr (.inr (.inl ⟨rfl, h1⟩))))
    · cases k <;> cases h1
    · cases k
      · exact .inr (.inr (.inr (.inr (.inr (.inl ⟨rfl, h1⟩)))))
      · exact .inr (.inr (.inr (.inr (.inr (.inr ⟨rfl, h1⟩)))))
  refine ⟨K.trans KA, by simp [two], by simp [two], by simp [two], fun k => ?_, fun k => ?_, fun k => ?_, fun j X hX => ?_, fun i j X h1 h2 => ?_⟩
  · cases k
    · exact A.kp KA
    · exact B.kp KA
  · cases k
    · exact MQ.nil _
    · exact MQ.nil _
  · cases k
    · show (g ++ _)[g.length + 3]? = _; simp
    · show (g ++ _)[g.length + 4]? = _; simp
  · rcases cls j X hX with ⟨-, rfl⟩ | ⟨-, rfl⟩ | ⟨-, rfl⟩ | ⟨-, h⟩ | ⟨-, h⟩ | ⟨-, rfl⟩ | ⟨-, rfl⟩
    · omega
    · omega
    · omega
    · exact (fa X h).1
    · have := fb X h; omega
    · omega
    · omega
  · have h1' := cls i X h1
    have h2' := cls j X h2
    have a3 : ∀ {X}, ftD Da Ga La Ta (.slice none 0 0) X → X < g.length ∧ X < M := fun h => ⟨la _ h, (fa _ h).2⟩
    have b3 : ∀ {X}, ftD Db Gb Lb Tb (.slice none 0 0) X → X < g.length ∧ M ≤ X := fun h => ⟨lb _ h, fb _ h⟩
    rcases h1' with ⟨rfl, h⟩ | ⟨rfl, h⟩ | ⟨rfl, h⟩ | ⟨rfl, h⟩ | ⟨rfl, h⟩ | ⟨rfl, h⟩ | ⟨rfl, h⟩ <;> rcases h2' with ⟨rfl, h'⟩ | ⟨rfl, h'⟩ | ⟨rfl, h'⟩ | ⟨rfl, h'⟩ | ⟨rfl, h'⟩ | ⟨rfl, h'⟩ | ⟨rfl, h'⟩ <;> first | rfl | omega | (have := a3 h; omega) | (have := a3 h'; omega) | (have := b3 h; omega) | (have := b3 h'; omega) | (have := a3 h; have := b3 h'; omega) | (have := b3 h; have := a3 h'; omega)
theorem Pr.fresh {n : Nat} {a : Int} (ha : 1 ≤ a ∧ a ≤ 8) : Pr n (DK.fresh (List.replicate n ⟨false, false⟩) a) (DK.fresh (List.replicate n ⟨false, false⟩) a) [] [] := by
  have D : Dir n true (DK.fresh (List.replicate n ⟨false, false⟩) a) (DK.fresh (List.replicate n ⟨false, false⟩) a) [] [] := by
    refine ⟨by simp [DK.fresh], by simp [DK.fresh], by simp [DK.fresh], by show (0 : Int) ≤ 0; omega, ⟨ha.1, ha.2, by show (0 : Int) ≤ 0; omega, by show (0 : Int) < a; omega⟩, fun m hm => ?_, fun m hm => ?_, fun m hm => ?_, .inl ⟨rfl, rfl, ?_, fun _ => ?_⟩⟩
    · rcases hm with hm | hm <;> cases hm
    · rcases hm with hm | hm <;> cases hm
    · rcases hm with hm | hm <;> cases hm
    · simp [DK.res, DK.fresh]
    · simp [DK.locals, DK.fresh]
  exact ⟨D, D⟩
theorem NET.app {h0 h h' : AHeap} {DS WO XO n : Nat} {σ : Bool → Sd} {v : Value} (S : NET h0 h DS WO XO n σ) (hl : h.length ≤ h'.length) (hk : ∀ B, B < h.length → slB v ≠ some B → h'[B]? = h[B]?) (own : ∀ B, slB v = some B → ∃ cs, h[B]? = some (some ⟨true, cs⟩)) (ap : ∀ B, slB v = some B → h0.length ≤ B ∧ ∀ j, ¬ FN DS WO XO σ j B) : NET h0 h' DS WO XO n σ := by
  have F : Fr (fun B => slB v = some B) h h' := ⟨hl, hk⟩
  have z : Frz h h' := F.frz fun B cs hB e => by obtain ⟨cs', h2⟩ := own B hB; rw [h2] at e; cases e
  have ot : ∀ {i B : Nat}, FN DS WO XO σ i B → h'[B]? = h[B]? := fun {i B} hB => hk B (S.lt hB) fun e => (ap B e).2 i hB
  refine ⟨⟨Nat.le_trans S.kp.1 hl, fun B hB => ?_⟩, ?_, ?_, ?_, fun k => ?_, fun k => ?_, fun k => ?_, S.far, S.s⟩
  · rw [hk B (Nat.lt_of_lt_of_le hB S.kp.1) fun e => by have := (ap B e).1; omega]
    exact S.kp.2 B hB
  · rw [ot fn0]; exact S.ds
  · rw [ot fn1]; exact S.wo
  · rw [ot fn2]; exact S.xo
  · exact (S.A k).keep z fun i B hB => ot (fnD k ⟨i, hB⟩)
  · exact (S.q k).keep z fun B hB => ot (fnW k hB)
  · rw [ot (fnN k)]; exact S.nw k
theorem Pr.setAll_n {n : Nat} {a b : DK} {Wb Wa : List Ms} (P : Pr n a b Wb Wa) (hs : a.last ≤ 1000) (on : Bool) (zs : List Int) : (a.setAll on zs).last ≤ a.last + 1 ∧ (a.setAll on zs).out.length ≤ a.out.length + 1 ∧ (a.setAll on zs).locals = zs.foldl (fun l z => l.set z.toNat on) a.locals := by
  have hx := next_sh { a with cs := setLs a.cs on zs }
  have h0 := P.ab.l0
  unfold DK.setAll
  refine ⟨?_, ?_, ?_⟩
  · rcases hx.2.2.2 with h | ⟨-, h⟩
    · rw [h]; show a.last ≤ _; omega
    · rw [h]; show IntKind.u32.wrap (a.last + 1) ≤ _; rw [u32_wrap_small (by omega) (by omega)]; exact Int.le_refl _
  · rcases hx.2.2.2 with h | ⟨h, -⟩
    · rw [h]; show a.out.length ≤ _; omega
    · rw [h]; show (a.out ++ _).length ≤ _; simp
  · unfold DK.locals; rw [hx.1]; exact setLs_lo on zs a.cs
/-- the numbers of an act -/
def cdA (N : Nat) (cs : List Int) (j : Nat) : List Int := (cs.take j).map (· % (N : Int))
theorem cdA_len (N : Nat) (cs : List Int) (j : Nat) : (cdA N cs j).length = min j cs.length := by simp [cdA]
theorem cdA_snoc (N : Nat) {cs : List Int} {j : Nat} {z : Int} (h : cs[j]? = some z) : cdA N cs (j + 1) = cdA N cs j ++ [z % (N : Int)] := by
  unfold cdA; rw [List.take_add_one, h]; simp
theorem cdA_in {N : Nat} (hN : 1 ≤ N) (cs : List Int) (j : Nat) : ∀ z ∈ cdA N cs j, 0 ≤ z ∧ z < (N : Int) := by
  intro z hz
  unfold cdA at hz
  obtain ⟨y, -, rfl⟩ := List.mem_map.1 hz
  exact ⟨Int.emod_nonneg _ (by omega), Int.emod_lt_of_pos _ (by omega)⟩
/-- a list of numbers that lies apart from the net -/
structure CvA (h0 h : AHeap) (DS WO XO : Nat) (σ : Bool → Sd) (R : Nat) (v : Value) (zs : List Int) : Prop where
  ret : RetN 1 h v zs.length (zs.map (.int .i64))
  ap : ∀ B, slB v = some B → h0.length ≤ B ∧ B ≠ R ∧ ∀ j, ¬ FN DS WO XO σ j B
theorem CvA.keep {h0 h h' : AHeap} {DS WO XO : Nat} {σ : Bool → Sd} {R : Nat} {v : Value} {zs : List Int} (C : CvA h0 h DS WO XO σ R v zs) (K : Kp h h') : CvA h0 h' DS WO XO σ R v zs := ⟨C.ret.keep fun A hA => K.2 A (C.ret.lt hA), C.ap⟩
theorem FN.want {DS WO XO : Nat} {σ : Bool → Sd} {k : Bool} {l : List Bool} {j B : Nat} : FN DS WO XO (upd σ k { σ k with want := l }) j B ↔ FN DS WO XO σ j B := by
  unfold FN
  have e : ∀ i, ((upd σ k { σ k with want := l } i).D = (σ i).D ∧ (upd σ k { σ k with want := l } i).G = (σ i).G ∧ (upd σ k { σ k with want := l } i).L = (σ i).L ∧ (upd σ k { σ k with want := l } i).T = (σ i).T) ∧ (upd σ k { σ k with want := l } i).outv = (σ i).outv ∧ (upd σ k { σ k with want := l } i).w = (σ i).w ∧ (upd σ k { σ k with want := l } i).N = (σ i).N := fun i => by
    unfold upd; split
    · rename_i h; subst h; exact ⟨⟨rfl, rfl, rfl, rfl⟩, rfl, rfl, rfl⟩
    · exact ⟨⟨rfl, rfl, rfl, rfl⟩, rfl, rfl, rfl⟩
  simp only [(e _).1.1, (e _).1.2.1, (e _).1.2.2.1, (e _).1.2.2.2, (e _).2.1, (e _).2.2.1, (e _).2.2.2]
theorem upd_upd (σ : Bool → Sd) (k : Bool) (s t : Sd) : upd (upd σ k s) k t = upd σ k t := by
  funext j; unfold upd; split <;> rfl
theorem upd_same (σ : Bool → Sd) (k : Bool) : upd σ k (σ k) = σ := by
  funext j; unfold upd; split
  · rename_i h; rw [h]
  · rfl
theorem upd_w {σ : Bool → Sd} {k : Bool} {s : Sd} (h : s.w = (σ k).w) (j : Bool) : (upd σ k s j).w = (σ j).w := by
  unfold upd; split
  · rename_i e; rw [e]; exact h
  · rfl
theorem upd_D {σ : Bool → Sd} {k : Bool} {s : Sd} (h : s.D = (σ k).D) (j : Bool) : (upd σ k s j).D = (σ j).D := by
  unfold upd; split
  · rename_i e; rw [e]; exact h
  · rfl
theorem upd_N {σ : Bool → Sd} {k : Bool} {s : Sd} (h : s.N = (σ k).N) (j : Bool) : (upd σ k s j).N = (σ j).N := by
  unfold upd; split
  · rename_i e; rw [e]; exact h
  · rfl
theorem Fit.len {n : Nat} {m : Ms} (f : Fit n m) : m.mask.length ≤ 32 ∧ m.on.length ≤ 32 := by
  obtain ⟨⟨-, -, h1, ⟨-, -, h2⟩ | ⟨-, -, h2, -⟩⟩, -⟩ := f <;> omega
/-- Hear of a message that was on the way -/
theorem Pr.heard {n : Nat} {a b : DK} {Wb Wa : List Ms} (P : Pr n a b Wb Wa) {m : Ms} (hm : m ∈ Wa) {h h' : AHeap} {D G L T : Nat} {outv r : Value} (Q : HearP h D G L T a outv m r h') : r = .int .i64 0 ∧ WentD h h' D G L T (a.hr m) outv := by
  obtain ⟨⟨ok, fit⟩, hk⟩ := P.fit hm
  have hcl := P.ab.cl
  rcases Q with ⟨h1, -⟩ | ⟨-, -, h2, rfl, W⟩ | ⟨-, -, h2, rfl, W⟩
  · exact absurd ⟨ok, by rw [hcl]; exact fit⟩ h1
  · exact ⟨rfl, by unfold DK.hr; rw [if_neg (by omega)]; exact W⟩
  · exact ⟨rfl, by unfold DK.hr; rw [if_pos h2]; exact W⟩
theorem tick_len (S : DK) : S.tick.out.length ≤ S.out.length + 1 := by
  cases e : S.op with
  | none => rw [DK.tick_none S e]; omega
  | some x => rw [DK.tick_some S e]; split <;> simp
/-- Take: what was to be sent is on the way -/
theorem Ag.take2 {h0 h h2 : AHeap} {DS WO XO n Da Db : Nat} {σ : Bool → Sd} (A : Ag h0 h DS WO XO n Da Db σ) (k : Bool) {o v w' : Value} {σ2 : Bool → Sd}
    (e : σ2 = upd (upd σ k { σ k with d := { (σ k).d with out := [] }, opv := o, outv := v }) (!k) { σ (!k) with w := w', ms := (σ (!k)).ms ++ (σ k).d.out }) (N2 : NET h0 h2 DS WO XO n σ2) :
    Ag h0 h2 DS WO XO n Da Db σ2 ∧ (σ2 k).d = { (σ k).d with out := [] } ∧ (σ2 k).ms = (σ k).ms ∧ (σ2 (!k)).d = (σ (!k)).d ∧ (σ2 (!k)).ms = (σ (!k)).ms ++ (σ k).d.out ∧ tot σ2 = tot σ ∧ ∀ j, (σ2 j).d.last = (σ j).d.last := by
  have hk : k ≠ !k := by cases k <;> decide
  have e1 : σ2 k = { σ k with d := { (σ k).d with out := [] }, opv := o, outv := v } := by rw [e, upd_ne _ _ hk, upd_self]
  have e2 : σ2 (!k) = { σ (!k) with w := w', ms := (σ (!k)).ms ++ (σ k).d.out } := by rw [e, upd_self]
  have f1 : (σ2 k).d = { (σ k).d with out := [] } := by rw [e1]
  have f2 : (σ2 k).ms = (σ k).ms := by rw [e1]
  have f3 : (σ2 (!k)).d = (σ (!k)).d := by rw [e2]
  have f4 : (σ2 (!k)).ms = (σ (!k)).ms ++ (σ k).d.out := by rw [e2]
  have fD : ∀ j, (σ2 j).D = (σ j).D := allk k (by rw [e1]) (by rw [e2])
  refine ⟨⟨N2, ⟨(fD false).trans A.ids.1, (fD true).trans A.ids.2⟩, PP.mk k ?_, allk k ?_ ?_⟩, f1, f2, f3, f4, ?_, allk k (by rw [f1]) (by rw [f3])⟩
  · rw [f1, f2, f3, f4]; exact (A.pp k).take
  · show (σ2 k).want = (σ2 k).d.locals
    rw [e1]; exact A.wn k
  · show (σ2 (!k)).want = (σ2 (!k)).d.locals
    rw [e2]; exact A.wn (!k)
  · rw [tot_k σ2 k, tot_k σ k, f1, f2, f3, f4, List.length_append]
    show (σ k).ms.length + 0 + _ + _ = _
    omega
theorem DK.loc_at {d : DK} {c : Nat} {x : Bool} (h : d.locals[c]? = some x) : d.blkAt false (c : Int) = x := by
  unfold DK.locals at h
  rw [List.getElem?_map] at h
  cases e : d.cs[c]? with
  | none => rw [e] at h; cases h
  | some y =>
    rw [e] at h
    rw [DK.blk_at d e]; exact Option.some.inj h
theorem DK.res_at {d : DK} {c : Nat} {x : Bool} (h : d.res[c]? = some x) : d.blkAt true (c : Int) = x := by
  unfold DK.res at h
  rw [List.getElem?_map] at h
  cases e : d.cs[c]? with
  | none => rw [e] at h; cases h
  | some y =>
    rw [e] at h
    unfold DK.blkAt
    rw [if_pos (by omega), Int.toNat_natCast, e]; exact Option.some.inj h
/-- the two are compared -/
def ChO (h0 : AHeap) (DS WO XO n Da Db : Nat) (q : Option Addr) (nA c i : Nat) (σ : Bool → Sd) (m : Nat) (ρ : Env) (h : AHeap) : Prop := ∃ j, j + m = 2 ∧ Rk q nA c n Da Db DS WO XO ρ ∧ get ρ 16 = some (.int .i64 (i : Nat)) ∧ get ρ 21 = some (.int .i64 (j : Nat)) ∧ Ag h0 h DS WO XO n Da Db σ
def ChI (h0 : AHeap) (DS WO XO n Da Db : Nat) (q : Option Addr) (nA c i : Nat) (σ : Bool → Sd) (k : Bool) (m : Nat) (ρ : Env) (h : AHeap) : Prop := ∃ j, j + m = n ∧ Rk q nA c n Da Db DS WO XO ρ ∧ get ρ 16 = some (.int .i64 (i : Nat)) ∧ get ρ 21 = some (.int .i64 ((Bool.toNat k : Nat) : Int)) ∧ get ρ 22 = some (.int .i64 (j : Nat)) ∧ Ag h0 h DS WO XO n Da Db σ
def ChE (h0 : AHeap) (DS WO XO n Da Db : Nat) (q : Option Addr) (nA c i : Nat) (σ : Bool → Sd) (ρ : Env) (h : AHeap) : Prop := Rk q nA c n Da Db DS WO XO ρ ∧ get ρ 16 = some (.int .i64 (i : Nat)) ∧ Ag h0 h DS WO XO n Da Db σ
def ChF (h0 : AHeap) (DS WO XO n Da Db : Nat) (q : Option Addr) (nA c i : Nat) (σ : Bool → Sd) (k : Bool) (ρ : Env) (h : AHeap) : Prop := Rk q nA c n Da Db DS WO XO ρ ∧ get ρ 16 = some (.int .i64 (i : Nat)) ∧ get ρ 21 = some (.int .i64 ((Bool.toNat k : Nat) : Int)) ∧ Ag h0 h DS WO XO n Da Db σ
/-- one tick of a side -/
theorem Ag.tick2 {h0 h h2 : AHeap} {DS WO XO n Da Db : Nat} {σ : Bool → Sd} (A : Ag h0 h DS WO XO n Da Db σ) (k : Bool) (W : WentD h h2 (σ k).D (σ k).G (σ k).L (σ k).T (σ k).d.tick (σ k).outv) :
    ∃ σ2, Ag h0 h2 DS WO XO n Da Db σ2 ∧ (σ2 k).d = (σ k).d.tick ∧ (σ2 (!k)).d = (σ (!k)).d ∧ ∀ j, (σ2 j).ms = (σ j).ms := by
  obtain ⟨o, v, N2⟩ := A.net.went k W
  have hk : k ≠ !k := by cases k <;> decide
  refine ⟨_, ⟨N2, A.ids.upd k rfl, PP.mk k ?_, allk k ?_ ?_⟩, ?_, ?_, allk k ?_ ?_⟩
  · rw [upd_self, upd_not]; exact (A.pp k).tick
  · show (upd σ k _ k).want = (upd σ k _ k).d.locals
    rw [upd_self]
    show (σ k).want = (σ k).d.tick.locals
    rw [A.wn k]; unfold DK.locals; rw [(tick_sh (σ k).d (A.pp k).ab.ag).1]
  · show (upd σ k _ (!k)).want = (upd σ k _ (!k)).d.locals
    rw [upd_not]; exact A.wn (!k)
  · rw [upd_self]
  · rw [upd_not]
  · rw [upd_self]
  · rw [upd_not]
theorem dif_tick {n : Nat} {S : DK} (h : 1 ≤ S.again ∧ S.again ≤ 8 ∧ 0 ≤ S.age ∧ S.age < S.again) : dif n S.tick = dif n S ∧ S.tick.last = S.last := by
  obtain ⟨h1, h2, h3, -⟩ := tick_sh S h
  refine ⟨?_, h3⟩
  unfold dif DK.locals; rw [h1, h2]
/-- the registers that stay behind the acts -/
def R2 (n Da Db DS WO XO : Nat) (ρ : Env) : Prop := get ρ 7 = some (.int .i64 (n : Nat)) ∧ get ρ 9 = some (.pointer (some ⟨Da, 0, none⟩)) ∧ get ρ 11 = some (.pointer (some ⟨Db, 0, none⟩)) ∧ get ρ 13 = some (.slice (some ⟨DS, 0, none⟩) 2 2) ∧ get ρ 14 = some (.pointer (some ⟨WO, 0, none⟩)) ∧ get ρ 15 = some (.pointer (some ⟨XO, 0, none⟩))
structure Lv (n t : Nat) (σ : Bool → Sd) : Prop where
  ld : ∀ k, (σ k).d.last + dif n (σ k).d ≤ 400
  fl : ∀ k, (σ k).ms.length + (σ (!k)).d.out.length ≤ 300 + t
  tt : ∀ k, T n (σ k).d (σ (!k)).d (σ (!k)).ms (σ k).ms (2000 - t) (2000 - t)
def LvI (h0 : AHeap) (DS WO XO n Da Db : Nat) (m : Nat) (ρ : Env) (h : AHeap) : Prop := ∃ t σ, t + m = 2000 ∧ R2 n Da Db DS WO XO ρ ∧ get ρ 23 = some (.int .i64 (t : Nat)) ∧ Ag h0 h DS WO XO n Da Db σ ∧ Lv n t σ
def LvE (h0 : AHeap) (DS WO XO n Da Db : Nat) (ρ : Env) (h : AHeap) : Prop := ∃ σ, R2 n Da Db DS WO XO ρ ∧ Ag h0 h DS WO XO n Da Db σ ∧ ∀ k, (σ k).d.op = none
def LvX (n Da Db DS WO XO t : Nat) (b : Bool) (g : AHeap) (ρ : Env) (h : AHeap) : Prop := R2 n Da Db DS WO XO ρ ∧ get ρ 23 = some (.int .i64 (t : Nat)) ∧ get ρ 270 = some (.bool b) ∧ h = g
/-- behind the takes: all is on the wires; sides below j have heard -/
structure Hg (n t p j : Nat) (σ : Bool → Sd) : Prop where
  ld : ∀ k, (σ k).d.last + dif n (σ k).d ≤ 400
  em : ∀ k, Bool.toNat k < j → (σ k).ms = []
  ms : ∀ k, (σ k).ms.length ≤ 301 + t
  ou : ∀ k, (σ k).d.out.length ≤ 301 + t
  o0 : ∀ k, j ≤ Bool.toNat k → (σ k).d.out = []
  qq : ∀ k, Q n (σ k).d (σ (!k)).d (σ (!k)).ms (σ k).ms p
def HgI (h0 : AHeap) (DS WO XO n Da Db t p : Nat) (m : Nat) (ρ : Env) (h : AHeap) : Prop := ∃ j σ, j + m = 2 ∧ R2 n Da Db DS WO XO ρ ∧ get ρ 23 = some (.int .i64 (t : Nat)) ∧ get ρ 24 = some (.int .i64 (j : Nat)) ∧ Ag h0 h DS WO XO n Da Db σ ∧ Hg n t p j σ
def HgE (h0 : AHeap) (DS WO XO n Da Db t p : Nat) (ρ : Env) (h : AHeap) : Prop := ∃ σ, R2 n Da Db DS WO XO ρ ∧ get ρ 23 = some (.int .i64 (t : Nat)) ∧ Ag h0 h DS WO XO n Da Db σ ∧ Hg n t p 2 σ
/-- side k hears L -/
structure Hn (n : Nat) (p x : Nat) (k : Bool) (L L' : List Ms) (d' : DK) (σ : Bool → Sd) : Prop where
  ld : (σ k).d.last + dif n (σ k).d ≤ 400
  ms : (σ k).ms = L
  ms' : (σ (!k)).ms = L'
  de : (σ (!k)).d = d'
  ou : (σ k).d.out.length ≤ x
  q1 : Q n (σ k).d d' L' (L.drop x) p
  q2 : Q n d' (σ k).d (L.drop x) L' p
def HnI (h0 : AHeap) (DS WO XO n Da Db t p : Nat) (k : Bool) (L L' : List Ms) (d' : DK) (m : Nat) (ρ : Env) (h : AHeap) : Prop := ∃ x σ, x + m = L.length ∧ R2 n Da Db DS WO XO ρ ∧ get ρ 23 = some (.int .i64 (t : Nat)) ∧ get ρ 24 = some (.int .i64 ((Bool.toNat k : Nat) : Int)) ∧ get ρ 25 = some (.int .i64 (x : Nat)) ∧ Ag h0 h DS WO XO n Da Db σ ∧ Hn n p x k L L' d' σ
def HnE (h0 : AHeap) (DS WO XO n Da Db t p : Nat) (k : Bool) (L L' : List Ms) (d' : DK) (ρ : Env) (h : AHeap) : Prop := ∃ σ, R2 n Da Db DS WO XO ρ ∧ get ρ 23 = some (.int .i64 (t : Nat)) ∧ get ρ 24 = some (.int .i64 ((Bool.toNat k : Nat) : Int)) ∧ Ag h0 h DS WO XO n Da Db σ ∧ Hn n p L.length k L L' d' σ
def LaI (h0 : AHeap) (DS WO XO n Da Db : Nat) (σ : Bool → Sd) (m : Nat) (ρ : Env) (h : AHeap) : Prop := ∃ x, x + m = n ∧ R2 n Da Db DS WO XO ρ ∧ get ρ 26 = some (.int .i64 (x : Nat)) ∧ Ag h0 h DS WO XO n Da Db σ
def LaE (h0 : AHeap) (DS WO XO n Da Db : Nat) (σ : Bool → Sd) (ρ : Env) (h : AHeap) : Prop := R2 n Da Db DS WO XO ρ ∧ Ag h0 h DS WO XO n Da Db σ
end Go.Proofs.Ytejgaeinkojgpaa
