import Derived.Test.YtcpcngamfncpdaaP1
set_option linter.unusedVariables false
set_option linter.unusedSimpArgs false
namespace Go.Proofs.Ytcpcngamfncpdaa
open Go Go.Ai Go.Proofs

/-- units, one behind the other -/
def UnitsR (h : AHeap) : List Value → List UP → Prop
  | cells, [] => cells = []
  | cells, u :: us => ∃ lv r, cells = u.cells lv ++ r ∧ LoadW h lv u.load ∧ UnitsR h r us
theorem UnitsR.frz {h h' : AHeap} (z : Frz h h') : ∀ {cells : List Value} {us : List UP}, UnitsR h cells us → UnitsR h' cells us
  | _, [], k => k
  | _, _ :: _, ⟨lv, r, h1, h2, h3⟩ => ⟨lv, r, h1, h2.frz z, UnitsR.frz z h3⟩
theorem UnitsR.push {h : AHeap} {u : UP} {lv : Value} (L : LoadW h lv u.load) : ∀ {cells : List Value} {us : List UP}, UnitsR h cells us → UnitsR h (cells ++ u.cells lv) (us ++ [u])
  | _, [], k => ⟨lv, [], by rw [k]; simp, L, rfl⟩
  | _, x :: us, ⟨lx, r, h1, h2, h3⟩ => ⟨lx, r ++ u.cells lv, by rw [h1]; simp, h2, UnitsR.push L h3⟩
theorem UP.cells_len (u : UP) (lv : Value) : (u.cells lv).length = 7 := rfl
theorem LoadW.one {h : AHeap} {v : Value} {zs : List Int} (l : LoadW h v zs) : oneC v = true := by
  obtain ⟨q, c, rfl, -⟩ := l; rfl
def WayAt (h : AHeap) (sl : Value) (us : List UP) : Prop := ∃ cells, RetN 7 h sl us.length cells ∧ UnitsR h cells us
theorem WayAt.nil (h : AHeap) : WayAt h (.slice none 0 0) [] := ⟨[], RetN.nil 7 h, rfl⟩
theorem WayAt.keep {h h' : AHeap} {sl : Value} {us : List UP} (q : WayAt h sl us) (z : Frz h h') (hk : ∀ A, slB sl = some A → h'[A]? = h[A]?) : WayAt h' sl us := by
  obtain ⟨cells, r, l⟩ := q
  exact ⟨cells, r.keep hk, l.frz z⟩
theorem WayAt.own {h : AHeap} {sl : Value} {us : List UP} (q : WayAt h sl us) {B : Nat} (hB : slB sl = some B) : ∃ cs, h[B]? = some (some ⟨true, cs⟩) := q.choose_spec.1.own hB
theorem WayAt.lt {h : AHeap} {sl : Value} {us : List UP} (q : WayAt h sl us) {B : Nat} (hB : slB sl = some B) : B < h.length := by
  obtain ⟨cs, h1⟩ := q.own hB; exact lt_of_get h1
theorem WayAt.shape {h : AHeap} {sl : Value} {us : List UP} (q : WayAt h sl us) : ∃ a c, sl = .slice a us.length c := by
  obtain ⟨cells, ⟨_, ⟨rfl, h2⟩ | ⟨A, off, cs, rfl, -⟩⟩, _⟩ := q
  · exact ⟨_, _, by rw [h2]⟩
  · exact ⟨_, _, rfl⟩
/-- the first unit, and what is behind it -/
theorem WayAt.head {h : AHeap} {sl : Value} {u : UP} {us : List UP} (q : WayAt h sl (u :: us)) : ∃ A off c cs lv sl', sl = .slice (some ⟨A, off, none⟩) (us.length + 1) c ∧ h[A]? = some (some ⟨true, cs⟩) ∧ getN cs off 7 = some (u.cells lv) ∧ LoadW h lv u.load ∧
    (∀ (ρ : Env) (x lo : XA), ev ρ x = some sl → ev ρ lo = some (.int .i64 1) → xop (.slice 7 x (some lo) none none) ρ h = some (sl', h)) ∧ WayAt h sl' us ∧ (∀ B, slB sl' = some B → slB sl = some B) := by
  obtain ⟨cells, R, lv, r, h1, h2, h3⟩ := q
  obtain ⟨sl', k1, k2, k3⟩ := R.behind (j := 1) (by simp)
  rcases R with ⟨hl, ⟨rfl, h0⟩ | ⟨A, off, cs, rfl, hA, hg⟩⟩
  · simp at h0
  · refine ⟨A, off, _, cs, lv, sl', rfl, hA, ?_, h2, fun ρ x lo hx hlo => k1 ρ x lo hx hlo, ⟨r, ?_, h3⟩, k3⟩
    · obtain ⟨g1, g2⟩ := (getN_eq _ _ _ _).1 hg
      refine (getN_eq _ _ _ _).2 ⟨?_, ?_⟩
      · simp only [List.length_cons] at g1
        split at g1 <;> split <;> omega
      · have : (cells.take 7) = u.cells lv := by rw [h1, List.take_left' (UP.cells_len u lv)]
        rw [← this, g2, List.take_take]
        congr 1
        simp only [List.length_cons]; omega
    · have : cells.drop (1 * 7) = r := by rw [h1, Nat.one_mul, List.drop_left' (UP.cells_len u lv)]
      rw [this] at k2
      simpa using k2
/-- one unit more -/
theorem WayAt.push {K : Env → AHeap → Prop} {r : List XOper} {ρ : Env} {h : AHeap} {us : List UP} {u : UP} {lv : Value} {d : Option Nat} {s x : XA} {sl : Value} (Q : WayAt h sl us) (L : LoadW h lv u.load)
    (hs : ev ρ s = some sl) (hx : ev ρ x = some (.slice (some ⟨h.length, 0, none⟩) 1 1)) (hb : us.length < 1000000)
    (hK : ∀ h' A', h.length < A' → h'.length = A' + 1 → WayAt h' (.slice (some ⟨A', 0, none⟩) (us.length + 1) (unk + 7)) (us ++ [u]) → (∀ B, B < h.length → slB sl ≠ some B → h'[B]? = h[B]?) → Frz h h' → xops Try.prog K r (put d (.slice (some ⟨A', 0, none⟩) (us.length + 1) (unk + 7)) ρ) h') :
    xops Try.prog K (⟨d, none, .append 7 32 [.int .u8 0, .bool false, .int .u8 0, .bool false, .int .u8 0, .int .u8 0, .slice none 0 0] s x, []⟩ :: r) ρ (h ++ [some ⟨true, u.cells lv⟩]) := by
  obtain ⟨cells, R, l⟩ := Q
  have hlt : ∀ B, slB sl = some B → B < h.length := fun B hB => by obtain ⟨cs, h1⟩ := R.own hB; exact lt_of_get h1
  have R2 : RetN 7 (h ++ [some ⟨true, u.cells lv⟩]) sl us.length cells := R.keep fun A hA => List.getElem?_append_left (hlt A hA)
  have hf : firstV 7 (h ++ [some ⟨true, u.cells lv⟩]) 1 (.slice (some ⟨h.length, 0, none⟩) 1 1) = some (u.cells lv) := by
    simp only [firstV, cellsAt, app_new0, List.getElem?_cons_zero]
    rw [if_neg (by decide)]
    simp only [ne_eq, not_true_eq_false, if_false, Option.bind_some]
    exact getN_all _ _ rfl
  refine append_run (k := 7) (by_ := 32) (n := us.length) (m := 1) (rows := cells) (news := u.cells lv) (sl := sl) (xv := .slice (some ⟨h.length, 0, none⟩) 1 1) rfl (by decide) hs hx rfl hf rfl (by simp [UP.cells, L.one, oneC, Value.oneCell']; exact L.one) R2.toO (by omega) (by omega) (fun h0 => by omega) (fun _ h' A' hA' hg hl' hfr => ?_)
  simp only [List.length_append, List.length_cons, List.length_nil, Nat.zero_add] at hA' hl' hfr
  have hfr' : ∀ B, B < h.length → slB sl ≠ some B → h'[B]? = h[B]? := fun B hB hne => by rw [hfr B (by omega) hne, List.getElem?_append_left hB]
  have hz : Frz h h' := fun B cs hB => by
    rw [hfr' B (lt_of_get hB) (fun e => by obtain ⟨cs', h1⟩ := R.own e; rw [h1] at hB; cases hB)]; exact hB
  have hAl := lt_of_get hg
  refine hK h' A' (by omega) (by omega) ⟨cells ++ u.cells lv, ?_, (l.frz hz).push (L.frz hz)⟩ hfr' hz
  rw [List.length_append]
  exact RetN.all hg (by rw [List.length_append, R.1, UP.cells_len]; omega)

/-- the pair's cells -/
def PCells (X : Nat → Nat) (w t : Nat → Value) (g : Nat → Nat) (f : Bool) : List Value := [.pointer (some ⟨X 0, 0, none⟩), .pointer (some ⟨X 1, 0, none⟩), w 0, w 1, .int .i64 (g 0 : Int), .int .i64 (g 1 : Int), t 0, t 1, .bool f]
section
variable {X : Nat → Nat} {w t : Nat → Value} {g : Nat → Nat} {f : Bool} {k : Nat}
theorem pc_len : (PCells X w t g f).length = 9 := rfl
theorem pc_0 (hk : k < 2) : (PCells X w t g f)[k]? = some (.pointer (some ⟨X k, 0, none⟩)) := by
  rcases k with _ | _ | k
  · rfl
  · rfl
  · omega
theorem pc_2 (hk : k < 2) : (PCells X w t g f)[2 + k]? = some (w k) := by
  rcases k with _ | _ | k
  · rfl
  · rfl
  · omega
theorem pc_4 (hk : k < 2) : (PCells X w t g f)[4 + k]? = some (.int .i64 (g k : Int)) := by
  rcases k with _ | _ | k
  · rfl
  · rfl
  · omega
theorem pc_6 (hk : k < 2) : (PCells X w t g f)[6 + k]? = some (t k) := by
  rcases k with _ | _ | k
  · rfl
  · rfl
  · omega
theorem pc_8 : (PCells X w t g f)[8]? = some (.bool f) := rfl
theorem ps_2 (hk : k < 2) (v : Value) : (PCells X w t g f).set (2 + k) v = PCells X (upd w k v) t g f := by
  rcases k with _ | _ | k
  · rfl
  · rfl
  · omega
theorem ps_4 (hk : k < 2) (n : Nat) : (PCells X w t g f).set (4 + k) (.int .i64 (n : Int)) = PCells X w t (upd g k n) f := by
  rcases k with _ | _ | k
  · rfl
  · rfl
  · omega
theorem ps_6 (hk : k < 2) (v : Value) : (PCells X w t g f).set (6 + k) v = PCells X w (upd t k v) g f := by
  rcases k with _ | _ | k
  · rfl
  · rfl
  · omega
theorem ps_8 (b : Bool) : (PCells X w t g f).set 8 (.bool b) = PCells X w t g b := rfl
end
/-- whose a block is -/
def ftp (A : Nat) (X : Nat → Nat) (qv ov w t : Nat → Value) (i B : Nat) : Prop := (i = 0 ∧ B = A) ∨ ∃ k, k < 2 ∧ ((i = 1 + k ∧ foot (X k) (qv k) (ov k) B) ∨ (i = 3 + k ∧ slB (w k) = some B) ∨ (i = 5 + k ∧ slB (t k) = some B))
structure PB (h : AHeap) (A : Nat) (p : PS) (X : Nat → Nat) (qv ov w t : Nat → Value) : Prop where
  obj : h[A]? = some (some ⟨true, PCells X w t p.g p.f⟩)
  en : ∀ k, k < 2 → BAt h (X k) (p.e k) (qv k) (ov k)
  wy : ∀ k, k < 2 → WayAt h (w k) (p.us k)
  tk : ∀ k, k < 2 → QAt h (t k) (p.tk k)
  sep : ∀ i j B, ftp A X qv ov w t i B → ftp A X qv ov w t j B → i = j
def PA (h : AHeap) (A : Nat) (p : PS) : Prop := ∃ X qv ov w t, PB h A p X qv ov w t
section
variable {h : AHeap} {A : Nat} {p : PS} {X : Nat → Nat} {qv ov w t : Nat → Value}
theorem PB.own (P : PB h A p X qv ov w t) {i B : Nat} (hB : ftp A X qv ov w t i B) : ∃ cs, h[B]? = some (some ⟨true, cs⟩) := by
  rcases hB with ⟨-, rfl⟩ | ⟨k, hk, ⟨-, hB⟩ | ⟨-, hB⟩ | ⟨-, hB⟩⟩
  · exact ⟨_, P.obj⟩
  · exact (P.en k hk).own hB
  · exact (P.wy k hk).own hB
  · exact (P.tk k hk).own hB
theorem PB.lt (P : PB h A p X qv ov w t) {i B : Nat} (hB : ftp A X qv ov w t i B) : B < h.length := by
  obtain ⟨cs, h1⟩ := P.own hB; exact lt_of_get h1
theorem PB.nA_e (P : PB h A p X qv ov w t) {k B : Nat} (hk : k < 2) (hB : foot (X k) (qv k) (ov k) B) : B ≠ A := fun e => by
  have := P.sep 0 (1 + k) B (.inl ⟨rfl, e⟩) (.inr ⟨k, hk, .inl ⟨rfl, hB⟩⟩)
  omega
theorem PB.kp (P : PB h A p X qv ov w t) {h' : AHeap} (K : Kp h h') : PB h' A p X qv ov w t :=
  ⟨K.get P.obj, fun k hk => (P.en k hk).kp K, fun k hk => (P.wy k hk).keep K.frz fun B hB => K.2 B ((P.wy k hk).lt hB), fun k hk => (P.tk k hk).keep K.frz fun B hB => K.2 B ((P.tk k hk).lt hB), P.sep⟩
/-- fresh blocks of one owner -/
theorem sep_upd {F F' : Nat → Nat → Prop} {n j : Nat} (hs : ∀ i j B, F i B → F j B → i = j) (hl : ∀ i B, F i B → B < n) (hn : ∀ i B, F' i B → F i B ∨ (i = j ∧ n ≤ B)) : ∀ i j B, F' i B → F' j B → i = j := by
  intro a b B ha hb
  rcases hn a B ha with h1 | ⟨h1, h2⟩ <;> rcases hn b B hb with h3 | ⟨h3, h4⟩
  · exact hs a b B h1 h3
  · have := hl a B h1; omega
  · have := hl b B h3; omega
  · omega
/-- an end went on -/
theorem PB.end_ (P : PB h A p X qv ov w t) {k : Nat} (hk : k < 2) {h' : AHeap} {e' : BE} (W : Went h h' (X k) e' (qv k) (ov k)) : ∃ qv' ov', PB h' A { p with e := upd p.e k e' } X qv' ov' w t ∧ Frz h h' := by
  obtain ⟨q', o', E', F, hn⟩ := W
  have z := (P.en k hk).frz F
  refine ⟨upd qv k q', upd ov k o', ⟨?_, fun i hi => ?_, fun i hi => ?_, fun i hi => ?_, ?_⟩, z⟩
  · exact F.get P.obj fun hB => P.nA_e hk hB rfl
  · by_cases hik : i = k
    · subst hik; simp only [upd_same]; exact E'
    · simp only [upd_ne _ _ hik]
      exact (P.en i hi).keep z fun B hB => F.2 B ((P.en i hi).lt hB) fun hB2 => by
        have := P.sep (1 + i) (1 + k) B (.inr ⟨i, hi, .inl ⟨rfl, hB⟩⟩) (.inr ⟨k, hk, .inl ⟨rfl, hB2⟩⟩)
        omega
  · exact (P.wy i hi).keep z fun B hB => F.2 B ((P.wy i hi).lt hB) fun hB2 => by
      have := P.sep (3 + i) (1 + k) B (.inr ⟨i, hi, .inr (.inl ⟨rfl, hB⟩)⟩) (.inr ⟨k, hk, .inl ⟨rfl, hB2⟩⟩)
      omega
  · exact (P.tk i hi).keep z fun B hB => F.2 B ((P.tk i hi).lt hB) fun hB2 => by
      have := P.sep (5 + i) (1 + k) B (.inr ⟨i, hi, .inr (.inr ⟨rfl, hB⟩)⟩) (.inr ⟨k, hk, .inl ⟨rfl, hB2⟩⟩)
      omega
  · refine sep_upd (n := h.length) (j := 1 + k) P.sep (fun i B hB => P.lt hB) fun i B hB => ?_
    rcases hB with hB | ⟨m, hm, ⟨h1, hB⟩ | hB | hB⟩
    · exact .inl (.inl hB)
    · by_cases hmk : m = k
      · subst hmk
        simp only [upd_same] at hB
        rcases hn B hB with h2 | h2
        · exact .inl (.inr ⟨m, hm, .inl ⟨h1, h2⟩⟩)
        · exact .inr ⟨h1, h2⟩
      · simp only [upd_ne _ _ hmk] at hB
        exact .inl (.inr ⟨m, hm, .inl ⟨h1, hB⟩⟩)
    · exact .inl (.inr ⟨m, hm, .inr (.inl hB)⟩)
    · exact .inl (.inr ⟨m, hm, .inr (.inr hB)⟩)
/-- the pair's own cells are written -/
theorem PB.cells (P : PB h A p X qv ov w t) (g' : Nat → Nat) (f' : Bool) : PB (h.set A (some ⟨true, PCells X w t g' f'⟩)) A { p with g := g', f := f' } X qv ov w t ∧ Frz h (h.set A (some ⟨true, PCells X w t g' f'⟩)) := by
  have z : Frz h (h.set A (some ⟨true, PCells X w t g' f'⟩)) := fun B cs hB => by
    rw [set_ne (fun e1 => by rw [← e1, P.obj] at hB; cases hB)]; exact hB
  refine ⟨⟨set_same P.obj _, fun k hk => (P.en k hk).keep z fun B hB => set_ne (fun e1 => P.nA_e hk hB e1.symm) _, fun k hk => (P.wy k hk).keep z fun B hB => set_ne (fun e1 => ?_) _, fun k hk => (P.tk k hk).keep z fun B hB => set_ne (fun e1 => ?_) _, P.sep⟩, z⟩
  · have := P.sep 0 (3 + k) B (.inl ⟨rfl, e1.symm⟩) (.inr ⟨k, hk, .inr (.inl ⟨rfl, hB⟩)⟩)
    omega
  · have := P.sep 0 (5 + k) B (.inl ⟨rfl, e1.symm⟩) (.inr ⟨k, hk, .inr (.inr ⟨rfl, hB⟩)⟩)
    omega
/-- a way turns: its slice is laid anew -/
theorem PB.way (P : PB h A p X qv ov w t) {k : Nat} (hk : k < 2) {h' : AHeap} {v : Value} {us : List UP} (W : WayAt h' v us) (hl : h.length ≤ h'.length) (hfr : ∀ B, B < h.length → slB (w k) ≠ some B → h'[B]? = h[B]?) (hn : ∀ B, slB v = some B → slB (w k) = some B ∨ h.length ≤ B) :
    PB (h'.set A (some ⟨true, PCells X (upd w k v) t p.g p.f⟩)) A { p with us := upd p.us k us } X qv ov (upd w k v) t ∧ Frz h (h'.set A (some ⟨true, PCells X (upd w k v) t p.g p.f⟩)) := by
  have nk : ∀ i B, ftp A X qv ov w t i B → i ≠ 3 + k → h'[B]? = h[B]? := fun i B hB hi => hfr B (P.lt hB) fun e1 => hi (P.sep i (3 + k) B hB (.inr ⟨k, hk, .inr (.inl ⟨rfl, e1⟩)⟩))
  have hA' : h'[A]? = some (some ⟨true, PCells X w t p.g p.f⟩) := by rw [nk 0 A (.inl ⟨rfl, rfl⟩) (by omega)]; exact P.obj
  have z : Frz h (h'.set A (some ⟨true, PCells X (upd w k v) t p.g p.f⟩)) := fun B cs hB => by
    rw [set_ne (fun e1 => by rw [← e1, P.obj] at hB; cases hB), hfr B (lt_of_get hB) (fun e1 => by obtain ⟨cs', h1⟩ := (P.wy k hk).own e1; rw [h1] at hB; cases hB)]; exact hB
  have z' : Frz h' (h'.set A (some ⟨true, PCells X (upd w k v) t p.g p.f⟩)) := fun B cs hB => by
    rw [set_ne (fun e1 => by rw [← e1, hA'] at hB; cases hB)]; exact hB
  have hAl := lt_of_get P.obj
  have kk : ∀ i B, ftp A X qv ov w t i B → i ≠ 3 + k → i ≠ 0 → (h'.set A (some ⟨true, PCells X (upd w k v) t p.g p.f⟩))[B]? = h[B]? := fun i B hB hi h0 => by
    rw [set_ne (fun e1 => h0 (P.sep i 0 B hB (.inl ⟨rfl, e1.symm⟩)))]; exact nk i B hB hi
  refine ⟨⟨set_same hA' _, fun i hi => (P.en i hi).keep z fun B hB => kk (1 + i) B (.inr ⟨i, hi, .inl ⟨rfl, hB⟩⟩) (by omega) (by omega), fun i hi => ?_, fun i hi => (P.tk i hi).keep z fun B hB => kk (5 + i) B (.inr ⟨i, hi, .inr (.inr ⟨rfl, hB⟩)⟩) (by omega) (by omega), ?_⟩, z⟩
  · by_cases hik : i = k
    · subst hik; simp only [upd_same]
      refine W.keep z' fun B hB => set_ne (fun e1 => ?_) _
      rcases hn B hB with h1 | h1
      · have := P.sep 0 (3 + i) B (.inl ⟨rfl, e1.symm⟩) (.inr ⟨i, hi, .inr (.inl ⟨rfl, h1⟩)⟩)
        omega
      · omega
    · simp only [upd_ne _ _ hik]
      exact (P.wy i hi).keep z fun B hB => kk (3 + i) B (.inr ⟨i, hi, .inr (.inl ⟨rfl, hB⟩)⟩) (by omega) (by omega)
  · refine sep_upd (n := h.length) (j := 3 + k) P.sep (fun i B hB => P.lt hB) fun i B hB => ?_
    rcases hB with hB | ⟨m, hm, hB | ⟨h1, hB⟩ | hB⟩
    · exact .inl (.inl hB)
    · exact .inl (.inr ⟨m, hm, .inl hB⟩)
    · by_cases hmk : m = k
      · subst hmk
        simp only [upd_same] at hB
        rcases hn B hB with h2 | h2
        · exact .inl (.inr ⟨m, hm, .inr (.inl ⟨h1, h2⟩)⟩)
        · exact .inr ⟨h1, h2⟩
      · simp only [upd_ne _ _ hmk] at hB
        exact .inl (.inr ⟨m, hm, .inr (.inl ⟨h1, hB⟩)⟩)
    · exact .inl (.inr ⟨m, hm, .inr (.inr hB)⟩)
/-- what was taken turns -/
theorem PB.took (P : PB h A p X qv ov w t) {k : Nat} (hk : k < 2) {h' : AHeap} {v : Value} {ls : List (List Int)} (W : QAt h' v ls) (hl : h.length ≤ h'.length) (hfr : ∀ B, B < h.length → slB (t k) ≠ some B → h'[B]? = h[B]?) (hn : ∀ B, slB v = some B → slB (t k) = some B ∨ h.length ≤ B) :
    PB (h'.set A (some ⟨true, PCells X w (upd t k v) p.g p.f⟩)) A { p with tk := upd p.tk k ls } X qv ov w (upd t k v) ∧ Frz h (h'.set A (some ⟨true, PCells X w (upd t k v) p.g p.f⟩)) := by
  have nk : ∀ i B, ftp A X qv ov w t i B → i ≠ 5 + k → h'[B]? = h[B]? := fun i B hB hi => hfr B (P.lt hB) fun e1 => hi (P.sep i (5 + k) B hB (.inr ⟨k, hk, .inr (.inr ⟨rfl, e1⟩)⟩))
  have hA' : h'[A]? = some (some ⟨true, PCells X w t p.g p.f⟩) := by rw [nk 0 A (.inl ⟨rfl, rfl⟩) (by omega)]; exact P.obj
  have z : Frz h (h'.set A (some ⟨true, PCells X w (upd t k v) p.g p.f⟩)) := fun B cs hB => by
    rw [set_ne (fun e1 => by rw [← e1, P.obj] at hB; cases hB), hfr B (lt_of_get hB) (fun e1 => by obtain ⟨cs', h1⟩ := (P.tk k hk).own e1; rw [h1] at hB; cases hB)]; exact hB
  have z' : Frz h' (h'.set A (some ⟨true, PCells X w (upd t k v) p.g p.f⟩)) := fun B cs hB => by
    rw [set_ne (fun e1 => by rw [← e1, hA'] at hB; cases hB)]; exact hB
  have hAl := lt_of_get P.obj
  have kk : ∀ i B, ftp A X qv ov w t i B → i ≠ 5 + k → i ≠ 0 → (h'.set A (some ⟨true, PCells X w (upd t k v) p.g p.f⟩))[B]? = h[B]? := fun i B hB hi h0 => by
    rw [set_ne (fun e1 => h0 (P.sep i 0 B hB (.inl ⟨rfl, e1.symm⟩)))]; exact nk i B hB hi
  refine ⟨⟨set_same hA' _, fun i hi => (P.en i hi).keep z fun B hB => kk (1 + i) B (.inr ⟨i, hi, .inl ⟨rfl, hB⟩⟩) (by omega) (by omega), fun i hi => (P.wy i hi).keep z fun B hB => kk (3 + i) B (.inr ⟨i, hi, .inr (.inl ⟨rfl, hB⟩)⟩) (by omega) (by omega), fun i hi => ?_, ?_⟩, z⟩
  · by_cases hik : i = k
    · subst hik; simp only [upd_same]
      refine W.keep z' fun B hB => set_ne (fun e1 => ?_) _
      rcases hn B hB with h1 | h1
      · have := P.sep 0 (5 + i) B (.inl ⟨rfl, e1.symm⟩) (.inr ⟨i, hi, .inr (.inr ⟨rfl, h1⟩)⟩)
        omega
      · omega
    · simp only [upd_ne _ _ hik]
      exact (P.tk i hi).keep z fun B hB => kk (5 + i) B (.inr ⟨i, hi, .inr (.inr ⟨rfl, hB⟩)⟩) (by omega) (by omega)
  · refine sep_upd (n := h.length) (j := 5 + k) P.sep (fun i B hB => P.lt hB) fun i B hB => ?_
    rcases hB with hB | ⟨m, hm, hB | hB | ⟨h1, hB⟩⟩
    · exact .inl (.inl hB)
    · exact .inl (.inr ⟨m, hm, .inl hB⟩)
    · exact .inl (.inr ⟨m, hm, .inr (.inl hB)⟩)
    · by_cases hmk : m = k
      · subst hmk
        simp only [upd_same] at hB
        rcases hn B hB with h2 | h2
        · exact .inl (.inr ⟨m, hm, .inr (.inr ⟨h1, h2⟩)⟩)
        · exact .inr ⟨h1, h2⟩
      · simp only [upd_ne _ _ hmk] at hB
        exact .inl (.inr ⟨m, hm, .inr (.inr ⟨h1, hB⟩)⟩)
end
end Go.Proofs.Ytcpcngamfncpdaa
