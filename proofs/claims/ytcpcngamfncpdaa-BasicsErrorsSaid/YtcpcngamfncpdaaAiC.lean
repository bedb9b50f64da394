/- The operations' laws, first part: how the small heap's steps stand to the world's. Generic. -/
import Derived.Test.YtcpcngamfncpdaaAiB
set_option linter.unusedVariables false
namespace Go.Ai

/-- the frame's slots that are spoken of -/
structure ER (φ : Phi) (ρ : Env) (t : Array Value) : Prop where
  e : ∀ (i : Nat) (v : Value), get ρ i = some v → ∃ u, t[i]? = some u ∧ VR φ v u
  g : GR φ

theorem ER.mono {φ φ' : Phi} (h : ext φ φ') {ρ : Env} {t : Array Value} (e : ER φ ρ t) : ER φ' ρ t :=
  ⟨fun i v hv => let ⟨u, h1, h2⟩ := e.e i v hv; ⟨u, h1, h2.mono h⟩, e.g.mono h⟩

theorem ER.put {φ : Phi} {ρ : Env} {t : Array Value} (e : ER φ ρ t) (d : Option Nat) (hd : ∀ j, d = some j → j < t.size) {v u : Value} (hv : VR φ v u) (ds : List Deferred) :
    ER φ (Ai.put d v ρ) (Act.put ⟨t, ds⟩ d u).tmps := by
  cases d with
  | none => exact e
  | some j =>
    refine ⟨fun i x hx => ?_, e.g⟩
    simp only [Ai.put, get] at hx
    simp only [Act.put]
    split at hx
    · rename_i hji; subst hji; cases hx
      exact ⟨u, by simp [hd j rfl], hv⟩
    · rename_i hji
      obtain ⟨y, h1, h2⟩ := e.e i x hx
      exact ⟨y, by rw [Array.getElem?_setIfInBounds_ne hji]; exact h1, h2⟩

def constOk : Value → Bool := flat

def trA : Operand → Option XA
  | .tmp t => some (.t t)
  | .const v => if flat v = true then some (.c v) else none
  | .func f => some (.c (.func (.func f) #[] #[]))
  | .global g => match gv with
    | some (g', s) => if g = g' ∧ s = 0 then some (.c (.pointer (some ⟨0, 0, none⟩))) else none
    | none => none

theorem ev_sound {φ : Phi} {ρ : Env} {a : Act} (he : ER φ ρ a.tmps) {o : Operand} {x : XA} (ht : trA o = some x) {v : Value} (hv : ev ρ x = some v) : VR φ v (a.eval o) := by
  cases o with
  | tmp t =>
    simp [trA] at ht; subst ht
    obtain ⟨u, h1, h2⟩ := he.e t v hv
    simp [Act.eval, h1]; exact h2
  | const c =>
    simp only [trA] at ht
    split at ht
    · rename_i hf; cases ht; simp [ev] at hv; subst hv; exact VR.of_flat φ hf
    · cases ht
  | func f =>
    simp [trA] at ht; subst ht; simp [ev] at hv; subst hv
    exact .func _ rfl (fun i a b h => by simp at h) rfl (fun i a b h => by simp at h)
  | global g =>
    simp only [trA] at ht
    split at ht
    · rename_i g' s hgv
      split at ht
      · rename_i hs
        obtain ⟨rfl, rfl⟩ := hs
        cases ht
        simp only [ev, Option.some.injEq] at hv
        subst hv
        obtain ⟨n, hn⟩ := he.g _ hgv
        exact .ptr ⟨rfl, g, 0, n, hn, rfl⟩
      · cases ht
    · cases ht

theorem Addr_add_lit (a : Addr) (n : Nat) (h : a.spot = none) : a.add n = ⟨a.block, a.off + n, none⟩ := by
  unfold Addr.add
  split
  · rename_i hn; subst hn; cases a; simp_all
  · rfl

/-- a fresh object -/
theorem Stp.alloc {φ : Phi} {h : AHeap} {w : World} (hr : HR φ h w) (cs : List Value) (c : Array Value) (T : TypeId)
    (hc : ∀ (i : Nat) (v : Value), cs[i]? = some v → ∃ u, c[i]? = some u ∧ VR φ v u) :
    ∃ φ', Stp φ h w φ' (h ++ [some ⟨true, cs⟩]) (w.alloc (.cells c T (0, 0))) ∧ φ' h.length = some (w.heap.size, 0, c.size) := by
  let φ' : Phi := fun A => if A = h.length then some (w.heap.size, 0, c.size) else φ A
  have hx : Ai.ext φ φ' := fun A x hA => by
    have : A ≠ h.length := fun e => by rw [e, hr.dom _ (Nat.le_refl _)] at hA; cases hA
    simp [φ', this, hA]
  have hnew : φ' h.length = some (w.heap.size, 0, c.size) := by simp [φ']
  have hold : ∀ A o, h[A]? = some (some o) → A < h.length := fun A o hA => (List.getElem?_eq_some_iff.1 hA).1
  have get' : ∀ A o, (h ++ [some (⟨true, cs⟩ : AObj)])[A]? = some (some o) → (A < h.length ∧ h[A]? = some (some o)) ∨ (A = h.length ∧ o = ⟨true, cs⟩) := by
    intro A o hA
    rw [List.getElem?_append] at hA
    split at hA
    · rename_i hlt; exact .inl ⟨hlt, hA⟩
    · rename_i hlt
      right
      have h1 := List.getElem?_eq_some_iff.1 hA
      obtain ⟨hl, hv⟩ := h1
      simp at hl
      have : A = h.length := by omega
      subst this
      simp at hA
      exact ⟨rfl, hA.symm⟩
  have blk : ∀ A o, h[A]? = some (some o) → ∀ B s n, φ' A = some (B, s, n) → B < w.heap.size := by
    intro A o hA B s n hB
    have : A ≠ h.length := Nat.ne_of_lt (hold A o hA)
    simp [φ', this] at hB
    obtain ⟨B', s', n', cs', T', fz, h1, h2, _⟩ := hr.obj A o hA
    rw [h1] at hB; cases hB
    exact (Array.getElem?_eq_some_iff.1 h2).1
  refine ⟨φ', ⟨hx, ⟨?_, ?_, ?_⟩, rfl, rfl, rfl, by simp, ?_, ?_, ?_⟩, hnew⟩
  · intro A o hA
    rcases get' A o hA with ⟨hlt, hA⟩ | ⟨rfl, rfl⟩
    · obtain ⟨B, s, n, cs', T', fz, h1, h2, h3, h4, h5⟩ := hr.obj A o hA
      have hB := (Array.getElem?_eq_some_iff.1 h2).1
      refine ⟨B, s, n, cs', T', fz, hx _ _ h1, by rw [RowKit.Below.heap_alloc w _ B hB]; exact h2, h3, fun i v hv => ?_, h5⟩
      obtain ⟨u, hu, hvu⟩ := h4 i v hv
      exact ⟨u, hu, hvu.mono hx⟩
    · refine ⟨w.heap.size, 0, c.size, c, T, (0, 0), hnew, ?_, by simp, fun i v hv => ?_, fun _ => rfl⟩
      · exact heap_alloc_new w _
      · obtain ⟨u, hu, hvu⟩ := hc i v hv
        exact ⟨u, by simpa using hu, hvu.mono hx⟩
  · intro A A' o o' B s s' n n' hA ho hA' hB hB'
    rcases get' A o hA with ⟨hlt, hA1⟩ | ⟨rfl, rfl⟩
    · rcases get' A' o' hA' with ⟨hlt', hA1'⟩ | ⟨rfl, rfl⟩
      · have e1 : A ≠ h.length := Nat.ne_of_lt hlt
        have e2 : A' ≠ h.length := Nat.ne_of_lt hlt'
        simp [φ', e1] at hB; simp [φ', e2] at hB'
        exact hr.inj A A' o o' B s s' n n' hA1 ho hA1' hB hB'
      · have := blk A o hA1 B s n hB
        rw [hnew] at hB'; cases hB'; omega
    · rcases get' A' o' hA' with ⟨hlt', hA1'⟩ | ⟨rfl, rfl⟩
      · have := blk A' o' hA1' B s' n' hB'
        rw [hnew] at hB; cases hB; omega
      · rfl
  · intro A hA
    simp at hA
    have : A ≠ h.length := by omega
    simp [φ', this]
    exact hr.dom A (by omega)
  · intro B hB _
    exact RowKit.Below.heap_alloc w _ B hB
  · rintro B ⟨A, o, s, n, hA, ho, hB⟩ hlt
    rcases get' A o hA with ⟨hl, hA1⟩ | ⟨rfl, rfl⟩
    · have e1 : A ≠ h.length := Nat.ne_of_lt hl
      simp [φ', e1] at hB
      exact ⟨A, o, s, n, hA1, ho, hB⟩
    · rw [hnew] at hB; cases hB; omega
  · refine ⟨by simp, fun A hA => by simp [φ', Nat.ne_of_lt hA], fun A x hA hx' hlt => ?_⟩
    by_cases e : A = h.length
    · subst e; rw [hnew] at hx'; cases hx'; exact absurd hlt (Nat.lt_irrefl _)
    · simp [φ', e] at hx'; rw [hr.dom A hA] at hx'; cases hx'


theorem get_set {h : AHeap} {A A' : Nat} {x : Option AObj} {o : AObj} (hA : (h.set A x)[A']? = some (some o)) : (A' ≠ A ∧ h[A']? = some (some o)) ∨ (A' = A ∧ x = some o) := by
  rw [List.getElem?_set] at hA
  split at hA
  · rename_i e; subst e
    split at hA
    · simp at hA; exact .inr ⟨rfl, hA⟩
    · simp at hA
  · rename_i e; exact .inl ⟨fun h => e h.symm, hA⟩

/-- an object's cells are written -/
theorem Stp.row {φ : Phi} {h : AHeap} {w : World} (hr : HR φ h w) {A : Nat} {o : AObj} (hA : h[A]? = some (some o)) (ho : o.own = true) {B s n : Nat} (hφ : φ A = some (B, s, n))
    {cs : Array Value} {T : TypeId} (hw : w.heap[B]? = some (.cells cs T (0, 0))) (hcs : cs.size = s + n) (c2 : Array Value) (hsz : c2.size = cs.size) (cells2 : List Value)
    (hc : ∀ (i : Nat) (v : Value), cells2[i]? = some v → ∃ u, c2[s + i]? = some u ∧ VR φ v u) :
    Stp φ h w φ (h.set A (some ⟨true, cells2⟩)) (w.setRow B c2) := by
  have own' : ownB φ h B := ⟨A, o, s, n, hA, ho, hφ⟩
  refine ⟨ext.refl φ, ⟨?_, ?_, ?_⟩, rfl, rfl, rfl, by simp, ?_, ?_, by have := hr.new0 (w' := w); simpa using this⟩
  · intro A' o' hA'
    rcases get_set hA' with ⟨hne, hA1⟩ | ⟨rfl, hx⟩
    · obtain ⟨B', s', n', cs', T', fz, h1, h2, h3, h4, h5⟩ := hr.obj A' o' hA1
      have hBB : B' ≠ B := fun e => hne (hr.inj A A' o o' B s s' n n' hA ho hA1 hφ (e ▸ h1)).symm
      exact ⟨B', s', n', cs', T', fz, h1, by rw [setRow_other w B B' c2 hBB]; exact h2, h3, h4, h5⟩
    · cases hx
      exact ⟨B, s, n, c2, T, (0, 0), hφ, setRow_heap w B cs c2 T _ hw, by omega, hc, fun _ => rfl⟩
  · intro A1 A2 o1 o2 B1 s1 s2 n1 n2 h1 ho1 h2 e1 e2
    rcases get_set h1 with ⟨hne1, h1'⟩ | ⟨rfl, hx1⟩
    · rcases get_set h2 with ⟨hne2, h2'⟩ | ⟨rfl, hx2⟩
      · exact hr.inj A1 A2 o1 o2 B1 s1 s2 n1 n2 h1' ho1 h2' e1 e2
      · exact hr.inj A1 A2 o1 o B1 s1 s2 n1 n2 h1' ho1 hA e1 e2
    · rcases get_set h2 with ⟨hne2, h2'⟩ | ⟨rfl, hx2⟩
      · exact hr.inj A1 A2 o o2 B1 s1 s2 n1 n2 hA ho h2' e1 e2
      · rfl
  · intro A' hA'
    exact hr.dom A' (by simpa using hA')
  · intro B' _ hn
    exact setRow_other w B B' c2 (fun e => hn (e ▸ own'))
  · rintro B' ⟨A', o', s', n', h1, h2, h3⟩ _
    rcases get_set h1 with ⟨hne, h1'⟩ | ⟨rfl, hx⟩
    · exact ⟨A', o', s', n', h1', h2, h3⟩
    · exact ⟨A', o, s', n', hA, ho, h3⟩

/-- an object is spoken of no longer -/
theorem Stp.kill {φ : Phi} {h : AHeap} {w : World} (hr : HR φ h w) (A : Nat) : Stp φ h w φ (h.set A none) w := by
  refine ⟨ext.refl φ, ⟨?_, ?_, ?_⟩, rfl, rfl, rfl, Nat.le_refl _, fun _ _ _ => rfl, ?_, by have := hr.new0 (w' := w); simpa using this⟩
  · intro A' o' hA'
    rcases get_set hA' with ⟨hne, hA1⟩ | ⟨rfl, hx⟩
    · exact hr.obj A' o' hA1
    · cases hx
  · intro A1 A2 o1 o2 B1 s1 s2 n1 n2 h1 ho1 h2 e1 e2
    rcases get_set h1 with ⟨hne1, h1'⟩ | ⟨rfl, hx1⟩
    · rcases get_set h2 with ⟨hne2, h2'⟩ | ⟨rfl, hx2⟩
      · exact hr.inj A1 A2 o1 o2 B1 s1 s2 n1 n2 h1' ho1 h2' e1 e2
      · cases hx2
    · cases hx1
  · intro A' hA'
    exact hr.dom A' (by simpa using hA')
  · rintro B' ⟨A', o', s', n', h1, h2, h3⟩ _
    rcases get_set h1 with ⟨hne, h1'⟩ | ⟨rfl, hx⟩
    · exact ⟨A', o', s', n', h1', h2, h3⟩
    · cases hx

/-- an object goes on under a new id, from a later cell on -/
theorem Stp.moved {φ : Phi} {h : AHeap} {w : World} (hr : HR φ h w) {A : Nat} {o : AObj} (hA : h[A]? = some (some o)) (ho : o.own = true) {B s n : Nat} (hφ : φ A = some (B, s, n)) (off : Nat) (hoff : off ≤ n) :
    ∃ φ', Stp φ h w φ' (h.set A none ++ [some ⟨true, o.cells.drop off⟩]) w ∧ φ' h.length = some (B, s + off, n - off) := by
  let φ' : Phi := fun X => if X = h.length then some (B, s + off, n - off) else φ X
  have hx : Ai.ext φ φ' := fun X x hX => by
    have : X ≠ h.length := fun e => by rw [e, hr.dom _ (Nat.le_refl _)] at hX; cases hX
    simp [φ', this, hX]
  have hnew : φ' h.length = some (B, s + off, n - off) := by simp [φ']
  have hold : ∀ X, X ≠ h.length → φ' X = φ X := fun X e => by simp [φ', e]
  have get' : ∀ X x, (h.set A none ++ [some (⟨true, o.cells.drop off⟩ : AObj)])[X]? = some (some x) → (X ≠ h.length ∧ X ≠ A ∧ h[X]? = some (some x)) ∨ (X = h.length ∧ x = ⟨true, o.cells.drop off⟩) := by
    intro X x hX
    rw [List.getElem?_append] at hX
    split at hX
    · rename_i hlt
      simp at hlt
      rcases get_set hX with ⟨hne, h1⟩ | ⟨rfl, h1⟩
      · exact .inl ⟨Nat.ne_of_lt hlt, hne, h1⟩
      · cases h1
    · rename_i hlt
      right
      obtain ⟨hl, hv⟩ := List.getElem?_eq_some_iff.1 hX
      simp at hl hlt
      have : X = h.length := by omega
      subst this
      simp at hX
      exact ⟨rfl, hX.symm⟩
  refine ⟨φ', ⟨hx, ⟨?_, ?_, ?_⟩, rfl, rfl, rfl, Nat.le_refl _, fun _ _ _ => rfl, ?_, ⟨by simp, fun X hX => hold X (Nat.ne_of_lt hX), fun X x hX hx' _ => ?_⟩⟩, hnew⟩
  rotate_left 4
  · by_cases e : X = h.length
    · subst e; rw [hnew] at hx'; cases hx'; exact ⟨A, o, s, n, hA, ho, hφ⟩
    · rw [hold X e, hr.dom X hX] at hx'; cases hx'

  · intro X x hX
    rcases get' X x hX with ⟨e1, e2, h1⟩ | ⟨rfl, rfl⟩
    · obtain ⟨B', s', n', cs', T', fz, h1, h2, h3, h4, h5⟩ := hr.obj X x h1
      refine ⟨B', s', n', cs', T', fz, hx _ _ h1, h2, h3, fun i v hv => ?_, h5⟩
      obtain ⟨u, hu, hvu⟩ := h4 i v hv
      exact ⟨u, hu, hvu.mono hx⟩
    · obtain ⟨B', s', n', cs', T', fz, h1, h2, h3, h4, h5⟩ := hr.obj A o hA
      rw [hφ] at h1; cases h1
      refine ⟨B, s + off, n - off, cs', T', fz, hnew, h2, by omega, fun i v hv => ?_, fun _ => h5 ho⟩
      rw [List.getElem?_drop] at hv
      obtain ⟨u, hu, hvu⟩ := h4 _ v hv
      exact ⟨u, by rw [← hu]; congr 1; omega, hvu.mono hx⟩
  · intro A1 A2 o1 o2 B1 s1 s2 n1 n2 h1 ho1 h2 e1 e2
    rcases get' A1 o1 h1 with ⟨a1, b1, c1⟩ | ⟨rfl, rfl⟩
    · rw [hold A1 a1] at e1
      rcases get' A2 o2 h2 with ⟨a2, b2, c2⟩ | ⟨rfl, rfl⟩
      · rw [hold A2 a2] at e2
        exact hr.inj A1 A2 o1 o2 B1 s1 s2 n1 n2 c1 ho1 c2 e1 e2
      · rw [hnew] at e2; cases e2
        exact absurd (hr.inj A1 A o1 o B s1 s n1 n c1 ho1 hA e1 hφ) b1
    · rw [hnew] at e1; cases e1
      rcases get' A2 o2 h2 with ⟨a2, b2, c2⟩ | ⟨rfl, rfl⟩
      · rw [hold A2 a2] at e2
        exact absurd (hr.inj A A2 o o2 B s s2 n n2 hA ho c2 hφ e2).symm b2
      · rfl
  · intro X hX
    simp at hX
    rw [hold X (by omega)]
    exact hr.dom X (by omega)
  · rintro B' ⟨X, x, s', n', h1, h2, h3⟩ _
    rcases get' X x h1 with ⟨a1, b1, c1⟩ | ⟨rfl, rfl⟩
    · rw [hold X a1] at h3
      exact ⟨X, x, s', n', c1, h2, h3⟩
    · rw [hnew] at h3; cases h3
      exact ⟨A, o, s, n, hA, ho, hφ⟩

theorem length_setN (vs : List Value) : ∀ (l : List Value) (off : Nat), (setN l off vs).length = l.length := by
  induction vs with
  | nil => intro l off; rfl
  | cons v r ih => intro l off; simp [setN, ih]
theorem setN_eq (vs : List Value) : ∀ (l : List Value) (off : Nat), off + vs.length ≤ l.length → setN l off vs = l.take off ++ vs ++ l.drop (off + vs.length) := by
  induction vs with
  | nil => intro l off h; simp [setN]
  | cons v r ih =>
    intro l off h
    simp at h
    rw [setN, ih _ _ (by simp; omega)]
    have h1 : (l.set off v).take (off + 1) = l.take off ++ [v] := by
      rw [List.take_succ_eq_append_getElem (by simp; omega)]
      simp [List.take_set]
      rw [List.set_eq_of_length_le (by simp; omega)]
    rw [h1]
    have h2 : (l.set off v).drop (off + 1 + r.length) = l.drop (off + (v :: r).length) := by
      rw [List.drop_set_of_lt (by omega)]
      congr 1; simp; omega
    rw [h2]; simp

theorem getN_eq (n : Nat) : ∀ (l : List Value) (off : Nat) (r : List Value), getN l off n = some r ↔ off + n ≤ l.length + (if n = 0 then off else 0) ∧ r = (l.drop off).take n := by
  induction n with
  | zero => intro l off r; simp [getN]; try exact eq_comm
  | succ n ih =>
    intro l off r
    simp only [getN]
    rcases Nat.lt_or_ge off l.length with h | h
    · rw [List.getElem?_eq_getElem h]
      simp only [Option.map_eq_some_iff]
      have hd : l.drop off = l[off] :: l.drop (off + 1) := by simp
      constructor
      · rintro ⟨t, ht, rfl⟩
        obtain ⟨h1, h2⟩ := (ih l (off + 1) t).1 ht
        refine ⟨by split at h1 <;> simp <;> omega, ?_⟩
        rw [hd, List.take_succ_cons, ← h2]
      · rintro ⟨h1, rfl⟩
        refine ⟨(l.drop (off + 1)).take n, (ih l (off + 1) _).2 ⟨by simp at h1; split <;> omega, rfl⟩, ?_⟩
        rw [hd, List.take_succ_cons]
    · rw [List.getElem?_eq_none h]
      simp
      intro h1; omega
theorem getN_len {l r : List Value} {off n : Nat} (h : getN l off n = some r) : r.length = n := by
  obtain ⟨h1, h2⟩ := (getN_eq n l off r).1 h
  subst h2
  split at h1
  · rename_i h0; subst h0; simp
  · simp; omega
theorem getN_get {l r : List Value} {off n : Nat} (h : getN l off n = some r) {i : Nat} {v : Value} (hv : r[i]? = some v) : l[off + i]? = some v := by
  obtain ⟨h1, h2⟩ := (getN_eq n l off r).1 h
  subst h2
  rw [List.getElem?_take] at hv
  split at hv
  · rwa [List.getElem?_drop] at hv
  · cases hv

end Go.Ai
