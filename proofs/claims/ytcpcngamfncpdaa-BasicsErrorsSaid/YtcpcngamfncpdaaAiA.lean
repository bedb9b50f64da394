/- A small heap logic over the model: values and heaps of a proof's own (ids in place of blocks), how they stand to the model's world, and the operations' laws. Generic: nothing of one program. -/
import Derived.WalkKit
import Derived.KernelRfl
set_option linter.unusedVariables false
namespace Go.Ai

/-- An object of the small heap: own: the proof may write it. -/
structure AObj where
  own : Bool
  cells : List Value

abbrev AHeap := List (Option AObj)

/-- id ↦ block, shift, and how many cells lie from the shift to the block's end -/
abbrev Phi := Nat → Option (Nat × Nat × Nat)

/-- a capacity from 'unk' on is not known: unk + the element's size -/
def unk : Nat := 2 ^ 70

def PR (φ : Phi) (a b : Addr) : Prop := a.spot = none ∧ ∃ B s n, φ a.block = some (B, s, n) ∧ b = ⟨B, s + a.off, none⟩

def CapR (φ : Phi) (a : Addr) (l c c' : Nat) : Prop :=
  (c < unk ∧ c' = c) ∨ (unk ≤ c ∧ l ≤ c' ∧ (c' = 0 ∨ ∃ B s n, φ a.block = some (B, s, n) ∧ a.off + c' * (c - unk) = n))

inductive VR (φ : Phi) : Value → Value → Prop
  | bool (b : Bool) : VR φ (.bool b) (.bool b)
  | int (k : IntKind) (n : Int) : VR φ (.int k n) (.int k n)
  | string (s : ByteArray) : VR φ (.string s) (.string s)
  | ptrNil : VR φ (.pointer none) (.pointer none)
  | ptr {a b : Addr} (h : PR φ a b) : VR φ (.pointer (some a)) (.pointer (some b))
  | sliceNil (l c : Nat) : VR φ (.slice none l c) (.slice none l c)
  | slice {a b : Addr} {l c c' : Nat} (h : (l = 0 ∧ c' = 0) ∨ PR φ a b) (hc : CapR φ a l c c') : VR φ (.slice (some a) l c) (.slice (some b) l c')
  | func (fn : Fn) {f f' c c' : Array Value} (hf : f.size = f'.size) (hf' : ∀ (i : Nat) (a b : Value), f[i]? = some a → f'[i]? = some b → VR φ a b)
      (hc : c.size = c'.size) (hc' : ∀ (i : Nat) (a b : Value), c[i]? = some a → c'[i]? = some b → VR φ a b) : VR φ (.func fn f c) (.func fn f' c')
  | nilFunc : VR φ .nilFunc .nilFunc
  | agg {c c' : Array Value} (hc : c.size = c'.size) (hc' : ∀ (i : Nat) (a b : Value), c[i]? = some a → c'[i]? = some b → VR φ a b) : VR φ (.agg c) (.agg c')
  | tuple {c c' : Array Value} (hc : c.size = c'.size) (hc' : ∀ (i : Nat) (a b : Value), c[i]? = some a → c'[i]? = some b → VR φ a b) : VR φ (.tuple c) (.tuple c')

/-- pointwise on lists -/
def LR (φ : Phi) (l l' : List Value) : Prop := l.length = l'.length ∧ ∀ (i : Nat) (a b : Value), l[i]? = some a → l'[i]? = some b → VR φ a b

def ext (φ φ' : Phi) : Prop := ∀ A x, φ A = some x → φ' A = some x

theorem ext.refl (φ : Phi) : ext φ φ := fun _ _ h => h
/-- the package-level variable that a text may name: it is object 0 of every heap (none: no text names one) -/
def gv : Option (Nat × Nat) := none
def GR (φ : Phi) : Prop := ∀ x : Nat × Nat, gv = some x → ∃ n, φ 0 = some (x.1, x.2, n)
theorem GR.mono {φ φ' : Phi} (h : ext φ φ') (g : GR φ) : GR φ' := fun x hx => (g x hx).imp fun n e => h 0 _ e
theorem GR.none (hg : gv = none) (φ : Phi) : GR φ := fun x hx => by rw [hg] at hx; cases hx
theorem ext.trans {a b c : Phi} (h : ext a b) (k : ext b c) : ext a c := fun A x hx => k A x (h A x hx)

theorem PR.mono {φ φ' : Phi} (h : ext φ φ') {a b : Addr} (p : PR φ a b) : PR φ' a b := by
  obtain ⟨hs, B, s, n, h1, h2⟩ := p
  exact ⟨hs, B, s, n, h _ _ h1, h2⟩

theorem CapR.mono {φ φ' : Phi} (h : ext φ φ') {a : Addr} {l c c' : Nat} (p : CapR φ a l c c') : CapR φ' a l c c' := by
  rcases p with p | ⟨p1, p2, p3 | ⟨B, s, n, h1, h2⟩⟩
  · exact .inl p
  · exact .inr ⟨p1, p2, .inl p3⟩
  · exact .inr ⟨p1, p2, .inr ⟨B, s, n, h _ _ h1, h2⟩⟩

theorem VR.mono {φ φ' : Phi} (h : ext φ φ') {v u : Value} (p : VR φ v u) : VR φ' v u := by
  induction p with
  | bool b => exact .bool b
  | int k n => exact .int k n
  | string s => exact .string s
  | ptrNil => exact .ptrNil
  | ptr p => exact .ptr (p.mono h)
  | sliceNil l c => exact .sliceNil l c
  | slice p q => exact .slice (p.imp id (PR.mono h)) (q.mono h)
  | func fn hf _ hc _ ih1 ih2 => exact .func fn hf ih1 hc ih2
  | nilFunc => exact .nilFunc
  | agg hc _ ih => exact .agg hc ih
  | tuple hc _ ih => exact .tuple hc ih

theorem LR.mono {φ φ' : Phi} (h : ext φ φ') {l l' : List Value} (p : LR φ l l') : LR φ' l l' := ⟨p.1, fun i a b ha hb => (p.2 i a b ha hb).mono h⟩

theorem LR.nil (φ : Phi) : LR φ [] [] := ⟨rfl, fun i a b h => by simp at h⟩
theorem LR.cons {φ : Phi} {v u : Value} {l l' : List Value} (h : VR φ v u) (t : LR φ l l') : LR φ (v :: l) (u :: l') :=
  ⟨by simp [t.1], fun i a b ha hb => by
    cases i with
    | zero => simp at ha hb; subst ha; subst hb; exact h
    | succ i => simp at ha hb; exact t.2 i a b ha hb⟩
theorem LR.head {φ : Phi} {v : Value} {l l' : List Value} (h : LR φ (v :: l) l') : ∃ u r, l' = u :: r ∧ VR φ v u ∧ LR φ l r := by
  cases l' with
  | nil => have := h.1; simp at this
  | cons u r => exact ⟨u, r, rfl, h.2 0 v u rfl rfl, by have := h.1; simpa using this, fun i a b ha hb => h.2 (i + 1) a b (by simpa using ha) (by simpa using hb)⟩
theorem LR.nil_inv {φ : Phi} {l' : List Value} (h : LR φ [] l') : l' = [] := by
  have := h.1; simp at this; exact List.eq_nil_of_length_eq_zero this.symm
theorem LR.append {φ : Phi} {l l' m m' : List Value} (h : LR φ l l') (k : LR φ m m') : LR φ (l ++ m) (l' ++ m') := by
  refine ⟨by simp [h.1, k.1], fun i a b ha hb => ?_⟩
  rw [List.getElem?_append] at ha hb
  rw [← h.1] at hb
  split at ha
  · rename_i hlt; rw [if_pos hlt] at hb; exact h.2 i a b ha hb
  · rename_i hlt; rw [if_neg hlt] at hb; exact k.2 _ a b ha hb
theorem LR.get {φ : Phi} {l l' : List Value} (h : LR φ l l') {i : Nat} {a : Value} (ha : l[i]? = some a) : ∃ b, l'[i]? = some b ∧ VR φ a b := by
  have hi : i < l'.length := by rw [← h.1]; exact (List.getElem?_eq_some_iff.1 ha).1
  exact ⟨l'[i], by simp [hi], h.2 i a _ ha (by simp [hi])⟩
theorem LR.take {φ : Phi} {l l' : List Value} (h : LR φ l l') (n : Nat) : LR φ (l.take n) (l'.take n) := by
  refine ⟨by simp [h.1], fun i a b ha hb => ?_⟩
  rw [List.getElem?_take] at ha hb
  split at ha
  · rename_i hlt; rw [if_pos hlt] at hb; exact h.2 i a b ha hb
  · simp at ha
theorem LR.drop {φ : Phi} {l l' : List Value} (h : LR φ l l') (n : Nat) : LR φ (l.drop n) (l'.drop n) := by
  refine ⟨by simp [h.1], fun i a b ha hb => ?_⟩
  rw [List.getElem?_drop] at ha hb
  exact h.2 _ a b ha hb
theorem LR.set {φ : Phi} {l l' : List Value} (h : LR φ l l') (n : Nat) {v u : Value} (hv : VR φ v u) : LR φ (l.set n v) (l'.set n u) := by
  refine ⟨by simp [h.1], fun i a b ha hb => ?_⟩
  rw [List.getElem?_set] at ha hb
  rw [← h.1] at hb
  split at ha
  · rename_i hn
    rw [if_pos hn] at hb
    split at ha
    · rename_i hl; rw [if_pos hl] at hb; simp at ha hb; subst ha; subst hb; exact hv
    · simp at ha
  · rename_i hn; rw [if_neg hn] at hb; exact h.2 i a b ha hb
theorem LR.replicate {φ : Phi} {v u : Value} (h : VR φ v u) (n : Nat) : LR φ (List.replicate n v) (List.replicate n u) := by
  refine ⟨by simp, fun i a b ha hb => ?_⟩
  simp [List.getElem?_replicate] at ha hb
  obtain ⟨_, rfl⟩ := ha; obtain ⟨_, rfl⟩ := hb; exact h

theorem LR.ofArrays {φ : Phi} {c c' : Array Value} (hc : c.size = c'.size) (h : ∀ (i : Nat) (a b : Value), c[i]? = some a → c'[i]? = some b → VR φ a b) : LR φ c.toList c'.toList :=
  ⟨by simpa using hc, fun i a b ha hb => h i a b (by simpa using ha) (by simpa using hb)⟩
theorem VR.aggL {φ : Phi} {l l' : List Value} (h : LR φ l l') : VR φ (.agg l.toArray) (.agg l'.toArray) :=
  .agg (by simpa using h.1) fun i a b ha hb => h.2 i a b (by simpa using ha) (by simpa using hb)
theorem VR.tupleL {φ : Phi} {l l' : List Value} (h : LR φ l l') : VR φ (.tuple l.toArray) (.tuple l'.toArray) :=
  .tuple (by simpa using h.1) fun i a b ha hb => h.2 i a b (by simpa using ha) (by simpa using hb)
theorem VR.agg_inv {φ : Phi} {c : Array Value} {u : Value} (h : VR φ (.agg c) u) : ∃ c' : Array Value, u = .agg c' ∧ LR φ c.toList c'.toList := by
  cases h with
  | agg hc hc' => exact ⟨_, rfl, LR.ofArrays hc hc'⟩
theorem VR.tuple_inv {φ : Phi} {c : Array Value} {u : Value} (h : VR φ (.tuple c) u) : ∃ c' : Array Value, u = .tuple c' ∧ LR φ c.toList c'.toList := by
  cases h with
  | tuple hc hc' => exact ⟨_, rfl, LR.ofArrays hc hc'⟩
theorem VR.undef (φ : Phi) : VR φ undef undef := .tuple rfl fun i a b ha => by simp at ha

/-- the cells of a value -/
def cellsL : Value → List Value
  | .agg cs => cs.toList
  | v => [v]
theorem cells_toList (v : Value) : v.cells.toList = cellsL v := by cases v <;> rfl
theorem VR.cellsR {φ : Phi} {v u : Value} (h : VR φ v u) : LR φ (cellsL v) (cellsL u) := by
  cases h with
  | agg hc hc' => exact LR.ofArrays hc hc'
  | bool b => exact LR.cons (.bool b) (LR.nil φ)
  | int k n => exact LR.cons (.int k n) (LR.nil φ)
  | string s => exact LR.cons (.string s) (LR.nil φ)
  | ptrNil => exact LR.cons .ptrNil (LR.nil φ)
  | ptr p => exact LR.cons (.ptr p) (LR.nil φ)
  | sliceNil l c => exact LR.cons (.sliceNil l c) (LR.nil φ)
  | slice p q => exact LR.cons (.slice p q) (LR.nil φ)
  | func fn a b c d => exact LR.cons (.func fn a b c d) (LR.nil φ)
  | nilFunc => exact LR.cons .nilFunc (LR.nil φ)
  | tuple a b => exact LR.cons (.tuple a b) (LR.nil φ)

/-- plain values: no addresses -/
def flat : Value → Bool
  | .bool _ | .int _ _ | .string _ => true
  | .pointer none => true
  | .slice none _ _ => true
  | .nilFunc => true
  | _ => false
theorem VR.flat_eq {φ : Phi} {v u : Value} (h : VR φ v u) (hf : flat v = true) : u = v := by cases h <;> simp_all [flat]
theorem VR.of_flat (φ : Phi) {v : Value} (hf : flat v = true) : VR φ v v := by
  cases v <;> simp [flat] at hf
  · exact .bool _
  · exact .int _ _
  · exact .string _
  · rename_i a; cases a
    · exact .ptrNil
    · simp at hf
  · rename_i a _ _; cases a
    · exact .sliceNil _ _
    · simp at hf
  · exact .nilFunc
theorem LR.of_flat (φ : Phi) {l : List Value} (h : l.all flat = true) : LR φ l l := by
  refine ⟨rfl, fun i a b ha hb => ?_⟩
  rw [ha] at hb; cases hb
  exact VR.of_flat φ (List.all_eq_true.1 h a (List.mem_of_getElem? ha))
theorem LR.flat_eq {φ : Phi} {l l' : List Value} (h : LR φ l l') (hf : l.all flat = true) : l' = l := by
  apply List.ext_getElem? ; intro i
  cases hi : l[i]? with
  | none =>
    have : l.length ≤ i := by simpa using hi
    rw [h.1] at this
    simpa using this
  | some a =>
    obtain ⟨b, hb, hv⟩ := h.get hi
    rw [hb, hv.flat_eq (List.all_eq_true.1 hf a (List.mem_of_getElem? hi))]

/-- the relation of the small heap to the world -/
structure HR (φ : Phi) (h : AHeap) (w : World) : Prop where
  obj : ∀ A o, h[A]? = some (some o) → ∃ B s n cs T fz, φ A = some (B, s, n) ∧ w.heap[B]? = some (.cells cs T fz) ∧ cs.size = s + n ∧
    (∀ (i : Nat) (v : Value), o.cells[i]? = some v → ∃ u, cs[s + i]? = some u ∧ VR φ v u) ∧ (o.own = true → fz = (0, 0))
  inj : ∀ A A' o o' B s s' n n', h[A]? = some (some o) → o.own = true → h[A']? = some (some o') → φ A = some (B, s, n) → φ A' = some (B, s', n') → A = A'
  dom : ∀ A, h.length ≤ A → φ A = none

def ownB (φ : Phi) (h : AHeap) (B : Nat) : Prop := ∃ A o s n, h[A]? = some (some o) ∧ o.own = true ∧ φ A = some (B, s, n)

/-- one step: the small heap and the world go on together -/
structure Stp (φ : Phi) (h : AHeap) (w : World) (φ' : Phi) (h' : AHeap) (w' : World) : Prop where
  ext : ext φ φ'
  hr : HR φ' h' w'
  os : w'.os = w.os
  tape : w'.tape = w.tape
  output : w'.output = w.output
  size : w.heap.size ≤ w'.heap.size
  keep : ∀ B, B < w.heap.size → ¬ ownB φ h B → w'.heap[B]? = w.heap[B]?
  fresh : ∀ B, ownB φ' h' B → B < w.heap.size → ownB φ h B
  new : h.length ≤ h'.length ∧ (∀ A, A < h.length → φ' A = φ A) ∧ ∀ A x, h.length ≤ A → φ' A = some x → x.1 < w.heap.size → ownB φ h x.1

theorem HR.new0 {φ : Phi} {h : AHeap} {w w' : World} (hr : HR φ h w) : h.length ≤ h.length ∧ (∀ A, A < h.length → φ A = φ A) ∧ ∀ A x, h.length ≤ A → φ A = some x → x.1 < w'.heap.size → ownB φ h x.1 :=
  ⟨Nat.le_refl _, fun _ _ => rfl, fun A x hA hx _ => by rw [hr.dom A hA] at hx; cases hx⟩
theorem Stp.refl {φ : Phi} {h : AHeap} {w : World} (hr : HR φ h w) : Stp φ h w φ h w :=
  ⟨ext.refl φ, hr, rfl, rfl, rfl, Nat.le_refl _, fun _ _ _ => rfl, fun _ h _ => h, hr.new0⟩
theorem Stp.trans {φ φ1 φ2 : Phi} {h h1 h2 : AHeap} {w w1 w2 : World} (a : Stp φ h w φ1 h1 w1) (b : Stp φ1 h1 w1 φ2 h2 w2) : Stp φ h w φ2 h2 w2 := by
  refine ⟨a.ext.trans b.ext, b.hr, b.os.trans a.os, b.tape.trans a.tape, b.output.trans a.output, Nat.le_trans a.size b.size, fun B hB hn => ?_, fun B hB hlt => ?_, ?_⟩
  · rw [b.keep B (Nat.lt_of_lt_of_le hB a.size) (fun ho => hn (a.fresh B ho hB)), a.keep B hB hn]
  · exact a.fresh B (b.fresh B hB (Nat.lt_of_lt_of_le hlt a.size)) hlt
  · obtain ⟨a1, a2, a3⟩ := a.new
    obtain ⟨b1, b2, b3⟩ := b.new
    refine ⟨Nat.le_trans a1 b1, fun A hA => (b2 A (Nat.lt_of_lt_of_le hA a1)).trans (a2 A hA), fun A x hA hx hlt => ?_⟩
    rcases Nat.lt_or_ge A h1.length with h | h
    · rw [b2 A h] at hx; exact a3 A x hA hx hlt
    · exact a.fresh _ (b3 A x h hx (Nat.lt_of_lt_of_le hlt a.size)) hlt
theorem HR.drew {φ : Phi} {h : AHeap} {w : World} (hr : HR φ h w) (n : Nat) : HR φ h { w with drawn := n } := ⟨hr.obj, hr.inj, hr.dom⟩
theorem Stp.drew {φ : Phi} {h : AHeap} {w : World} (hr : HR φ h w) (n : Nat) : Stp φ h w φ h { w with drawn := n } :=
  ⟨ext.refl φ, hr.drew n, rfl, rfl, rfl, Nat.le_refl _, fun _ _ _ => rfl, fun _ h _ => h, hr.new0⟩

/-- reading cells of the small heap -/
def cellsAt (h : AHeap) (A : Nat) : Option (List Value) :=
  match h[A]? with
  | some (some o) => some o.cells
  | _ => none
def getN (l : List Value) (off : Nat) : Nat → Option (List Value)
  | 0 => some []
  | n + 1 => match l[off]? with
    | some v => (getN l (off + 1) n).map (v :: ·)
    | none => none
def setN (l : List Value) (off : Nat) : List Value → List Value
  | [] => l
  | v :: r => setN (l.set off v) (off + 1) r

theorem HR.read {φ : Phi} {h : AHeap} {w : World} (hr : HR φ h w) {A : Nat} {l : List Value} (hl : cellsAt h A = some l) :
    ∃ B s n, φ A = some (B, s, n) ∧ ∀ (i : Nat) (v : Value), l[i]? = some v → ∃ u, w.cell? ⟨B, s + i, none⟩ = some u ∧ VR φ v u := by
  unfold cellsAt at hl
  split at hl
  · rename_i o ho
    cases hl
    obtain ⟨B, s, n, cs, T, fz, h1, h2, h3, h4, h5⟩ := hr.obj A o ho
    refine ⟨B, s, n, h1, fun i v hv => ?_⟩
    obtain ⟨u, hu, hvu⟩ := h4 i v hv
    exact ⟨u, by simp [World.cell?, h2, hu], hvu⟩
  · cases hl

end Go.Ai
