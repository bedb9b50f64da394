import Derived.Test.YtpbbmnfffolcoaaX
import Derived.Test.YtpbbmnfffolcoaaRun
import Derived.Test.YtpbbmnfffolcoaaAiZ
import Derived.Test.YtpbbmnfffolcoaaAiXc
import Derived.Test.YtpbbmnfffolcoaaAiXd
import Derived.Test.YtpbbmnfffolcoaaAiXa
set_option linter.unusedVariables false
set_option linter.unusedSimpArgs false
namespace Go.Proofs.Ytpbbmnfffolcoaa
open Go Go.Ai Go.Proofs

theorem i64_wrap {n : Int} (h1 : -9223372036854775808 ≤ n) (h2 : n ≤ 9223372036854775807) : IntKind.i64.wrap n = n := by
  rw [IntKind.wrap_i64]; omega
theorem app_one (g : AHeap) (o : Option AObj) : (g ++ [o])[g.length]? = some o := by simp
/-- an object is written no more, if it is one -/
def frzAt (h : AHeap) (A : Nat) : AHeap := match h[A]? with
  | some (some o) => if o.own = true then h.set A (some ⟨false, o.cells⟩) else h
  | _ => h
theorem frzAt_own {h : AHeap} {A : Nat} {cs : List Value} (hA : h[A]? = some (some ⟨true, cs⟩)) : frzAt h A = h.set A (some ⟨false, cs⟩) := by
  unfold frzAt; rw [hA]; rfl
theorem frzAt_end (h : AHeap) : frzAt h h.length = h := by
  unfold frzAt; rw [List.getElem?_eq_none (Nat.le_refl _)]
theorem frzAt_len (h : AHeap) (A : Nat) : (frzAt h A).length = h.length := by
  unfold frzAt; split
  · split <;> simp
  · rfl
theorem frzAt_ne {h : AHeap} {A B : Nat} (hB : A ≠ B) : (frzAt h A)[B]? = h[B]? := by
  unfold frzAt; split
  · split
    · exact set_ne hB _
    · rfl
  · rfl
theorem frzAt_frz (h : AHeap) (A : Nat) : Frz h (frzAt h A) := fun B cs hB => by
  by_cases e : A = B
  · subst e
    unfold frzAt; rw [hB]; exact hB
  · rw [frzAt_ne e]; exact hB
theorem frzAt_set {h : AHeap} {A D : Nat} (hA : A ≠ D) (o : Option AObj) : frzAt (h.set D o) A = (frzAt h A).set D o := by
  unfold frzAt
  rw [set_ne hA.symm]
  split
  · split
    · exact List.set_comm _ _ hA.symm
    · rfl
  · rfl
/-- two copies of bits are written no more -/
theorem frzAt_kp {h h' : AHeap} (k : Kp h h') {A : Nat} (hA : h.length ≤ A) : Kp h (frzAt h' A) := ⟨by rw [frzAt_len]; exact k.1, fun B hB => by rw [frzAt_ne (by omega)]; exact k.2 B hB⟩
theorem Valid.freezeA {P : Program} {f : FuncId} {args : List Value} {h : AHeap} {Q : Value → AHeap → Prop} (v : Valid P f args h fun r h' => ∃ A, Q r (frzAt h' A)) : Valid P f args h Q :=
  Valid.freeze (v.mono fun r h' ⟨A, hQ⟩ => by
    unfold frzAt at hQ
    split at hQ
    · rename_i o ho
      split at hQ
      · rename_i hw
        obtain ⟨w, cs⟩ := o
        simp only at hw; subst hw
        exact .inr ⟨A, cs, ho, hQ⟩
      · exact .inl hQ
    · exact .inl hQ)
def RetN (k : Nat) (h : AHeap) (sl : Value) (n : Nat) (rows : List Value) : Prop := rows.length = n * k ∧ ((sl = .slice none 0 0 ∧ n = 0) ∨ ∃ A off cells, sl = .slice (some ⟨A, off, none⟩) n (unk + k) ∧ h[A]? = some (some ⟨true, cells⟩) ∧ getN cells off (n * k) = some rows)
theorem RetN.toO {k n : Nat} {h : AHeap} {sl : Value} {rows : List Value} (r : RetN k h sl n rows) : RetO k h sl n rows := ⟨r.1, r.2.elim .inl fun x => .inr (.inr x)⟩
theorem RetN.own {k n : Nat} {h : AHeap} {sl : Value} {rows : List Value} (r : RetN k h sl n rows) {B : Nat} (hB : slB sl = some B) : ∃ cs, h[B]? = some (some ⟨true, cs⟩) := by
  rcases r.2 with ⟨rfl, -⟩ | ⟨A, off, cells, rfl, h1, -⟩
  · cases hB
  · simp [slB] at hB; subst hB; exact ⟨_, h1⟩
theorem RetN.keep {k n : Nat} {h h' : AHeap} {sl : Value} {rows : List Value} (r : RetN k h sl n rows) (hk : ∀ A, slB sl = some A → h'[A]? = h[A]?) : RetN k h' sl n rows := by
  rcases r with ⟨h1, h2 | ⟨A, off, cells, rfl, h3, h4⟩⟩
  · exact ⟨h1, .inl h2⟩
  · exact ⟨h1, .inr ⟨A, off, cells, rfl, by rw [hk A rfl]; exact h3, h4⟩⟩
theorem RetN.nil (k : Nat) (h : AHeap) : RetN k h (.slice none 0 0) 0 [] := ⟨by simp, .inl ⟨rfl, rfl⟩⟩
theorem RetN.all {k n : Nat} {h : AHeap} {A : Nat} {rows : List Value} (hA : h[A]? = some (some ⟨true, rows⟩)) (hl : rows.length = n * k) : RetN k h (.slice (some ⟨A, 0, none⟩) n (unk + k)) n rows := ⟨hl, .inr ⟨A, 0, rows, rfl, hA, getN_all _ _ hl.symm⟩⟩
theorem getN_drop {l rows : List Value} {off n m : Nat} (h : getN l off n = some rows) (hm : m ≤ n) : getN l (off + m) (n - m) = some (rows.drop m) := by
  obtain ⟨h1, h2⟩ := (getN_eq _ _ _ _).1 h
  refine (getN_eq _ _ _ _).2 ⟨by split at h1 <;> split <;> omega, ?_⟩
  rw [h2, List.drop_take, List.drop_drop]
/-- the front is taken off -/
theorem RetN.behind {k n : Nat} {h : AHeap} {sl : Value} {rows : List Value} (r : RetN k h sl n rows) {j : Nat} (hj : j ≤ n) : ∃ sl', (∀ (ρ : Env) (x lo : XA), ev ρ x = some sl → ev ρ lo = some (.int .i64 (j : Int)) → xop (.slice k x (some lo) none none) ρ h = some (sl', h)) ∧ RetN k h sl' (n - j) (rows.drop (j * k)) ∧ (∀ B, slB sl' = some B → slB sl = some B) := by
  rcases r with ⟨h1, ⟨rfl, rfl⟩ | ⟨A, off, cells, rfl, h3, h4⟩⟩
  · have : j = 0 := by omega
    subst this
    refine ⟨.slice none 0 0, fun ρ x lo hx hlo => ?_, ⟨by simpa using h1, .inl ⟨rfl, rfl⟩⟩, fun B h => h⟩
    have hu : ¬ unk ≤ 0 := by decide
    simp [xop, hx, hlo, bnd, int?, hu]
  · refine ⟨.slice (some ⟨A, off + j * k, none⟩) (n - j) (unk + k), fun ρ x lo hx hlo => ?_, ⟨?_, .inr ⟨A, off + j * k, cells, rfl, h3, ?_⟩⟩, fun B h => h⟩
    · have hu : unk ≤ unk + k := by omega
      have hj' : (j : Int) ≤ n := by omega
      simp [xop, hx, hlo, bnd, int?, hu, hj', hj, shiftA]
    · rw [List.length_drop, h1, Nat.sub_mul]
    · rw [Nat.sub_mul]; exact getN_drop h4 (Nat.mul_le_mul_right _ hj)
/-- bytes -/
def bN (l : List Nat) : List Value := l.map fun n : Nat => Value.int .u8 (n : Int)
theorem bN_len (l : List Nat) : (bN l).length = l.length := by simp [bN]
theorem bN_app (a b : List Nat) : bN (a ++ b) = bN a ++ bN b := by simp [bN]
theorem bN_get {l : List Nat} {i n : Nat} (h : l[i]? = some n) : (bN l)[i]? = some (.int .u8 (n : Int)) := by simp [bN, h]
theorem bN_one (l : List Nat) : (bN l).all oneC = true := by
  induction l with
  | nil => rfl
  | cons a l ih => simp only [bN, List.map_cons, List.all_cons] at ih ⊢; rw [ih]; rfl
/-- a view of bytes that are written no more -/
def BytesV (h : AHeap) (v : Value) (bs : List Nat) : Prop := ∃ q c, v = .slice q bs.length c ∧ (bs = [] ∨ ∃ a cs, q = some a ∧ a.spot = none ∧ h[a.block]? = some (some ⟨false, cs⟩) ∧ getN cs a.off bs.length = some (bN bs))
theorem BytesV.frz {h h' : AHeap} {v : Value} {bs : List Nat} (l : BytesV h v bs) (z : Frz h h') : BytesV h' v bs := by
  obtain ⟨q, c, h1, h3 | ⟨a, cs, h3, h4, h5, h6⟩⟩ := l
  · exact ⟨q, c, h1, .inl h3⟩
  · exact ⟨q, c, h1, .inr ⟨a, cs, h3, h4, z _ _ h5, h6⟩⟩
theorem BytesV.nil (h : AHeap) : BytesV h (.slice none 0 0) [] := ⟨none, 0, rfl, .inl rfl⟩
theorem BytesV.shape {h : AHeap} {v : Value} {bs : List Nat} (l : BytesV h v bs) : ∃ q c, v = .slice q bs.length c := by
  obtain ⟨q, c, h1, -⟩ := l; exact ⟨q, c, h1⟩
theorem BytesV.first {h : AHeap} {v : Value} {bs : List Nat} (l : BytesV h v bs) : firstV 1 h bs.length v = some (bN bs) := by
  obtain ⟨q, c, rfl, rfl | ⟨a, cs, rfl, h4, h5, h6⟩⟩ := l
  · cases q <;> simp [firstV, bN]
  · simp only [firstV]
    split
    · rename_i h0; rw [List.eq_nil_of_length_eq_zero h0]; rfl
    · simp only [h4, ne_eq, not_true_eq_false, if_false, cellsAt, h5, Option.bind_some, Nat.mul_one]
      exact h6
theorem BytesV.part {h : AHeap} {v : Value} {bs : List Nat} (l : BytesV h v bs) : PartOk h v (bN bs) := by
  obtain ⟨q, c, e⟩ := l.shape
  refine ⟨q, c, by rw [bN_len]; exact e, by rw [bN_len]; exact l.first, bN_one _⟩
/-- an invocation -/
structure Iv where
  op : Int
  cl : Int
  wt : Int
  pb : List Nat
def iv0 : Iv := ⟨0, 0, 0, []⟩
def rwC (x : Iv × Value) : List Value := [.int .i64 x.1.op, .int .u8 x.1.cl, .int .i64 x.1.wt, x.2]
def rowsB (rs : List (Iv × Value)) : List Value := rs.flatMap rwC
theorem rowsB_len (rs : List (Iv × Value)) : (rowsB rs).length = rs.length * 4 := by
  induction rs with
  | nil => rfl
  | cons c cs ih => simp only [rowsB, List.flatMap_cons, List.length_append, List.length_cons] at ih ⊢; rw [ih]; simp [rwC]; omega
theorem rowsB_get {t : List Value} {x : Iv × Value} : ∀ {rs : List (Iv × Value)} {i : Nat}, rs[i]? = some x → getN (rowsB rs ++ t) (i * 4) 4 = some (rwC x) ∧ ∀ j, j < 4 → (rowsB rs ++ t)[i * 4 + j]? = (rwC x)[j]?
  | [], i, h => by simp at h
  | d :: cs, 0, h => by
    simp at h; subst h
    have : rowsB (d :: cs) = rwC d ++ rowsB cs := rfl
    rw [this, List.append_assoc]
    refine ⟨(getN_eq _ _ _ _).2 ⟨by simp [rwC], rfl⟩, fun j hj => ?_⟩
    rw [List.getElem?_append_left (by simp [rwC]; omega)]; simp
  | d :: cs, i + 1, h => by
    have e : rowsB (d :: cs) ++ t = .int .i64 d.1.op :: .int .u8 d.1.cl :: .int .i64 d.1.wt :: d.2 :: (rowsB cs ++ t) := rfl
    obtain ⟨h1, h2⟩ := rowsB_get (t := t) (rs := cs) (i := i) (by simpa using h)
    rw [e, show (i + 1) * 4 = i * 4 + 1 + 1 + 1 + 1 by omega]
    refine ⟨?_, fun j hj => by rw [show i * 4 + 1 + 1 + 1 + 1 + j = (i * 4 + j) + 1 + 1 + 1 + 1 by omega]; simpa using h2 j hj⟩
    obtain ⟨g1, g2⟩ := (getN_eq _ _ _ _).1 h1
    refine (getN_eq _ _ _ _).2 ⟨by simp only [List.length_cons]; split at g1 <;> split <;> omega, by simpa using g2⟩
theorem rowsB_set {t : List Value} {x : Iv × Value} (y : Iv × Value) : ∀ {rs : List (Iv × Value)} {i : Nat}, rs[i]? = some x → setN (rowsB rs ++ t) (i * 4) (rwC y) = rowsB (rs.set i y) ++ t
  | [], i, h => by simp at h
  | d :: cs, 0, h => by simp [rowsB, rwC, setN]
  | d :: cs, i + 1, h => by
    have ih := rowsB_set y (t := t) (rs := cs) (i := i) (by simpa using h)
    have e : rowsB (d :: cs) ++ t = .int .i64 d.1.op :: .int .u8 d.1.cl :: .int .i64 d.1.wt :: d.2 :: (rowsB cs ++ t) := rfl
    rw [e, show (i + 1) * 4 = i * 4 + 1 + 1 + 1 + 1 by omega]
    simp only [rwC, setN, List.set_cons_succ, show i * 4 + 1 + 1 + 1 + 1 + 1 = (i * 4 + 1) + 1 + 1 + 1 + 1 by omega, show (i * 4 + 1) + 1 + 1 + 1 + 1 + 1 = (i * 4 + 1 + 1) + 1 + 1 + 1 + 1 by omega, show (i * 4 + 1 + 1) + 1 + 1 + 1 + 1 + 1 = (i * 4 + 1 + 1 + 1) + 1 + 1 + 1 + 1 by omega] at ih ⊢
    rw [ih]; rfl
theorem rowsB_set1 {t : List Value} {x : Iv × Value} (w : Int) : ∀ {rs : List (Iv × Value)} {i : Nat}, rs[i]? = some x → (rowsB rs ++ t).set (i * 4 + 2) (.int .i64 w) = rowsB (rs.set i ({ x.1 with wt := w }, x.2)) ++ t
  | [], i, h => by simp at h
  | d :: cs, 0, h => by simp at h; subst h; simp [rowsB, rwC]
  | d :: cs, i + 1, h => by
    have ih := rowsB_set1 w (t := t) (rs := cs) (i := i) (by simpa using h)
    have e : rowsB (d :: cs) ++ t = .int .i64 d.1.op :: .int .u8 d.1.cl :: .int .i64 d.1.wt :: d.2 :: (rowsB cs ++ t) := rfl
    rw [e, show (i + 1) * 4 + 2 = (i * 4 + 2) + 1 + 1 + 1 + 1 by omega]
    simp only [List.set_cons_succ]
    rw [ih]; rfl
theorem rowsB_set3 {t : List Value} {x : Iv × Value} (v : Value) (bs : List Nat) : ∀ {rs : List (Iv × Value)} {i : Nat}, rs[i]? = some x → (rowsB rs ++ t).set (i * 4 + 3) v = rowsB (rs.set i ({ x.1 with pb := bs }, v)) ++ t
  | [], i, h => by simp at h
  | d :: cs, 0, h => by simp at h; subst h; simp [rowsB, rwC]
  | d :: cs, i + 1, h => by
    have ih := rowsB_set3 v bs (t := t) (rs := cs) (i := i) (by simpa using h)
    have e : rowsB (d :: cs) ++ t = .int .i64 d.1.op :: .int .u8 d.1.cl :: .int .i64 d.1.wt :: d.2 :: (rowsB cs ++ t) := rfl
    rw [e, show (i + 1) * 4 + 3 = (i * 4 + 3) + 1 + 1 + 1 + 1 by omega]
    simp only [List.set_cons_succ]
    rw [ih]; rfl
/-- an ending -/
structure En where
  id : Int
  how : Int
  code : Int
  val : List Nat
def En.cells (e : En) (v : Value) : List Value := [.int .i64 e.id, .int .u8 e.how, .int .i64 e.code, v]
def EndsR (h : AHeap) : List Value → List En → Prop
  | cells, [] => cells = []
  | cells, e :: es => ∃ v r, cells = e.cells v ++ r ∧ BytesV h v e.val ∧ EndsR h r es
theorem EndsR.frz {h h' : AHeap} (z : Frz h h') : ∀ {cells : List Value} {es : List En}, EndsR h cells es → EndsR h' cells es
  | _, [], k => k
  | _, _ :: _, ⟨v, r, h1, h2, h3⟩ => ⟨v, r, h1, h2.frz z, EndsR.frz z h3⟩
theorem EndsR.push {h : AHeap} {e : En} {v : Value} (h1 : BytesV h v e.val) : ∀ {cells : List Value} {es : List En}, EndsR h cells es → EndsR h (cells ++ e.cells v) (es ++ [e])
  | _, [], k => ⟨v, [], by rw [show _ = ([] : List Value) from k]; simp, h1, rfl⟩
  | _, x :: es, ⟨vx, r, k1, k2, k3⟩ => ⟨vx, r ++ e.cells v, by rw [k1]; simp, k2, EndsR.push h1 k3⟩
theorem EndsR.len {h : AHeap} : ∀ {cells : List Value} {es : List En}, EndsR h cells es → cells.length = es.length * 4
  | _, [], k => by rw [show _ = ([] : List Value) from k]; rfl
  | _, e :: es, ⟨v, r, h1, _, h3⟩ => by rw [h1, List.length_append, EndsR.len h3]; simp [En.cells]; omega
def EQ (h : AHeap) (v : Value) (es : List En) : Prop := ∃ cells, RetN 4 h v es.length cells ∧ EndsR h cells es
theorem EQ.nil (h : AHeap) : EQ h (.slice none 0 0) [] := ⟨[], RetN.nil 4 h, rfl⟩
theorem EQ.keep {h h' : AHeap} {v : Value} {es : List En} (q : EQ h v es) (z : Frz h h') (hk : ∀ A, slB v = some A → h'[A]? = h[A]?) : EQ h' v es := by
  obtain ⟨cells, r, l⟩ := q
  exact ⟨cells, r.keep hk, l.frz z⟩
theorem EQ.own {h : AHeap} {v : Value} {es : List En} (q : EQ h v es) {B : Nat} (hB : slB v = some B) : ∃ cs, h[B]? = some (some ⟨true, cs⟩) := q.choose_spec.1.own hB
theorem EQ.lt {h : AHeap} {v : Value} {es : List En} (q : EQ h v es) {B : Nat} (hB : slB v = some B) : B < h.length := by
  obtain ⟨cs, h1⟩ := q.own hB; exact lt_of_get h1
/-- a book -/
structure Bk where
  is : List Iv
  nx : Nat
  es : List En
structure BkAt (h : AHeap) (B : Nat) (b : Bk) (rs : List (Iv × Value)) (dv : Value) : Prop where
  obj : h[B]? = some (some ⟨true, rowsB rs ++ [.int .i64 (b.nx : Int), dv]⟩)
  fst : rs.map Prod.fst = b.is
  n : rs.length = 128
  nx : b.nx < 128
  pv : ∀ x ∈ rs, BytesV h x.2 x.1.pb
  eq : EQ h dv b.es
  s : ∀ X, slB dv = some X → X ≠ B
theorem BkAt.len {h : AHeap} {B : Nat} {b : Bk} {rs : List (Iv × Value)} {dv : Value} (A : BkAt h B b rs dv) : b.is.length = 128 := by rw [← A.fst, List.length_map, A.n]
theorem BkAt.kp {h h' : AHeap} {B : Nat} {b : Bk} {rs : List (Iv × Value)} {dv : Value} (A : BkAt h B b rs dv) (K : Kp h h') : BkAt h' B b rs dv :=
  ⟨K.get A.obj, A.fst, A.n, A.nx, fun x hx => (A.pv x hx).frz K.frz, A.eq.keep K.frz fun X hX => K.2 X (A.eq.lt hX), A.s⟩
def ftB (B : Nat) (dv : Value) (X : Nat) : Prop := X = B ∨ slB dv = some X
/-- what a book's method leaves -/
def WentB (h h' : AHeap) (B : Nat) (b' : Bk) (dv : Value) : Prop := ∃ rs' dv', BkAt h' B b' rs' dv' ∧ Fr (ftB B dv) h h' ∧ ∀ X, ftB B dv' X → ftB B dv X ∨ h.length ≤ X
theorem BkAt.same {h h' : AHeap} {B : Nat} {b : Bk} {rs : List (Iv × Value)} {dv : Value} (A : BkAt h B b rs dv) (K : Kp h h') : WentB h h' B b dv := ⟨rs, dv, A.kp K, K.fr _, fun X h => .inl h⟩
/-- an invocation with the number is open -/
def Bk.isO (b : Bk) (id : Int) : Bool := decide (0 ≤ id ∧ id < 128) && decide ((b.is[id.toNat]?.getD iv0).cl ≠ 0)
theorem BkAt.cls {h : AHeap} {B : Nat} {b : Bk} {rs : List (Iv × Value)} {dv : Value} (A : BkAt h B b rs dv) {i : Nat} (hi : i < 128) : ∃ x, rs[i]? = some x ∧ b.is[i]? = some x.1 := by
  have := List.getElem?_eq_getElem (l := rs) (i := i) (by rw [A.n]; exact hi)
  refine ⟨_, this, ?_⟩
  rw [← A.fst, List.getElem?_map, this]; rfl
theorem is_ok {h : AHeap} {B : Nat} {b : Bk} {rs : List (Iv × Value)} {dv : Value} {id : Int} (A : BkAt h B b rs dv) : Valid Try.prog 13 [.pointer (some ⟨B, 0, none⟩), .int .i64 id] h fun r h' => r = .bool (b.isO id) ∧ h' = h := by
  refine v13 (by simp) ?_
  have hB := A.obj
  by_cases h0 : 0 ≤ id
  · by_cases h1 : id < 128
    · obtain ⟨i, rfl⟩ : ∃ i : Nat, id = i := ⟨id.toNat, by omega⟩
      obtain ⟨x, hx, hi⟩ := A.cls (i := i) (by omega)
      have hc := (rowsB_get (t := [.int .i64 (b.nx : Int), dv]) hx).2 1 (by decide)
      have e : b.isO (i : Int) = decide (x.1.cl ≠ 0) := by
        unfold Bk.isO
        rw [Int.toNat_natCast, hi]
        have : decide (0 ≤ (i : Int) ∧ (i : Int) < 128) = true := by rw [decide_eq_true_iff]; exact ⟨h0, h1⟩
        rw [this]; rfl
      have hc' : (rwC x)[1]? = some (.int .u8 x.1.cl) := rfl
      rw [hc'] at hc
      by_cases hz : x.1.cl = 0
      · have hz' : ¬ x.1.cl ≠ 0 := fun h => h hz
        simp only [X13, sx, x_box, x_alloc, x_bslice, x_slice, x_append, x_appz, x_b2s, x_s2b, x_mark, xop, ev, evs, evParts, fillL, cellsL, Ai.get, Ai.put, stab, isNil?, if_false, if_true, addr?, int?, str?, agg?, bool?, shiftA, FnPost, xresL, xres1, tup, argEnv, ptr, Nat.reduceEqDiff, reduceIte, beq_self_eq_true, ne_eq, Nat.reduceAdd, Nat.reduceMul, Nat.reduceSub, abin_shl, abin_shr, load1V, loadV, storeV, cellsAt, getN, setN, allocV, lenL, lenS, bnd, oneC, Value.oneCell', Nat.reduceLeDiff, Nat.reduceLT, exists_eq_left', forall_const, reduceCtorEq, app_new, app_new0, List.append_assoc, Int.reduceToNat, Int.reduceLT, Int.reduceLE, Int.reduceEq, Int.reduceNe, Int.reduceBEq, IntKind.bits, bne_self_eq_false, Int.reducePow, h0, h1, hB, hc, hz', e]
      · have hz' : x.1.cl ≠ 0 := hz
        simp only [X13, sx, x_box, x_alloc, x_bslice, x_slice, x_append, x_appz, x_b2s, x_s2b, x_mark, xop, ev, evs, evParts, fillL, cellsL, Ai.get, Ai.put, stab, isNil?, if_false, if_true, addr?, int?, str?, agg?, bool?, shiftA, FnPost, xresL, xres1, tup, argEnv, ptr, Nat.reduceEqDiff, reduceIte, beq_self_eq_true, ne_eq, Nat.reduceAdd, Nat.reduceMul, Nat.reduceSub, abin_shl, abin_shr, load1V, loadV, storeV, cellsAt, getN, setN, allocV, lenL, lenS, bnd, oneC, Value.oneCell', Nat.reduceLeDiff, Nat.reduceLT, exists_eq_left', forall_const, reduceCtorEq, app_new, app_new0, List.append_assoc, Int.reduceToNat, Int.reduceLT, Int.reduceLE, Int.reduceEq, Int.reduceNe, Int.reduceBEq, IntKind.bits, bne_self_eq_false, Int.reducePow, h0, h1, hB, hc, hz', e]
    · have e : b.isO id = false := by
        unfold Bk.isO
        have : decide (0 ≤ id ∧ id < 128) = false := by rw [decide_eq_false_iff_not]; omega
        rw [this]; rfl
      simp only [X13, sx, x_box, x_alloc, x_bslice, x_slice, x_append, x_appz, x_b2s, x_s2b, x_mark, xop, ev, evs, evParts, fillL, cellsL, Ai.get, Ai.put, stab, isNil?, if_false, if_true, addr?, int?, str?, agg?, bool?, shiftA, FnPost, xresL, xres1, tup, argEnv, ptr, Nat.reduceEqDiff, reduceIte, beq_self_eq_true, ne_eq, Nat.reduceAdd, Nat.reduceMul, Nat.reduceSub, abin_shl, abin_shr, load1V, loadV, storeV, cellsAt, getN, setN, allocV, lenL, lenS, bnd, oneC, Value.oneCell', Nat.reduceLeDiff, Nat.reduceLT, exists_eq_left', forall_const, reduceCtorEq, app_new, app_new0, List.append_assoc, Int.reduceToNat, Int.reduceLT, Int.reduceLE, Int.reduceEq, Int.reduceNe, Int.reduceBEq, IntKind.bits, bne_self_eq_false, Int.reducePow, h0, h1, e]
  · have e : b.isO id = false := by
      unfold Bk.isO
      have : decide (0 ≤ id ∧ id < 128) = false := by rw [decide_eq_false_iff_not]; omega
      rw [this]; rfl
    simp only [X13, sx, x_box, x_alloc, x_bslice, x_slice, x_append, x_appz, x_b2s, x_s2b, x_mark, xop, ev, evs, evParts, fillL, cellsL, Ai.get, Ai.put, stab, isNil?, if_false, if_true, addr?, int?, str?, agg?, bool?, shiftA, FnPost, xresL, xres1, tup, argEnv, ptr, Nat.reduceEqDiff, reduceIte, beq_self_eq_true, ne_eq, Nat.reduceAdd, Nat.reduceMul, Nat.reduceSub, abin_shl, abin_shr, load1V, loadV, storeV, cellsAt, getN, setN, allocV, lenL, lenS, bnd, oneC, Value.oneCell', Nat.reduceLeDiff, Nat.reduceLT, exists_eq_left', forall_const, reduceCtorEq, app_new, app_new0, List.append_assoc, Int.reduceToNat, Int.reduceLT, Int.reduceLE, Int.reduceEq, Int.reduceNe, Int.reduceBEq, IntKind.bits, bne_self_eq_false, Int.reducePow, h0, e]
theorem is_nil {h : AHeap} {v : Value} : Valid Try.prog 13 [.pointer none, v] h fun r h' => r = .bool false ∧ h' = h := by
  refine v13 (by simp) ?_
  simp only [X13, sx, x_box, x_alloc, x_bslice, x_slice, x_append, x_appz, x_b2s, x_s2b, x_mark, xop, ev, evs, evParts, fillL, cellsL, Ai.get, Ai.put, stab, isNil?, if_false, if_true, addr?, int?, str?, agg?, bool?, shiftA, FnPost, xresL, xres1, tup, argEnv, ptr, Nat.reduceEqDiff, reduceIte, beq_self_eq_true, ne_eq, Nat.reduceAdd, Nat.reduceMul, Nat.reduceSub, abin_shl, abin_shr, load1V, loadV, storeV, cellsAt, getN, setN, allocV, lenL, lenS, bnd, oneC, Value.oneCell', Nat.reduceLeDiff, Nat.reduceLT, exists_eq_left', forall_const, reduceCtorEq, app_new, app_new0, List.append_assoc, Int.reduceToNat, Int.reduceLT, Int.reduceLE, Int.reduceEq, Int.reduceNe, Int.reduceBEq, IntKind.bits, bne_self_eq_false, Int.reducePow]
end Go.Proofs.Ytpbbmnfffolcoaa
