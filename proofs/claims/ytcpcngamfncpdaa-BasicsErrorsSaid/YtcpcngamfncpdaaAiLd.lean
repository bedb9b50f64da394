/- A function that writes a cell of an argument and writes it back: code in parts, and what the world holds in between. Generic. -/
import Derived.Test.YtcpcngamfncpdaaAiYn
import Derived.Test.YtcpcngamfncpdaaAiXd
set_option linter.unusedVariables false
set_option linter.unusedSimpArgs false
namespace Go.Ai
open Go Go.RowKit
section
variable {P : Program} {N : Nat}

def headC : Nat → Code → Code
  | 0, _ => .skip
  | n + 1, .seq a b => .seq a (headC n b)
  | _ + 1, c => c
def tailC : Nat → Code → Code
  | 0, c => c
  | n + 1, .seq _ b => tailC n b
  | _ + 1, c => c
def okC : Nat → Code → Bool
  | 0, _ => true
  | n + 1, .seq _ b => okC n b
  | _ + 1, _ => false
/-- a code's triple, told from where a call began -/
def AW (P : Program) (N : Nat) (φ0 : Phi) (h0 : AHeap) (w0 : World) (c : Code) (Q : Exit → Env → AHeap → Prop) (ρ : Env) (h : AHeap) : Prop :=
  ∀ φ w (t : Array Value), Stp φ0 h0 w0 φ h w → ER φ ρ t → t.size = N → c.wp P (Post N φ0 h0 w0 Q) ⟨t, []⟩ w
/-- on in the next code -/
def kC (K : Env → AHeap → Prop) (Q : Exit → Env → AHeap → Prop) : Exit → Env → AHeap → Prop
  | .normal, ρ, h => K ρ h
  | e, ρ, h => Q e ρ h
variable {φ0 : Phi} {h0 : AHeap} {w0 : World} {c a b : Code} {Q : Exit → Env → AHeap → Prop} {ρ : Env} {h : AHeap}
theorem AW.of_x {x : XCode} (htr : trCode P N c = some x) (hx : xcode P x Q ρ h) : AW P N φ0 h0 w0 c Q ρ h := fun φ w t st he ht =>
  wp_mono (trCode_sound c x htr Q ρ h hx φ w t st.hr he ht) fun e a w' ⟨p1, p2, φ', ρ', h', p3, p4, p5⟩ => ⟨p1, p2, φ', ρ', h', st.trans p3, p4, p5⟩
theorem AW.seq (h1 : AW P N φ0 h0 w0 a (kC (fun ρ h => AW P N φ0 h0 w0 b Q ρ h) Q) ρ h) : AW P N φ0 h0 w0 (.seq a b) Q ρ h := fun φ w t st he ht =>
  wp_seq (wp_mono (h1 φ w t st he ht) fun e ac w' ⟨p1, p2, φ', ρ', h', p3, p4, p5⟩ => by
    cases e with
    | normal =>
      show b.wp P _ ac w'
      rw [act_eq p1]
      exact p5 φ' w' _ p3 p4 p2
    | _ => exact ⟨p1, p2, φ', ρ', h', p3, p4, p5⟩)
theorem AW.cond {c : Operand} {c' : XA} {v : Bool} (hc : trA c = some c') (hv : ev ρ c' = some (.bool v)) (h1 : v = true → AW P N φ0 h0 w0 a Q ρ h) (h2 : v = false → AW P N φ0 h0 w0 b Q ρ h) : AW P N φ0 h0 w0 (.cond c a b) Q ρ h := fun φ w t st he ht => by
  have hv := (ev_sound (a := ⟨t, []⟩) he hc hv).bool_inv
  refine wp_cond hv ?_
  cases v with
  | true => exact h1 rfl φ w t st he ht
  | false => exact h2 rfl φ w t st he ht
theorem AW.head : ∀ (n : Nat) (c : Code) (x : XCode) (ρ : Env) (h : AHeap), okC n c = true → trCode P N (headC n c) = some x → xcode P x (kC (fun ρ h => AW P N φ0 h0 w0 (tailC n c) Q ρ h) Q) ρ h → AW P N φ0 h0 w0 c Q ρ h
  | 0, c, x, ρ, h, _, htr, hx => by
    simp [headC, trCode] at htr
    subst htr
    exact hx
  | n + 1, c, x, ρ, h, hok, htr, hx => by
    cases c with
    | seq a b =>
      simp only [headC, trCode, Option.bind_eq_some_iff, Option.map_eq_some_iff] at htr
      obtain ⟨xa, ha, xb, hb, rfl⟩ := htr
      refine AW.seq (AW.of_x ha (xcode_mono xa hx fun e ρ h k => ?_))
      cases e with
      | normal => exact AW.head n b xb ρ h hok hb k
      | _ => exact k
    | _ => simp [okC] at hok

/-- the text's order, up to an operation -/
theorem xops_app {K : Env → AHeap → Prop} {ops : Array Oper} {Q : Exit → Act → World → Prop} {l2 : List Oper} : ∀ (l : List Oper) (xs : List XOper), l.mapM (trOper P N ops) = some xs → ∀ ρ h φ w (t : Array Value), xops P K xs ρ h → HR φ h w → ER φ ρ t → t.size = N →
    (∀ φ' ρ' h' (t' : Array Value) w', Stp φ h w φ' h' w' → ER φ' ρ' t' → t'.size = N → K ρ' h' → wpList P ops Q l2 ⟨t', []⟩ w') → wpList P ops Q (l ++ l2) ⟨t, []⟩ w
  | [], xs, htr, ρ, h, φ, w, t, hx, hr, he, ht, hQ => by
    simp at htr; subst htr
    exact hQ φ ρ h t w (Stp.refl hr) he ht hx
  | o :: l, xs, htr, ρ, h, φ, w, t, hx, hr, he, ht, hQ => by
    simp only [List.mapM_cons, bind, Option.bind_eq_some_iff, pure, Option.some.injEq] at htr
    obtain ⟨x, hox, xs', hxs, rfl⟩ := htr
    obtain ⟨e1, e2, e3, e4, e5⟩ := trOper_inv hox
    obtain ⟨b, hg, h1, h2⟩ := xops_cons.1 hx
    have hw := guard_sound (t := t) he e2 hg
    show wpList P ops Q (o :: (l ++ l2)) ⟨t, []⟩ w
    unfold wpList
    cases b with
    | false =>
      rw [if_neg (by simp [hw])]
      obtain ⟨p1, p2, p3⟩ := put_ok he ht e3 (VR.undef φ)
      rw [act_eq p3]
      rw [e4] at h2
      exact xops_app l xs' hxs _ h φ w _ (h2 rfl) hr p1 p2 hQ
    | true =>
      rw [if_pos hw]
      left
      refine step_sound e1 hr he (h1 rfl) fun φ' h' v v' w' s1 s2 s3 => ?_
      obtain ⟨p1, p2, p3⟩ := put_ok (he.mono s1.ext) ht e3 s2
      rw [act_eq p3]
      rw [e4] at s3
      exact xops_app l xs' hxs _ h' φ' w' _ s3.2 s1.hr p1 p2 fun φ2 ρ2 h2 t2 w2 a b c d => hQ φ2 ρ2 h2 t2 w2 (s1.trans a) b c d

theorem run_store_int {w : World} {B i : Nat} {k : IntKind} {n : Int} {u : Value} (hc : w.cell? ⟨B, i, none⟩ = some u) (hf : w.frozen? ⟨B, i, none⟩ = false) : (storeCells ⟨B, i, none⟩ [.int k n]).run P w = .ok () (w.setCell ⟨B, i, none⟩ (.int k n)) := by
  have e : (⟨B, i, none⟩ : Addr).add 0 = ⟨B, i, none⟩ := rfl
  have h1 : (store ⟨B, i, none⟩ (.int k n)).run P w = .ok () (w.setCell ⟨B, i, none⟩ (.int k n)) := by
    simp [store, Sem.run, hc, hf]
  simp [storeCells, e, Sem.run_bind, h1, Result.andThen_ok, Sem.run_pure]
/-- a region that ends with a store of a number into a cell that is not the small heap's to write -/
theorem region_store {id : Nat} {ops : Array Oper} {l1 : List Oper} {o : Oper} {ty : TypeId} {x z : Operand} {pa va : XA} {xs1 : List XOper} {K : Env → AHeap → Prop} {Q : Exit → Act → World → Prop} {φ : Phi} {w : World} {t : Array Value}
    (hl : ops.toList = l1 ++ [o]) (h1 : l1.mapM (trOper P N ops) = some xs1) (ho : o.op = .store ty x z) (hy : trA x = some pa) (hz : trA z = some va) (hn : szOf P ty = some 1) (hg : o.guard = none) (hd : o.dst = none)
    (hx : xops P K xs1 ρ h) (hr : HR φ h w) (he : ER φ ρ t) (ht : t.size = N)
    (hQ : ∀ φ' ρ' h' (t' : Array Value) w', Stp φ h w φ' h' w' → ER φ' ρ' t' → t'.size = N → K ρ' h' → ∃ A off k n, ev ρ' pa = some (.pointer (some ⟨A, off, none⟩)) ∧ ev ρ' va = some (.int k n) ∧ ∀ B s m, φ' A = some (B, s, m) → (∃ u, w'.cell? ⟨B, s + off, none⟩ = some u) ∧ w'.frozen? ⟨B, s + off, none⟩ = false ∧ Q .normal ⟨t', []⟩ (w'.setCell ⟨B, s + off, none⟩ (.int k n))) :
    (Code.region id ops false).wp P Q ⟨t, []⟩ w := by
  refine wp_region_list ?_
  rw [hl]
  refine xops_app l1 xs1 h1 ρ h φ w t hx hr he ht fun φ' ρ' h' t' w' st he' ht' hk => ?_
  obtain ⟨A, off, k, n, e1, e2, e3⟩ := hQ φ' ρ' h' t' w' st he' ht' hk
  have hv := ev_sound (a := ⟨t', []⟩) he' hy e1
  obtain ⟨b, hb, hp⟩ := hv.ptr_inv
  obtain ⟨_, B, s, m, hφ, rfl⟩ := hp
  have hv2 := (ev_sound (a := ⟨t', []⟩) he' hz e2).int_inv
  obtain ⟨⟨u, hu⟩, hf, hq⟩ := e3 B s m hφ
  unfold wpList
  rw [if_pos (by simp [Region.wanted, hg])]
  left
  unfold Oper.wp
  have hrun := run_store_int (P := P) (k := k) (n := n) hu hf
  have : (execOp (Act.eval ⟨t', []⟩) o).run P w' = .ok .skip (w'.setCell ⟨B, s + off, none⟩ (.int k n)) := by
    simp [execOp, ho, hb, hv2, Instr.storeAt, Instr.sureAddr, storeVar, run_size hn, Value.cells, hrun]
  rw [this, Oper.upon_skip, hd]
  exact hq

/-- the objects of before are not spoken of -/
def lose (n : Nat) (h : AHeap) : AHeap := List.replicate n none ++ h.drop n
/-- .. and are again -/
def regain (h0 h : AHeap) : AHeap := h0 ++ h.drop h0.length
theorem lose_len {n : Nat} {h : AHeap} (hn : n ≤ h.length) : (lose n h).length = h.length := by simp [lose]; omega
theorem regain_len {h0 h : AHeap} (hn : h0.length ≤ h.length) : (regain h0 h).length = h.length := by simp [regain]; omega
theorem lose_get {n : Nat} {h : AHeap} {A : Nat} (hA : n ≤ A) : (lose n h)[A]? = h[A]? := by
  unfold lose
  rw [List.getElem?_append_right (by simpa using hA), List.getElem?_drop, List.length_replicate]
  congr 1; omega
theorem lose_lt {n : Nat} {h : AHeap} {A : Nat} {o : AObj} (hA : (lose n h)[A]? = some (some o)) : n ≤ A ∧ h[A]? = some (some o) := by
  rcases Nat.lt_or_ge A n with hlt | hge
  · unfold lose at hA
    rw [List.getElem?_append_left (by simpa using hlt), List.getElem?_replicate, if_pos hlt] at hA
    cases hA
  · exact ⟨hge, by rw [lose_get hge] at hA; exact hA⟩
theorem regain_lt {h0 h : AHeap} {A : Nat} (hA : A < h0.length) : (regain h0 h)[A]? = h0[A]? := List.getElem?_append_left hA
theorem regain_ge {h0 h : AHeap} {A : Nat} (hA : h0.length ≤ A) : (regain h0 h)[A]? = h[A]? := by
  unfold regain
  rw [List.getElem?_append_right hA, List.getElem?_drop]
  congr 1; omega

theorem setCell_same (w : World) {B i : Nat} {u : Value} {cs : Array Value} {T : TypeId} {fz : Nat × Nat} (hB : w.heap[B]? = some (.cells cs T fz)) : (w.setCell ⟨B, i, none⟩ u).heap[B]? = some (.cells (cs.setIfInBounds i u) T fz) := by
  simp only [World.setCell, Array.getElem?_modify, hB]
  simp
theorem setCell_size (w : World) (a : Addr) (u : Value) : (w.setCell a u).heap.size = w.heap.size := by simp [World.setCell]

/-- what holds of every world on the way -/
theorem Ro.far (hR : Ro φ0 h0 w0) {φ : Phi} {w : World} (st : Stp φ0 h0 w0 φ h w) {A : Nat} {x : Nat × Nat × Nat} (hA : h0.length ≤ A) (hx : φ A = some x) : w0.heap.size ≤ x.1 := by
  rcases Nat.lt_or_ge x.1 w0.heap.size with hlt | hge
  · obtain ⟨A', o, s, n, e1, e2, _⟩ := st.new.2.2 A x hA hx hlt
    rw [hR.2 A' o e1] at e2; cases e2
  · exact hge
theorem Ro.kept (hR : Ro φ0 h0 w0) {φ : Phi} {w : World} (st : Stp φ0 h0 w0 φ h w) {B : Nat} (hB : B < w0.heap.size) : w.heap[B]? = w0.heap[B]? :=
  st.keep B hB fun ⟨A, o, s, n, e1, e2, _⟩ => by rw [hR.2 A o e1] at e2; cases e2
/-- the objects of before put aside -/
theorem HR.lose (hR : Ro φ0 h0 w0) {φ : Phi} {w w1 : World} (st : Stp φ0 h0 w0 φ h w) (hw : ∀ B, w0.heap.size ≤ B → w1.heap[B]? = w.heap[B]?) : HR φ (lose h0.length h) w1 := by
  have hl := st.new.1
  refine ⟨fun A o hA => ?_, fun A A' o o' B s s' n n' hA ho hA' e1 e2 => ?_, fun A hA => st.hr.dom A (by rw [lose_len hl] at hA; exact hA)⟩
  · obtain ⟨h1, h2⟩ := lose_lt hA
    obtain ⟨B, s, n, cs, T, fz, e1, e2, e3⟩ := st.hr.obj A o h2
    have := hR.far st h1 e1
    exact ⟨B, s, n, cs, T, fz, e1, by rw [hw B this]; exact e2, e3⟩
  · exact st.hr.inj A A' o o' B s s' n n' (lose_lt hA).2 ho (lose_lt hA').2 e1 e2
/-- a cell of an argument is written, and written back -/
theorem AW.lend (hR : Ro φ0 h0 w0) {A0 k : Nat} {cells : List Value} {ki : IntKind} {n0 n1 : Int} (hA0 : h0[A0]? = some (some ⟨false, cells⟩)) (hk : cells[k]? = some (.int ki n0))
    (hfz : ∀ B s m, φ0 A0 = some (B, s, m) → w0.frozen? ⟨B, s + k, none⟩ = false)
    {id1 id2 : Nat} {ops1 ops2 : Array Oper} {l1 l2 : List Oper} {o1 o2 : Oper} {t1 t2 : TypeId} {x1 z1 x2 z2 : Operand} {pa1 va1 pa2 va2 : XA} {xs1 xs2 : List XOper} {mid tl : Code} {xm : XCode} {M1 : Env → Prop} {M2 : Env → AHeap → Prop}
    (hl1 : ops1.toList = l1 ++ [o1]) (hx1 : l1.mapM (trOper P N ops1) = some xs1) (ho1 : o1.op = .store t1 x1 z1) (hy1 : trA x1 = some pa1) (hz1 : trA z1 = some va1) (hn1 : szOf P t1 = some 1) (hg1 : o1.guard = none) (hd1 : o1.dst = none)
    (hl2 : ops2.toList = l2 ++ [o2]) (hx2 : l2.mapM (trOper P N ops2) = some xs2) (ho2 : o2.op = .store t2 x2 z2) (hy2 : trA x2 = some pa2) (hz2 : trA z2 = some va2) (hn2 : szOf P t2 = some 1) (hg2 : o2.guard = none) (hd2 : o2.dst = none)
    (hm : trCode P N mid = some xm)
    (r1 : xops P (fun ρ' h' => h' = h ∧ ev ρ' pa1 = some (.pointer (some ⟨A0, k, none⟩)) ∧ ev ρ' va1 = some (.int ki n1) ∧ M1 ρ') xs1 ρ h)
    (rm : ∀ ρ', M1 ρ' → xcode P xm (fun e ρ' h' => e = .normal ∧ M2 ρ' h') ρ' (Ai.lose h0.length h))
    (r2 : ∀ ρ' h', h0.length ≤ h'.length → M2 ρ' h' → xops P (fun ρ'' h'' => h'' = h'.set A0 (some ⟨false, cells.set k (.int ki n1)⟩) ∧ ev ρ'' pa2 = some (.pointer (some ⟨A0, k, none⟩)) ∧ ev ρ'' va2 = some (.int ki n0) ∧ AW P N φ0 h0 w0 tl Q ρ'' (regain h0 h')) xs2 ρ' (h'.set A0 (some ⟨false, cells.set k (.int ki n1)⟩))) :
    AW P N φ0 h0 w0 (.seq (.region id1 ops1 false) (.seq mid (.seq (.region id2 ops2 false) tl))) Q ρ h := by
  intro φ w t st he ht
  have hA0l : A0 < h0.length := (List.getElem?_eq_some_iff.1 hA0).1
  obtain ⟨B0, s0, m0, cs, T, fz, g1, g2, g3, g4, -⟩ := hR.1.obj A0 _ hA0
  have hf0 := hfz B0 s0 m0 g1
  obtain ⟨u0, hu0, hv0⟩ := g4 k _ hk
  have hu0 : cs[s0 + k]? = some (.int ki n0) := by cases hv0; exact hu0
  have hi0 : s0 + k < cs.size := (Array.getElem?_eq_some_iff.1 hu0).1
  have hB0 : B0 < w0.heap.size := (Array.getElem?_eq_some_iff.1 g2).1
  have hset : (cs.setIfInBounds (s0 + k) (.int ki n1)).setIfInBounds (s0 + k) (.int ki n0) = cs := by
    apply Array.ext_getElem?
    intro i
    rw [Array.getElem?_setIfInBounds, Array.getElem?_setIfInBounds]
    by_cases e : s0 + k = i
    · subst e
      rw [if_pos rfl, if_pos (by simpa using hi0), hu0]
    · rw [if_neg e, if_neg e]
  refine wp_seq (region_store hl1 hx1 ho1 hy1 hz1 hn1 hg1 hd1 r1 st.hr he ht fun φ1 ρ1 h1 ta wa sa hea hta ⟨ehh, ea1, ea2, hM1⟩ => ⟨A0, k, ki, n1, ea1, ea2, fun B s m hφ => ?_⟩)
  have ehh : h1 = h := ehh
  subst ehh
  have st1 := st.trans sa
  have hold1 := st1.new.2.1 A0 hA0l
  rw [hold1, g1] at hφ
  cases hφ
  have hwa : wa.heap[B0]? = some (.cells cs T fz) := by rw [hR.kept st1 hB0]; exact g2
  have hza : wa.frozen? ⟨B0, s0 + k, none⟩ = false := by
    unfold World.frozen? at hf0 ⊢
    rw [hwa]; rw [g2] at hf0; exact hf0
  refine ⟨⟨_, by simp [World.cell?, hwa, hu0]; rfl⟩, hza, ?_⟩
  show Code.wp P _ _ _ _
  have hw1B := setCell_same wa (i := s0 + k) (u := .int ki n1) hwa
  have hw1o : ∀ B, B ≠ B0 → (wa.setCell ⟨B0, s0 + k, none⟩ (.int ki n1)).heap[B]? = wa.heap[B]? := fun B hB => Below.heap_setCell _ _ _ _ hB
  have hw1s := setCell_size wa ⟨B0, s0 + k, none⟩ (.int ki n1)
  have hw1os : (wa.setCell ⟨B0, s0 + k, none⟩ (.int ki n1)).os = wa.os ∧ (wa.setCell ⟨B0, s0 + k, none⟩ (.int ki n1)).tape = wa.tape ∧ (wa.setCell ⟨B0, s0 + k, none⟩ (.int ki n1)).output = wa.output := ⟨rfl, rfl, rfl⟩
  generalize wa.setCell ⟨B0, s0 + k, none⟩ (.int ki n1) = w1 at *
  have hr1 : HR φ1 (Ai.lose h0.length h1) w1 := HR.lose hR st1 fun B hB => hw1o B (by omega)
  have hl1' := st1.new.1
  refine wp_seq (wp_mono (trCode_sound mid xm hm _ ρ1 _ (rm ρ1 hM1) φ1 w1 ta hr1 hea hta) fun e ac w2 ⟨p1, p2, φ2, ρ2, h2, st2, he2, en, hM2⟩ => ?_)
  subst en
  show Code.wp P _ _ _ _
  rw [act_eq p1]
  have noown : ∀ B, B < w0.heap.size → ¬ ownB φ1 (Ai.lose h0.length h1) B := fun B hB ⟨A, o, s, n, e1, e2, e3⟩ => by
    have := hR.far st1 (lose_lt e1).1 e3
    simp only at this; omega
  have hsz01 : w0.heap.size ≤ w1.heap.size := by rw [hw1s]; exact st1.size
  have hkeep2 : ∀ B, B < w0.heap.size → w2.heap[B]? = w1.heap[B]? := fun B hB => st2.keep B (by omega) (noown B hB)
  have hlen2 : h0.length ≤ h2.length := by have := st2.new.1; rw [lose_len hl1'] at this; omega
  have hold2 : ∀ A, A < h0.length → φ2 A = φ0 A := fun A hA => by
    rw [st2.new.2.1 A (by rw [lose_len hl1']; omega), st1.new.2.1 A hA]
  have far2 : ∀ A x, h0.length ≤ A → φ2 A = some x → w0.heap.size ≤ x.1 := fun A x hA hx => by
    rcases Nat.lt_or_ge A (Ai.lose h0.length h1).length with hlt | hge
    · rw [st2.new.2.1 A hlt] at hx; exact hR.far st1 hA hx
    · rcases Nat.lt_or_ge x.1 w0.heap.size with h | h
      · exact absurd (st2.new.2.2 A x hge hx (by omega)) (noown _ h)
      · exact h
  have own2 : ∀ B, B < w0.heap.size → ¬ ownB φ2 h2 B := fun B hB k => noown B hB (st2.fresh B k (by omega))
  have hw2B : w2.heap[B0]? = some (.cells (cs.setIfInBounds (s0 + k) (.int ki n1)) T fz) := by rw [hkeep2 B0 hB0]; exact hw1B
  have hφ2 : φ2 A0 = some (B0, s0, m0) := by rw [hold2 A0 hA0l]; exact g1
  have ext2 : Ai.ext φ0 φ2 := fun A x hx => by
    rcases Nat.lt_or_ge A h0.length with h | h
    · rw [hold2 A h]; exact hx
    · rw [hR.1.dom A h] at hx; cases hx
  have hr2 : HR φ2 (h2.set A0 (some ⟨false, cells.set k (.int ki n1)⟩)) w2 := by
    refine ⟨fun A o hA => ?_, fun A A' o o' B s s' n n' hA ho hA' e1 e2 => ?_, fun A hA => st2.hr.dom A (by simpa using hA)⟩
    · rcases get_set hA with ⟨hne, hA⟩ | ⟨rfl, hx⟩
      · exact st2.hr.obj A o hA
      · cases hx
        refine ⟨B0, s0, m0, _, T, fz, hφ2, hw2B, by simpa using g3, fun i v hv => ?_, fun h => by cases h⟩
        rw [List.getElem?_set] at hv
        rw [Array.getElem?_setIfInBounds]
        by_cases e : k = i
        · subst e
          rw [if_pos rfl] at hv
          split at hv
          · cases hv; exact ⟨_, by simp [hi0], .int _ _⟩
          · cases hv
        · rw [if_neg e] at hv
          rw [if_neg (by omega)]
          obtain ⟨u, h3, h4⟩ := g4 i v hv
          exact ⟨u, h3, h4.mono ext2⟩
    · rcases get_set hA with ⟨hne, hA1⟩ | ⟨rfl, hx⟩
      · rcases get_set hA' with ⟨hne', hA2⟩ | ⟨eA, hx'⟩
        · exact st2.hr.inj A A' o o' B s s' n n' hA1 ho hA2 e1 e2
        · rw [eA, hφ2] at e2; cases e2
          exact absurd ⟨A, o, s, n, hA1, ho, e1⟩ (own2 B0 hB0)
      · cases hx; cases ho
  refine wp_seq (region_store hl2 hx2 ho2 hy2 hz2 hn2 hg2 hd2 (r2 ρ2 h2 hlen2 hM2) hr2 he2 p2 fun φ3 ρ3 h3 tb wb sb heb htb ⟨ehh, eb1, eb2, hT⟩ => ⟨A0, k, ki, n0, eb1, eb2, fun B s m hφ => ?_⟩)
  have ehh : h3 = h2.set A0 (some ⟨false, cells.set k (.int ki n1)⟩) := ehh
  subst ehh
  have hold3 : ∀ A, A < h2.length → φ3 A = φ2 A := fun A hA => sb.new.2.1 A (by simpa using hA)
  rw [hold3 A0 (by omega), hφ2] at hφ
  cases hφ
  have ownb : ∀ B, B < w0.heap.size → ¬ ownB φ2 (h2.set A0 (some ⟨false, cells.set k (.int ki n1)⟩)) B := fun B hB ⟨A, o, s, n, e1, e2, e3⟩ => by
    rcases get_set e1 with ⟨hne, e1⟩ | ⟨rfl, hx⟩
    · exact own2 B hB ⟨A, o, s, n, e1, e2, e3⟩
    · cases hx; cases e2
  have hsz02 : w0.heap.size ≤ w2.heap.size := Nat.le_trans hsz01 st2.size
  have hkeepb : ∀ B, B < w0.heap.size → wb.heap[B]? = w2.heap[B]? := fun B hB => sb.keep B (by omega) (ownb B hB)
  have hwbB : wb.heap[B0]? = some (.cells (cs.setIfInBounds (s0 + k) (.int ki n1)) T fz) := by rw [hkeepb B0 hB0]; exact hw2B
  have hzb : wb.frozen? ⟨B0, s0 + k, none⟩ = false := by
    unfold World.frozen? at hf0 ⊢
    rw [hwbB]; rw [g2] at hf0; exact hf0
  refine ⟨⟨.int ki n1, by simp [World.cell?, hwbB, hi0]⟩, hzb, ?_⟩
  show Code.wp P _ _ _ _
  have hw3B := setCell_same wb (i := s0 + k) (u := .int ki n0) hwbB
  rw [hset] at hw3B
  have hw3o : ∀ B, B ≠ B0 → (wb.setCell ⟨B0, s0 + k, none⟩ (.int ki n0)).heap[B]? = wb.heap[B]? := fun B hB => Below.heap_setCell _ _ _ _ hB
  have hw3s := setCell_size wb ⟨B0, s0 + k, none⟩ (.int ki n0)
  have hw3os : (wb.setCell ⟨B0, s0 + k, none⟩ (.int ki n0)).os = wb.os ∧ (wb.setCell ⟨B0, s0 + k, none⟩ (.int ki n0)).tape = wb.tape ∧ (wb.setCell ⟨B0, s0 + k, none⟩ (.int ki n0)).output = wb.output := ⟨rfl, rfl, rfl⟩
  generalize wb.setCell ⟨B0, s0 + k, none⟩ (.int ki n0) = w3 at *
  have hk3 : ∀ B, B < w0.heap.size → w3.heap[B]? = w0.heap[B]? := fun B hB => by
    by_cases e : B = B0
    · subst e; rw [hw3B, g2]
    · rw [hw3o B e, hkeepb B hB, hkeep2 B hB, hw1o B e, hR.kept st1 hB]
  have hφ3 : ∀ A, A < h0.length → φ3 A = φ0 A := fun A hA => by rw [hold3 A (by omega), hold2 A hA]
  have ext3 : Ai.ext φ0 φ3 := fun A x hx => by
    rcases Nat.lt_or_ge A h0.length with h | h
    · rw [hφ3 A h]; exact hx
    · rw [hR.1.dom A h] at hx; cases hx
  have far3 : ∀ A x, h0.length ≤ A → φ3 A = some x → w0.heap.size ≤ x.1 := fun A x hA hx => by
    rcases Nat.lt_or_ge A h2.length with hlt | hge
    · rw [hold3 A hlt] at hx; exact far2 A x hA hx
    · rw [sb.hr.dom A (by simpa using hge)] at hx; cases hx
  have rg : ∀ A o, (regain h0 h2)[A]? = some (some o) → (A < h0.length ∧ h0[A]? = some (some o)) ∨ (h0.length ≤ A ∧ (h2.set A0 (some ⟨false, cells.set k (.int ki n1)⟩))[A]? = some (some o)) := fun A o hA => by
    rcases Nat.lt_or_ge A h0.length with h | h
    · exact .inl ⟨h, by rw [regain_lt h] at hA; exact hA⟩
    · refine .inr ⟨h, ?_⟩
      rw [regain_ge h] at hA
      rw [List.getElem?_set_ne (by omega)]; exact hA
  have hr3 : HR φ3 (regain h0 h2) w3 := by
    refine ⟨fun A o hA => ?_, fun A A' o o' B s s' n n' hA ho hA' e1 e2 => ?_, fun A hA => sb.hr.dom A (by rw [regain_len hlen2] at hA; simpa using hA)⟩
    · rcases rg A o hA with ⟨hlt, hA⟩ | ⟨hge, hA⟩
      · obtain ⟨B, s, n, cs', T', fz', f1, f2, f3, f4, f5⟩ := hR.1.obj A o hA
        have hB := (Array.getElem?_eq_some_iff.1 f2).1
        refine ⟨B, s, n, cs', T', fz', by rw [hφ3 A hlt]; exact f1, by rw [hk3 B hB]; exact f2, f3, fun i v hv => ?_, f5⟩
        obtain ⟨u, h3, h4⟩ := f4 i v hv
        exact ⟨u, h3, h4.mono ext3⟩
      · obtain ⟨B, s, n, cs', T', fz', f1, f2, f3⟩ := sb.hr.obj A o hA
        have := far3 A _ hge f1
        exact ⟨B, s, n, cs', T', fz', f1, by rw [hw3o B (by simp only at this; omega)]; exact f2, f3⟩
    · rcases rg A o hA with ⟨hlt, hA⟩ | ⟨hge, hA⟩
      · rw [hR.2 A o hA] at ho; cases ho
      · rcases rg A' o' hA' with ⟨hlt', hA'⟩ | ⟨hge', hA'⟩
        · obtain ⟨B', s2, n2, cs', T', fz', f1, f2, _⟩ := hR.1.obj A' o' hA'
          have hB := (Array.getElem?_eq_some_iff.1 f2).1
          rw [hφ3 A' hlt', f1] at e2; cases e2
          have := far3 A _ hge e1
          simp only at this; omega
        · exact sb.hr.inj A A' o o' B s s' n n' hA ho hA' e1 e2
  refine hT φ3 w3 tb ⟨ext3, hr3, ?_, ?_, ?_, ?_, fun B hB _ => hk3 B hB, fun B ⟨A, o, s, n, e1, e2, e3⟩ hB => ?_, ⟨by rw [regain_len hlen2]; exact hlen2, fun A hA => hφ3 A hA, fun A x hA hx hlt => ?_⟩⟩ heb htb
  · rw [hw3os.1, sb.os, st2.os, hw1os.1, st1.os]
  · rw [hw3os.2.1, sb.tape, st2.tape, hw1os.2.1, st1.tape]
  · rw [hw3os.2.2, sb.output, st2.output, hw1os.2.2, st1.output]
  · rw [hw3s]; exact Nat.le_trans hsz02 sb.size
  · rcases rg A o e1 with ⟨hlt, hA⟩ | ⟨hge, hA⟩
    · rw [hR.2 A o hA] at e2; cases e2
    · have := far3 A _ hge e3
      simp only at this; omega
  · have := far3 A x hA hx
    omega

/-- a function's call out of its body's triple -/
theorem calls_AW {f : FuncId} {fn : Func} {c : Code} {rs : List XRes} (hf : P.funcs[f]? = some fn) (hb : fn.body = some c) (hrs : fn.results.toList.mapM (trRes P) = some rs)
    {args args' : List Value} {Q : Value → AHeap → Prop} (hr : HR φ0 h0 w0) (hg : GR φ0) (ha : LR φ0 args args') (hlen : args.length ≤ fn.ntmps) (hq : AW P fn.ntmps φ0 h0 w0 c (FnPost rs Q) (argEnv 0 args) h0) :
    Calls P f args'.toArray w0 fun e w' => ∃ φ' h' r r', e = .returned r' ∧ Stp φ0 h0 w0 φ' h' w' ∧ VR φ' r r' ∧ Q r h' := by
  refine calls_of_wp hf hb ?_
  have hsz : (args'.toArray ++ Array.replicate (fn.ntmps - args'.toArray.size) undef).size = fn.ntmps := by
    have := ha.1
    simp; omega
  have he : ER φ0 (argEnv 0 args) (args'.toArray ++ Array.replicate (fn.ntmps - args'.toArray.size) undef) := by
    refine ⟨fun i v hv => ?_, hg⟩
    rw [get_argEnv] at hv
    simp at hv
    obtain ⟨u, hu, hvu⟩ := ha.get hv
    refine ⟨u, ?_, hvu⟩
    rw [Array.getElem?_append_left (by have := (List.getElem?_eq_some_iff.1 hu).1; simpa using this)]
    simpa using hu
  refine wp_mono (hq φ0 w0 _ (Stp.refl hr) he hsz) fun e a w' hp => ?_
  obtain ⟨p1, p2, φ', ρ', h', p3, p4, p5, vs, p6, p7⟩ := hp
  obtain ⟨us, hus, hrun⟩ := trRes_sound (P := P) p3.hr p4 _ _ _ hrs p6
  have hres : (results fn a.tmps).run P w' = .ok (if h : us.toArray.size = 1 then us.toArray[0] else .tuple us.toArray) w' := by
    have e0 : results fn a.tmps = (do let vs ← fn.results.mapM (resOne a.tmps); pure (if h : vs.size = 1 then vs[0] else .tuple vs)) := rfl
    rw [e0]
    simp only [Array.mapM_eq_mapM_toList, Sem.run_bind, Sem.run_map, hrun, Result.andThen_ok, Sem.run_pure]
  cases e with
  | normal => exact ⟨p1, _, hres, φ', h', _, _, rfl, p3, hus.tupR, p7⟩
  | ret => exact ⟨p1, _, hres, φ', h', _, _, rfl, p3, hus.tupR, p7⟩
  | _ => exact p5.elim
end

section
open Go Go.ChangeShapes Go.WideShapes Go.ChangeAt Go.RowKit
/-- a law's function that writes its first argument's first cell, from its calls to what the statement asks -/
theorem law_callsF {H : Type} {enc : TypeId × Value → H} {P : Program} {f : FuncId} {fn : Func} {s : ChangeSpec} {bt t0 e0 : TypeId} {ts0 : List TypeId} (hl : laidOutB P = true) (hts : fn.params.toList.all (fun t => P.readableRec t && decide (t < P.types.size)) = true) {ss : List (Bool × List Cl)} (hs : fn.params.toList.mapM (argShape P) = some ss)
    (hp0 : fn.params.toList = t0 :: ts0) (ht0 : P.underlying t0 = some (.slice e0)) (he0 : P.cellsOf e0 = 1)
    (hres : fn.resultTypes = #[bt]) (hbt : P.underlying bt = some .bool) (hvars : s.vars = []) (hfn : ∀ (xs : List (DataW H)), xs.length = ss.length → (s.fn H xs).results = [.lit (.bool true)] ∧ (s.fn H xs).args = xs ∧ (s.fn H xs).vars = [])
    {W : World} (hV : ∀ (φ : Phi) (h : AHeap) (vs args' : List Value), Ro φ h W → LR φ vs args' → SmallArgs h ss vs → (∀ a len cap, args'[0]? = some (.slice (some a) len cap) → len ≠ 0 → W.frozen? ⟨a.block, a.off, none⟩ = false) →
      Calls P f args'.toArray W fun e w' => ∃ φ' h' r r', e = .returned r' ∧ Stp φ h W φ' h' w' ∧ VR φ' r r' ∧ r = .bool true)
    {base : Nat} {args : Array Value} {ds gs : List (DataW H)} {before : List MemPlace} (hval : ∀ (j : Nat) t v, fn.params[j]? = some t → args[j]? = some v → Value.okWide P W .any base t v)
    {apart fresh handsOn : Bool}
    (hW' : DataW.Whole enc P fn.params.toList s.vars apart W args.toList ds gs before) :
    Calls P f args W fun e W' => ∃ v, e = .returned v ∧ s.post enc P fn apart fresh handsOn false W args v W' := by
  obtain ⟨p, q, hA, hVr, rfl, hfz, hnd⟩ := hW'
  rw [hvars] at hVr
  obtain ⟨rfl, rfl⟩ := trodVars_none hVr
  have hlt : ∀ x ∈ p, x.block < W.heap.size := fun x hx => by
    have hw : DataW.Whole enc P fn.params.toList s.vars apart W args.toList ds [] (p ++ []) := ⟨p, [], hA, by rw [hvars]; exact hVr, rfl, hfz, hnd⟩
    exact hw.lt x (by simpa using hx)
  obtain ⟨φ, u, vs, r, _, ha, hsm⟩ := open_args (b0 := base) (Ro.nil W) hs (fun j t v ht hv => hval j t v (by simpa using ht) (by simpa using hv)) hA
  have hf0 : ∀ a len cap, args.toList[0]? = some (.slice (some a) len cap) → len ≠ 0 → W.frozen? ⟨a.block, a.off, none⟩ = false := fun a len cap h0 hn => by
    have hA' := hA
    rw [hp0] at hA'
    cases hargs : args.toList with
    | nil => rw [hargs] at h0; simp at h0
    | cons v r =>
      rw [hargs] at h0 hA'
      simp at h0
      subst h0
      cases ds with
      | nil => simp [DataW.TrodAll] at hA'
      | cons d ds =>
        obtain ⟨p1, p2, ⟨fuel, h1⟩, -, rfl⟩ := hA'
        rcases DataW.trod_slice ht0 h1 with ⟨h2, _⟩ | ⟨a', len', cap', elems, rest, m, _, h2, h3, _, k1, _, k3, _, k5, _⟩
        · simp [Value.cells] at h2
        · simp [Value.cells] at h2
          obtain ⟨rfl, rfl, rfl⟩ := h2
          obtain ⟨_, rfl⟩ := Prod.mk.inj h3
          refine hfz _ _ ?_
          have hr : rest.length = cap - len := (k5 rfl).1
          have hm : MemPlace.cell a.block (a.off + 0) ∈ MemPlace.row a ((elems.length + rest.length) * P.cellsOf e0) := by
            refine List.mem_map.2 ⟨0, List.mem_range.2 ?_, rfl⟩
            rw [he0]; omega
          simp only [List.mem_append]
          exact .inl (.inl (.inl hm))
  have := hV φ _ vs args.toList r ha hsm hf0
  simp only [Array.toArray_toList] at this
  have hno : ∀ B, ¬ ownB φ ([] ++ u) B := fun B ⟨A, o, s, n, h1, h2, _⟩ => by rw [r.2 A o h1] at h2; cases h2
  refine this.mono ?_
  rintro e W' ⟨φ', h', r0, r', rfl, st, hv, rfl⟩
  have hv' : r' = .bool true := by cases hv; rfl
  subst hv'
  have hb : Below W.heap.size W W' := ⟨st.os, st.tape, st.output, st.size, fun k hk => st.keep k hk (hno k)⟩
  have hts' : ∀ t ∈ fn.params.toList, P.readableRec t = true ∧ t < P.types.size := fun t ht => by simpa using List.all_eq_true.1 hts t ht
  have hdl : ds.length = ss.length := by
    rw [← trodAll_len hA, mapM_some_length hs]
  obtain ⟨hfnR, hfnA, hfnV⟩ := hfn ds hdl
  rw [← List.append_nil ds] at hfnR hfnA hfnV
  refine ⟨.bool true, rfl, ds, [], p ++ [], [], p, [], ⟨p, [], hA, by rw [hvars]; exact hVr, rfl, hfz, hnd⟩, ?_, ?_, ?_, hb.frame _, fun h => by cases h⟩
  · rw [hres, hfnR]
    exact trodAll_cons_mk (shut_bool hbt _) trodAll_mk0
  · rw [hfnA]; simp only [List.append_nil]
    exact trodAll_again hl hb hts' hlt hA
  · rw [hvars, hfnV]
    rfl
end
end Go.Ai
