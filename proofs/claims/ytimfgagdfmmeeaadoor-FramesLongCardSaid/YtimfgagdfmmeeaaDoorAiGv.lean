/- A seat whose texts name a package-level variable: closed runs over it, and the wrapper. Generic. -/
import Derived.Test.YtimfgagdfmmeeaaDoorAiYn
set_option linter.unusedVariables false
namespace Go.Ai
open Go Go.ChangeShapes Go.WideShapes Go.ChangeAt Go.RowKit

/-- a closed run over the variable is the same over every heap that begins with it -/
theorem Valid.closedG {P : Program} {f : FuncId} {b : Bool} {rows : List Value} (hfl : ∀ v ∈ rows, flat v = true) (v : Valid P f [] [some ⟨false, rows⟩] fun r _ => r = .bool b) {h : AHeap} (h0 : h[0]? = some (some ⟨false, rows⟩)) : Valid P f [] h fun r h' => r = .bool b ∧ h' = h := by
  refine ⟨v.1, fun φ w args' hr hg ha => ?_⟩
  have ha' := ha.nil_inv
  subst ha'
  obtain ⟨B0, s0, n0, cs0, T0, fz0, q1, q2, q3, q4, q5⟩ := hr.obj 0 _ h0
  have hone : ∀ (A : Nat) (o : AObj), [some (AObj.mk false rows)][A]? = some (some o) → A = 0 ∧ o = ⟨false, rows⟩ := fun A o hA => by
    cases A with
    | zero => simp at hA; exact ⟨rfl, hA.symm⟩
    | succ A => simp at hA
  have hr0 : HR (fun A => if A = 0 then φ 0 else none) [some ⟨false, rows⟩] w := by
    refine ⟨fun A o hA => ?_, fun A A' o o' B s s' n n' hA ho => ?_, fun A hA => ?_⟩
    · obtain ⟨rfl, rfl⟩ := hone A o hA
      exact ⟨B0, s0, n0, cs0, T0, fz0, q1, q2, q3, fun i u hu => by
        obtain ⟨u', e1, e2⟩ := q4 i u hu
        have := hfl u (List.mem_of_getElem? hu)
        rw [e2.flat_eq this] at e1
        exact ⟨u, e1, VR.of_flat _ this⟩, q5⟩
    · obtain ⟨rfl, rfl⟩ := hone A o hA
      cases ho
    · simp at hA
      rw [if_neg (by omega)]
  refine (v.2 _ w [] hr0 (fun x hx => by simpa using hg x hx) (LR.nil _)).mono ?_
  rintro e w' ⟨φ', h', r, r', he, st, hv, rfl⟩
  have hno : ∀ B, ¬ ownB (fun A => if A = 0 then φ 0 else none) [some ⟨false, rows⟩] B := fun B ⟨A, o, s, n, hA, ho, _⟩ => by
    obtain ⟨rfl, rfl⟩ := hone A o hA
    cases ho
  have hk : ∀ B, B < w.heap.size → w'.heap[B]? = w.heap[B]? := fun B hB => st.keep B hB (hno B)
  have hv' : r' = .bool b := by cases hv; rfl
  subst hv'
  refine ⟨φ, h, .bool b, .bool b, he, ⟨ext.refl φ, ⟨fun A o hA => ?_, hr.inj, hr.dom⟩, st.os, st.tape, st.output, st.size, fun B hB _ => hk B hB, fun B hB _ => hB⟩, .bool b, rfl, rfl⟩
  obtain ⟨B, s, n, cs, T, fz, h1, h2, h3⟩ := hr.obj A o hA
  refine ⟨B, s, n, cs, T, fz, h1, ?_, h3⟩
  have hB : B < w.heap.size := by
    rcases Nat.lt_or_ge B w.heap.size with h | h
    · exact h
    · rw [Array.getElem?_eq_none h] at h2; cases h2
  rw [hk B hB]; exact h2
/-- a law's function over a laid variable: from its triple to what the statement asks of a call -/
theorem law_callsGN {H : Type} {enc : TypeId × Value → H} {P : Program} {f : FuncId} {fn : Func} {s : ChangeSpec} {bt : TypeId} (hl : laidOutB P = true) (hts : fn.params.toList.all (fun t => P.readableRec t && decide (t < P.types.size)) = true) {ss : List (Bool × List Cn)} (hs : fn.params.toList.mapM (argShapeN P) = some ss)
    (hres : fn.resultTypes = #[bt]) (hbt : P.underlying bt = some .bool) (hvars : s.vars = []) (hfn : ∀ (xs : List (DataW H)), xs.length = ss.length → (s.fn H xs).results = [.lit (.bool true)] ∧ (s.fn H xs).args = xs ∧ (s.fn H xs).vars = [])
    {rows : List Value} (hV : ∀ (h : AHeap) (vs : List Value), h[0]? = some (some ⟨false, rows⟩) → SmallArgsN h ss vs → Valid P f vs h fun r _ => r = .bool true)
    {W : World} {base : Nat} {args : Array Value} {ds gs : List (DataW H)} {before : List MemPlace} (hval : ∀ (j : Nat) t v, fn.params[j]? = some t → args[j]? = some v → Value.okWide P W .any base t v)
    {apart fresh handsOn : Bool} {a : Addr} (hgv : gv = some (a.block, a.off)) {u0 : Value} (hu : W.cell? a = some u0) (hfl : ∀ (i : Nat) (v : Value), rows[i]? = some v → W.cell? (a.add i) = some v ∧ flat v = true)
    (hW' : DataW.Whole enc P fn.params.toList s.vars apart W args.toList ds gs before) :
    Calls P f args W fun e W' => ∃ v, e = .returned v ∧ s.post enc P fn apart fresh handsOn false W args v W' := by
  obtain ⟨p, q, hA, hVr, rfl, hfz, hnd⟩ := hW'
  rw [hvars] at hVr
  obtain ⟨rfl, rfl⟩ := trodVars_none hVr
  have hlt : ∀ x ∈ p, x.block < W.heap.size := fun x hx => by
    have hw : DataW.Whole enc P fn.params.toList s.vars apart W args.toList ds [] (p ++ []) := ⟨p, [], hA, by rw [hvars]; exact hVr, rfl, hfz, hnd⟩
    exact hw.lt x (by simpa using hx)
  obtain ⟨φ0, n0, r0, _, hφ0, _⟩ := Ro.push (Ro.nil W) hu hfl
  rw [List.nil_append] at r0
  simp only [List.length_nil] at hφ0
  obtain ⟨φ, u, vs, r, hext, ha, hsm⟩ := open_argsN (b0 := base) r0 hs (fun j t v ht hv => hval j t v (by simpa using ht) (by simpa using hv)) hA
  have hg : GR φ := fun x hx => by
    rw [hgv] at hx; cases hx
    exact ⟨n0, hext _ _ hφ0⟩
  have := calls_ro r (hV _ _ (by rw [List.getElem?_append_left (by simp)]; rfl) hsm) ha hg
  simp only [Array.toArray_toList] at this
  refine this.mono ?_
  rintro e W' ⟨he, hb⟩
  have hts' : ∀ t ∈ fn.params.toList, P.readableRec t = true ∧ t < P.types.size := fun t ht => by simpa using List.all_eq_true.1 hts t ht
  have hdl : ds.length = ss.length := by
    rw [← trodAll_len hA, mapM_some_length hs]
  obtain ⟨hfnR, hfnA, hfnV⟩ := hfn ds hdl
  rw [← List.append_nil ds] at hfnR hfnA hfnV
  refine ⟨.bool true, he, ds, [], p ++ [], [], p, [], ⟨p, [], hA, by rw [hvars]; exact hVr, rfl, hfz, hnd⟩, ?_, ?_, ?_, hb.frame _, fun h => by cases h⟩
  · rw [hres, hfnR]
    exact trodAll_cons_mk (shut_bool hbt _) trodAll_mk0
  · rw [hfnA]; simp only [List.append_nil]
    exact trodAll_again hl hb hts' hlt hA
  · rw [hvars, hfnV]
    rfl
end Go.Ai
