import Derived.Test.YtemphcppnjlkcaaM3
set_option linter.unusedVariables false
set_option linter.unusedSimpArgs false
namespace Go.Proofs.Ytemphcppnjlkcaa
open Go Go.Ai Go.Proofs

/-- a line, what the law holds of it, and the blocks apart -/
structure OI (H1 h : AHeap) (X : Nat) (dl now sent wt : Int) (l : List Nz) (nq : Option Addr) (nc : Nat) (usl aS gS : Value) (us : List Bu) (al got : List Int) : Prop where
  line : LineAt h X dl now sent wt l nq nc usl us
  all : RN h aS al
  gt : RN h gS got
  klen : H1.length ≤ h.length
  keep : ∀ B, B < H1.length → B ≠ X → h[B]? = H1[B]?
  xlt : X < H1.length
  nlt : ∀ a, nq = some a → a.block < H1.length
  ufr : ∀ A, slB usl = some A → H1.length ≤ A
  afr : ∀ A, slB aS = some A → H1.length ≤ A ∧ A < h.length ∧ slB usl ≠ some A ∧ ∀ u ∈ us, slB u.v ≠ some A
  gfr : ∀ A, slB gS = some A → H1.length ≤ A ∧ A < h.length ∧ slB usl ≠ some A ∧ (∀ u ∈ us, slB u.v ≠ some A) ∧ slB aS ≠ some A

section
variable {H1 h h' : AHeap} {X : Nat} {dl now sent wt : Int} {l : List Nz} {nq : Option Addr} {nc : Nat} {usl aS gS : Value} {us : List Bu} {al got : List Int}
theorem OI.ext (o : OI H1 h X dl now sent wt l nq nc usl aS gS us al got) (e : Ext h h') : OI H1 h' X dl now sent wt l nq nc usl aS gS us al got :=
  ⟨o.line.ext e, o.all.keep fun A x _ hx => e.get hx, o.gt.keep fun A x _ hx => e.get hx, Nat.le_trans o.klen e.1, fun B hB hne => by rw [e.2 B (Nat.lt_of_lt_of_le hB o.klen), o.keep B hB hne], o.xlt, o.nlt, o.ufr,
    fun A hA => ⟨(o.afr A hA).1, Nat.lt_of_lt_of_le (o.afr A hA).2.1 e.1, (o.afr A hA).2.2⟩, fun A hA => ⟨(o.gfr A hA).1, Nat.lt_of_lt_of_le (o.gfr A hA).2.1 e.1, (o.gfr A hA).2.2⟩⟩
theorem OI.fpa (o : OI H1 h X dl now sent wt l nq nc usl aS gS us al got) {A : Nat} (hA : slB aS = some A) : ¬ FP X nq usl us A := fun f => by
  obtain ⟨a1, a2, a3, a4⟩ := o.afr A hA
  rcases f with rfl | f | ⟨a, ha, e⟩ | ⟨u, hu, f⟩
  · have := o.xlt; omega
  · exact a3 f
  · have := o.nlt a ha; omega
  · exact a4 u hu f
theorem OI.fpg (o : OI H1 h X dl now sent wt l nq nc usl aS gS us al got) {A : Nat} (hA : slB gS = some A) : ¬ FP X nq usl us A := fun f => by
  obtain ⟨a1, a2, a3, a4, a5⟩ := o.gfr A hA
  rcases f with rfl | f | ⟨a, ha, e⟩ | ⟨u, hu, f⟩
  · have := o.xlt; omega
  · exact a3 f
  · have := o.nlt a ha; omega
  · exact a4 u hu f
/-- the law's 'all' grows -/
theorem OI.app_all (o : OI H1 h X dl now sent wt l nq nc usl aS gS us al got) {aS' : Value} {al' : List Int} (r : RN h' aS' al') (hl : h.length ≤ h'.length) (hfr : ∀ B, B < h.length → slB aS ≠ some B → h'[B]? = h[B]?)
    (hn : (aS' = aS ∧ h' = h) ∨ ∃ A, slB aS' = some A ∧ h.length ≤ A ∧ A < h'.length) : OI H1 h' X dl now sent wt l nq nc usl aS' gS us al' got := by
  rcases hn with ⟨rfl, rfl⟩ | ⟨A', hA', hle, hlt⟩
  · exact ⟨o.line, r, o.gt, o.klen, o.keep, o.xlt, o.nlt, o.ufr, o.afr, o.gfr⟩
  · have hg : ∀ (B : Nat), B < h.length → slB aS ≠ some B → h'[B]? = h[B]? := hfr
    refine ⟨o.line.keepFP hl fun B f => hg B (o.line.fp_lt f) (fun e => o.fpa e f), r, o.gt.keep fun A x hA hx => by rw [hg A (lt_of_get hx) (o.gfr A hA).2.2.2.2]; exact hx, Nat.le_trans o.klen hl,
      fun B hB hne => by rw [hg B (Nat.lt_of_lt_of_le hB o.klen) (fun e => by have := (o.afr B e).1; omega), o.keep B hB hne], o.xlt, o.nlt, o.ufr, fun A hA => ?_, fun A hA => ?_⟩
    · rw [hA'] at hA; cases hA
      have hk := o.klen
      exact ⟨by omega, hlt, fun e => by have := (o.line.ult _ e).2; omega, fun u hu e => by have := ((o.line.bits u hu).2 _ e).2.2; omega⟩
    · obtain ⟨a1, a2, a3, a4, a5⟩ := o.gfr A hA
      exact ⟨a1, by omega, a3, a4, fun e => by rw [hA'] at e; cases e; omega⟩
/-- the law's 'got' grows -/
theorem OI.app_got (o : OI H1 h X dl now sent wt l nq nc usl aS gS us al got) {gS' : Value} {got' : List Int} (r : RN h' gS' got') (hl : h.length ≤ h'.length) (hfr : ∀ B, B < h.length → slB gS ≠ some B → h'[B]? = h[B]?)
    (hn : (gS' = gS ∧ h' = h) ∨ ∃ A, slB gS' = some A ∧ h.length ≤ A ∧ A < h'.length) : OI H1 h' X dl now sent wt l nq nc usl aS gS' us al got' := by
  rcases hn with ⟨rfl, rfl⟩ | ⟨A', hA', hle, hlt⟩
  · exact ⟨o.line, o.all, r, o.klen, o.keep, o.xlt, o.nlt, o.ufr, o.afr, o.gfr⟩
  · refine ⟨o.line.keepFP hl fun B f => hfr B (o.line.fp_lt f) (fun e => o.fpg e f), o.all.keep fun A x hA hx => by rw [hfr A (lt_of_get hx) (fun e => (o.gfr A e).2.2.2.2 hA)]; exact hx, r, Nat.le_trans o.klen hl,
      fun B hB hne => by rw [hfr B (Nat.lt_of_lt_of_le hB o.klen) (fun e => by have := (o.gfr B e).1; omega), o.keep B hB hne], o.xlt, o.nlt, o.ufr, fun A hA => ?_, fun A hA => ?_⟩
    · obtain ⟨a1, a2, a3, a4⟩ := o.afr A hA
      exact ⟨a1, by omega, a3, a4⟩
    · rw [hA'] at hA; cases hA
      have hk := o.klen
      exact ⟨by omega, hlt, fun e => by have := (o.line.ult _ e).2; omega, fun u hu e => by have := ((o.line.bits u hu).2 _ e).2.2; omega, fun e => by have := (o.afr _ e).2.1; omega⟩
/-- an act on the line -/
theorem OI.act (o : OI H1 h X dl now sent wt l nq nc usl aS gS us al got) {now' sent' wt' : Int} {usl' : Value} {us' : List Bu} (L : LineAt h' X dl now' sent' wt' l nq nc usl' us') (f : FrL h h' X usl)
    (hu : (∀ A, slB usl' = some A → slB usl = some A ∨ h.length ≤ A)) (hv : ∀ u ∈ us', u ∈ us ∨ ∀ A, slB u.v = some A → h.length ≤ A) : OI H1 h' X dl now' sent' wt' l nq nc usl' aS gS us' al got := by
  have hxl := o.xlt
  refine ⟨L, o.all.keep fun A x hA hx => ?_, o.gt.keep fun A x hA hx => ?_, Nat.le_trans o.klen f.1, fun B hB hne => ?_, o.xlt, o.nlt, fun A hA => ?_, fun A hA => ?_, fun A hA => ?_⟩
  · obtain ⟨a1, a2, a3, a4⟩ := o.afr A hA
    rw [f.2 A a2 (by omega) a3]; exact hx
  · obtain ⟨a1, a2, a3, a4, a5⟩ := o.gfr A hA
    rw [f.2 A a2 (by omega) a3]; exact hx
  · rw [f.2 B (Nat.lt_of_lt_of_le hB o.klen) hne (fun e => by have := o.ufr B e; omega), o.keep B hB hne]
  · rcases hu A hA with h1 | h1
    · exact o.ufr A h1
    · exact Nat.le_trans o.klen h1
  · obtain ⟨a1, a2, a3, a4⟩ := o.afr A hA
    refine ⟨a1, Nat.lt_of_lt_of_le a2 f.1, fun e => ?_, fun u hu' e => ?_⟩
    · rcases hu A e with h1 | h1
      · exact a3 h1
      · omega
    · rcases hv u hu' with h1 | h1
      · exact a4 u h1 e
      · have := h1 A e; omega
  · obtain ⟨a1, a2, a3, a4, a5⟩ := o.gfr A hA
    refine ⟨a1, Nat.lt_of_lt_of_le a2 f.1, fun e => ?_, fun u hu' e => ?_, a5⟩
    · rcases hu A e with h1 | h1
      · exact a3 h1
      · omega
    · rcases hv u hu' with h1 | h1
      · exact a4 u h1 e
      · have := h1 A e; omega

/-- the acts, with the law's own blocks -/
theorem OI.tick (o : OI H1 h X dl now sent wt l nq nc usl aS gS us al got) (hd : dl ≠ 0) (h0 : 0 ≤ now) (h1 : now < 1048576) :
    Valid Try.prog 15 [ptr X 0] h fun r h' => r = .int .i64 0 ∧ OI H1 h' X dl (now + 1) sent wt l nq nc usl aS gS us al got := by
  refine (tick_ok o.line hd h0 h1).mono ?_
  rintro r h' ⟨rfl, L, hl, hf⟩
  exact ⟨rfl, o.act L ⟨by omega, fun B hB h1 _ => hf B h1⟩ (fun A hA => .inl hA) (fun u hu => .inl hu)⟩
theorem OI.take (o : OI H1 h X dl now sent wt l nq nc usl aS gS us al got) (hbs : (bitsU us).length ≤ 1048576) (hul : us.length ≤ 1048576) (hw0 : 0 ≤ wt) (hw1 : wt ≤ 1048576) :
    Valid Try.prog 17 [ptr X 0] h fun r h' => ∃ usl' q, OI H1 h' X dl now sent (wt - (bitsU (ripe us now)).length) l nq nc usl' aS gS (us.drop (ripe us now).length) al got ∧
      r = .slice q (bitsU (ripe us now)).length (bitsU (ripe us now)).length ∧ firstV 1 h' (bitsU (ripe us now)).length r = some (bR (bitsU (ripe us now))) := by
  refine (take_ok o.line hbs hul hw0 hw1).mono ?_
  rintro r h' ⟨usl', q, L, f, hu, hr, hf⟩
  exact ⟨usl', q, o.act L f (fun A hA => .inl (by rw [← hu]; exact hA)) (fun u hu => .inl (List.mem_of_mem_drop hu)), hr, hf⟩
theorem OI.send (o : OI H1 h X dl now sent wt l nq nc usl aS gS us al got) {qs : Option Addr} {n cs : Nat} {zs : List Int} (hd : dl ≠ 0) (hll : l.length ≤ 1024) (hs : firstV 1 h n (.slice qs n cs) = some (bR zs)) (hp : ∀ z ∈ zs, 0 ≤ z) (hc : checkV zs = 0) (hnz : ∀ x ∈ l, 0 ≤ x.bit)
    (hw0 : 0 ≤ wt) (hw1 : wt ≤ 1048576) (hf : ¬ 1048576 < wt + (remZ l sent zs).length) (hd0 : 0 ≤ dl) (hd1 : dl ≤ 64) (hn0 : 0 ≤ now) (hn1 : now ≤ 1048576) (hs0 : 0 ≤ sent) (hs1 : sent ≤ 1048576) (hus : us.length ≤ 1048576) :
    Valid Try.prog 14 [ptr X 0, .slice qs n cs] h fun r h' => r = .int .i64 0 ∧ ∃ usl' v, OI H1 h' X dl now (sent + 1) (wt + (remZ l sent zs).length) l nq nc usl' aS gS (us ++ [⟨now + dl, v, remZ l sent zs⟩]) al got := by
  refine (send_ok o.line hd hll hs hp hc hnz hw0 hw1 hf hd0 hd1 hn0 hn1 hs0 hs1 hus).mono ?_
  rintro r h' ⟨rfl, usl', v, L, f, ⟨A, hA, hle⟩, hv⟩
  refine ⟨rfl, usl', v, o.act L f (fun B hB => .inr (by rw [hA] at hB; cases hB; exact hle)) (fun u hu => ?_)⟩
  rcases List.mem_append.1 hu with hu | hu
  · exact .inl hu
  · simp at hu; subst hu; exact .inr hv
end
end Go.Proofs.Ytemphcppnjlkcaa
