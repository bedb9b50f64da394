import Derived.Test.YtejgaeinkojgpaaV3
import Derived.Test.YtejgaeinkojgpaaK16
set_option linter.unusedVariables false
set_option linter.unusedSimpArgs false
namespace Go.Proofs.Ytejgaeinkojgpaa
open Go Go.Ai Go.Proofs

/-- the registers that stay -/
def Rs (q : Option Addr) (nA c N D NW TW : Nat) (ρ : Env) : Prop := get ρ 1 = some (.slice q nA c) ∧ get ρ 5 = some (.int .i64 (N : Nat)) ∧ get ρ 6 = some (.pointer (some ⟨D, 0, none⟩)) ∧ get ρ 8 = some (.slice (some ⟨NW, 0, none⟩) N N) ∧ get ρ 9 = some (.slice (some ⟨TW, 0, none⟩) N N)
/-- .. and those that the steps move -/
def Rt (s : Nat) (op : Bool) (i : Nat) (ρ : Env) : Prop := get ρ 10 = some (.int .u32 (s : Nat)) ∧ get ρ 11 = some (.bool op) ∧ get ρ 12 = some (.int .i64 (i : Nat))
/-- between two acts -/
def ActI (h0 : AHeap) (D G L T NW TW N : Nat) (q : Option Addr) (nA c : Nat) (m : Nat) (ρ : Env) (h : AHeap) : Prop := ∃ i s op d opv outv nw tw, i + m = nA ∧ Rs q nA c N D NW TW ρ ∧ Rt s op i ρ ∧ HS h0 h D G L T NW TW d opv outv nw tw ∧ Bs N d nw tw s op ∧ s ≤ 2 * i
/-- the numbers of an act -/
def cds (N : Nat) (cs : List Int) (j : Nat) : List Int := (cs.take j).map (· % (N : Int))
def CodI (h0 : AHeap) (D G L T NW TW N : Nat) (q : Option Addr) (nA c : Nat) (i s : Nat) (op : Bool) (d : DK) (opv outv : Value) (nw tw : List Bool) (cs : List Int) (on : Bool) (m : Nat) (ρ : Env) (h : AHeap) : Prop := ∃ j v, j + m = min cs.length 40 ∧ Rs q nA c N D NW TW ρ ∧ Rt s op i ρ ∧ get ρ 14 = some (.int .i64 (j : Nat)) ∧ get ρ 13 = some v ∧
  HS h0 h D G L T NW TW d opv outv ((cds N cs j).foldl (fun l z => l.set z.toNat on) nw) tw ∧ CV h0 h D G L T NW TW outv v (cds N cs j)
def CodE (h0 : AHeap) (D G L T NW TW N : Nat) (q : Option Addr) (nA c : Nat) (i s : Nat) (op : Bool) (d : DK) (opv outv : Value) (nw tw : List Bool) (cs : List Int) (on : Bool) (ρ : Env) (h : AHeap) : Prop := ∃ zs v, Rs q nA c N D NW TW ρ ∧ Rt s op i ρ ∧ get ρ 13 = some v ∧ zs.length ≤ 40 ∧ (∀ z ∈ zs, 0 ≤ z ∧ z < (N : Int)) ∧
  HS h0 h D G L T NW TW d opv outv (zs.foldl (fun l z => l.set z.toNat on) nw) tw ∧ CV h0 h D G L T NW TW outv v zs
theorem cds_len (N : Nat) (cs : List Int) (j : Nat) : (cds N cs j).length = min j cs.length := by simp [cds]
theorem cds_snoc (N : Nat) {cs : List Int} {j : Nat} {z : Int} (h : cs[j]? = some z) : cds N cs (j + 1) = cds N cs j ++ [z % (N : Int)] := by
  unfold cds; rw [List.take_add_one, h]; simp
theorem cds_in {N : Nat} (hN : 1 ≤ N) (cs : List Int) (j : Nat) : ∀ z ∈ cds N cs j, 0 ≤ z ∧ z < (N : Int) := by
  intro z hz
  unfold cds at hz
  obtain ⟨y, -, rfl⟩ := List.mem_map.1 hz
  exact ⟨Int.emod_nonneg _ (by omega), Int.emod_lt_of_pos _ (by omega)⟩
/-- before a step -/
def StpI (h0 : AHeap) (D G L T NW TW N : Nat) (q : Option Addr) (nA c : Nat) (i : Nat) (m : Nat) (ρ : Env) (h : AHeap) : Prop := ∃ k e s op opv outv nw tw, k + m = 2 ∧ Rs q nA c N D NW TW ρ ∧ Rt s op i ρ ∧ get ρ 15 = some (.int .i64 (k : Nat)) ∧ HS h0 h D G L T NW TW e.next opv outv nw tw ∧ Bs N e nw tw s op ∧ s ≤ 2 * i + k ∧ (k = 2 → op = true ∨ nw = tw)
def StpE (h0 : AHeap) (D G L T NW TW N : Nat) (q : Option Addr) (nA c : Nat) (i : Nat) (ρ : Env) (h : AHeap) : Prop := ∃ d s op opv outv nw tw, Rs q nA c N D NW TW ρ ∧ Rt s op i ρ ∧ HS h0 h D G L T NW TW d opv outv nw tw ∧ Bs N d nw tw s op ∧ s ≤ 2 * i + 2
/-- the first circuit that is due -/
def Fd (nw tw : List Bool) (N c : Nat) (f : Int) : Prop := (f = -1 ∧ ∀ k, c ≤ k → nw[k]? = tw[k]?) ∨ (∃ g : Nat, f = (g : Int) ∧ c ≤ g ∧ g < N ∧ nw[g]? ≠ tw[g]? ∧ ∀ k, c ≤ k → k < g → nw[k]? = tw[k]?)
def FirI (h0 : AHeap) (q : Option Addr) (nA c N D NW TW i s : Nat) (op : Bool) (k : Nat) (nw tw : List Bool) (m : Nat) (ρ : Env) (h : AHeap) : Prop := ∃ f, m ≤ N ∧ Rs q nA c N D NW TW ρ ∧ Rt s op i ρ ∧ get ρ 15 = some (.int .i64 (k : Nat)) ∧ get ρ 17 = some (.int .i64 ((m : Int) - 1)) ∧ get ρ 16 = some (.int .i64 f) ∧ Fd nw tw N m f ∧ h = h0
def FirE (h0 : AHeap) (q : Option Addr) (nA c N D NW TW i s : Nat) (op : Bool) (k : Nat) (nw tw : List Bool) (ρ : Env) (h : AHeap) : Prop := ∃ f, Rs q nA c N D NW TW ρ ∧ Rt s op i ρ ∧ get ρ 15 = some (.int .i64 (k : Nat)) ∧ get ρ 16 = some (.int .i64 f) ∧ Fd nw tw N 0 f ∧ h = h0
/-- behind Take -/
def AftM (h0 : AHeap) (D G L T NW TW N : Nat) (q : Option Addr) (nA c : Nat) (i k : Nat) (ρ : Env) (h : AHeap) : Prop := ∃ d s op opv outv nw tw, Rs q nA c N D NW TW ρ ∧ Rt s op i ρ ∧ get ρ 15 = some (.int .i64 (k : Nat)) ∧ HS h0 h D G L T NW TW d opv outv nw tw ∧ Bs N d nw tw s op ∧ s ≤ 2 * i + k + 1 ∧ (op = true ∨ nw = tw)
/-- the message is compared -/
def CmpI (h0 : AHeap) (D G L T NW TW N : Nat) (q : Option Addr) (nA c : Nat) (i k s f : Nat) (d : DK) (opv outv : Value) (nw tw : List Bool) (a : Addr) (o : AObj) (mv ov : Value) (ms : Ms) (m : Nat) (ρ : Env) (h : AHeap) : Prop := ∃ j twj, f ≤ j ∧ j + m = min N (f + 32) ∧ Rs q nA c N D NW TW ρ ∧ Rt s true i ρ ∧ get ρ 15 = some (.int .i64 (k : Nat)) ∧ get ρ 16 = some (.int .i64 (f : Nat)) ∧ get ρ 18 = some (.slice (some a) 1 1) ∧ get ρ 19 = some (.int .i64 (j : Nat)) ∧
  HS h0 h D G L T NW TW d opv outv nw twj ∧ twj.length = N ∧ (∀ x : Nat, twj[x]? = if x < j then nw[x]? else tw[x]?) ∧ h[a.block]? = some (some o) ∧ BitsV h mv ms.mask ∧ BitsV h ov ms.on
def CmpE (h0 : AHeap) (D G L T NW TW N : Nat) (q : Option Addr) (nA c : Nat) (i k s : Nat) (d : DK) (opv outv : Value) (nw : List Bool) (ρ : Env) (h : AHeap) : Prop := Rs q nA c N D NW TW ρ ∧ Rt s true i ρ ∧ get ρ 15 = some (.int .i64 (k : Nat)) ∧ HS h0 h D G L T NW TW d opv outv nw d.told
theorem BitsV.set {h : AHeap} {X : Nat} {cells : List Value} (hX : h[X]? = some (some ⟨true, cells⟩)) (o : Option AObj) {v : Value} {bs : List Bool} (b : BitsV h v bs) : BitsV (h.set X o) v bs := b.frz (frz_set hX o)
theorem Fd.step {nw tw : List Bool} {N c : Nat} {f : Int} (F : Fd nw tw N (c + 1) f) (h : nw[c]? = tw[c]?) : Fd nw tw N c f := by
  rcases F with ⟨rfl, h1⟩ | ⟨g, rfl, h1, h2, h3, h4⟩
  · refine .inl ⟨rfl, fun k hk => ?_⟩
    by_cases e : k = c
    · rw [e]; exact h
    · exact h1 k (by omega)
  · refine .inr ⟨g, rfl, by omega, h2, h3, fun k hk hg => ?_⟩
    by_cases e : k = c
    · rw [e]; exact h
    · exact h4 k (by omega) hg
theorem Fd.here {nw tw : List Bool} {N c : Nat} (hc : c < N) (h : nw[c]? ≠ tw[c]?) : Fd nw tw N c (c : Int) := .inr ⟨c, rfl, Nat.le_refl _, hc, h, fun k h1 h2 => by omega⟩
theorem Fd.none {nw tw : List Bool} {N : Nat} (h1 : nw.length = N) (h2 : tw.length = N) : Fd nw tw N N (-1) := .inl ⟨rfl, fun k hk => by rw [List.getElem?_eq_none (by omega), List.getElem?_eq_none (by omega)]⟩
theorem Snt.first {n : Nat} {nw tw : List Bool} {s f g : Nat} {m : Ms} {tw' : List Bool} (S : Snt n nw tw s f m tw') (h1 : nw[g]? ≠ tw[g]?) (h2 : ∀ k, k < g → nw[k]? = tw[k]?) : f = g := by
  rcases Nat.lt_trichotomy f g with h | h | h
  · exact absurd (h2 f h) S.nb.dif
  · exact h
  · exact absurd (S.nb.bef g h) h1
/-- Take is done, what comes is chosen -/
def WinS (h0 : AHeap) (q : Option Addr) (nA c N D NW TW i s : Nat) (op : Bool) (k : Nat) (f : Int) (r : Value) (ρ : Env) (h : AHeap) : Prop := Rs q nA c N D NW TW ρ ∧ Rt s op i ρ ∧ get ρ 15 = some (.int .i64 (k : Nat)) ∧ get ρ 16 = some (.int .i64 f) ∧ get ρ 18 = some r ∧ get ρ 128 = some (.bool (op || decide (f < 0))) ∧ h = h0
theorem HS.app {h0 h h' : AHeap} {D G L T NW TW : Nat} {d : DK} {opv outv v : Value} {nw tw : List Bool} {zs : List Int} (H : HS h0 h D G L T NW TW d opv outv nw tw) (C : CV h0 h D G L T NW TW outv v zs) (hl : h.length ≤ h'.length) (hk : ∀ B, B < h.length → slB v ≠ some B → h'[B]? = h[B]?) : HS h0 h' D G L T NW TW d opv outv nw tw := by
  have F : Fr (fun B => slB v = some B) h h' := ⟨hl, fun B hB hn => hk B hB hn⟩
  have z : Frz h h' := F.frz fun B cs hB e => by obtain ⟨cs', h2⟩ := C.R.own hB; rw [h2] at e; cases e
  refine ⟨⟨Nat.le_trans H.kp.1 hl, fun B hB => ?_⟩, H.A.keep z fun i B hB => ?_, H.far, F.get H.nwo fun e => ?_, F.get H.two fun e => ?_, H.ne, H.n0, H.t0⟩
  · rw [hk B (Nat.lt_of_lt_of_le hB H.kp.1) fun e => by have := (C.apart B e).1; omega]
    exact H.kp.2 B hB
  · exact hk B (H.A.lt hB) fun e => (C.apart B e).2.2.2 ⟨i, hB⟩
  · exact (C.apart _ e).2.1 rfl
  · exact (C.apart _ e).2.2.1 rfl
theorem CV.keep {h0 h h' : AHeap} {D G L T NW TW : Nat} {outv v : Value} {zs : List Int} (C : CV h0 h D G L T NW TW outv v zs) (K : Kp h h') : CV h0 h' D G L T NW TW outv v zs := ⟨C.R.keep fun A hA => K.2 A (C.R.lt hA), C.apart⟩
theorem HS.two' {h0 h : AHeap} {D G L T NW TW : Nat} {d : DK} {opv outv : Value} {nw tw tw' : List Bool} (H : HS h0 h D G L T NW TW d opv outv nw tw) (e : tw = tw') : HS h0 h D G L T NW TW d opv outv nw tw' := by rw [← e]; exact H
end Go.Proofs.Ytejgaeinkojgpaa
