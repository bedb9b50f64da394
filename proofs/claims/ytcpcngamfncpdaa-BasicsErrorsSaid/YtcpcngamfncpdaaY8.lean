import Derived.Test.YtcpcngamfncpdaaY7
set_option linter.unusedVariables false
set_option linter.unusedSimpArgs false
namespace Go.Proofs.Ytcpcngamfncpdaa
open Go Go.Ai Go.Proofs

theorem load_arg {h : AHeap} {v : Value} (s : SmallOk h (.sl [.int .u8]) v) : ∃ (q : Option Addr) (n c : Nat) (zs : List Int), v = .slice q n c ∧ zs.length = n ∧ (∀ z ∈ zs, 0 ≤ z ∧ z ≤ 255) ∧ (n ≤ 1000000 → LoadW h (.slice q n c) zs) := by
  rcases s with rfl | ⟨B, len, cap, rows, rfl, k1, k2, k3, k4, k5, k6⟩
  · exact ⟨none, 0, 0, [], rfl, rfl, by simp, fun _ => ⟨none, 0, rfl, by simp, .inl rfl⟩⟩
  · obtain ⟨zs, rfl, h8⟩ := ints_rows (k := .u8) (n := len) (by simpa using k5) fun i hi => by simpa using k6 i hi 0 (.int .u8) rfl
    have hl : zs.length = len := by simpa using k5
    refine ⟨_, len, cap, zs, rfl, hl, fun z hz => bounds_u8 (h8 z hz), fun hn => ⟨_, _, by rw [hl], by omega, ?_⟩⟩
    by_cases h0 : len = 0
    · exact .inl (List.eq_nil_of_length_eq_zero (by omega))
    · exact .inr ⟨_, _, rfl, rfl, k4 h0, getN_all _ _ (by simp)⟩
def errorsSh : List (Bool × List Cl) := [(false, [.sl [.int .u8]]), (true, [.leaf (.int .u8), .leaf .bool, .leaf (.int .u8), .leaf .bool, .leaf (.int .u8), .leaf (.int .u8), .sl [.int .u8]])]
theorem errors_sh {φ : Phi} {w : World} {h : AHeap} {vs args' : List Value} (hR : Ro φ h w) (ha : LR φ vs args') (hs : SmallArgs h errorsSh vs)
    (hf : ∀ a len cap, args'[0]? = some (.slice (some a) len cap) → len ≠ 0 → w.frozen? ⟨a.block, a.off, none⟩ = false) :
    Calls Try.prog 7 args'.toArray w fun e w' => ∃ φ' h' r r', e = .returned r' ∧ Stp φ h w φ' h' w' ∧ VR φ' r r' ∧ r = .bool true := by
  obtain ⟨v2, r, rfl, h2, hs3⟩ := hs.cons_inv
  obtain ⟨v3, r, rfl, h3, hs4⟩ := hs3.cons_inv
  obtain rfl := hs4.nil_inv
  obtain ⟨q, n, c, zs, rfl, k1, kb, k2⟩ := load_arg h2.one
  obtain ⟨cs, rfl, p0⟩ := h3.agg
  obtain ⟨x, r, rfl, ⟨a, rfl, wa⟩, p1⟩ := p0.cons_inv
  obtain ⟨x, r, rfl, ⟨b, rfl⟩, p2⟩ := p1.cons_inv
  obtain ⟨x, r, rfl, ⟨f, rfl, wf⟩, p3⟩ := p2.cons_inv
  obtain ⟨x, r, rfl, ⟨g, rfl⟩, p4⟩ := p3.cons_inv
  obtain ⟨x, r, rfl, ⟨k, rfl, -⟩, p5⟩ := p4.cons_inv
  obtain ⟨x, r, rfl, ⟨s, rfl, -⟩, p6⟩ := p5.cons_inv
  obtain ⟨x, r, rfl, hl, p7⟩ := p6.cons_inv
  obtain rfl := p7.nil_inv
  obtain ⟨q2, n2, c2, us, rfl, m1, -, m2⟩ := load_arg hl
  have ba := bounds_u8 wa
  have bf := bounds_u8 wf
  refine errors_calls (u := ⟨a, b, f, g, k, s, us⟩) hR (GR.none rfl φ) ha k1 m1 k2 m2 (by simp only; omega) kb fun ad hq hn B sh m hφ => ?_
  subst hq
  obtain ⟨u1, hu1, hv⟩ := ha.get (i := 0) rfl
  cases hv with
  | slice hp hc =>
    rename_i b' c'
    rcases hp with ⟨h0, _⟩ | ⟨_, B', s', m', e1, rfl⟩
    · exact absurd h0 hn
    · rw [hφ] at e1; cases e1
      exact hf _ _ _ hu1 hn
end Go.Proofs.Ytcpcngamfncpdaa
