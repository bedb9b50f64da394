import Derived.Test.YtemphcppnjlkcaaM2
set_option linter.unusedVariables false
set_option linter.unusedSimpArgs false
namespace Go.Proofs.Ytemphcppnjlkcaa
open Go Go.Ai Go.Proofs

/-- a slice that is appended to: nil, or all of an array -/
def RN (h : AHeap) (sl : Value) (zs : List Int) : Prop := (sl = .slice none 0 0 ∧ zs = []) ∨ ∃ A, sl = .slice (some ⟨A, 0, none⟩) zs.length (unk + 1) ∧ h[A]? = some (some ⟨true, bR zs⟩)
theorem RN.ret {h : AHeap} {sl : Value} {zs : List Int} (r : RN h sl zs) : Ret 1 h sl zs.length (bR zs) := by
  rcases r with ⟨rfl, rfl⟩ | ⟨A, rfl, h1⟩
  · exact ⟨rfl, .inl ⟨rfl, rfl⟩⟩
  · exact ⟨by rw [bR_len, Nat.mul_one], .inr (.inr ⟨_, rfl, h1⟩)⟩
theorem RN.keep {h h' : AHeap} {sl : Value} {zs : List Int} (r : RN h sl zs) (hk : ∀ A x, slB sl = some A → h[A]? = some x → h'[A]? = some x) : RN h' sl zs := by
  rcases r with r | ⟨A, rfl, h1⟩
  · exact .inl r
  · exact .inr ⟨A, rfl, hk A _ rfl h1⟩
/-- appended to it -/
theorem RN.append {K : Env → AHeap → Prop} {r : List XOper} {ρ : Env} {h : AHeap} {zs news : List Int} {d : Option Nat} {s x : XA} {sl xv : Value} (R : RN h sl zs)
    (hs : ev ρ s = some sl) (hx : ev ρ x = some xv) (hl : lenV xv = some news.length) (hf : firstV 1 h news.length xv = some (bR news)) (hb : zs.length + news.length ≤ 1048576)
    (hK : ∀ sl' h', RN h' sl' (zs ++ news) → h.length ≤ h'.length → (∀ B, B < h.length → slB sl ≠ some B → h'[B]? = h[B]?) → (∀ A, slB sl' = some A → slB sl = some A ∨ (h.length ≤ A)) → (sl' = sl ∧ h' = h ∨ ∃ A, slB sl' = some A ∧ h.length ≤ A ∧ A < h'.length) → xops Try.prog K r (put d sl' ρ) h') :
    xops Try.prog K (⟨d, none, .append 1 1 [.int .u8 0] s x, []⟩ :: r) ρ h := by
  refine append_run (k := 1) (by_ := 1) (n := zs.length) (m := news.length) (rows := bR zs) (news := bR news) (sl := sl) (xv := xv) rfl (by decide) hs hx hl hf (by rw [bR_len, Nat.mul_one]) (bR_one _) R.ret.toO (by omega) (by omega) (fun h0 => ?_) (fun h0 h' A' hA' hg hl' hfr => ?_)
  · have : news = [] := List.eq_nil_of_length_eq_zero h0
    refine hK sl h (by rw [this, List.append_nil]; exact R) (Nat.le_refl _) (fun _ _ _ => rfl) (fun A hA => .inl hA) (.inl ⟨rfl, rfl⟩)
  · refine hK _ h' (.inr ⟨A', by rw [List.length_append], by rw [hg, bR_append]⟩) (by omega) hfr (fun A hA => ?_) (.inr ⟨A', rfl, hA', lt_of_get hg⟩)
    simp [slB] at hA; subst hA; exact .inr hA'

section
variable {h : AHeap} {X : Nat} {delay now sent waiting : Int} {l : List Nz} {nq : Option Addr} {nc : Nat} {usl : Value} {us : List Bu}
/-- the blocks of a line -/
def FP (X : Nat) (nq : Option Addr) (usl : Value) (us : List Bu) (B : Nat) : Prop := B = X ∨ slB usl = some B ∨ (∃ a, nq = some a ∧ a.block = B) ∨ ∃ u ∈ us, slB u.v = some B
theorem LineAt.fp_lt (L : LineAt h X delay now sent waiting l nq nc usl us) {B : Nat} (f : FP X nq usl us B) : B < h.length := by
  rcases f with rfl | f | ⟨a, ha, rfl⟩ | ⟨u, hu, f⟩
  · exact lt_of_get L.obj
  · exact (L.ult B f).2
  · exact (L.nlt a ha).2.2
  · exact ((L.bits u hu).2 B f).2.2
theorem LineAt.keepFP {h' : AHeap} (L : LineAt h X delay now sent waiting l nq nc usl us) (hl : h.length ≤ h'.length) (hk : ∀ B, FP X nq usl us B → h'[B]? = h[B]?) : LineAt h' X delay now sent waiting l nq nc usl us :=
  ⟨by rw [hk _ (.inl rfl)]; exact L.obj, first_fr L.noise fun a ha => hk _ (.inr (.inr (.inl ⟨a, ha, rfl⟩))), fun a ha => ⟨(L.nlt a ha).1, (L.nlt a ha).2.1, Nat.lt_of_lt_of_le (L.nlt a ha).2.2 hl⟩,
    L.und.keep fun A x hA hx => by rw [hk A (.inr (.inl hA))]; exact hx, fun A hA => ⟨(L.ult A hA).1, Nat.lt_of_lt_of_le (L.ult A hA).2 hl⟩,
    fun u hu => ⟨(L.bits u hu).1.keep fun A x hA hx => by rw [hk A (.inr (.inr (.inr ⟨u, hu, hA⟩)))]; exact hx, fun A hA => ⟨((L.bits u hu).2 A hA).1, ((L.bits u hu).2 A hA).2.1, Nat.lt_of_lt_of_le ((L.bits u hu).2 A hA).2.2 hl⟩⟩⟩
end
theorem bitsU_app (a b : List Bu) : bitsU (a ++ b) = bitsU a ++ bitsU b := by simp [bitsU]
theorem ripe_split (us : List Bu) (now : Int) : bitsU us = bitsU (ripe us now) ++ bitsU (us.drop (ripe us now).length) := by
  rw [← bitsU_app]
  congr 1
  have : ripe us now = us.take (ripe us now).length := by
    unfold ripe
    exact List.prefix_iff_eq_take.1 (List.takeWhile_prefix _)
  conv => lhs; rw [← List.take_append_drop (ripe us now).length us]
  rw [← this]
theorem ripe_all {us : List Bu} {now : Int} (h : ∀ u ∈ us, u.due ≤ now) : ripe us now = us := by
  induction us with
  | nil => rfl
  | cons u us ih =>
    unfold ripe at ih ⊢
    rw [List.takeWhile_cons, if_pos (by simpa using h u (by simp)), ih fun v hv => h v (by simp [hv])]
end Go.Proofs.Ytemphcppnjlkcaa
