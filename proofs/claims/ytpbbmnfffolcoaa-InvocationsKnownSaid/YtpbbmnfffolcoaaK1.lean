import Derived.Test.YtpbbmnfffolcoaaO3
import Derived.Test.YtpbbmnfffolcoaaAiXf
set_option linter.unusedVariables false
set_option linter.unusedSimpArgs false
namespace Go.Proofs.Ytpbbmnfffolcoaa
open Go Go.Ai Go.Proofs

def ivA : Iv := ⟨1, 3, 5, []⟩
/-- so many have been asked -/
def bA (i : Nat) : Bk := ⟨List.replicate i ivA ++ List.replicate (128 - i) iv0, i % 128, []⟩
theorem bA_zero : bA 0 = Bk.nil := rfl
theorem bA_ask {i : Nat} (hi : i < 128) : (bA i).ask 1 3 5 = (bA (i + 1), some i) := by
  have hm : i % 128 = i := Nat.mod_eq_of_lt hi
  have hget : (bA i).is[i]? = some iv0 := by
    show (List.replicate i ivA ++ List.replicate (128 - i) iv0)[i]? = _
    rw [List.getElem?_append_right (by simp)]
    rw [List.length_replicate, Nat.sub_self, List.getElem?_replicate, if_pos (by omega)]
  have hf : askF (bA i).is (bA i).nx 128 = some i := by
    show askF (bA i).is (i % 128) (127 + 1) = some i
    unfold askF
    rw [hm, hget]
    exact if_pos rfl
  unfold Bk.ask
  rw [hf]
  simp only [Prod.mk.injEq, and_true]
  have hset : (bA i).is.set i ivA = (bA (i + 1)).is := by
    show (List.replicate i ivA ++ List.replicate (128 - i) iv0).set i ivA = List.replicate (i + 1) ivA ++ List.replicate (128 - (i + 1)) iv0
    rw [List.set_append_right _ _ (by simp), List.length_replicate, Nat.sub_self, show 128 - i = (128 - (i + 1)) + 1 by omega, List.replicate_succ, List.set_cons_zero, List.replicate_succ', List.append_assoc]; rfl
  show (⟨(bA i).is.set i ivA, (i + 1) % 128, []⟩ : Bk) = _
  rw [hset]; rfl
def bF : Bk := ⟨((List.replicate 128 ivA).set 9 iv0).set 9 ⟨1, 1, 5, []⟩, 10, [⟨9, 5, 0, []⟩]⟩
def bC : Bk := ⟨(List.replicate 128 ivA).set 9 iv0, 0, [⟨9, 5, 0, []⟩]⟩
set_option maxRecDepth 100000 in
theorem bA_full : (bA 128).ask 1 1 5 = (bA 128, none) := by rfl
set_option maxRecDepth 100000 in
theorem bA_isO : (bA 128).isO 9 = true := by rfl
set_option maxRecDepth 100000 in
theorem bA_cancel : (bA 128).cancel 9 = bC := by rfl
set_option maxRecDepth 100000 in
theorem bC_ask : bC.ask 1 1 5 = (bF, some 9) := by rfl
set_option maxRecDepth 100000 in
theorem bF_cnt : bF.cnt = 128 := by rfl
/-- so many bytes have been heard -/
def bP (t : Nat) : Bk := ⟨bF.is.set 4 ⟨1, 3, 5, List.replicate t 0⟩, 10, [⟨9, 5, 0, []⟩]⟩
set_option maxRecDepth 100000 in
theorem bP_zero : bP 0 = bF := by rfl
def mP (n : Nat) : Cm := ⟨3, 4, 0, 1, 0, List.replicate n 0⟩
theorem bF_len : bF.is.length = 128 := by simp [bF]
theorem bP_get (t : Nat) : (bP t).is[4]? = some ⟨1, 3, 5, List.replicate t 0⟩ := by
  show (bF.is.set 4 _)[4]? = _
  rw [List.getElem?_set_self (by rw [bF_len]; decide)]
theorem bP_isO (t : Nat) : (bP t).isO 4 = true := by
  have : (bP t).isO ((4 : Nat) : Int) = opn ⟨1, 3, 5, List.replicate t 0⟩ := isO_at (by decide) (bP_get t)
  exact this
theorem bP_row (t n : Nat) : (bP t).row (mP n) = ⟨1, 3, 5, List.replicate t 0⟩ := by
  unfold Bk.row
  show ((bP t).is[4]?).getD iv0 = _
  rw [bP_get]; rfl
theorem bP_hear {t n : Nat} (h : t + n ≤ 65536) : (bP t).heard (mP n) = (bP (t + n), none) := by
  unfold Bk.heard
  rw [if_neg (by show ¬ (3 : Int) = 5; decide), show (bP t).isO (mP n).id = true from bP_isO t, if_neg (by decide), bP_row]
  have hf : fitsB ⟨1, 3, 5, List.replicate t 0⟩ (mP n) = true := by
    unfold fitsB
    rw [if_neg (by show ¬ (3 : Int) = 4; decide), decide_eq_true_iff]
    refine ⟨rfl, .inr rfl, ?_⟩
    show (List.replicate t 0).length + (List.replicate n 0).length ≤ 65536
    simp only [List.length_replicate]; exact h
  rw [hf, if_neg (by decide), if_pos (by show (3 : Int) = 3; rfl)]
  simp only [Prod.mk.injEq, and_true]
  show (⟨(bF.is.set 4 _).set 4 ⟨1, 3, 5, List.replicate t 0 ++ List.replicate n 0⟩, 10, [⟨9, 5, 0, []⟩]⟩ : Bk) = bP (t + n)
  rw [List.set_set, List.replicate_append_replicate]; rfl
theorem bP_over {t n : Nat} (h : 65536 < t + n) : (bP t).heard (mP n) = ((bP t).over 4 3 7 [], some 7) := by
  unfold Bk.heard
  rw [if_neg (by show ¬ (3 : Int) = 5; decide), show (bP t).isO (mP n).id = true from bP_isO t, if_neg (by decide), bP_row]
  have hf : fitsB ⟨1, 3, 5, List.replicate t 0⟩ (mP n) = false := by
    unfold fitsB
    rw [if_neg (by show ¬ (3 : Int) = 4; decide), decide_eq_false_iff_not]
    rintro ⟨-, -, h2⟩
    have : (List.replicate t 0).length + (List.replicate n 0).length ≤ 65536 := h2
    simp only [List.length_replicate] at this
    omega
  rw [hf, if_pos rfl]; rfl
theorem bP_pb {t : Nat} (h : t ≤ 65536) : ∀ x ∈ (bP t).is, x.pb.length ≤ 65536 := by
  intro x hx
  rcases List.mem_or_eq_of_mem_set hx with h1 | rfl
  · have h1 : x ∈ ((List.replicate 128 ivA).set 9 iv0).set 9 ⟨1, 1, 5, []⟩ := h1
    rcases List.mem_or_eq_of_mem_set h1 with h2 | rfl
    · rcases List.mem_or_eq_of_mem_set h2 with h3 | rfl
      · rw [List.eq_of_mem_replicate h3]; decide
      · decide
    · decide
  · simpa using h
theorem mP_ok (n : Nat) : okC (mP n) := .inr (.inl ⟨.inr (.inl rfl), ⟨by show (0 : Int) ≤ 4; decide, by show (4 : Int) ≤ 127; decide⟩, rfl, ⟨by show (0 : Int) ≤ 1; decide, by show (1 : Int) ≤ 255; decide⟩, rfl⟩)
theorem zeros (n : Nat) : (List.replicate n [Value.int .u8 0]).flatten = bN (List.replicate n 0) := by
  rw [List.flatten_replicate_singleton]
  unfold bN
  rw [List.map_replicate]; rfl
/-- a book above a heap -/
structure KB (h0 h : AHeap) (B : Nat) (b : Bk) (dv : Value) : Prop where
  kp : Kp h0 h
  bk : ∃ rs, BkAt h B b rs dv
  far : ∀ X, ftB B dv X → h0.length ≤ X
section
variable {h0 h h' : AHeap} {B : Nat} {b b' : Bk} {dv : Value}
theorem KB.keep (k : KB h0 h B b dv) (K : Kp h h') : KB h0 h' B b dv := by
  obtain ⟨rs, A⟩ := k.bk
  exact ⟨k.kp.trans K, ⟨rs, A.kp K⟩, k.far⟩
theorem KB.book (k : KB h0 h B b dv) (W : WentB h h' B b' dv) : ∃ dv', KB h0 h' B b' dv' ∧ ∀ T x, h[T]? = some x → ¬ ftB B dv T → h'[T]? = some x ∧ ¬ ftB B dv' T := by
  obtain ⟨rs', dv', B', F, n⟩ := W
  refine ⟨dv', ⟨⟨Nat.le_trans k.kp.1 F.1, fun X hX => ?_⟩, ⟨rs', B'⟩, fun X hX => ?_⟩, fun T x hT hn => ⟨F.get hT hn, fun e => ?_⟩⟩
  · rw [F.2 X (Nat.lt_of_lt_of_le hX k.kp.1) (fun e => by have := k.far X e; omega), k.kp.2 X hX]
  · have := k.kp.1
    rcases n X hX with e | e
    · exact k.far X e
    · omega
  · rcases n T e with e1 | e1
    · exact hn e1
    · have := lt_of_get hT; omega
theorem KB.lt (k : KB h0 h B b dv) {X : Nat} (hX : ftB B dv X) : X < h.length := by
  obtain ⟨rs, A⟩ := k.bk; exact A.ftlt hX
end
/-- acts made so far -/
structure KnA (h0 h : AHeap) (sl : Value) (n : Nat) (rows : List Value) : Prop where
  kp : Kp h0 h
  ret : Ret 5 h sl n rows
  ow : Ow h sl
  far : ∀ X, slB sl = some X → h0.length ≤ X
  act : ∀ j, j < n → ∃ (a : Ac) (X : Nat), a.Ok ∧ a.val.length = 1 ∧ getN rows (j * 5) 5 = some (a.cells (.slice (some ⟨X, 0, none⟩) 1 1)) ∧ h[X]? = some (some ⟨true, bN a.val⟩) ∧ slB sl ≠ some X
theorem KnA.acts {h0 h : AHeap} {sl : Value} {n : Nat} {rows : List Value} (k : KnA h0 h sl n rows) : ∃ q c, sl = .slice q n c ∧ ActsW h q n := by
  obtain ⟨q, c, rfl, -⟩ := k.ret.shape
  refine ⟨q, c, rfl, ?_⟩
  rcases k.ret with ⟨hl, ⟨-, h0⟩ | ⟨A, -, h0⟩ | ⟨A, e, hA⟩⟩
  · exact .inl h0
  · exact .inl h0
  · rw [Value.slice.injEq] at e
    obtain ⟨rfl, -, -⟩ := e
    refine .inr ⟨A, true, rows, rfl, hA, fun i hi => ?_⟩
    obtain ⟨a, X, oa, hv, hg, hX, -⟩ := k.act i hi
    have hg4 : rows[i * 5 + 4]? = some (.slice (some ⟨X, 0, none⟩) 1 1) := by
      have := ((getN_eq _ _ _ _).1 hg).2
      have h5 : (a.cells (.slice (some ⟨X, 0, none⟩) 1 1))[4]? = ((rows.drop (i * 5)).take 5)[4]? := by rw [this]
      rw [List.getElem?_take, if_pos (by decide), List.getElem?_drop] at h5
      rw [← h5]; rfl
    refine ⟨a, some ⟨X, 0, none⟩, 1, oa, by rw [hv]; exact hg, by rw [hv]; exact hg4, ⟨some ⟨X, 0, none⟩, 1, by rw [hv, bN_len, hv], ?_, bN_one _⟩⟩
    rw [bN_len, hv]
    simp only [firstV]
    rw [if_neg (by decide), if_neg (by simp)]
    simp only [cellsAt, hX, Option.bind_some]
    exact getN_all _ _ (by rw [bN_len, hv])
end Go.Proofs.Ytpbbmnfffolcoaa
