import Derived.Test.YtejgaeinkojgpaaK14
set_option linter.unusedVariables false
set_option linter.unusedSimpArgs false
namespace Go.Proofs.Ytejgaeinkojgpaa
open Go Go.Ai Go.Proofs

/-- the bits of some bytes -/
def unp (bs : List Nat) (n : Nat) : List Bool := (List.range n).map fun i => (bs[i / 8]?.getD 0).testBit (i % 8)
theorem unp_len (bs : List Nat) (n : Nat) : (unp bs n).length = n := by simp [unp]
theorem unp_get (bs : List Nat) {n i : Nat} (h : i < n) : (unp bs n)[i]? = some ((bs[i / 8]?.getD 0).testBit (i % 8)) := by
  unfold unp; rw [List.getElem?_map, List.getElem?_range h]; rfl
theorem pkS_bit (l : List Nat) (i : Nat) (b : Bool) {j t : Nat} (ht : t < 8) (hj : j < l.length) : ((pkS l i b)[j]?.getD 0).testBit t = ((l[j]?.getD 0).testBit t || (b && decide (8 * j + t = i))) := by
  unfold pkS
  cases b
  · simp
  · simp only [if_true, Bool.true_and]
    by_cases h : i / 8 = j
    · subst h
      rw [List.getElem?_set_self hj, Option.getD_some, Nat.testBit_or, Nat.testBit_two_pow]
      congr 1
      rw [decide_eq_decide]; omega
    · rw [List.getElem?_set_ne h]
      have : decide (8 * j + t = i) = false := by rw [decide_eq_false_iff_not]; omega
      rw [this, Bool.or_false]
theorem pkF_bit : ∀ (bs : List Bool) (i : Nat) (l : List Nat) {j t : Nat}, t < 8 → j < l.length → ((pkF bs i l)[j]?.getD 0).testBit t = ((l[j]?.getD 0).testBit t || (decide (i ≤ 8 * j + t) && (bs[8 * j + t - i]?.getD false)))
  | [], i, l, j, t, ht, hj => by simp [pkF]
  | b :: bs, i, l, j, t, ht, hj => by
    unfold pkF
    rw [pkF_bit bs (i + 1) (pkS l i b) ht (by rw [pkS_len]; exact hj), pkS_bit l i b ht hj, Bool.or_assoc]
    congr 1
    by_cases h : 8 * j + t = i
    · have h1 : decide (8 * j + t = i) = true := by simp [h]
      have h2 : decide (i + 1 ≤ 8 * j + t) = false := by rw [decide_eq_false_iff_not]; omega
      have h3 : decide (i ≤ 8 * j + t) = true := by rw [decide_eq_true_iff]; omega
      have h4 : 8 * j + t - i = 0 := by omega
      rw [h1, h2, h3, h4]; simp
    · have h1 : decide (8 * j + t = i) = false := by simp [h]
      by_cases h5 : i ≤ 8 * j + t
      · have h2 : decide (i + 1 ≤ 8 * j + t) = true := by rw [decide_eq_true_iff]; omega
        have h3 : decide (i ≤ 8 * j + t) = true := by rw [decide_eq_true_iff]; omega
        have h4 : 8 * j + t - i = (8 * j + t - (i + 1)) + 1 := by omega
        rw [h1, h2, h3, h4]; simp
      · have h2 : decide (i + 1 ≤ 8 * j + t) = false := by rw [decide_eq_false_iff_not]; omega
        have h3 : decide (i ≤ 8 * j + t) = false := by rw [decide_eq_false_iff_not]; omega
        rw [h1, h2, h3]; simp
theorem pkF_len : ∀ (bs : List Bool) (i : Nat) (l : List Nat), (pkF bs i l).length = l.length
  | [], _, _ => rfl
  | b :: bs, i, l => by unfold pkF; rw [pkF_len bs, pkS_len]
theorem packB_len (bs : List Bool) : (packB bs).length = (bs.length + 7) / 8 := by unfold packB; rw [pkF_len]; simp
theorem unp_pack (bs : List Bool) (rest : List Nat) : unp (packB bs ++ rest) bs.length = bs := by
  apply List.ext_getElem?
  intro i
  by_cases hi : i < bs.length
  · rw [unp_get _ hi, List.getElem?_append_left (by rw [packB_len]; omega)]
    unfold packB
    rw [pkF_bit bs 0 _ (Nat.mod_lt _ (by decide)) (by simp; omega)]
    have e : 8 * (i / 8) + i % 8 = i := by omega
    rw [e, Nat.sub_zero, List.getElem?_replicate, if_pos (by omega)]
    rw [List.getElem?_eq_getElem hi]; simp
  · rw [List.getElem?_eq_none (by rw [unp_len]; omega), List.getElem?_eq_none (by omega)]
def serN (bs : List Nat) : Nat := bs[1]?.getD 0 + 256 * bs[2]?.getD 0 + 65536 * bs[3]?.getD 0 + 16777216 * bs[4]?.getD 0
/-- the message that some bytes may be -/
def decM (bs : List Nat) : Option Ms :=
  if bs.length < 5 then none
  else if bs[0]?.getD 0 = 1 ∧ 7 ≤ bs.length then
    if bs.length ≠ 7 + 2 * ((bs[6]?.getD 0 + 7) / 8) then none
    else some ⟨1, serN bs, (bs[5]?.getD 0 : Nat), unp (bs.drop 7) (bs[6]?.getD 0), unp (bs.drop (7 + (bs[6]?.getD 0 + 7) / 8)) (bs[6]?.getD 0)⟩
  else some ⟨(bs[0]?.getD 0 : Nat), serN bs, 0, [], []⟩
def DecV (bs : List Nat) (m : Ms) : Prop := decM bs = some m ∧ m.Ok ∧ enc m = bs
theorem byt_small {n : Int} (h0 : 0 ≤ n) (h1 : n < 256) : byt n = n.toNat := by unfold byt; omega
theorem enc2 {m : Ms} (h : m.kind = 2) : enc m = [2, byt m.serial, byt (m.serial / 256), byt (m.serial / 65536), byt (m.serial / 16777216)] := by
  unfold enc ser; rw [h, if_neg (by decide)]; rfl
theorem enc1 {m : Ms} (h : m.kind = 1) : enc m = [1, byt m.serial, byt (m.serial / 256), byt (m.serial / 65536), byt (m.serial / 16777216), byt m.first, byt m.mask.length] ++ (packB m.mask ++ packB m.on) := by
  unfold enc ser; rw [h, if_pos rfl]; simp [byt]
theorem ser_val {s : Int} (h0 : 0 ≤ s) (h1 : s ≤ 4294967295) : (((byt s + 256 * byt (s / 256) + 65536 * byt (s / 65536) + 16777216 * byt (s / 16777216) : Nat)) : Int) = s := by unfold byt; omega
theorem dec_enc {m : Ms} (ok : m.Ok) (h0 : 0 ≤ m.serial) (h1 : m.serial ≤ 4294967295) : decM (enc m) = some m := by
  obtain ⟨kind, serial, first, mask, on⟩ := m
  obtain ⟨-, -, hl, ⟨hk, hf, hm⟩ | ⟨hk, hn1, hn2, hf0, hf1, -⟩⟩ := ok
  · simp only at hk hf hm hl h0 h1
    subst hk hf
    have e1 : mask = [] := List.eq_nil_of_length_eq_zero hm
    have e2 : on = [] := List.eq_nil_of_length_eq_zero (by omega)
    subst e1 e2
    rw [enc2 rfl]
    have := ser_val h0 h1
    simp [decM, serN]
    omega
  · simp only at hk hn1 hn2 hf0 hf1 hl h0 h1
    subst hk
    have e := enc1 (m := ⟨1, serial, first, mask, on⟩) rfl
    simp only at e
    have bf : byt first = first.toNat := byt_small hf0 (by omega)
    have bl : byt (mask.length : Int) = mask.length := by rw [byt_small (by omega) (by omega)]; simp
    rw [bl] at e
    have sv := ser_val h0 h1
    have elen : (enc ⟨1, serial, first, mask, on⟩).length = 7 + 2 * ((mask.length + 7) / 8) := by
      rw [e]; simp only [List.length_append, List.length_cons, List.length_nil, packB_len, hl]; omega
    have g0 : (enc ⟨1, serial, first, mask, on⟩)[0]?.getD 0 = 1 := by rw [e]; rfl
    have g6 : (enc ⟨1, serial, first, mask, on⟩)[6]?.getD 0 = mask.length := by rw [e]; rfl
    have g5 : (enc ⟨1, serial, first, mask, on⟩)[5]?.getD 0 = byt first := by rw [e]; rfl
    have gs : serN (enc ⟨1, serial, first, mask, on⟩) = byt serial + 256 * byt (serial / 256) + 65536 * byt (serial / 65536) + 16777216 * byt (serial / 16777216) := by unfold serN; rw [e]; rfl
    have d7 : (enc ⟨1, serial, first, mask, on⟩).drop 7 = packB mask ++ packB on := by rw [e]; rfl
    have d8 : (enc ⟨1, serial, first, mask, on⟩).drop (7 + (mask.length + 7) / 8) = packB on := by
      rw [← List.drop_drop, d7, List.drop_append_of_le_length (by rw [packB_len]; omega), List.drop_of_length_le (by rw [packB_len]; omega)]; rfl
    unfold decM
    rw [if_neg (by omega), if_pos ⟨g0, by omega⟩, g6, if_neg (by omega), d7, d8, unp_pack, g5, gs, sv, bf]
    have u2 := unp_pack on []
    rw [List.append_nil, hl] at u2
    rw [u2]
    have : ((first.toNat : Nat) : Int) = first := by omega
    rw [this]
theorem enc_len {m : Ms} (ok : m.Ok) : (enc m).length = if m.kind = 1 then 7 + 2 * ((m.mask.length + 7) / 8) else 5 := by
  obtain ⟨hk, -, hl, -⟩ := ok
  rcases hk with hk | hk
  · rw [if_pos hk, enc1 hk]; simp only [List.length_append, List.length_cons, List.length_nil, packB_len, hl]; omega
  · rw [if_neg (by omega), enc2 hk]; rfl
theorem enc_0 {m : Ms} (ok : m.Ok) : ((enc m)[0]?.getD 0 : Nat) = m.kind.toNat := by
  rcases ok.1 with hk | hk
  · rw [enc1 hk, hk]; rfl
  · rw [enc2 hk, hk]; rfl
theorem enc_6 {m : Ms} (ok : m.Ok) (hk : m.kind = 1) : (enc m)[6]?.getD 0 = m.mask.length := by
  obtain ⟨-, -, -, ⟨h, -⟩ | ⟨-, h1, h2, -⟩⟩ := ok
  · omega
  · rw [enc1 hk]; show byt (m.mask.length : Int) = _; rw [byt_small (by omega) (by omega)]; simp
/-- equal first bytes: equal lengths -/
theorem enc_same {m m' : Ms} (ok : m.Ok) (ok' : m'.Ok) (h0 : (enc m')[0]?.getD 0 = (enc m)[0]?.getD 0) (h6 : m.kind = 1 → (enc m')[6]?.getD 0 = (enc m)[6]?.getD 0) : (enc m').length = (enc m).length := by
  rw [enc_0 ok, enc_0 ok'] at h0
  have e : m'.kind = m.kind := by rcases ok.1 with h | h <;> rcases ok'.1 with h' | h' <;> rw [h, h'] at h0 ⊢ <;> first | rfl | cases h0
  rw [enc_len ok, enc_len ok', e]
  by_cases hk : m.kind = 1
  · have := h6 hk
    rw [enc_6 ok hk, enc_6 ok' (by omega)] at this
    rw [this]
  · rw [if_neg hk, if_neg hk]
theorem DecV.own {m m' : Ms} (ok : m.Ok) (h0 : 0 ≤ m.serial) (h1 : m.serial ≤ 4294967295) (d : DecV (enc m) m') : m' = m := by
  have := d.1
  rw [dec_enc ok h0 h1] at this
  exact (Option.some.inj this).symm
theorem DecV.more {m m' : Ms} (ok : m.Ok) (d : DecV (enc m ++ [0]) m') : False := by
  obtain ⟨-, ok', e⟩ := d
  have hl := enc_len ok
  have l5 : 5 ≤ (enc m).length := by rw [hl]; split <;> omega
  have := enc_same ok ok' (by rw [e, List.getElem?_append_left (by omega)]) (fun hk => by rw [e, List.getElem?_append_left (by rw [hl, if_pos hk]; omega)])
  rw [e] at this
  simp at this
theorem DecV.less {m m' : Ms} (ok : m.Ok) (d : DecV ((enc m).take ((enc m).length - 1)) m') : False := by
  obtain ⟨-, ok', e⟩ := d
  have hl := enc_len ok
  have l5 : 5 ≤ (enc m).length := by rw [hl]; split <;> omega
  have := enc_same ok ok' (by rw [e, List.getElem?_take, if_pos (by omega)]) (fun hk => by
    have h1 : 1 ≤ m.mask.length := by
      obtain ⟨-, -, -, ⟨h, -⟩ | ⟨-, h1, -⟩⟩ := ok
      · omega
      · exact h1
    rw [e, List.getElem?_take, if_pos (by rw [hl, if_pos hk]; omega)])
  rw [e] at this
  simp at this; omega
end Go.Proofs.Ytejgaeinkojgpaa
