/- Running the small language by rewriting. Generic. -/
import Derived.Test.YtcpcngamfncpdaaAiR
set_option linter.unusedVariables false
namespace Go.Ai
section
variable {P : Program} {K : Env → AHeap → Prop} {r : List XOper} {ρ : Env} {h : AHeap} {d : Option Nat} {g : Nat × Bool} {st : List (Nat × Option (Nat × Bool) × XOp)}

theorem xops_nil : xops P K [] ρ h = K ρ h := propext Iff.rfl

/-- what is behind a branch; behind a step; behind a guard; behind a code -/
def xcond (P : Program) (v : Option Value) (a b : XCode) (Q : Exit → Env → AHeap → Prop) (ρ : Env) (h : AHeap) : Prop :=
  ∃ t, v = some (.bool t) ∧ (t = true → xcode P a Q ρ h) ∧ (t = false → xcode P b Q ρ h)
def xthen (P : Program) (K : Env → AHeap → Prop) (r : List XOper) (d : Option Nat) (st : List (Nat × Option (Nat × Bool) × XOp)) (ρ : Env) (o : Option (Value × AHeap)) : Prop :=
  match o with
  | some (v, h') => stab ρ h' st ∧ xops P K r (put d v ρ) h'
  | none => False
def xgrd (P : Program) (K : Env → AHeap → Prop) (o : XOper) (r : List XOper) (ρ : Env) (h : AHeap) (t : Option Bool) : Prop :=
  match t with
  | some true => xops P K (o :: r) ρ h
  | some false => xops P K r (put o.d undef ρ) h
  | none => False
def kSeq (P : Program) (b : XCode) (Q : Exit → Env → AHeap → Prop) (e : Exit) (ρ : Env) (h : AHeap) : Prop :=
  match e with | .normal => xcode P b Q ρ h | e => Q e ρ h
def kBlock (id : Nat) (Q : Exit → Env → AHeap → Prop) (e : Exit) (ρ : Env) (h : AHeap) : Prop :=
  match e with | .exit i => if i = id then Q .normal ρ h else Q (.exit i) ρ h | e => Q e ρ h
def kScope (Q : Exit → Env → AHeap → Prop) (e : Exit) (ρ : Env) (h : AHeap) : Prop :=
  match e with | .goto _ => False | e => Q e ρ h
def kLoop (I : Nat → Env → AHeap → Prop) (n : Nat) (Q : Exit → Env → AHeap → Prop) (e : Exit) (ρ : Env) (h : AHeap) : Prop :=
  match e with | .normal => ∃ m, m < n ∧ I m ρ h | e => Q e ρ h
section
variable {a b : XCode} {Q : Exit → Env → AHeap → Prop} {c : XA} {v : Value} {id i n : Nat} {I : Nat → Env → AHeap → Prop} {ops : List XOper} {o : XOper}
theorem xcode_skip : xcode P .skip Q ρ h = Q .normal ρ h := propext Iff.rfl
theorem xcode_region : xcode P (.region ops) Q ρ h = xops P (Q .normal) ops ρ h := propext Iff.rfl
theorem xcode_seq : xcode P (.seq a b) Q ρ h = xcode P a (kSeq P b Q) ρ h := propext Iff.rfl
theorem xcode_cond : xcode P (.cond c a b) Q ρ h = xcond P (ev ρ c) a b Q ρ h := propext Iff.rfl
theorem xcode_block : xcode P (.block id b) Q ρ h = xcode P b (kBlock id Q) ρ h := propext Iff.rfl
theorem xcode_scope : xcode P (.scope b) Q ρ h = xcode P b (kScope Q) ρ h := propext Iff.rfl
theorem xcode_both : xcode P (.both a b) Q ρ h = (xcode P a Q ρ h ∧ xcode P b Q ρ h) := propext Iff.rfl
theorem xcode_bad : xcode P .bad Q ρ h = False := propext Iff.rfl
theorem xcode_exit : xcode P (.exit id) Q ρ h = Q (.exit id) ρ h := propext Iff.rfl
theorem xcode_ret : xcode P .ret Q ρ h = Q .ret ρ h := propext Iff.rfl
theorem xcode_loop (I : Nat → Env → AHeap → Prop) (n : Nat) (h0 : I n ρ h) (hs : ∀ n ρ h, I n ρ h → xcode P b (kLoop I n Q) ρ h) : xcode P (.loop b) Q ρ h := ⟨I, ⟨n, h0⟩, hs⟩
theorem kSeq_normal : kSeq P b Q .normal ρ h = xcode P b Q ρ h := propext Iff.rfl
theorem kSeq_ret : kSeq P b Q .ret ρ h = Q .ret ρ h := propext Iff.rfl
theorem kSeq_exit : kSeq P b Q (.exit i) ρ h = Q (.exit i) ρ h := propext Iff.rfl
theorem kBlock_normal : kBlock id Q .normal ρ h = Q .normal ρ h := propext Iff.rfl
theorem kBlock_ret : kBlock id Q .ret ρ h = Q .ret ρ h := propext Iff.rfl
theorem kBlock_exit : kBlock id Q (.exit i) ρ h = if i = id then Q .normal ρ h else Q (.exit i) ρ h := propext Iff.rfl
theorem kScope_normal : kScope Q .normal ρ h = Q .normal ρ h := propext Iff.rfl
theorem kScope_ret : kScope Q .ret ρ h = Q .ret ρ h := propext Iff.rfl
theorem kScope_exit : kScope Q (.exit i) ρ h = Q (.exit i) ρ h := propext Iff.rfl
theorem kLoop_normal : kLoop I n Q .normal ρ h = ∃ m, m < n ∧ I m ρ h := propext Iff.rfl
theorem kLoop_ret : kLoop I n Q .ret ρ h = Q .ret ρ h := propext Iff.rfl
theorem kLoop_exit : kLoop I n Q (.exit i) ρ h = Q (.exit i) ρ h := propext Iff.rfl
theorem xcond_true : xcond P (some (.bool true)) a b Q ρ h = xcode P a Q ρ h := by
  apply propext; simp [xcond]
theorem xcond_false : xcond P (some (.bool false)) a b Q ρ h = xcode P b Q ρ h := by
  apply propext; simp [xcond]
theorem xcond_split {t : Bool} (h1 : t = true → xcode P a Q ρ h) (h2 : t = false → xcode P b Q ρ h) : xcond P (some (.bool t)) a b Q ρ h := ⟨t, rfl, h1, h2⟩
theorem xthen_some {h' : AHeap} : xthen P K r d st ρ (some (v, h')) = (stab ρ h' st ∧ xops P K r (put d v ρ) h') := propext Iff.rfl
theorem xthen_none : xthen P K r d st ρ none = False := propext Iff.rfl
theorem xgrd_true : xgrd P K o r ρ h (some true) = xops P K (o :: r) ρ h := propext Iff.rfl
theorem xgrd_false : xgrd P K o r ρ h (some false) = xops P K r (put o.d undef ρ) h := propext Iff.rfl
end

/-- an operation but a call, unguarded -/
theorem xops_op {op : XOp} (hc : isCall op = false) : xops P K (⟨d, none, op, st⟩ :: r) ρ h = xthen P K r d st ρ (xop op ρ h) := by
  have hs : ∀ K', xstep P op ρ h K' ↔ ∃ v h', xop op ρ h = some (v, h') ∧ K' v h' := by
    intro K'; cases op <;> first | exact Iff.rfl | simp [isCall] at hc
  apply propext
  rw [xops_cons]
  simp only [guardv, Option.some.injEq, hs]
  constructor
  · rintro ⟨t, rfl, h1, _⟩
    obtain ⟨v, h', e, h2⟩ := h1 rfl
    rw [e]; exact h2
  · intro h1
    refine ⟨true, rfl, fun _ => ?_, fun h => by cases h⟩
    cases e : xop op ρ h with
    | none => rw [e] at h1; exact h1.elim
    | some p => rw [e] at h1; exact ⟨p.1, p.2, rfl, h1⟩

theorem x_mv {x'} : xops P K (⟨d, none, .mv x', st⟩ :: r) ρ h = xthen P K r d st ρ (xop (.mv x') ρ h) := xops_op rfl
theorem x_pick {c' a' b'} : xops P K (⟨d, none, .pick c' a' b', st⟩ :: r) ρ h = xthen P K r d st ρ (xop (.pick c' a' b') ρ h) := xops_op rfl
theorem x_box {x'} : xops P K (⟨d, none, .box x', st⟩ :: r) ρ h = xthen P K r d st ρ (xop (.box x') ρ h) := xops_op rfl
theorem x_alloc {z'} : xops P K (⟨d, none, .alloc z', st⟩ :: r) ρ h = xthen P K r d st ρ (xop (.alloc z') ρ h) := xops_op rfl
theorem x_build {z' ps'} : xops P K (⟨d, none, .build z' ps', st⟩ :: r) ρ h = xthen P K r d st ρ (xop (.build z' ps') ρ h) := xops_op rfl
theorem x_bslice {n' z' ps'} : xops P K (⟨d, none, .bslice n' z' ps', st⟩ :: r) ρ h = xthen P K r d st ρ (xop (.bslice n' z' ps') ρ h) := xops_op rfl
theorem x_load1 {a'} : xops P K (⟨d, none, .load1 a', st⟩ :: r) ρ h = xthen P K r d st ρ (xop (.load1 a') ρ h) := xops_op rfl
theorem x_loadN {n' a'} : xops P K (⟨d, none, .loadN n' a', st⟩ :: r) ρ h = xthen P K r d st ρ (xop (.loadN n' a') ρ h) := xops_op rfl
theorem x_store {n' a' x'} : xops P K (⟨d, none, .store n' a' x', st⟩ :: r) ρ h = xthen P K r d st ρ (xop (.store n' a' x') ρ h) := xops_op rfl
theorem x_nilck {x'} : xops P K (⟨d, none, .nilck x', st⟩ :: r) ρ h = xthen P K r d st ρ (xop (.nilck x') ρ h) := xops_op rfl
theorem x_bin {o' x' y'} : xops P K (⟨d, none, .bin o' x' y', st⟩ :: r) ρ h = xthen P K r d st ρ (xop (.bin o' x' y') ρ h) := xops_op rfl
theorem x_beq {b' x' y'} : xops P K (⟨d, none, .beq b' x' y', st⟩ :: r) ρ h = xthen P K r d st ρ (xop (.beq b' x' y') ρ h) := xops_op rfl
theorem x_isnil {b' s' x'} : xops P K (⟨d, none, .isnil b' s' x', st⟩ :: r) ρ h = xthen P K r d st ρ (xop (.isnil b' s' x') ρ h) := xops_op rfl
theorem x_eqs {b' l' x' y'} : xops P K (⟨d, none, .eqs b' l' x' y', st⟩ :: r) ρ h = xthen P K r d st ρ (xop (.eqs b' l' x' y') ρ h) := xops_op rfl
theorem x_un {o' x'} : xops P K (⟨d, none, .un o' x', st⟩ :: r) ρ h = xthen P K r d st ρ (xop (.un o' x') ρ h) := xops_op rfl
theorem x_conv {k' x'} : xops P K (⟨d, none, .conv k' x', st⟩ :: r) ρ h = xthen P K r d st ρ (xop (.conv k' x') ρ h) := xops_op rfl
theorem x_faddr {n' x'} : xops P K (⟨d, none, .faddr n' x', st⟩ :: r) ρ h = xthen P K r d st ρ (xop (.faddr n' x') ρ h) := xops_op rfl
theorem x_field1 {n' x'} : xops P K (⟨d, none, .field1 n' x', st⟩ :: r) ρ h = xthen P K r d st ρ (xop (.field1 n' x') ρ h) := xops_op rfl
theorem x_fieldN {n' m' x'} : xops P K (⟨d, none, .fieldN n' m' x', st⟩ :: r) ρ h = xthen P K r d st ρ (xop (.fieldN n' m' x') ρ h) := xops_op rfl
theorem x_iaddr {n' x' i'} : xops P K (⟨d, none, .iaddr n' x' i', st⟩ :: r) ρ h = xthen P K r d st ρ (xop (.iaddr n' x' i') ρ h) := xops_op rfl
theorem x_iaddrA {n' m' x' i'} : xops P K (⟨d, none, .iaddrA n' m' x' i', st⟩ :: r) ρ h = xthen P K r d st ρ (xop (.iaddrA n' m' x' i') ρ h) := xops_op rfl
theorem x_idxA1 {n' x' i'} : xops P K (⟨d, none, .idxA1 n' x' i', st⟩ :: r) ρ h = xthen P K r d st ρ (xop (.idxA1 n' x' i') ρ h) := xops_op rfl
theorem x_idxAN {n' m' x' i'} : xops P K (⟨d, none, .idxAN n' m' x' i', st⟩ :: r) ρ h = xthen P K r d st ρ (xop (.idxAN n' m' x' i') ρ h) := xops_op rfl
theorem x_idxS {x' i'} : xops P K (⟨d, none, .idxS x' i', st⟩ :: r) ρ h = xthen P K r d st ρ (xop (.idxS x' i') ρ h) := xops_op rfl
theorem x_slice {n' x' lo' hi' mx'} : xops P K (⟨d, none, .slice n' x' lo' hi' mx', st⟩ :: r) ρ h = xthen P K r d st ρ (xop (.slice n' x' lo' hi' mx') ρ h) := xops_op rfl
theorem x_sliceS {x' lo' hi'} : xops P K (⟨d, none, .sliceS x' lo' hi', st⟩ :: r) ρ h = xthen P K r d st ρ (xop (.sliceS x' lo' hi') ρ h) := xops_op rfl
theorem x_sliceA {n' m' x' lo' hi' mx'} : xops P K (⟨d, none, .sliceA n' m' x' lo' hi' mx', st⟩ :: r) ρ h = xthen P K r d st ρ (xop (.sliceA n' m' x' lo' hi' mx') ρ h) := xops_op rfl
theorem x_len {b' x'} : xops P K (⟨d, none, .len b' x', st⟩ :: r) ρ h = xthen P K r d st ρ (xop (.len b' x') ρ h) := xops_op rfl
theorem x_lenK {n'} : xops P K (⟨d, none, .lenK n', st⟩ :: r) ρ h = xthen P K r d st ρ (xop (.lenK n') ρ h) := xops_op rfl
theorem x_cap {x'} : xops P K (⟨d, none, .cap x', st⟩ :: r) ρ h = xthen P K r d st ρ (xop (.cap x') ρ h) := xops_op rfl
theorem x_mm {b' x' xs'} : xops P K (⟨d, none, .mm b' x' xs', st⟩ :: r) ρ h = xthen P K r d st ρ (xop (.mm b' x' xs') ρ h) := xops_op rfl
theorem x_append {n' m' z' s' x'} : xops P K (⟨d, none, .append n' m' z' s' x', st⟩ :: r) ρ h = xthen P K r d st ρ (xop (.append n' m' z' s' x') ρ h) := xops_op rfl
theorem x_copy {n' d' x'} : xops P K (⟨d, none, .copy n' d' x', st⟩ :: r) ρ h = xthen P K r d st ρ (xop (.copy n' d' x') ρ h) := xops_op rfl
theorem x_mkslice {n' m' z' l' c'} : xops P K (⟨d, none, .mkslice n' m' z' l' c', st⟩ :: r) ρ h = xthen P K r d st ρ (xop (.mkslice n' m' z' l' c') ρ h) := xops_op rfl
theorem x_appz {n' m' z' s' l'} : xops P K (⟨d, none, .appz n' m' z' s' l', st⟩ :: r) ρ h = xthen P K r d st ρ (xop (.appz n' m' z' s' l') ρ h) := xops_op rfl
theorem x_b2s {x'} : xops P K (⟨d, none, .b2s x', st⟩ :: r) ρ h = xthen P K r d st ρ (xop (.b2s x') ρ h) := xops_op rfl
theorem x_s2b {x'} : xops P K (⟨d, none, .s2b x', st⟩ :: r) ρ h = xthen P K r d st ρ (xop (.s2b x') ρ h) := xops_op rfl
theorem x_mark {x'} : xops P K (⟨d, none, .mark x', st⟩ :: r) ρ h = xthen P K r d st ρ (xop (.mark x') ρ h) := xops_op rfl
theorem x_extract {i' x'} : xops P K (⟨d, none, .extract i' x', st⟩ :: r) ρ h = xthen P K r d st ρ (xop (.extract i' x') ρ h) := xops_op rfl
theorem x_mkfunc {fn' f' c'} : xops P K (⟨d, none, .mkfunc fn' f' c', st⟩ :: r) ρ h = xthen P K r d st ρ (xop (.mkfunc fn' f' c') ρ h) := xops_op rfl

theorem xops_g {op : XOp} : xops P K (⟨d, some g, op, st⟩ :: r) ρ h = xgrd P K ⟨d, none, op, st⟩ r ρ h (guardv ρ (some g)) := by
  apply propext
  rw [xops_cons]
  cases e : guardv ρ (some g) with
  | none => simp [xgrd]
  | some b =>
    cases b
    · simp [xgrd]
    · simp only [Option.some.injEq, xgrd]
      rw [xops_cons]
      simp [guardv]

theorem xops_call {f : XA} {as : List XA} {f' : FuncId} {first cap vs : List Value} {fv : Value} (h1 : ev ρ f = some fv) (h2 : callee? fv = some (f', first, cap)) (h3 : evs ρ as = some vs)
    (h4 : Valid P f' (first ++ vs ++ cap) h fun v h' => stab ρ h' st ∧ xops P K r (put d v ρ) h') : xops P K (⟨d, none, .call f as, st⟩ :: r) ρ h :=
  ⟨true, rfl, fun _ => ⟨fv, vs, f', first, cap, h1, h3, h2, h4⟩, fun h => by cases h⟩

def gdT : Option Value → Option Bool
  | some (.bool b) => some b
  | some _ => some false
  | none => none
def gdF : Option Value → Option Bool
  | some (.bool b) => some (!b)
  | some _ => some false
  | none => none
theorem guardv_none : guardv ρ none = some true := rfl
theorem guardv_t {j : Nat} : guardv ρ (some (j, true)) = gdT (get ρ j) := by
  simp only [guardv]
  generalize get ρ j = o
  rcases o with _ | v
  · rfl
  · cases v <;> simp [gdT]
theorem guardv_f {j : Nat} : guardv ρ (some (j, false)) = gdF (get ρ j) := by
  simp only [guardv]
  generalize get ρ j = o
  rcases o with _ | v
  · rfl
  · cases v <;> simp [gdF]
theorem gdT_bool {b : Bool} : gdT (some (.bool b)) = some b := rfl
theorem gdF_bool {b : Bool} : gdF (some (.bool b)) = some (!b) := rfl
theorem gdT_undef : gdT (some undef) = some false := rfl
theorem gdF_undef : gdF (some undef) = some false := rfl

/-- a call, by a triple of the callee -/
theorem xcall {f : XA} {as : List XA} {f' : FuncId} {first cap vs args : List Value} {fv : Value} {Q : Value → AHeap → Prop} (v : Valid P f' args h Q) (h1 : ev ρ f = some fv) (h2 : callee? fv = some (f', first, cap)) (h3 : evs ρ as = some vs) (h4 : first ++ vs ++ cap = args)
    (k : ∀ v h', Q v h' → stab ρ h' st ∧ xops P K r (put d v ρ) h') : xops P K (⟨d, none, .call f as, st⟩ :: r) ρ h :=
  xops_call h1 h2 h3 (h4 ▸ v.mono k)

theorem set_same {h : AHeap} {X : Nat} {x : Option AObj} (hX : h[X]? = some x) : ∀ o : Option AObj, (h.set X o)[X]? = some o := by
  intro o
  have := (List.getElem?_eq_some_iff.1 hX).1
  simp [this]
theorem set_ne {h : AHeap} {X Y : Nat} (hne : X ≠ Y) : ∀ o : Option AObj, (h.set X o)[Y]? = h[Y]? := fun o => List.getElem?_set_ne hne
/-- an old object behind new ones -/
theorem app_old {h t : AHeap} {X : Nat} {x : Option AObj} (hX : h[X]? = some x) : (h ++ t)[X]? = some x := by
  rw [List.getElem?_append_left (List.getElem?_eq_some_iff.1 hX).1]; exact hX
theorem app_set {h t : AHeap} {X : Nat} {x : Option AObj} (hX : h[X]? = some x) : ∀ o : Option AObj, (h ++ t).set X o = h.set X o ++ t := fun o => List.set_append_left _ _ (List.getElem?_eq_some_iff.1 hX).1
theorem app_new {h t : AHeap} (i : Nat) : (h ++ t)[h.length + i]? = t[i]? := by rw [List.getElem?_append_right (by omega)]; congr 1; omega
theorem app_new0 {h t : AHeap} : (h ++ t)[h.length]? = t[0]? := by rw [List.getElem?_append_right (by omega)]; congr 1; omega

theorem set_new {h t : AHeap} (i : Nat) (x : Option AObj) : (h ++ t).set (h.length + i) x = h ++ t.set i x := by rw [List.set_append_right _ _ (by omega)]; congr 2; omega
theorem set_new0 {h t : AHeap} (x : Option AObj) : (h ++ t).set h.length x = h ++ t.set 0 x := by rw [List.set_append_right _ _ (by omega)]; congr 2; omega
theorem app_newS {h t : AHeap} {X : Nat} {o : Option AObj} (i : Nat) : (h.set X o ++ t)[h.length + i]? = t[i]? := by rw [List.getElem?_append_right (by simp)]; congr 1; simp
theorem app_new0S {h t : AHeap} {X : Nat} {o : Option AObj} : (h.set X o ++ t)[h.length]? = t[0]? := by rw [List.getElem?_append_right (by simp)]; congr 1; simp
theorem set_newS {h t : AHeap} {X : Nat} {o : Option AObj} (i : Nat) (x : Option AObj) : (h.set X o ++ t).set (h.length + i) x = h.set X o ++ t.set i x := by rw [List.set_append_right _ _ (by simp)]; congr 2; simp
theorem set_new0S {h t : AHeap} {X : Nat} {o : Option AObj} (x : Option AObj) : (h.set X o ++ t).set h.length x = h.set X o ++ t.set 0 x := by rw [List.set_append_right _ _ (by simp)]; congr 2; simp
theorem cellsAt_app {h t : AHeap} {A : Nat} {l : List Value} (hl : cellsAt h A = some l) : cellsAt (h ++ t) A = some l := by
  unfold cellsAt at hl ⊢
  split at hl
  · rename_i o ho; rw [app_old ho]; exact hl
  · cases hl
theorem firstV_app {k n : Nat} {h t : AHeap} {v : Value} {rows : List Value} (hf : firstV k h n v = some rows) : firstV k (h ++ t) n v = some rows := by
  cases v with
  | slice q l c =>
    cases q with
    | none => exact hf
    | some a =>
      simp only [firstV] at hf ⊢
      split at hf
      · rename_i h0; rw [if_pos h0]; exact hf
      · rename_i h0
        rw [if_neg h0]
        split at hf
        · cases hf
        · rename_i h1
          rw [if_neg h1]
          obtain ⟨cs, h2, h3⟩ := Option.bind_eq_some_iff.1 hf
          rw [cellsAt_app h2]; exact h3
  | string s => exact hf
  | _ => exact hf
theorem firstV_set {k n : Nat} {h : AHeap} {v : Value} {X : Nat} {o : Option AObj} (hne : ∀ ad l c, v = .slice (some ad) l c → X ≠ ad.block) : firstV k (h.set X o) n v = firstV k h n v := by
  cases v with
  | slice q l c =>
    cases q with
    | none => rfl
    | some a => simp only [firstV, cellsAt, set_ne (hne a l c rfl)]
  | _ => rfl
theorem firstV_len {k n : Nat} {h : AHeap} {a : Option Addr} {l c : Nat} {rows : List Value} (hf : firstV k h n (.slice a l c) = some rows) : rows.length = n * k := by
  cases a with
  | none =>
    simp only [firstV] at hf
    split at hf
    · rename_i h0; subst h0; cases hf; simp
    · cases hf
  | some a =>
    simp only [firstV] at hf
    split at hf
    · rename_i h0; subst h0; cases hf; simp
    · split at hf
      · cases hf
      · obtain ⟨cs, h2, h3⟩ := Option.bind_eq_some_iff.1 hf
        exact getN_len h3
theorem getN_all (l : List Value) : ∀ n, n = l.length → getN l 0 n = some l := by
  intro n hn
  rw [getN_eq]
  refine ⟨by split <;> omega, ?_⟩
  subst hn; simp

/-- a slice of the call's own, as long as its room -/
def Own (h0 h : AHeap) (v : Value) (k : Nat) (rows : List Value) : Prop :=
  (v = .slice none 0 0 ∧ rows = []) ∨ ∃ B n, v = .slice (some ⟨B, 0, none⟩) n n ∧ h0.length ≤ B ∧ rows.length = n * k ∧ n < unk ∧ (n ≠ 0 → h[B]? = some (some ⟨true, rows⟩))

theorem Own.shape {h0 h : AHeap} {v : Value} {k : Nat} {rows : List Value} (o : Own h0 h v k rows) : ∃ q n, v = .slice q n n := by
  rcases o with ⟨rfl, _⟩ | ⟨B, n, rfl, _⟩
  · exact ⟨_, _, rfl⟩
  · exact ⟨_, _, rfl⟩
/-- what is owned is owned still where its block is as it was -/
theorem Own.keep {h0 h h2 g0 : AHeap} {v : Value} {k : Nat} {rows : List Value} (o : Own h0 h v k rows) (hl : g0.length ≤ h0.length) (hk : ∀ B x, h0.length ≤ B → h[B]? = some x → h2[B]? = some x) : Own g0 h2 v k rows := by
  rcases o with h1 | ⟨B, n, h1, h2, h3, h4, h5⟩
  · exact .inl h1
  · exact .inr ⟨B, n, h1, Nat.le_trans hl h2, h3, h4, fun hn => hk B _ h2 (h5 hn)⟩
theorem tail_get {h u u' J : AHeap} (hl : u.length = u'.length) {B : Nat} (hB : (h ++ u).length ≤ B) : (h ++ (u' ++ J))[B]? = (h ++ u ++ J)[B]? := by
  simp only [List.length_append] at hB
  rw [List.getElem?_append_right (by omega), List.getElem?_append_right (by omega), List.append_assoc, List.getElem?_append_right (by omega), List.getElem?_append_right (by omega), hl]
theorem clone_run {P : Program} {k by_ : Nat} {z : List Value} (hz : z.length = k) (hk : 0 < k) {K : Env → AHeap → Prop} {r : List XOper} {ρ : Env} {h : AHeap} {a : Option Addr} {n c : Nat} {rows : List Value} {d : Option Nat} {s x : XA}
    (hs : ev ρ s = some (.slice (some ⟨h.length, 0, none⟩) 0 0)) (hx : ev ρ x = some (.slice a n c)) (hf : firstV k h n (.slice a n c) = some rows) (hb : n * by_ ≤ 140737488355328) (hn : n ≤ 9223372036854775807)
    (hK : ∀ J v, (n = 0 ∧ J = [some ⟨true, []⟩] ∧ v = .slice (some ⟨h.length, 0, none⟩) 0 0) ∨ (n ≠ 0 ∧ J = [some ⟨true, []⟩, some ⟨true, rows⟩] ∧ v = .slice (some ⟨h.length + 1, 0, none⟩) n (unk + k)) → xops P K r (put d v ρ) (h ++ J)) :
    xops P K (⟨d, none, .append k by_ z s x, []⟩ :: r) ρ (h ++ [some ⟨true, []⟩]) := by
  rw [x_append]
  have hf2 := firstV_app (t := [some ⟨true, []⟩]) hf
  have hu : ¬ unk ≤ 0 := by decide
  simp only [xop, hs, hx, Option.bind_some, lenV, hf2, hz, hk, and_self, if_true, appendV]
  by_cases h0 : n = 0
  · subst h0
    simp only [ne_eq, not_true_eq_false, if_false, if_true, Nat.le_refl, xthen_some, stab, true_and]
    exact hK _ _ (.inl ⟨rfl, rfl, rfl⟩)
  · simp only [ne_eq, not_true_eq_false, if_false, h0, Nat.zero_add, hu]
    rw [if_neg (by omega), if_neg (by omega)]
    simp only [xthen_some, stab, true_and, List.append_assoc, List.length_append, List.length_cons, List.length_nil, Nat.zero_add, List.cons_append, List.nil_append]
    exact hK _ _ (.inr ⟨h0, rfl, rfl⟩)

/-- a slice that is appended to, and no other looks at its array -/
def Ret (k : Nat) (h : AHeap) (sl : Value) (n : Nat) (rows : List Value) : Prop := rows.length = n * k ∧
  ((sl = .slice none 0 0 ∧ n = 0) ∨ (∃ A, sl = .slice (some ⟨A, 0, none⟩) 0 0 ∧ n = 0) ∨ ∃ A, sl = .slice (some ⟨A, 0, none⟩) n (unk + k) ∧ h[A]? = some (some ⟨true, rows⟩))
def slB : Value → Option Nat
  | .slice (some a) _ _ => some a.block
  | _ => none
theorem Ret.shape {k n : Nat} {h : AHeap} {sl : Value} {rows : List Value} (r : Ret k h sl n rows) : ∃ q c, sl = .slice q n c ∧ ∀ a, q = some a → a.spot = none ∧ a.off = 0 := by
  rcases r with ⟨_, ⟨rfl, rfl⟩ | ⟨A, rfl, rfl⟩ | ⟨A, rfl, _⟩⟩
  · exact ⟨_, _, rfl, fun a h => by cases h⟩
  · exact ⟨_, _, rfl, fun a h => by cases h; exact ⟨rfl, rfl⟩⟩
  · exact ⟨_, _, rfl, fun a h => by cases h; exact ⟨rfl, rfl⟩⟩
theorem Ret.keep {k n : Nat} {h h' : AHeap} {sl : Value} {rows : List Value} (r : Ret k h sl n rows) (hk : ∀ A x, slB sl = some A → h[A]? = some x → h'[A]? = some x) : Ret k h' sl n rows := by
  rcases r with ⟨h1, h2 | h2 | ⟨A, rfl, h3⟩⟩
  · exact ⟨h1, .inl h2⟩
  · exact ⟨h1, .inr (.inl h2)⟩
  · exact ⟨h1, .inr (.inr ⟨A, rfl, hk A _ rfl h3⟩)⟩
theorem Ret.first {k n : Nat} {h : AHeap} {sl : Value} {rows : List Value} (r : Ret k h sl n rows) : firstV k h n sl = some rows := by
  rcases r with ⟨h1, ⟨rfl, rfl⟩ | ⟨A, rfl, rfl⟩ | ⟨A, rfl, h3⟩⟩
  · have : rows = [] := List.eq_nil_of_length_eq_zero (by simpa using h1)
    subst this; simp [firstV]
  · have : rows = [] := List.eq_nil_of_length_eq_zero (by simpa using h1)
    subst this; simp [firstV]
  · simp only [firstV]
    split
    · rename_i h0; subst h0
      have : rows = [] := List.eq_nil_of_length_eq_zero (by simpa using h1)
      rw [this]
    · simp only [ne_eq, not_true_eq_false, if_false, cellsAt, h3, Option.bind_some]
      exact getN_all _ _ h1.symm

theorem push_run {P : Program} {k by_ : Nat} {z : List Value} (hz : z.length = k) (hk : 0 < k) {K : Env → AHeap → Prop} {r : List XOper} {ρ : Env} {h : AHeap} {n C m : Nat} {rows news : List Value} {d : Option Nat} {s x : XA} {sl : Value}
    (hs : ev ρ s = some sl) (hx : ev ρ x = some (.slice (some ⟨C, 0, none⟩) m m)) (hC : h[C]? = some (some ⟨true, news⟩)) (hm : 0 < m) (hnl : news.length = m * k) (h1 : news.all oneC = true) (hR : Ret k h sl n rows) (hb : (n + m) * by_ ≤ 140737488355328) (hn : n + m ≤ 9223372036854775807)
    (hK : ∀ h' A', h.length ≤ A' → h'[A']? = some (some ⟨true, rows ++ news⟩) → h'.length = h.length + 1 → (∀ B, B < h.length → slB sl ≠ some B → h'[B]? = h[B]?) → xops P K r (put d (.slice (some ⟨A', 0, none⟩) (n + m) (unk + k)) ρ) h') :
    xops P K (⟨d, none, .append k by_ z s x, []⟩ :: r) ρ h := by
  have hu : ¬ unk ≤ 0 := by decide
  have hfirst : firstV k h m (.slice (some ⟨C, 0, none⟩) m m) = some news := by
    simp only [firstV]
    rw [if_neg (by omega)]
    simp only [ne_eq, not_true_eq_false, if_false, cellsAt, hC, Option.bind_some]
    exact getN_all _ _ hnl.symm
  rw [x_append]
  simp only [xop, hs, hx, Option.bind_some, lenV, hfirst, hz, hk, and_self, if_true]
  have new0 : ∀ (h : AHeap) (o : Option AObj), (h ++ [o])[h.length]? = some o := fun h o => by simp
  have old0 : ∀ (h : AHeap) (o : Option AObj) (B : Nat), B < h.length → (h ++ [o])[B]? = h[B]? := fun h o B hB => by rw [List.getElem?_append_left hB]
  rcases hR with ⟨hl, ⟨rfl, rfl⟩ | ⟨A, rfl, rfl⟩ | ⟨A, rfl, hA⟩⟩
  · have hr0 : rows = [] := List.eq_nil_of_length_eq_zero (by simpa using hl)
    subst hr0
    simp only [appendV, and_self, if_true]
    rw [if_neg (by omega), if_pos ⟨by simpa using hb, by omega⟩]
    simp only [xthen_some, stab, true_and]
    have := hK (h ++ [some ⟨true, news⟩]) h.length (Nat.le_refl _) (new0 h _) (by simp) (fun B hB _ => old0 h _ B hB)
    simpa using this
  · have hr0 : rows = [] := List.eq_nil_of_length_eq_zero (by simpa using hl)
    subst hr0
    simp only [appendV, ne_eq, not_true_eq_false, if_false, hu]
    rw [if_neg (by omega), if_neg (by omega), if_neg (by omega), if_pos trivial]
    simp only [xthen_some, stab, true_and]
    have := hK (h ++ [some ⟨true, news⟩]) h.length (Nat.le_refl _) (new0 h _) (by simp) (fun B hB _ => old0 h _ B hB)
    simpa using this
  · simp only [appendV, ne_eq, not_true_eq_false, if_false]
    rw [if_neg (by omega), if_neg (by omega), if_pos (by omega), if_pos trivial]
    simp only [hA, h1, and_self, if_true]
    rw [getN_all rows _ hl.symm]
    simp only [Option.bind_some, xthen_some, stab, true_and]
    refine hK (h.set A none ++ [some ⟨true, rows ++ news⟩]) h.length (Nat.le_refl _) ?_ (by simp) (fun B hB hne => ?_)
    · simp
    · rw [old0 _ _ B (by simpa using hB), set_ne (fun e => hne (by simp [slB, e]))]

section
variable {k : IntKind} {a b : Int} {x y : Bool} {s t : ByteArray}
theorem abin_add : abin .add (.int k a) (.int k b) = some (.int k (k.wrap (a + b))) := by simp [abin, binOp, Op.intArith, semVal, pure]
theorem abin_sub : abin .sub (.int k a) (.int k b) = some (.int k (k.wrap (a - b))) := by simp [abin, binOp, Op.intArith, semVal, pure]
theorem abin_mul : abin .mul (.int k a) (.int k b) = some (.int k (k.wrap (a * b))) := by simp [abin, binOp, Op.intArith, semVal, pure]
theorem abin_eql : abin .eql (.int k a) (.int k b) = some (.bool (decide (a = b))) := by simp [abin, binOp, Op.intCmp, semVal, pure]; exact Bool.beq_eq_decide_eq _ _
theorem abin_neq : abin .neq (.int k a) (.int k b) = some (.bool (decide (a ≠ b))) := by simp [abin, binOp, Op.intCmp, semVal, pure]; rfl
theorem abin_lss : abin .lss (.int k a) (.int k b) = some (.bool (decide (a < b))) := by simp [abin, binOp, Op.intCmp, semVal, pure]
theorem abin_leq : abin .leq (.int k a) (.int k b) = some (.bool (decide (a ≤ b))) := by simp [abin, binOp, Op.intCmp, semVal, pure]
theorem abin_gtr : abin .gtr (.int k a) (.int k b) = some (.bool (decide (b < a))) := by simp [abin, binOp, Op.intCmp, semVal, pure]
theorem abin_geq : abin .geq (.int k a) (.int k b) = some (.bool (decide (b ≤ a))) := by simp [abin, binOp, Op.intCmp, semVal, pure]
theorem abin_quo : abin .quo (.int k a) (.int k b) = if b = 0 then none else some (.int k (k.wrap (a.tdiv b))) := by
  by_cases h : b = 0 <;> simp [abin, binOp, Op.intDiv, semVal, pure, h, runtimePanic, bind, Sem.bind, program]
theorem abin_rem : abin .rem (.int k a) (.int k b) = if b = 0 then none else some (.int k (a.tmod b)) := by
  by_cases h : b = 0 <;> simp [abin, binOp, Op.intDiv, semVal, pure, h, runtimePanic, bind, Sem.bind, program]
theorem abin_shl {k' : IntKind} : abin .shl (.int k a) (.int k' b) = if b < 0 then none else some (.int k (k.wrap (a * 2 ^ min b.toNat k.bits))) := by
  by_cases h : b < 0 <;> simp [abin, binOp, Op.shift, semVal, pure, h, runtimePanic, bind, Sem.bind, program]
theorem abin_shr {k' : IntKind} : abin .shr (.int k a) (.int k' b) = if b < 0 then none else some (.int k (a.fdiv (2 ^ min b.toNat k.bits))) := by
  by_cases h : b < 0 <;> simp [abin, binOp, Op.shift, semVal, pure, h, runtimePanic, bind, Sem.bind, program]
theorem abin_seql : abin .eql (.string s) (.string t) = some (.bool (s.toList == t.toList)) := by simp [abin, binOp, Op.stringOp, semVal, pure]
theorem abin_sneq : abin .neq (.string s) (.string t) = some (.bool (!(s.toList == t.toList))) := by simp [abin, binOp, Op.stringOp, semVal, pure]
theorem aun_not : aun .not (.bool x) = some (.bool !x) := by simp [aun, Op.unary, semVal, pure]
theorem aun_neg : aun .neg (.int k a) = some (.int k (k.wrap (0 - a))) := by simp [aun, Op.unary, Op.intArith, semVal, pure]
end
end
/-- the rewriting rules that run the small language, in one -/
theorem sx : type_of% (And.intro (And.intro (And.intro (And.intro (And.intro (And.intro (And.intro @x_mv @x_pick) (And.intro @x_build @x_load1)) (And.intro (And.intro @x_loadN @x_store) (And.intro @x_nilck @x_bin))) (And.intro (And.intro (And.intro @x_beq @x_isnil) (And.intro @x_eqs @x_un)) (And.intro (And.intro @x_conv @x_faddr) (And.intro @x_field1 @x_fieldN)))) (And.intro (And.intro (And.intro (And.intro @x_iaddr @x_iaddrA) (And.intro @x_idxA1 @x_idxAN)) (And.intro (And.intro @x_idxS @x_sliceS) (And.intro @x_sliceA @x_len))) (And.intro (And.intro (And.intro @x_lenK @x_cap) (And.intro @x_mm @x_copy)) (And.intro @x_mkslice (And.intro @x_extract (And.intro @x_mkfunc @xcode_skip)))))) (And.intro (And.intro (And.intro (And.intro (And.intro @xcode_region @xcode_seq) (And.intro @xcode_cond @xcode_block)) (And.intro (And.intro @xcode_scope @xcode_exit) (And.intro @xcode_ret @xcode_both))) (And.intro (And.intro (And.intro @kSeq_normal @kSeq_ret) (And.intro @kSeq_exit @kBlock_normal)) (And.intro (And.intro @kBlock_ret @kBlock_exit) (And.intro @kScope_normal @kScope_ret)))) (And.intro (And.intro (And.intro (And.intro @kScope_exit @kLoop_normal) (And.intro @kLoop_ret @kLoop_exit)) (And.intro (And.intro @xcond_true @xcond_false) (And.intro @xthen_some @xthen_none))) (And.intro (And.intro (And.intro @xgrd_true @xgrd_false) (And.intro @xops_g @xops_nil)) (And.intro (And.intro @Option.map_some.{0,0} @Option.map_none.{0,0}) (And.intro @guardv_none (And.intro @guardv_t @guardv_f))))))) (And.intro (And.intro (And.intro (And.intro (And.intro (And.intro @gdT_bool @gdF_bool) (And.intro @gdT_undef @gdF_undef)) (And.intro (And.intro @true_and @and_true) (And.intro @Option.bind_some.{0,0} @Option.bind_none.{0,0}))) (And.intro (And.intro (And.intro @Bool.false_eq_true @Option.isNone_some.{0}) (And.intro @Option.isNone_none.{0} @Option.isSome_some.{0})) (And.intro (And.intro @Option.isSome_none.{0} @not_true_eq_false) (And.intro @not_false_eq_true @List.getElem?_cons_zero.{0})))) (And.intro (And.intro (And.intro (And.intro @List.getElem?_cons_succ.{0} @Nat.zero_add) (And.intro @Nat.add_zero @Bool.not_true)) (And.intro (And.intro @Bool.not_false @abin_add) (And.intro @abin_sub @abin_mul))) (And.intro (And.intro (And.intro @abin_eql @abin_neq) (And.intro @abin_lss @abin_leq)) (And.intro (And.intro @abin_gtr @abin_geq) (And.intro @abin_quo (And.intro @abin_rem @abin_seql)))))) (And.intro (And.intro (And.intro (And.intro (And.intro @abin_sneq @aun_not) (And.intro @aun_neg @List.length_cons.{0})) (And.intro (And.intro @List.length_nil.{0} @List.all_cons.{0}) (And.intro @List.all_nil.{0} @Bool.and_self))) (And.intro (And.intro (And.intro @List.set_cons_zero.{0} @List.set_cons_succ.{0}) (And.intro @and_self @Value.bool.injEq)) (And.intro (And.intro @Option.some.injEq.{0} @false_implies) (And.intro @true_implies @Bool.true_eq_false)))) (And.intro (And.intro (And.intro (And.intro @set_new @set_new0) (And.intro @List.cons_append.{0} @List.nil_append.{0})) (And.intro (And.intro @List.length_append.{0} @decide_true) (And.intro @decide_false @Option.bind_eq_bind.{0}))) (And.intro (And.intro (And.intro @Option.pure_def.{0} @app_newS) (And.intro @app_new0S @set_newS)) (And.intro (And.intro @set_new0S @List.length_set.{0}) (And.intro @Int.cast_ofNat_Int (And.intro @Nat.min_eq_left @Int.toNat_natCast)))))))) := (And.intro (And.intro (And.intro (And.intro (And.intro (And.intro (And.intro @x_mv @x_pick) (And.intro @x_build @x_load1)) (And.intro (And.intro @x_loadN @x_store) (And.intro @x_nilck @x_bin))) (And.intro (And.intro (And.intro @x_beq @x_isnil) (And.intro @x_eqs @x_un)) (And.intro (And.intro @x_conv @x_faddr) (And.intro @x_field1 @x_fieldN)))) (And.intro (And.intro (And.intro (And.intro @x_iaddr @x_iaddrA) (And.intro @x_idxA1 @x_idxAN)) (And.intro (And.intro @x_idxS @x_sliceS) (And.intro @x_sliceA @x_len))) (And.intro (And.intro (And.intro @x_lenK @x_cap) (And.intro @x_mm @x_copy)) (And.intro @x_mkslice (And.intro @x_extract (And.intro @x_mkfunc @xcode_skip)))))) (And.intro (And.intro (And.intro (And.intro (And.intro @xcode_region @xcode_seq) (And.intro @xcode_cond @xcode_block)) (And.intro (And.intro @xcode_scope @xcode_exit) (And.intro @xcode_ret @xcode_both))) (And.intro (And.intro (And.intro @kSeq_normal @kSeq_ret) (And.intro @kSeq_exit @kBlock_normal)) (And.intro (And.intro @kBlock_ret @kBlock_exit) (And.intro @kScope_normal @kScope_ret)))) (And.intro (And.intro (And.intro (And.intro @kScope_exit @kLoop_normal) (And.intro @kLoop_ret @kLoop_exit)) (And.intro (And.intro @xcond_true @xcond_false) (And.intro @xthen_some @xthen_none))) (And.intro (And.intro (And.intro @xgrd_true @xgrd_false) (And.intro @xops_g @xops_nil)) (And.intro (And.intro @Option.map_some.{0,0} @Option.map_none.{0,0}) (And.intro @guardv_none (And.intro @guardv_t @guardv_f))))))) (And.intro (And.intro (And.intro (And.intro (And.intro (And.intro @gdT_bool @gdF_bool) (And.intro @gdT_undef @gdF_undef)) (And.intro (And.intro @true_and @and_true) (And.intro @Option.bind_some.{0,0} @Option.bind_none.{0,0}))) (And.intro (And.intro (And.intro @Bool.false_eq_true @Option.isNone_some.{0}) (And.intro @Option.isNone_none.{0} @Option.isSome_some.{0})) (And.intro (And.intro @Option.isSome_none.{0} @not_true_eq_false) (And.intro @not_false_eq_true @List.getElem?_cons_zero.{0})))) (And.intro (And.intro (And.intro (And.intro @List.getElem?_cons_succ.{0} @Nat.zero_add) (And.intro @Nat.add_zero @Bool.not_true)) (And.intro (And.intro @Bool.not_false @abin_add) (And.intro @abin_sub @abin_mul))) (And.intro (And.intro (And.intro @abin_eql @abin_neq) (And.intro @abin_lss @abin_leq)) (And.intro (And.intro @abin_gtr @abin_geq) (And.intro @abin_quo (And.intro @abin_rem @abin_seql)))))) (And.intro (And.intro (And.intro (And.intro (And.intro @abin_sneq @aun_not) (And.intro @aun_neg @List.length_cons.{0})) (And.intro (And.intro @List.length_nil.{0} @List.all_cons.{0}) (And.intro @List.all_nil.{0} @Bool.and_self))) (And.intro (And.intro (And.intro @List.set_cons_zero.{0} @List.set_cons_succ.{0}) (And.intro @and_self @Value.bool.injEq)) (And.intro (And.intro @Option.some.injEq.{0} @false_implies) (And.intro @true_implies @Bool.true_eq_false)))) (And.intro (And.intro (And.intro (And.intro @set_new @set_new0) (And.intro @List.cons_append.{0} @List.nil_append.{0})) (And.intro (And.intro @List.length_append.{0} @decide_true) (And.intro @decide_false @Option.bind_eq_bind.{0}))) (And.intro (And.intro (And.intro @Option.pure_def.{0} @app_newS) (And.intro @app_new0S @set_newS)) (And.intro (And.intro @set_new0S @List.length_set.{0}) (And.intro @Int.cast_ofNat_Int (And.intro @Nat.min_eq_left @Int.toNat_natCast))))))))
end Go.Ai
