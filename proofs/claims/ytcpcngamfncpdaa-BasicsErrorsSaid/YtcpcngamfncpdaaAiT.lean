/- Running closed code by reckoning alone. Generic. -/
import Derived.Test.YtcpcngamfncpdaaAiS
set_option linter.unusedVariables false
namespace Go.Ai

def leafB : Value → Value → Bool
  | .bool a, .bool b => a == b
  | .int k a, .int k' b => k == k' && a == b
  | .string a, .string b => a.toList == b.toList
  | .pointer a, .pointer b => a == b
  | .slice a l c, .slice b l' c' => a == b && l == l' && c == c'
  | .nilFunc, .nilFunc => true
  | _, _ => false
theorem leafB_eq {a b : Value} (h : leafB a b = true) : a = b := by
  cases a <;> cases b <;> simp [leafB] at h
  · rw [h]
  · rw [h.1, h.2]
  · rename_i s t
    have : s.toList = t.toList := h
    rw [ByteArray.toList_eq, ByteArray.toList_eq] at this
    obtain ⟨⟨x⟩⟩ := s; obtain ⟨⟨y⟩⟩ := t
    simp at this; rw [this]
  · rw [h]
  · obtain ⟨⟨h1, h2⟩, h3⟩ := h; rw [h1, h2, h3]
  · rfl
def leafsB : List Value → List Value → Bool
  | [], [] => true
  | a :: r, b :: s => leafB a b && leafsB r s
  | _, _ => false
theorem leafsB_eq : ∀ {l m : List Value}, leafsB l m = true → l = m
  | [], [], _ => rfl
  | a :: r, b :: s, h => by
    simp only [leafsB, Bool.and_eq_true] at h
    rw [leafB_eq h.1, leafsB_eq h.2]
  | [], _ :: _, h => by simp [leafsB] at h
  | _ :: _, [], h => by simp [leafsB] at h
def valB (a b : Value) : Bool :=
  match a, b with
  | .agg c, .agg c' => leafsB c.toList c'.toList
  | a, b => leafB a b
theorem valB_eq {a b : Value} (h : valB a b = true) : a = b := by
  unfold valB at h
  split at h
  · have := leafsB_eq h
    rw [Array.toList_inj.1 this]
  · exact leafB_eq h

/-- an environment without old entries -/
def upd (d : Option Nat) (v : Value) (ρ : Env) : Env :=
  match d with
  | some j => (j, v) :: ρ.filter fun p => !Nat.beq p.1 j
  | none => ρ
theorem get_filter (j i : Nat) (hne : j ≠ i) : ∀ ρ : Env, get (ρ.filter fun p => !Nat.beq p.1 j) i = get ρ i
  | [] => rfl
  | (k, v) :: r => by
    simp only [List.filter_cons]
    by_cases h : k = j
    · subst h
      have : Nat.beq k k = true := by simp
      rw [if_neg (by simp), get_filter k i hne r]
      simp [get, hne]
    · have hb : Nat.beq k j = false := by
        cases hq : Nat.beq k j with
        | false => rfl
        | true => exact absurd (Nat.eq_of_beq_eq_true hq) h
      rw [if_pos (by simp [hb])]
      simp only [get, get_filter j i hne r]
theorem get_upd {d : Option Nat} {v : Value} {ρ : Env} (i : Nat) : get (upd d v ρ) i = get (put d v ρ) i := by
  cases d with
  | none => rfl
  | some j =>
    simp only [upd, put, get]
    split
    · rfl
    · rename_i h; exact get_filter j i h ρ

abbrev Orc := FuncId → List Value → AHeap → Option (Value × AHeap)

def stabB (ρ : Env) (h : AHeap) : List (Nat × Option (Nat × Bool) × XOp) → Bool
  | [] => true
  | (d, g, op) :: r => (match guardv ρ g with
      | some true => (match get ρ d, xop op ρ h with | some v, some (v', _) => valB v v' && !op.eff | _, _ => false)
      | some false => true
      | none => true) && stabB ρ h r

def opsRun (C : Orc) : List XOper → Env → AHeap → Option (Env × AHeap)
  | [], ρ, h => some (ρ, h)
  | o :: r, ρ, h =>
    match guardv ρ o.g with
    | none => none
    | some false => opsRun C r (upd o.d undef ρ) h
    | some true =>
      match o.op with
      | .call f as =>
        match ev ρ f, evs ρ as with
        | some fv, some vs =>
          match callee? fv with
          | some (g, fi, ca) =>
            match C g (fi ++ vs ++ ca) h with
            | some (v, h') => if stabB ρ h' o.st = true then opsRun C r (upd o.d v ρ) h' else none
            | none => none
          | none => none
        | _, _ => none
      | op =>
        match xop op ρ h with
        | some (v, h') => if stabB ρ h' o.st = true then opsRun C r (upd o.d v ρ) h' else none
        | none => none

def loopRun (f : Env → AHeap → Option (Exit × Env × AHeap)) : Nat → Env → AHeap → Option (Exit × Env × AHeap)
  | 0, _, _ => none
  | n + 1, ρ, h =>
    match f ρ h with
    | some (.normal, ρ', h') => loopRun f n ρ' h'
    | x => x

def codeRun (C : Orc) (n : Nat) : XCode → Env → AHeap → Option (Exit × Env × AHeap)
  | .skip, ρ, h => some (.normal, ρ, h)
  | .region ops, ρ, h => match opsRun C ops ρ h with | some (ρ', h') => some (.normal, ρ', h') | none => none
  | .seq a b, ρ, h => match codeRun C n a ρ h with
    | some (.normal, ρ', h') => codeRun C n b ρ' h'
    | x => x
  | .cond c a b, ρ, h => match ev ρ c with
    | some (.bool true) => codeRun C n a ρ h
    | some (.bool false) => codeRun C n b ρ h
    | _ => none
  | .block id b, ρ, h => match codeRun C n b ρ h with
    | some (.exit i, ρ', h') => if i = id then some (.normal, ρ', h') else some (.exit i, ρ', h')
    | x => x
  | .loop b, ρ, h => loopRun (codeRun C n b) n ρ h
  | .scope b, ρ, h => match codeRun C n b ρ h with
    | some (.goto _, _, _) => none
    | x => x
  | .exit id, ρ, h => some (.exit id, ρ, h)
  | .ret, ρ, h => some (.ret, ρ, h)
  | .both _ _, _, _ => none
  | .bad, _, _ => none

abbrev Tab := FuncId → Option (XCode × List XRes × Nat)

def funRun (T : Tab) : Nat → Orc
  | 0, _, _, _ => none
  | n + 1, f, args, h =>
    match T f with
    | some (x, rs, nt) =>
      if args.length ≤ nt then
        match codeRun (funRun T n) (n + 1) x (argEnv 0 args) h with
        | some (.normal, ρ, h') => match xresL ρ h' rs with | some vs => some (tup vs, h') | none => none
        | some (.ret, ρ, h') => match xresL ρ h' rs with | some vs => some (tup vs, h') | none => none
        | _ => none
      else none
    | none => none

def SameEnv (ρ ρ' : Env) : Prop := ∀ i, get ρ i = get ρ' i

section
variable {P : Program}

/-- an oracle that tells the truth -/
def Sure (P : Program) (C : Orc) : Prop := ∀ f args h r h', C f args h = some (r, h') → Valid P f args h fun v h2 => v = r ∧ h2 = h'

theorem stabB_sound {ρ : Env} {h : AHeap} : ∀ {l : List (Nat × Option (Nat × Bool) × XOp)}, stabB ρ h l = true → stab ρ h l
  | [], _ => trivial
  | (d, g, op) :: r, hb => by
    simp only [stabB, Bool.and_eq_true] at hb
    refine ⟨fun hg => ?_, stabB_sound hb.2⟩
    have h1 := hb.1
    rw [hg] at h1
    simp only at h1
    split at h1
    · rename_i v v' h' e1 e2
      simp only [Bool.and_eq_true, Bool.not_eq_true'] at h1
      have := valB_eq h1.1
      subst this
      have := xop_still h1.2 e2
      subst this
      exact ⟨v, e1, e2⟩
    · cases h1

theorem stab_congr {ρ ρ' : Env} (he : SameEnv ρ ρ') {h : AHeap} : ∀ {l : List (Nat × Option (Nat × Bool) × XOp)}, stab ρ h l → stab ρ' h l
  | [], _ => trivial
  | (d, g, op) :: r, ⟨h1, h2⟩ => by
    refine ⟨fun hg => ?_, stab_congr he h2⟩
    obtain ⟨v, e1, e2⟩ := h1 (by rw [guardv_congr fun t b _ => he t]; exact hg)
    exact ⟨v, by rw [← he]; exact e1, by rw [← xop_congr fun t _ => he t]; exact e2⟩

theorem opsRun_sound {C : Orc} (hC : Sure P C) {K : Env → AHeap → Prop} : ∀ (xs : List XOper) (ρ ρ0 ρ' : Env) (h h' : AHeap), opsRun C xs ρ h = some (ρ', h') → SameEnv ρ ρ0 → (∀ ρ2, SameEnv ρ' ρ2 → K ρ2 h') → xops P K xs ρ0 h
  | [], ρ, ρ0, ρ', h, h', hr, he, hK => by
    simp only [opsRun, Option.some.injEq, Prod.mk.injEq] at hr
    obtain ⟨rfl, rfl⟩ := hr
    exact hK ρ0 he
  | o :: r, ρ, ρ0, ρ', h, h', hr, he, hK => by
    have hg : ∀ g, guardv ρ g = guardv ρ0 g := fun g => guardv_congr fun t b _ => he t
    have hp : ∀ v, SameEnv (upd o.d v ρ) (put o.d v ρ0) := fun v i => by rw [get_upd, get_put, get_put, he]
    rw [xops_cons]
    simp only [opsRun] at hr
    split at hr
    · cases hr
    · rename_i e
      exact ⟨false, by rw [← hg]; exact e, (fun hh => by cases hh), fun _ => opsRun_sound hC r _ _ ρ' h h' hr (hp undef) hK⟩
    · rename_i e
      refine ⟨true, by rw [← hg]; exact e, fun _ => ?_, (fun hh => by cases hh)⟩
      by_cases hc : ∃ f as, o.op = .call f as
      · obtain ⟨f, as, ho⟩ := hc
        rw [ho] at hr ⊢
        simp only at hr
        split at hr
        · rename_i fv vs e1 e2
          split at hr
          · rename_i g fi ca e3
            split at hr
            · rename_i v h2 e4
              split at hr
              · rename_i hs
                refine ⟨fv, vs, g, fi, ca, by rw [← ev_congr fun t _ => he t]; exact e1, by rw [← evs_congr fun t _ => he t]; exact e2, e3, (hC _ _ _ _ _ e4).mono ?_⟩
                rintro v2 h3 ⟨rfl, rfl⟩
                exact ⟨stab_congr he (stabB_sound hs), opsRun_sound hC r _ _ ρ' h3 h' hr (hp v2) hK⟩
              · cases hr
            · cases hr
          · cases hr
        · cases hr
      · have key : ∀ K', xstep P o.op ρ0 h K' ↔ ∃ v h', xop o.op ρ0 h = some (v, h') ∧ K' v h' := by
          intro K'
          cases ho : o.op <;> first | exact Iff.rfl | exact absurd ⟨_, _, ho⟩ hc
        rw [key]
        have hr2 : (match xop o.op ρ h with
          | some (v, h') => if stabB ρ h' o.st = true then opsRun C r (upd o.d v ρ) h' else none
          | none => none) = some (ρ', h') := by
          cases ho : o.op <;> rw [ho] at hr <;> first | exact hr | exact absurd ⟨_, _, ho⟩ hc
        split at hr2
        · rename_i v h2 e4
          split at hr2
          · rename_i hs
            exact ⟨v, h2, by rw [← xop_congr fun t _ => he t]; exact e4, stab_congr he (stabB_sound hs), opsRun_sound hC r _ _ ρ' h2 h' hr2 (hp v) hK⟩
          · cases hr2
        · cases hr2

theorem xcode_mono : ∀ (x : XCode) {Q Q' : Exit → Env → AHeap → Prop} {ρ : Env} {h : AHeap}, xcode P x Q ρ h → (∀ e ρ h, Q e ρ h → Q' e ρ h) → xcode P x Q' ρ h := by
  have ops : ∀ (xs : List XOper) {K K' : Env → AHeap → Prop} {ρ : Env} {h : AHeap}, xops P K xs ρ h → (∀ ρ h, K ρ h → K' ρ h) → xops P K' xs ρ h := by
    intro xs
    induction xs with
    | nil => intro K K' ρ h hx hk; exact hk _ _ hx
    | cons o r ih =>
      intro K K' ρ h hx hk
      rw [xops_cons] at hx ⊢
      obtain ⟨t, h1, h2, h3⟩ := hx
      exact ⟨t, h1, fun ht => xstep_mono (h2 ht) fun v h' ⟨a, b⟩ => ⟨a, ih b hk⟩, fun ht => ih (h3 ht) hk⟩
  intro x
  induction x with
  | skip => intro Q Q' ρ h hx hq; exact hq _ _ _ hx
  | region xs => intro Q Q' ρ h hx hq; exact ops xs hx fun ρ h => hq _ ρ h
  | seq a b iha ihb =>
    intro Q Q' ρ h hx hq
    exact iha hx fun e ρ h he => by cases e <;> first | exact ihb he hq | exact hq _ _ _ he
  | cond c a b iha ihb =>
    rintro Q Q' ρ h ⟨t, h1, h2, h3⟩ hq
    exact ⟨t, h1, fun ht => iha (h2 ht) hq, fun ht => ihb (h3 ht) hq⟩
  | block id b ih =>
    intro Q Q' ρ h hx hq
    exact ih hx fun e ρ h he => by
      cases e <;> first | exact hq _ _ _ he | skip
      rename_i i
      simp only at he ⊢
      split
      · rename_i hi; rw [if_pos hi] at he; exact hq _ _ _ he
      · rename_i hi; rw [if_neg hi] at he; exact hq _ _ _ he
  | scope b ih =>
    intro Q Q' ρ h hx hq
    exact ih hx fun e ρ h he => by cases e <;> first | exact he | exact hq _ _ _ he
  | loop b ih =>
    rintro Q Q' ρ h ⟨I, h0, h1⟩ hq
    exact ⟨I, h0, fun n ρ h hi => ih (h1 n ρ h hi) fun e ρ h he => by cases e <;> first | exact he | exact hq _ _ _ he⟩
  | exit id => intro Q Q' ρ h hx hq; exact hq _ _ _ hx
  | ret => intro Q Q' ρ h hx hq; exact hq _ _ _ hx
  | both a b iha ihb => intro Q Q' ρ h hx hq; exact ⟨iha hx.1 hq, ihb hx.2 hq⟩
  | bad => intro Q Q' ρ h hx hq; exact hx.elim

theorem codeRun_sound {C : Orc} (hC : Sure P C) {n : Nat} : ∀ (x : XCode) (ρ ρ0 ρ' : Env) (h h' : AHeap) (e : Exit), codeRun C n x ρ h = some (e, ρ', h') → SameEnv ρ ρ0 → xcode P x (fun e2 ρ2 h2 => e2 = e ∧ SameEnv ρ' ρ2 ∧ h2 = h') ρ0 h := by
  intro x
  induction x with
  | skip => intro ρ ρ0 ρ' h h' e hr he; simp only [codeRun, Option.some.injEq, Prod.mk.injEq] at hr; obtain ⟨rfl, rfl, rfl⟩ := hr; exact ⟨rfl, he, rfl⟩
  | exit id => intro ρ ρ0 ρ' h h' e hr he; simp only [codeRun, Option.some.injEq, Prod.mk.injEq] at hr; obtain ⟨rfl, rfl, rfl⟩ := hr; exact ⟨rfl, he, rfl⟩
  | ret => intro ρ ρ0 ρ' h h' e hr he; simp only [codeRun, Option.some.injEq, Prod.mk.injEq] at hr; obtain ⟨rfl, rfl, rfl⟩ := hr; exact ⟨rfl, he, rfl⟩
  | both a b iha ihb => intro ρ ρ0 ρ' h h' e hr he; simp [codeRun] at hr
  | bad => intro ρ ρ0 ρ' h h' e hr he; simp [codeRun] at hr
  | region xs =>
    intro ρ ρ0 ρ' h h' e hr he
    simp only [codeRun] at hr
    split at hr
    · rename_i ρ1 h1 e1
      cases hr
      exact opsRun_sound hC xs ρ ρ0 _ h _ e1 he fun ρ2 h2 => ⟨rfl, h2, rfl⟩
    · cases hr
  | seq a b iha ihb =>
    intro ρ ρ0 ρ' h h' e hr he
    simp only [codeRun] at hr
    split at hr
    · rename_i ρ1 h1 e1
      refine xcode_mono a (iha ρ ρ0 ρ1 h h1 _ e1 he) ?_
      rintro e2 ρ2 h2 ⟨rfl, hs, rfl⟩
      exact ihb ρ1 ρ2 ρ' h2 h' e hr hs
    · rename_i hne
      refine xcode_mono a (iha ρ ρ0 ρ' h h' e hr he) ?_
      rintro e2 ρ2 h2 ⟨rfl, hs, rfl⟩
      cases e2 with
      | normal => exact absurd hr (hne _ _)
      | _ => exact ⟨rfl, hs, rfl⟩
  | cond c a b iha ihb =>
    intro ρ ρ0 ρ' h h' e hr he
    simp only [codeRun] at hr
    split at hr
    · rename_i e1
      exact ⟨true, by rw [← ev_congr fun t _ => he t]; exact e1, fun _ => iha ρ ρ0 ρ' h h' e hr he, (fun hh => by cases hh)⟩
    · rename_i e1
      exact ⟨false, by rw [← ev_congr fun t _ => he t]; exact e1, (fun hh => by cases hh), fun _ => ihb ρ ρ0 ρ' h h' e hr he⟩
    · cases hr
  | block id b ih =>
    intro ρ ρ0 ρ' h h' e hr he
    simp only [codeRun] at hr
    split at hr
    · rename_i i ρ1 h1 e1
      refine xcode_mono b (ih ρ ρ0 ρ1 h h1 _ e1 he) ?_
      rintro e2 ρ2 h2 ⟨rfl, hs, rfl⟩
      simp only
      split at hr
      · rename_i hi; cases hr; rw [if_pos hi]; exact ⟨rfl, hs, rfl⟩
      · rename_i hi; cases hr; rw [if_neg hi]; exact ⟨rfl, hs, rfl⟩
    · rename_i hne
      refine xcode_mono b (ih ρ ρ0 ρ' h h' e hr he) ?_
      rintro e2 ρ2 h2 ⟨rfl, hs, rfl⟩
      cases e2 with
      | exit i => exact absurd hr (hne _ _ _)
      | _ => exact ⟨rfl, hs, rfl⟩
  | scope b ih =>
    intro ρ ρ0 ρ' h h' e hr he
    simp only [codeRun] at hr
    split at hr
    · cases hr
    · rename_i hne
      refine xcode_mono b (ih ρ ρ0 ρ' h h' e hr he) ?_
      rintro e2 ρ2 h2 ⟨rfl, hs, rfl⟩
      cases e2 with
      | goto i => exact absurd hr (hne _ _ _)
      | _ => exact ⟨rfl, hs, rfl⟩
  | loop b ih =>
    intro ρ ρ0 ρ' h h' e hr he
    simp only [codeRun] at hr
    refine ⟨fun m ρ1 h1 => ∃ ρ2, SameEnv ρ2 ρ1 ∧ loopRun (codeRun C n b) m ρ2 h1 = some (e, ρ', h'), ⟨n, ρ, he, hr⟩, ?_⟩
    rintro m ρ1 h1 ⟨ρ2, hs, hl⟩
    cases m with
    | zero => simp [loopRun] at hl
    | succ m =>
      simp only [loopRun] at hl
      split at hl
      · rename_i ρ3 h3 e3
        refine xcode_mono b (ih ρ2 ρ1 ρ3 h1 h3 _ e3 hs) ?_
        rintro e4 ρ4 h4 ⟨rfl, hs4, rfl⟩
        exact ⟨m, by omega, ρ3, hs4, hl⟩
      · rename_i hne
        refine xcode_mono b (ih ρ2 ρ1 ρ' h1 h' e hl hs) ?_
        rintro e4 ρ4 h4 ⟨rfl, hs4, rfl⟩
        cases e4 with
        | normal => exact absurd hl (hne _ _)
        | _ => exact ⟨rfl, hs4, rfl⟩

/-- a table whose rows are the program's own -/
def TabOk (P : Program) (T : Tab) : Prop := ∀ f x rs nt, T f = some (x, rs, nt) → ∀ args h Q, args.length ≤ nt → xcode P x (FnPost rs Q) (argEnv 0 args) h → Valid P f args h Q

theorem xresL_congr {ρ ρ' : Env} (he : SameEnv ρ ρ') {h : AHeap} : ∀ rs, xresL ρ h rs = xresL ρ' h rs
  | [] => rfl
  | r :: rs => by
    simp only [xresL, xresL_congr he rs]
    cases r <;> simp only [xres1, he _]

theorem funRun_sure {T : Tab} (hT : TabOk P T) : ∀ n, Sure P (funRun T n)
  | 0 => fun f args h r h' hr => by simp [funRun] at hr
  | n + 1 => fun f args h r h' hr => by
    simp only [funRun] at hr
    split at hr
    · rename_i x rs nt e1
      split at hr
      · rename_i hlen
        have fin : ∀ (e : Exit) ρ h2 vs, codeRun (funRun T n) (n + 1) x (argEnv 0 args) h = some (e, ρ, h2) → (match e with | .normal | .ret => True | _ => False) → xresL ρ h2 rs = some vs → tup vs = r → h2 = h' → Valid P f args h fun v h2 => v = r ∧ h2 = h' := by
          intro e ρ h2 vs hrun hek hvs hv hh
          subst hv; subst hh
          refine hT f x rs nt e1 args h _ hlen (xcode_mono x (codeRun_sound (funRun_sure hT n) x _ _ ρ h h2 e hrun (fun _ => rfl)) ?_)
          rintro e2 ρ2 h3 ⟨rfl, hs, rfl⟩
          exact ⟨hek, vs, by rw [← xresL_congr hs]; exact hvs, rfl, rfl⟩
        split at hr
        · rename_i ρ h2 e2
          split at hr
          · rename_i vs e3; cases hr; exact fin _ _ _ _ e2 trivial e3 rfl rfl
          · cases hr
        · rename_i ρ h2 e2
          split at hr
          · rename_i vs e3; cases hr; exact fin _ _ _ _ e2 trivial e3 rfl rfl
          · cases hr
        · cases hr
      · cases hr
    · cases hr

end
/-- cuts: what holds behind a part is told once, and the rest goes on from that -/
theorem xops_mono {P : Program} : ∀ (l : List XOper) {K K' : Env → AHeap → Prop} {ρ : Env} {h : AHeap}, xops P K l ρ h → (∀ ρ h, K ρ h → K' ρ h) → xops P K' l ρ h :=
  fun l K K' ρ h hx hk => xcode_mono (.region l) (Q := fun _ => K) (Q' := fun _ => K') hx fun _ => hk
theorem xops_cut {P : Program} {l : List XOper} {K : Env → AHeap → Prop} {ρ : Env} {h : AHeap} (M : Env → AHeap → Prop) (h1 : xops P M l ρ h) (h2 : ∀ ρ h, M ρ h → K ρ h) : xops P K l ρ h := xops_mono l h1 h2
theorem xgrd_cut {P : Program} {o : XOper} {r : List XOper} {t : Option Bool} {K : Env → AHeap → Prop} {ρ : Env} {h : AHeap} (M : Env → AHeap → Prop) (h1 : xgrd P M o r ρ h t) (h2 : ∀ ρ h, M ρ h → K ρ h) : xgrd P K o r ρ h t := by
  unfold xgrd at h1 ⊢
  split at h1
  · exact xops_mono _ h1 h2
  · exact xops_mono _ h1 h2
  · exact h1
theorem xthen_cut {P : Program} {d : Option Nat} {st : List (Nat × Option (Nat × Bool) × XOp)} {r : List XOper} {o : Option (Value × AHeap)} {K : Env → AHeap → Prop} {ρ : Env} (M : Env → AHeap → Prop) (h1 : xthen P M r d st ρ o) (h2 : ∀ ρ h, M ρ h → K ρ h) : xthen P K r d st ρ o := by
  unfold xthen at h1 ⊢
  split at h1
  · exact ⟨h1.1, xops_mono _ h1.2 h2⟩
  · exact h1
theorem xcode_cut {P : Program} {a : XCode} {Q : Exit → Env → AHeap → Prop} {ρ : Env} {h : AHeap} (M : Env → AHeap → Prop) (h1 : xcode P a (fun e ρ h => e = .normal ∧ M ρ h) ρ h) (h2 : ∀ ρ h, M ρ h → Q .normal ρ h) : xcode P a Q ρ h :=
  xcode_mono a h1 fun e ρ h k => by rw [k.1]; exact h2 ρ h k.2
theorem xcond_cut {P : Program} {v : Option Value} {a b : XCode} {Q : Exit → Env → AHeap → Prop} {ρ : Env} {h : AHeap} (M : Env → AHeap → Prop) (h1 : xcond P v a b (fun e ρ h => e = .normal ∧ M ρ h) ρ h) (h2 : ∀ ρ h, M ρ h → Q .normal ρ h) : xcond P v a b Q ρ h := by
  obtain ⟨t, e, k1, k2⟩ := h1
  exact ⟨t, e, fun h => xcode_cut M (k1 h) h2, fun h => xcode_cut M (k2 h) h2⟩
/-- a code that may leave by ret: two ways on -/
theorem xcode_cut2 {P : Program} {a : XCode} {Q : Exit → Env → AHeap → Prop} {ρ : Env} {h : AHeap} (M R : Env → AHeap → Prop) (h1 : xcode P a (fun e ρ h => (e = .normal ∧ M ρ h) ∨ (e = .ret ∧ R ρ h)) ρ h) (h2 : ∀ ρ h, M ρ h → Q .normal ρ h) (h3 : ∀ ρ h, R ρ h → Q .ret ρ h) : xcode P a Q ρ h :=
  xcode_mono a h1 fun e ρ h k => by rcases k with ⟨rfl, k⟩ | ⟨rfl, k⟩; exact h2 ρ h k; exact h3 ρ h k
end Go.Ai
