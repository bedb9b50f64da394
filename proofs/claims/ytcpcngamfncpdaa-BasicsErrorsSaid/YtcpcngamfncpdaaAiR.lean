/- A function's triple out of its body. Generic. -/
import Derived.Test.YtcpcngamfncpdaaAiQ
set_option linter.unusedVariables false
namespace Go.Ai

inductive XRes where
  | tmp (t : Nat)
  | cell1 (t : Nat)
  | cellN (n t : Nat)

def xres1 (ρ : Env) (h : AHeap) : XRes → Option Value
  | .tmp t => get ρ t
  | .cell1 t => (get ρ t).bind fun v => (addr? v).bind fun a => load1V h a
  | .cellN n t => (get ρ t).bind fun v => (addr? v).bind fun a => (loadV h a n).map fun l => .agg l.toArray
def xresL (ρ : Env) (h : AHeap) : List XRes → Option (List Value)
  | [] => some []
  | r :: rs => (xres1 ρ h r).bind fun v => (xresL ρ h rs).map (v :: ·)
def tup : List Value → Value
  | [v] => v
  | vs => .tuple vs.toArray

def trRes (P : Program) : ResultVar → Option XRes
  | .tmp t => some (.tmp t)
  | .cell a t => (P.underlying t).bind fun d => if aggB d = true then (szOf P t).map (.cellN · a) else some (.cell1 a)

def argEnv (n : Nat) : List Value → Env
  | [] => []
  | v :: r => (n, v) :: argEnv (n + 1) r

/-- what a function's body owes -/
def FnPost (rs : List XRes) (Q : Value → AHeap → Prop) (e : Exit) (ρ : Env) (h : AHeap) : Prop :=
  (match e with | .normal | .ret => True | _ => False) ∧ ∃ vs, xresL ρ h rs = some vs ∧ Q (tup vs) h

section
variable {P : Program}

theorem get_argEnv : ∀ (l : List Value) (n i : Nat), get (argEnv n l) i = if n ≤ i then l[i - n]? else none
  | [], n, i => by simp [argEnv, get]
  | v :: r, n, i => by
    simp only [argEnv, get, get_argEnv r (n + 1) i]
    by_cases h : n = i
    · subst h; simp
    · rw [if_neg h]
      by_cases h2 : n ≤ i
      · rw [if_pos (by omega), if_pos h2]
        obtain ⟨k, hk⟩ : ∃ k, i - n = k + 1 := ⟨i - n - 1, by omega⟩
        rw [hk, List.getElem?_cons_succ]; congr 1; omega
      · rw [if_neg (by omega), if_neg h2]

def resOne (t : Array Value) : ResultVar → Sem Value
  | .tmp k => pure (t.getD k undef)
  | .cell a ty => do loadVar ty (← asAddr (t.getD a undef))

theorem trRes_sound {φ : Phi} {ρ : Env} {h : AHeap} {w : World} {t : Array Value} (hr : HR φ h w) (he : ER φ ρ t) : ∀ (rs : List ResultVar) (xs : List XRes) (vs : List Value), rs.mapM (trRes P) = some xs → xresL ρ h xs = some vs →
    ∃ us : List Value, LR φ vs us ∧ (rs.mapM (resOne t)).run P w = .ok us w
  | [], xs, vs, h1, h2 => by
    simp at h1; subst h1; simp [xresL] at h2; subst h2
    exact ⟨[], LR.nil φ, rfl⟩
  | r :: rs, xs, vs, h1, h2 => by
    simp only [List.mapM_cons, bind, Option.bind_eq_some_iff, pure, Option.some.injEq] at h1
    obtain ⟨x, hx, xs', hxs, rfl⟩ := h1
    simp only [xresL, Option.bind_eq_some_iff, Option.map_eq_some_iff] at h2
    obtain ⟨v, hv, vs', hvs, rfl⟩ := h2
    obtain ⟨us, hus, hrun⟩ := trRes_sound hr he rs xs' vs' hxs hvs
    have one : ∃ u, VR φ v u ∧ (resOne t r).run P w = .ok u w := by
      cases r with
      | tmp k =>
        simp [trRes] at hx; subst hx
        obtain ⟨u, hu, hvu⟩ := he.e k v hv
        exact ⟨u, hvu, by simp [resOne, hu]⟩
      | cell a ty =>
        simp only [trRes, Option.bind_eq_some_iff] at hx
        obtain ⟨d, hd, hx⟩ := hx
        split at hx
        · rename_i hb
          simp only [Option.map_eq_some_iff] at hx
          obtain ⟨n, hn, rfl⟩ := hx
          simp only [xres1, Option.bind_eq_some_iff, Option.map_eq_some_iff] at hv
          obtain ⟨pv, hpv, ad, had, l, hl, rfl⟩ := hv
          obtain ⟨u, hu, hvu⟩ := he.e a pv hpv
          rw [addr?_inv had] at hvu
          obtain ⟨b, rfl, hp⟩ := hvu.ptr_inv
          obtain ⟨l', g1, g2, g3⟩ := loadV_sound hr hl hp
          have := run_loadCells_list (P := P) w b l' g3
          rw [g2] at this
          exact ⟨.agg l'.toArray, VR.aggL g1, by simp [resOne, hu, asAddr, loadVar, run_agg hd, hb, run_size hn, this]⟩
        · rename_i hb
          have hb' : aggB d = false := by simpa using hb
          cases hx
          simp only [xres1, Option.bind_eq_some_iff] at hv
          obtain ⟨pv, hpv, ad, had, hl⟩ := hv
          obtain ⟨u, hu, hvu⟩ := he.e a pv hpv
          rw [addr?_inv had] at hvu
          obtain ⟨b, rfl, hp⟩ := hvu.ptr_inv
          obtain ⟨x, g1, g2⟩ := load1V_sound hr hl hp
          exact ⟨x, g2, by simp [resOne, hu, asAddr, loadVar, run_agg hd, hb', g1]⟩
    obtain ⟨u, g1, g2⟩ := one
    exact ⟨u :: us, LR.cons g1 hus, by simp only [List.mapM_cons, Sem.run_bind, g2, Result.andThen_ok, hrun, Sem.run_pure]⟩

theorem LR.tupR {φ : Phi} {vs us : List Value} (h : LR φ vs us) : VR φ (tup vs) (if h : us.toArray.size = 1 then us.toArray[0] else .tuple us.toArray) := by
  cases vs with
  | nil => have := h.nil_inv; subst this; exact VR.tupleL h
  | cons v r =>
    obtain ⟨u, r', rfl, h1, h2⟩ := h.head
    cases r with
    | nil => have := h2.nil_inv; subst this; simpa [tup] using h1
    | cons v2 r2 =>
      obtain ⟨u2, r3, rfl, h3, h4⟩ := h2.head
      rw [dif_neg (by simp)]
      exact VR.tupleL h

theorem valid_of {f : FuncId} {fn : Func} {c : Code} {x : XCode} {rs : List XRes} (hf : P.funcs[f]? = some fn) (hb : fn.body = some c) (hent : entered P f = true) (hx : trCode P fn.ntmps c = some x) (hrs : fn.results.toList.mapM (trRes P) = some rs)
    {args : List Value} {h : AHeap} {Q : Value → AHeap → Prop} (hlen : args.length ≤ fn.ntmps) (hq : xcode P x (FnPost rs Q) (argEnv 0 args) h) : Valid P f args h Q := by
  refine ⟨hent, fun φ w args' hr hg ha => calls_of_wp hf hb ?_⟩
  have hsz : (args'.toArray ++ Array.replicate (fn.ntmps - args'.toArray.size) undef).size = fn.ntmps := by
    have := ha.1
    simp; omega
  have he : ER φ (argEnv 0 args) (args'.toArray ++ Array.replicate (fn.ntmps - args'.toArray.size) undef) := by
    refine ⟨fun i v hv => ?_, hg⟩
    rw [get_argEnv] at hv
    simp at hv
    obtain ⟨u, hu, hvu⟩ := ha.get hv
    refine ⟨u, ?_, hvu⟩
    rw [Array.getElem?_append_left (by have := (List.getElem?_eq_some_iff.1 hu).1; simpa using this)]
    simpa using hu
  refine wp_mono (trCode_sound c x hx _ _ h hq φ w _ hr he hsz) fun e a w' hp => ?_
  obtain ⟨p1, p2, φ', ρ', h', p3, p4, p5, vs, p6, p7⟩ := hp
  obtain ⟨us, hus, hrun⟩ := trRes_sound (P := P) p3.hr p4 _ _ _ hrs p6
  have hres : (results fn a.tmps).run P w' = .ok (if h : us.toArray.size = 1 then us.toArray[0] else .tuple us.toArray) w' := by
    have e0 : results fn a.tmps = (do let vs ← fn.results.mapM (resOne a.tmps); pure (if h : vs.size = 1 then vs[0] else .tuple vs)) := rfl
    rw [e0]
    simp only [Array.mapM_eq_mapM_toList, Sem.run_bind, Sem.run_map, hrun, Result.andThen_ok, Sem.run_pure]
  cases e with
  | normal => exact ⟨p1, _, hres, φ', h', _, _, rfl, p3, hus.tupR, p7⟩
  | ret => exact ⟨p1, _, hres, φ', h', _, _, rfl, p3, hus.tupR, p7⟩
  | _ => exact p5.elim

theorem valid_fn {f : FuncId} {fn : Func} {x : XCode} {rs : List XRes} (hf : P.funcs[f]? = some fn) (hent : entered P f = true) (hx : fn.body.bind (trCode P fn.ntmps) = some x) (hrs : fn.results.toList.mapM (trRes P) = some rs)
    {args : List Value} {h : AHeap} {Q : Value → AHeap → Prop} (hlen : args.length ≤ fn.ntmps) (hq : xcode P x (FnPost rs Q) (argEnv 0 args) h) : Valid P f args h Q := by
  obtain ⟨c, hc, hx⟩ := Option.bind_eq_some_iff.1 hx
  exact valid_of hf hc hent hx hrs hlen hq
end
end Go.Ai
