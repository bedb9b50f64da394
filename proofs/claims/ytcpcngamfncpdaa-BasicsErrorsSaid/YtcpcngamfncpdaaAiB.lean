/- The small language: operations with their types resolved, and what they do on the small heap. Generic. -/
import Derived.Test.YtcpcngamfncpdaaAiA
set_option linter.unusedVariables false
namespace Go.Ai

inductive XA where
  | t (n : Nat)
  | c (v : Value)

inductive XOp where
  | mv (x : XA)
  | pick (c a b : XA)
  | box (x : XA)
  | alloc (z : List Value)
  | build (z : List Value) (parts : List (Nat × Nat × XA))
  | bslice (len : Nat) (z : List Value) (parts : List (Nat × Nat × XA))
  | load1 (a : XA)
  | loadN (n : Nat) (a : XA)
  | store (n : Nat) (a x : XA)
  | nilck (x : XA)
  | bin (op : BinOp) (x y : XA)
  | beq (neg : Bool) (x y : XA)
  | isnil (neg sl : Bool) (x : XA)
  | eqs (neg : Bool) (offs : List (Nat × Nat)) (x y : XA)
  | un (op : UnOp) (x : XA)
  | conv (k : IntKind) (x : XA)
  | faddr (off : Nat) (x : XA)
  | field1 (off : Nat) (x : XA)
  | fieldN (off n : Nat) (x : XA)
  | iaddr (size : Nat) (x i : XA)
  | iaddrA (len size : Nat) (x i : XA)
  | idxA1 (len : Nat) (x i : XA)
  | idxAN (len size : Nat) (x i : XA)
  | idxS (x i : XA)
  | slice (size : Nat) (x : XA) (lo hi mx : Option XA)
  | sliceS (x : XA) (lo hi : Option XA)
  | sliceA (n size : Nat) (x : XA) (lo hi mx : Option XA)
  | len (sl : Bool) (x : XA)
  | lenK (n : Nat)
  | cap (x : XA)
  | mm (max : Bool) (x : XA) (xs : List XA)
  | append (size bytes : Nat) (z : List Value) (s x : XA)
  | copy (size : Nat) (d x : XA)
  | mkslice (size bytes : Nat) (z : List Value) (l c : XA)
  | appz (size bytes : Nat) (z : List Value) (s l : XA)
  | b2s (x : XA)
  | s2b (x : XA)
  | mark (x : XA)
  | extract (i : Nat) (x : XA)
  | mkfunc (fn : Fn) (first cap : List XA)
  | call (f : XA) (args : List XA)

structure XOper where
  d : Option Nat
  g : Option (Nat × Bool)
  op : XOp
  st : List (Nat × Option (Nat × Bool) × XOp) := []

inductive XCode where
  | skip
  | region (ops : List XOper)
  | seq (a b : XCode)
  | cond (c : XA) (a b : XCode)
  | block (id : Nat) (b : XCode)
  | scope (b : XCode)
  | loop (b : XCode)
  | exit (id : Nat)
  | ret
  | both (a b : XCode)
  | bad

abbrev Env := List (Nat × Value)
def get : Env → Nat → Option Value
  | [], _ => none
  | (j, v) :: r, i => if j = i then some v else get r i
def put (d : Option Nat) (v : Value) (ρ : Env) : Env :=
  match d with
  | some j => (j, v) :: ρ
  | none => ρ

def ev (ρ : Env) : XA → Option Value
  | .t n => get ρ n
  | .c v => some v
def evs (ρ : Env) : List XA → Option (List Value)
  | [] => some []
  | x :: r => (ev ρ x).bind fun v => (evs ρ r).map (v :: ·)

def addr? : Value → Option Addr
  | .pointer (some a) => some a
  | _ => none
def int? : Value → Option Int
  | .int _ n => some n
  | _ => none
def bool? : Value → Option Bool
  | .bool b => some b
  | _ => none
def str? : Value → Option ByteArray
  | .string s => some s
  | _ => none
def agg? : Value → Option (List Value)
  | .agg c => some c.toList
  | _ => none
def ptr (A o : Nat) : Value := .pointer (some ⟨A, o, none⟩)

def evParts (ρ : Env) : List (Nat × Nat × XA) → Option (List (Nat × Nat × Value))
  | [] => some []
  | (o, n, x) :: r => (ev ρ x).bind fun v => (evParts ρ r).map ((o, n, v) :: ·)
def fillL (z : List Value) : List (Nat × Nat × Value) → Option (List Value)
  | [] => some z
  | (o, n, v) :: r => if (cellsL v).length = n ∧ o + n ≤ z.length then fillL (setN z o (cellsL v)) r else none

def semVal {α : Type} : Sem α → Option α
  | .pure a => some a
  | _ => none

def abin (op : BinOp) : Value → Value → Option Value
  | .int k a, .int k' b => semVal (binOp op 0 (.int k a) (.int k' b))
  | .string a, .string b => semVal (binOp op 0 (.string a) (.string b))
  | _, _ => none
def aun (op : UnOp) : Value → Option Value
  | .int k a => semVal (Op.unary op (.int k a))
  | .bool a => semVal (Op.unary op (.bool a))
  | _ => none

def isNil? (sl : Bool) : Value → Option Bool
  | .pointer a => if sl then none else some a.isNone
  | .slice a _ _ => if sl then some a.isNone else none
  | _ => none

/-- a bound of a slice expression -/
def bnd (ρ : Env) (x : Option XA) (dflt top : Nat) : Option Nat :=
  match x with
  | none => some dflt
  | some x => (ev ρ x).bind fun v => (int? v).bind fun i => if 0 ≤ i ∧ i ≤ (top : Int) then some i.toNat else none

def oneC (v : Value) : Bool := v.oneCell'

def allocV (h : AHeap) (cs : List Value) : Value × AHeap := (ptr h.length 0, h ++ [some ⟨true, cs⟩])

/-- what the new slice of an append holds; 'none' where the small heap cannot tell -/
def appendV (size bytes : Nat) (h : AHeap) (s : Value) (news : List Value) (n : Nat) : Option (Value × AHeap) :=
  match s with
  | .slice none l c =>
    if l = 0 ∧ c = 0 then
      if n = 0 then some (.slice none 0 0, h)
      else if n * bytes ≤ 140737488355328 ∧ n ≤ 9223372036854775807 then some (.slice (some ⟨h.length, 0, none⟩) n (unk + size), h ++ [some ⟨true, news⟩]) else none
    else none
  | .slice (some a) l c =>
    if a.spot ≠ none then none
    else if n = 0 then (if l ≤ c then some (.slice (some a) l c, h) else none)
    else if (l + n) * bytes > 140737488355328 ∨ l + n > 9223372036854775807 then none
    else if unk ≤ c then
      (if c = unk + size then
        match h[a.block]? with
        | some (some o) => if o.own = true ∧ news.all oneC = true then
            (getN o.cells a.off (l * size)).bind fun old => some (.slice (some ⟨h.length, 0, none⟩) (l + n) (unk + size), (h.set a.block none) ++ [some ⟨true, old ++ news⟩])
          else none
        | _ => if l = 0 then none else none
      else none)
    else if l + n ≤ c then
      match h[a.block]? with
      | some (some o) => if o.own = true ∧ news.all oneC = true ∧ a.off + l * size + news.length ≤ o.cells.length then
          some (.slice (some a) (l + n) c, h.set a.block (some ⟨true, setN o.cells (a.off + l * size) news⟩)) else none
      | _ => none
    else
      if l = 0 then some (.slice (some ⟨h.length, 0, none⟩) n (unk + size), h ++ [some ⟨true, news⟩])
      else match cellsAt h a.block with
        | some cs => (getN cs a.off (l * size)).bind fun old => some (.slice (some ⟨h.length, 0, none⟩) (l + n) (unk + size), h ++ [some ⟨true, old ++ news⟩])
        | none => none
  | _ => none

/-- the first n elements of a slice or a string -/
def firstV (size : Nat) (h : AHeap) (n : Nat) : Value → Option (List Value)
  | .slice (some a) _ _ => if n = 0 then some [] else if a.spot ≠ none then none else (cellsAt h a.block).bind fun cs => getN cs a.off (n * size)
  | .slice none _ _ => if n = 0 then some [] else none
  | .string s => if size = 1 ∧ n = s.size then some (s.data.toList.map fun b => Value.int .u8 b.toNat) else none
  | _ => none
def lenL : Value → Option Nat
  | .slice _ n _ => some n
  | _ => none
def lenS : Value → Option Nat
  | .string s => some s.size
  | _ => none
def lenV : Value → Option Nat
  | .slice _ n _ => some n
  | .string s => some s.size
  | _ => none

def storeV (h : AHeap) (a : Addr) (vs : List Value) : Option AHeap :=
  if a.spot ≠ none then none else
  match h[a.block]? with
  | some (some o) => if o.own = true ∧ vs.all oneC = true ∧ a.off + vs.length ≤ o.cells.length then some (h.set a.block (some ⟨true, setN o.cells a.off vs⟩)) else none
  | _ => none

def loadV (h : AHeap) (a : Addr) (n : Nat) : Option (List Value) :=
  if a.spot ≠ none then none else (cellsAt h a.block).bind fun cs => getN cs a.off n

def load1V (h : AHeap) (a : Addr) : Option Value :=
  if a.spot ≠ none then none else (cellsAt h a.block).bind fun cs => cs[a.off]?

def shiftA (a : Addr) (n : Nat) : Addr := ⟨a.block, a.off + n, none⟩

def bytesOf : List Value → Option ByteArray
  | [] => some ByteArray.empty
  | l => l.foldlM (fun (s : ByteArray) v => match v with | .int .u8 n => some (s.push (UInt8.ofNat n.toNat)) | _ => none) ByteArray.empty

/-- equality of two leaves: tag 0 a number, 1 a bool, 2 a string -/
def leafEq (tag : Nat) : Option Value → Option Value → Option Bool
  | some (.int k a), some (.int k' b) => if tag = 0 ∧ k = k' then some (a == b) else none
  | some (.bool a), some (.bool b) => if tag = 1 then some (a == b) else none
  | some (.string a), some (.string b) => if tag = 2 then some (a.toList == b.toList) else none
  | _, _ => none
def allEq (l m : List Value) : List (Nat × Nat) → Option Bool
  | [] => some true
  | (o, tag) :: r => (leafEq tag l[o]? m[o]?).bind fun a => (allEq l m r).map fun b => a && b

/-- the operations but calls -/
def xop (op : XOp) (ρ : Env) (h : AHeap) : Option (Value × AHeap) :=
  match op with
  | .mv x => (ev ρ x).map (·, h)
  | .pick c a b => (ev ρ c).bind fun v => (bool? v).bind fun t => (if t then ev ρ a else ev ρ b).map (·, h)
  | .box x => (ev ρ x).map fun v => allocV h (cellsL v)
  | .alloc z => some (allocV h z)
  | .build z ps => (evParts ρ ps).bind fun vs => (fillL z vs).map fun l => (.agg l.toArray, h)
  | .bslice n z ps => (evParts ρ ps).bind fun vs => (fillL z vs).map fun l => (.slice (some ⟨h.length, 0, none⟩) n n, h ++ [some ⟨true, l⟩])
  | .load1 a => (ev ρ a).bind fun v => (addr? v).bind fun ad => (load1V h ad).map (·, h)
  | .loadN n a => (ev ρ a).bind fun v => (addr? v).bind fun ad => (loadV h ad n).map fun l => (.agg l.toArray, h)
  | .store n a x => (ev ρ a).bind fun v => (addr? v).bind fun ad => (ev ρ x).bind fun u => if (cellsL u).length = n then (storeV h ad (cellsL u)).map (undef, ·) else none
  | .nilck x => (ev ρ x).bind fun v => (addr? v).map fun _ => (v, h)
  | .bin op x y => (ev ρ x).bind fun a => (ev ρ y).bind fun b => (abin op a b).map (·, h)
  | .beq neg x y => (ev ρ x).bind fun a => (ev ρ y).bind fun b => (bool? a).bind fun a => (bool? b).map fun b => (.bool (if neg then a != b else a == b), h)
  | .isnil neg sl x => (ev ρ x).bind fun a => (isNil? sl a).map fun b => (.bool (if neg then !b else b), h)
  | .eqs neg offs x y => (ev ρ x).bind fun v => (agg? v).bind fun l => (ev ρ y).bind fun u => (agg? u).bind fun m => (allEq l m offs).map fun b => (.bool (if neg then !b else b), h)
  | .un op x => (ev ρ x).bind fun a => (aun op a).map (·, h)
  | .conv k x => (ev ρ x).bind fun a => (int? a).map fun n => (.int k (k.wrap n), h)
  | .faddr off x => (ev ρ x).bind fun v => (addr? v).bind fun a => if a.spot ≠ none then none else some (.pointer (some (shiftA a off)), h)
  | .field1 off x => (ev ρ x).bind fun v => (agg? v).bind fun l => (l[off]?).map (·, h)
  | .fieldN off n x => (ev ρ x).bind fun v => (agg? v).bind fun l => if off + n ≤ l.length then some (.agg ((l.drop off).take n).toArray, h) else none
  | .iaddr size x i => (ev ρ x).bind fun v => (ev ρ i).bind fun iv => (int? iv).bind fun i =>
      match v with
      | .slice (some a) l _ => if 0 ≤ i ∧ i < (l : Int) ∧ a.spot = none then some (.pointer (some (shiftA a (i.toNat * size))), h) else none
      | _ => none
  | .iaddrA len size x i => (ev ρ x).bind fun v => (addr? v).bind fun a => (ev ρ i).bind fun iv => (int? iv).bind fun i =>
      if 0 ≤ i ∧ i < (len : Int) ∧ a.spot = none then some (.pointer (some (shiftA a (i.toNat * size))), h) else none
  | .idxA1 len x i => (ev ρ x).bind fun v => (agg? v).bind fun l => (ev ρ i).bind fun iv => (int? iv).bind fun i =>
      if 0 ≤ i ∧ i < (len : Int) then (l[i.toNat]?).map (·, h) else none
  | .idxAN len size x i => (ev ρ x).bind fun v => (agg? v).bind fun l => (ev ρ i).bind fun iv => (int? iv).bind fun i =>
      if 0 ≤ i ∧ i < (len : Int) ∧ i.toNat * size + size ≤ l.length then some (.agg ((l.drop (i.toNat * size)).take size).toArray, h) else none
  | .idxS x i => (ev ρ x).bind fun v => (str? v).bind fun s => (ev ρ i).bind fun iv => (int? iv).bind fun i =>
      if 0 ≤ i then (s[i.toNat]?).map fun b => (.int .u8 b.toNat, h) else none
  | .slice size x lo hi mx => (ev ρ x).bind fun v =>
      match v with
      | .slice a l c =>
        if unk ≤ c then
          if mx.isSome then
            -- s[lo:hi:max] with max ≤ len
            (bnd ρ mx 0 l).bind fun m => (bnd ρ hi 0 m).bind fun hh => (bnd ρ lo 0 hh).bind fun ll =>
              match a with
              | some a => if a.spot ≠ none ∨ hi = none ∨ unk ≤ m then none else some (.slice (some (if m = ll then a else shiftA a (ll * size))) (hh - ll) (m - ll), h)
              | none => none
          else (bnd ρ hi l l).bind fun hh => (bnd ρ lo 0 hh).bind fun ll =>
            match a with
            | some a => if a.spot ≠ none ∨ c ≠ unk + size then none else some (.slice (some (shiftA a (ll * size))) (hh - ll) c, h)
            | none => none
        else (bnd ρ mx c c).bind fun m => (bnd ρ hi l m).bind fun hh => (bnd ρ lo 0 hh).bind fun ll =>
          if mx.isSome ∧ hi = none then none else
          match a with
          | some a => if a.spot ≠ none then none else some (.slice (some (if m = ll then a else shiftA a (ll * size))) (hh - ll) (m - ll), h)
          | none => some (.slice none (hh - ll) (m - ll), h)
      | _ => none
  | .sliceS x lo hi => (ev ρ x).bind fun v => (str? v).bind fun s => (bnd ρ hi s.size s.size).bind fun hh => (bnd ρ lo 0 hh).map fun ll => (.string (s.extract ll hh), h)
  | .sliceA n size x lo hi mx => (ev ρ x).bind fun v => (addr? v).bind fun a => (bnd ρ mx n n).bind fun m => (bnd ρ hi n m).bind fun hh => (bnd ρ lo 0 hh).bind fun ll =>
      if a.spot ≠ none ∨ (mx.isSome ∧ hi = none) ∨ unk ≤ n then none else some (.slice (some (if m = ll then a else shiftA a (ll * size))) (hh - ll) (m - ll), h)
  | .len sl x => (ev ρ x).bind fun v => (if sl then lenL v else lenS v).map fun n => (.int .i64 n, h)
  | .lenK n => some (.int .i64 n, h)
  | .cap x => (ev ρ x).bind fun v => match v with
      | .slice _ _ c => if c < unk then some (.int .i64 c, h) else none
      | _ => none
  | .mm mx x xs => (ev ρ x).bind fun v => (evs ρ xs).bind fun vs => (int? v).bind fun _ =>
      (vs.foldlM (fun (a b : Value) => match a, b with
        | .int k x, .int _ y => some (Value.int k (if mx then (if y > x then y else x) else (if y < x then y else x)))
        | _, _ => none) v).map (·, h)
  | .append size bytes z s x => (ev ρ s).bind fun sv => (ev ρ x).bind fun xv => (lenV xv).bind fun n => (firstV size h n xv).bind fun news =>
      if z.length = size ∧ 0 < size then appendV size bytes h sv news n else none
  | .copy size d x => (ev ρ d).bind fun dv => (ev ρ x).bind fun xv => (lenV xv).bind fun n =>
      match dv with
      | .slice b l _ => (firstV size h (min n l) xv).bind fun cs =>
          match b with
          | some a => if cs = [] then some (.int .i64 ((min n l : Nat) : Int), h) else (storeV h a cs).map fun h' => (.int .i64 ((min n l : Nat) : Int), h')
          | none => some (.int .i64 ((min n l : Nat) : Int), h)
      | _ => none
  | .mkslice size bytes z l c => (ev ρ l).bind fun lv => (ev ρ c).bind fun cv => (int? lv).bind fun l => (int? cv).bind fun c =>
      if 0 ≤ l ∧ l ≤ c ∧ c * bytes ≤ 140737488355328 ∧ c ≤ 9223372036854775807 ∧ z.length = size ∧ 0 < size then
        some (.slice (some ⟨h.length, 0, none⟩) l.toNat c.toNat, h ++ [some ⟨true, (List.replicate c.toNat z).flatten⟩]) else none
  | .appz size bytes z s l => (ev ρ s).bind fun sv => (ev ρ l).bind fun lv => (int? lv).bind fun l => match sv with
      | .slice none 0 0 => if 0 < l ∧ l * bytes ≤ 140737488355328 ∧ l ≤ 9223372036854775807 ∧ z.length = size ∧ 0 < size then
          some (.slice (some ⟨h.length, 0, none⟩) l.toNat (unk + size), h ++ [some ⟨true, (List.replicate l.toNat z).flatten⟩]) else none
      | .slice (some a) sl sc => if a.spot = none ∧ sc < unk ∧ sl ≤ sc ∧ z.length = size ∧ 0 < size ∧ 0 ≤ l then
            if l = 0 then some (.slice (some a) sl sc, h)
            else if sc < sl + l.toNat ∧ (sl + l.toNat) * bytes ≤ 140737488355328 ∧ sl + l.toNat ≤ 9223372036854775807 then
              (firstV size h sl (.slice (some a) sl sc)).map fun old => (.slice (some ⟨h.length, 0, none⟩) (sl + l.toNat) (unk + size), h ++ [some ⟨true, old ++ (List.replicate l.toNat z).flatten⟩])
            else none
          else if a.spot = none ∧ sc = unk + size ∧ z.length = size ∧ 0 < size ∧ 0 ≤ l ∧ (sl + l.toNat) * bytes ≤ 140737488355328 ∧ sl + l.toNat ≤ 9223372036854775807 then
            if l = 0 then some (.slice (some a) sl sc, h)
            else match h[a.block]? with
              | some (some o) => if o.own = true ∧ z.all oneC = true then
                  (getN o.cells a.off (sl * size)).map fun old => (.slice (some ⟨h.length, 0, none⟩) (sl + l.toNat) (unk + size), (h.set a.block none) ++ [some ⟨true, old ++ (List.replicate l.toNat z).flatten⟩])
                else none
              | _ => none
          else none
      | _ => none
  | .b2s x => (ev ρ x).bind fun v => match v with
      | .slice none _ _ => some (.string ByteArray.empty, h)
      | .slice (some a) l _ => (if l = 0 then some [] else loadV h a l).bind fun cs => (bytesOf cs).map fun s => (.string s, h)
      | _ => none
  | .s2b x => (ev ρ x).bind fun v => (str? v).map fun s => (.slice (some ⟨h.length, 0, none⟩) s.size (unk + 1), h ++ [some ⟨false, s.data.toList.map fun b => .int .u8 (b.toNat : Int)⟩])
  | .mark x => (ev ρ x).bind fun v => match v with
      | .slice (some a) l _ => match h[a.block]? with
        | some (some o) => if o.own = true ∧ l ≠ 0 then some (v, h.set a.block (some ⟨false, o.cells⟩)) else none
        | _ => none
      | _ => none
  | .extract i x => (ev ρ x).bind fun v => match v with
      | .tuple c => (c.toList[i]?).map (·, h)
      | _ => none
  | .mkfunc fn f c => (evs ρ f).bind fun fs => (evs ρ c).map fun cs => (.func fn fs.toArray cs.toArray, h)
  | .call _ _ => none

/-- may be entered: it has a body, and is none of the model's own -/
def entered (P : Program) (f : FuncId) : Bool :=
  match P.funcs[f]? with
  | some fn => fn.body.isSome && fn.name != "runtime.NumGoroutine"
  | none => false

/-- the triple of a function: its post speaks of the small heap alone -/
def Valid (P : Program) (f : FuncId) (args : List Value) (h : AHeap) (Q : Value → AHeap → Prop) : Prop :=
  entered P f = true ∧ ∀ φ w args', HR φ h w → GR φ → LR φ args args' → Calls P f args'.toArray w fun e w' => ∃ φ' h' r r', e = .returned r' ∧ Stp φ h w φ' h' w' ∧ VR φ' r r' ∧ Q r h'

theorem Valid.mono {P : Program} {f : FuncId} {args : List Value} {h : AHeap} {Q Q' : Value → AHeap → Prop} (v : Valid P f args h Q) (k : ∀ r h', Q r h' → Q' r h') : Valid P f args h Q' :=
  ⟨v.1, fun φ w args' hr hg ha => (v.2 φ w args' hr hg ha).mono fun e w' ⟨φ', h', r, r', a, b, c, d⟩ => ⟨φ', h', r, r', a, b, c, k _ _ d⟩⟩

def guardv (ρ : Env) : Option (Nat × Bool) → Option Bool
  | none => some true
  | some (j, want) => (get ρ j).map fun v => match v with | .bool b => b == want | _ => false

/-- reads that may still come find what they found -/
def stab (ρ : Env) (h : AHeap) : List (Nat × Option (Nat × Bool) × XOp) → Prop
  | [] => True
  | (d, g, op) :: r => (guardv ρ g = some true → ∃ v, get ρ d = some v ∧ xop op ρ h = some (v, h)) ∧ stab ρ h r

/-- the callee, and the values that go ahead of and behind the arguments -/
def callee? : Value → Option (FuncId × List Value × List Value)
  | .func (.func f) first cap => some (f, first.toList, cap.toList)
  | _ => none

def xops (P : Program) (K : Env → AHeap → Prop) : List XOper → Env → AHeap → Prop
  | [], ρ, h => K ρ h
  | o :: r, ρ, h => ∃ t, guardv ρ o.g = some t ∧
    (t = true → match o.op with
      | .call f args => ∃ fv vs g first cap, ev ρ f = some fv ∧ evs ρ args = some vs ∧ callee? fv = some (g, first, cap) ∧
          Valid P g (first ++ vs ++ cap) h fun v h' => stab ρ h' o.st ∧ xops P K r (put o.d v ρ) h'
      | op => ∃ v h', xop op ρ h = some (v, h') ∧ stab ρ h' o.st ∧ xops P K r (put o.d v ρ) h') ∧
    (t = false → xops P K r (put o.d undef ρ) h)

def xcode (P : Program) : XCode → (Exit → Env → AHeap → Prop) → Env → AHeap → Prop
  | .skip, Q, ρ, h => Q .normal ρ h
  | .region ops, Q, ρ, h => xops P (Q .normal) ops ρ h
  | .seq a b, Q, ρ, h => xcode P a (fun e ρ h => match e with | .normal => xcode P b Q ρ h | e => Q e ρ h) ρ h
  | .cond c a b, Q, ρ, h => ∃ t, ev ρ c = some (.bool t) ∧ (t = true → xcode P a Q ρ h) ∧ (t = false → xcode P b Q ρ h)
  | .block id b, Q, ρ, h => xcode P b (fun e ρ h => match e with | .exit i => if i = id then Q .normal ρ h else Q (.exit i) ρ h | e => Q e ρ h) ρ h
  | .loop b, Q, ρ, h => ∃ I : Nat → Env → AHeap → Prop, (∃ n, I n ρ h) ∧ ∀ n ρ h, I n ρ h → xcode P b (fun e ρ h => match e with | .normal => ∃ m, m < n ∧ I m ρ h | e => Q e ρ h) ρ h
  | .scope b, Q, ρ, h => xcode P b (fun e ρ h => match e with | .goto _ => False | e => Q e ρ h) ρ h
  | .exit id, Q, ρ, h => Q (.exit id) ρ h
  | .ret, Q, ρ, h => Q .ret ρ h
  | .both a b, Q, ρ, h => xcode P a Q ρ h ∧ xcode P b Q ρ h
  | .bad, _, _, _ => False

end Go.Ai
