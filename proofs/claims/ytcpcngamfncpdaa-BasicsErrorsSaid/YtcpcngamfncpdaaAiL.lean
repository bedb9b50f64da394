/- The translation of an operation, and that it agrees. Generic. -/
import Derived.Test.YtcpcngamfncpdaaAiK
set_option linter.unusedVariables false
namespace Go.Ai

def trBin (P : Program) (op : BinOp) (t : TypeId) (x y : Operand) : Option XOp :=
  match P.underlying t with
  | some (.int _) => (trA x).bind fun x => (trA y).map fun y => .bin op x y
  | some .string => (trA x).bind fun x => (trA y).map fun y => .bin op x y
  | some .bool =>
    match op with
    | .eql => (trA x).bind fun x => (trA y).map fun y => .beq false x y
    | .neq => (trA x).bind fun x => (trA y).map fun y => .beq true x y
    | _ => none
  | some (.pointer _) =>
    match op, y with
    | .eql, .const (.pointer none) => (trA x).map (.isnil false false)
    | .neq, .const (.pointer none) => (trA x).map (.isnil true false)
    | _, _ => none
  | some (.slice _) =>
    match op, y with
    | .eql, .const (.slice none 0 0) => (trA x).map (.isnil false true)
    | .neq, .const (.slice none 0 0) => (trA x).map (.isnil true true)
    | _, _ => none
  | some (.struct _) =>
    match op with
    | .eql => if P.eqGuardType P.depth t = false then (szOf P t).bind fun _ => (leaves P 64 t 0).bind fun lv => (trA x).bind fun x => (trA y).map fun y => .eqs false lv x y else none
    | .neq => if P.eqGuardType P.depth t = false then (szOf P t).bind fun _ => (leaves P 64 t 0).bind fun lv => (trA x).bind fun x => (trA y).map fun y => .eqs true lv x y else none
    | _ => none
  | some (.array _ _) =>
    match op with
    | .eql => if P.eqGuardType P.depth t = false then (szOf P t).bind fun _ => (leaves P 64 t 0).bind fun lv => (trA x).bind fun x => (trA y).map fun y => .eqs false lv x y else none
    | .neq => if P.eqGuardType P.depth t = false then (szOf P t).bind fun _ => (leaves P 64 t 0).bind fun lv => (trA x).bind fun x => (trA y).map fun y => .eqs true lv x y else none
    | _ => none
  | _ => none

def isU8 : Option TypeDesc → Bool
  | some (.int .u8) => true
  | _ => false
theorem isU8_inv {d : Option TypeDesc} (h : isU8 d = true) : d = some (.int .u8) := by
  unfold isU8 at h; split at h <;> simp_all

def trOp (P : Program) (o : Oper) : Option XOp :=
  match o.op with
  | .move x => (trA x).map .mv
  | .assign x => (trA x).map .mv
  | .pick c a b => (trA c).bind fun c => (trA a).bind fun a => (trA b).map fun b => .pick c a b
  | .box _ x => (trA x).map .box
  | .alloc t => (zeroOf P t).bind fun z => if (cellsL z).all flat = true then some (.alloc (cellsL z)) else none
  | .build t ps => (zeroOf P t).bind fun z => if (cellsL z).all flat = true then
      match P.underlying t with
      | some (.struct fs) => (places P fs).bind fun pl => (trParts (fun i => pl.toArray[i]?) ps.toList).map (.build (cellsL z))
      | some (.array _ e) => (szOf P e).bind fun n => (trParts (fun i => some (i * n, n)) ps.toList).map (.build (cellsL z))
      | _ => none
      else none
  | .buildSlice t len ps =>
    match P.underlying t with
    | some (.slice e) => (zeroOf P e).bind fun z => (szOf P e).bind fun n =>
        if (cellsL z).length = n ∧ 0 < n ∧ len * n ≤ 2 ^ 24 ∧ len < unk ∧ (cellsL z).all flat = true then (trParts (fun i => some (i * n, n)) ps.toList).map (.bslice len (zeros (cellsL z) len)) else none
    | _ => none
  | .load t a => (trA a).bind fun a => (P.underlying t).bind fun d => if aggB d = true then (szOf P t).map (.loadN · a) else some (.load1 a)
  | .store t a x => (trA a).bind fun a => (trA x).bind fun x => (szOf P t).map fun n => .store n a x
  | .nilCheck x => (trA x).map .nilck
  | .binOp op t x y _ => trBin P op t x y
  | .unOp op _ x => (trA x).map (.un op)
  | .convert s t x =>
    match P.underlying s, P.underlying t with
    | some _, some (.int k) => (trA x).map (.conv k)
    | some (.slice e), some .string => if isU8 (P.underlying e) = true then (trA x).map .b2s else none
    | some .string, some (.slice e) => if isU8 (P.underlying e) = true then (trA x).map .s2b else none
    | some (.slice _), some (.slice e) => if isU8 (P.underlying e) = true ∧ s = t then (trA x).map .mark else none
    | _, _ => none
  | .fieldAddr t x k =>
    match P.underlying t with
    | some (.struct fs) => (trA x).bind fun x => (fs[k]?).bind fun f => (szOf P f.type).bind fun n => if n ≠ 0 then some (.faddr f.offset x) else none
    | _ => none
  | .field t x k =>
    match P.underlying t with
    | some (.struct fs) => (trA x).bind fun x => (fs[k]?).bind fun f => (P.underlying f.type).bind fun d => if aggB d = true then (szOf P f.type).map fun n => .fieldN f.offset n x else some (.field1 f.offset x)
    | _ => none
  | .indexAddr t x i =>
    match P.underlying t with
    | some (.slice e) => (trA x).bind fun x => (trA i).bind fun i => (szOf P e).map fun n => .iaddr n x i
    | some (.array len e) => (trA x).bind fun x => (trA i).bind fun i => (szOf P e).map fun n => .iaddrA len n x i
    | _ => none
  | .index t x i =>
    match P.underlying t with
    | some (.array len e) => (trA x).bind fun x => (trA i).bind fun i => (P.underlying e).bind fun d => (szOf P e).bind fun n => if aggB d = true then some (.idxAN len n x i) else if n = 1 then some (.idxA1 len x i) else none
    | some .string => (trA x).bind fun x => (trA i).map fun i => .idxS x i
    | _ => none
  | .slice t x lo hi mx =>
    match P.underlying t with
    | some (.slice e) => (trA x).bind fun x => (trO lo).bind fun lo => (trO hi).bind fun hi => (trO mx).bind fun mx => (szOf P e).map fun n => .slice n x lo hi mx
    | some (.array len e) => (trA x).bind fun x => (trO lo).bind fun lo => (trO hi).bind fun hi => (trO mx).bind fun mx => (szOf P e).map fun n => .sliceA len n x lo hi mx
    | some .string => match mx with
      | none => (trA x).bind fun x => (trO lo).bind fun lo => (trO hi).map fun hi => .sliceS x lo hi
      | some _ => none
    | _ => none
  | .extract x i => (trA x).map (.extract i)
  | .makeFunc fn f c => (f.toList.mapM trA).bind fun f => (c.toList.mapM trA).map fun c => .mkfunc fn f c
  | .makeSlice t l c =>
    match P.underlying t with
    | some (.slice e) => (trA l).bind fun l => (trA c).bind fun c => (szOf P e).bind fun n => (byOf P e).bind fun b => (zeroOf P e).bind fun z => if (cellsL z).all flat = true then some (.mkslice n b (cellsL z) l c) else none
    | _ => none
  | .call { callee := .builtin .len, args := ⟨[x]⟩, argTypes := ⟨[t]⟩ } =>
    match P.underlying t with
    | some (.slice _) => (trA x).map (.len true)
    | some .string => (trA x).map (.len false)
    | some (.array n _) => some (.lenK n)
    | _ => none
  | .call { callee := .builtin .cap, args := ⟨[x]⟩, argTypes := ⟨[t]⟩ } =>
    match P.underlying t with
    | some (.slice _) => (trA x).map .cap
    | some (.array n _) => some (.lenK n)
    | _ => none
  | .call { callee := .builtin .max, args := ⟨x :: xs⟩, argTypes := _ } => (trA x).bind fun x => (xs.mapM trA).map fun xs => .mm true x xs
  | .call { callee := .builtin .min, args := ⟨x :: xs⟩, argTypes := _ } => (trA x).bind fun x => (xs.mapM trA).map fun xs => .mm false x xs
  | .call { callee := .builtin .append, args := ⟨[s, x]⟩, argTypes := ⟨[t, xt]⟩ } =>
    match P.underlying t, P.underlying xt with
    | some (.slice e), some dx => if plainArg dx = true then (trA s).bind fun s => (trA x).bind fun x => (szOf P e).bind fun n => (byOf P e).bind fun b => (zeroOf P e).map fun z => .append n b (cellsL z) s x else match dx with
      | .int _ => (trA s).bind fun s => (trA x).bind fun x => (szOf P e).bind fun n => (byOf P e).bind fun b => (zeroOf P e).bind fun z => if (cellsL z).all flat = true then some (.appz n b (cellsL z) s x) else none
      | _ => none
    | _, _ => none
  | .call { callee := .builtin .copy, args := ⟨[s, x]⟩, argTypes := ⟨[t, _]⟩ } =>
    match P.underlying t with
    | some (.slice e) => (trA s).bind fun s => (trA x).bind fun x => (szOf P e).map fun n => .copy n s x
    | _ => none
  | _ => none

section
variable {P : Program}

theorem trBin_sound {o : Oper} {op : BinOp} {t t' : TypeId} {x y : Operand} {z : XOp} (ho : o.op = .binOp op t x y t') (h : trBin P op t x y = some z) : Snd P o z := by
  unfold trBin at h
  split at h
  · simp only [Option.bind_eq_some_iff, Option.map_eq_some_iff] at h
    obtain ⟨x', hx, y', hy, rfl⟩ := h
    exact snd_bin ho hx hy
  · simp only [Option.bind_eq_some_iff, Option.map_eq_some_iff] at h
    obtain ⟨x', hx, y', hy, rfl⟩ := h
    exact snd_bin ho hx hy
  · rename_i hd
    split at h
    · simp only [Option.bind_eq_some_iff, Option.map_eq_some_iff] at h
      obtain ⟨x', hx, y', hy, rfl⟩ := h
      exact snd_beq (neg := false) (by simpa using ho) hx hy hd
    · simp only [Option.bind_eq_some_iff, Option.map_eq_some_iff] at h
      obtain ⟨x', hx, y', hy, rfl⟩ := h
      exact snd_beq (neg := true) (by simpa using ho) hx hy hd
    · cases h
  · rename_i hd
    split at h
    · simp only [Option.map_eq_some_iff] at h
      obtain ⟨x', hx, rfl⟩ := h
      exact snd_isnilp (neg := false) (by simpa using ho) hx hd
    · simp only [Option.map_eq_some_iff] at h
      obtain ⟨x', hx, rfl⟩ := h
      exact snd_isnilp (neg := true) (by simpa using ho) hx hd
    · cases h
  · rename_i hd
    split at h
    · simp only [Option.map_eq_some_iff] at h
      obtain ⟨x', hx, rfl⟩ := h
      exact snd_isnils (neg := false) (by simpa using ho) hx hd
    · simp only [Option.map_eq_some_iff] at h
      obtain ⟨x', hx, rfl⟩ := h
      exact snd_isnils (neg := true) (by simpa using ho) hx hd
    · cases h
  · rename_i hd
    split at h
    · split at h
      · rename_i hg
        simp only [Option.bind_eq_some_iff, Option.map_eq_some_iff] at h
        obtain ⟨N, hN, lv, hlv, x', hx, y', hy, rfl⟩ := h
        exact snd_eqs (neg := false) (by simpa using ho) hx hy hd rfl hN hg hlv
      · cases h
    · split at h
      · rename_i hg
        simp only [Option.bind_eq_some_iff, Option.map_eq_some_iff] at h
        obtain ⟨N, hN, lv, hlv, x', hx, y', hy, rfl⟩ := h
        exact snd_eqs (neg := true) (by simpa using ho) hx hy hd rfl hN hg hlv
      · cases h
    · cases h
  · rename_i hd
    split at h
    · split at h
      · rename_i hg
        simp only [Option.bind_eq_some_iff, Option.map_eq_some_iff] at h
        obtain ⟨N, hN, lv, hlv, x', hx, y', hy, rfl⟩ := h
        exact snd_eqs (neg := false) (by simpa using ho) hx hy hd rfl hN hg hlv
      · cases h
    · split at h
      · rename_i hg
        simp only [Option.bind_eq_some_iff, Option.map_eq_some_iff] at h
        obtain ⟨N, hN, lv, hlv, x', hx, y', hy, rfl⟩ := h
        exact snd_eqs (neg := true) (by simpa using ho) hx hy hd rfl hN hg hlv
      · cases h
    · cases h
  · cases h

set_option maxHeartbeats 1000000 in
theorem trOp_sound {o : Oper} {z : XOp} (h : trOp P o = some z) : Snd P o z := by
  unfold trOp at h
  split at h
  case h_1 x ho => simp only [Option.map_eq_some_iff] at h; obtain ⟨y, hy, rfl⟩ := h; exact snd_mv (.inl ho) hy
  case h_2 x ho => simp only [Option.map_eq_some_iff] at h; obtain ⟨y, hy, rfl⟩ := h; exact snd_mv (.inr ho) hy
  case h_3 c a b ho =>
    simp only [Option.bind_eq_some_iff, Option.map_eq_some_iff] at h
    obtain ⟨c', hc, a', ha, b', hb, rfl⟩ := h; exact snd_pick ho hc ha hb
  case h_4 t x ho => simp only [Option.map_eq_some_iff] at h; obtain ⟨y, hy, rfl⟩ := h; exact snd_box ho hy
  case h_5 t ho =>
    simp only [Option.bind_eq_some_iff] at h
    obtain ⟨zv, hz, h⟩ := h
    split at h
    · rename_i hf; cases h; exact snd_alloc ho hz hf
    · cases h
  case h_6 t ps ho =>
    simp only [Option.bind_eq_some_iff] at h
    obtain ⟨zv, hz, h⟩ := h
    split at h
    · rename_i hf
      split at h
      · rename_i fs hd
        simp only [Option.bind_eq_some_iff, Option.map_eq_some_iff] at h
        obtain ⟨pl, hpl, ps', hps, rfl⟩ := h
        exact snd_build ho (built_struct hz hd hpl) hf hps
      · rename_i len e hd
        simp only [Option.bind_eq_some_iff, Option.map_eq_some_iff] at h
        obtain ⟨n, hn, ps', hps, rfl⟩ := h
        exact snd_build ho (built_array hz hd hn) hf hps
      · cases h
    · cases h
  case h_7 t len ps ho =>
    split at h
    · rename_i e hd
      simp only [Option.bind_eq_some_iff] at h
      obtain ⟨zv, hz, n, hn, h⟩ := h
      split at h
      · rename_i hc
        simp only [Option.map_eq_some_iff] at h
        obtain ⟨ps', hps, rfl⟩ := h
        exact snd_bslice ho hd hz hn hc.1 hc.2.1 hc.2.2.1 hc.2.2.2.1 hc.2.2.2.2 hps
      · cases h
    · cases h
  case h_8 t a ho =>
    simp only [Option.bind_eq_some_iff] at h
    obtain ⟨a', ha, d, hd, h⟩ := h
    split at h
    · rename_i hb
      simp only [Option.map_eq_some_iff] at h
      obtain ⟨n, hn, rfl⟩ := h
      exact snd_loadN ho ha hd hb hn
    · rename_i hb; cases h; exact snd_load1 ho ha hd (by simpa using hb)
  case h_9 t a x ho =>
    simp only [Option.bind_eq_some_iff, Option.map_eq_some_iff] at h
    obtain ⟨a', ha, x', hx, n, hn, rfl⟩ := h
    exact snd_store ho ha hx hn
  case h_10 x ho => simp only [Option.map_eq_some_iff] at h; obtain ⟨y, hy, rfl⟩ := h; exact snd_nilck ho hy
  case h_11 op t x y t' ho => exact trBin_sound ho h
  case h_12 op t x ho => simp only [Option.map_eq_some_iff] at h; obtain ⟨y, hy, rfl⟩ := h; exact snd_un ho hy
  case h_13 s t x ho =>
    split at h
    · rename_i ds k hs hd
      simp only [Option.map_eq_some_iff] at h; obtain ⟨y, hy, rfl⟩ := h
      exact snd_conv ho hy hs hd
    · rename_i e hs hd
      split at h
      · rename_i hu
        simp only [Option.map_eq_some_iff] at h; obtain ⟨y, hy, rfl⟩ := h
        exact snd_b2s ho hy hs (isU8_inv hu) hd
      · cases h
    · rename_i e hs hd
      split at h
      · rename_i hu
        simp only [Option.map_eq_some_iff] at h; obtain ⟨y, hy, rfl⟩ := h
        exact snd_s2b ho hy hs hd (isU8_inv hu)
      · cases h
    · rename_i e' e hs hd
      split at h
      · rename_i hu
        obtain ⟨hu, rfl⟩ := hu
        simp only [Option.map_eq_some_iff] at h; obtain ⟨y, hy, rfl⟩ := h
        exact snd_mark ho hy hd (isU8_inv hu)
      · cases h
    · cases h
  case h_14 t x k ho =>
    split at h
    · rename_i fs hd
      simp only [Option.bind_eq_some_iff] at h
      obtain ⟨x', hx, f, hf, n, hn, h⟩ := h
      split at h
      · rename_i h0; cases h; exact snd_faddr ho hx hd hf hn h0
      · cases h
    · cases h
  case h_15 t x k ho =>
    split at h
    · rename_i fs hd
      simp only [Option.bind_eq_some_iff] at h
      obtain ⟨x', hx, f, hf, d, hfd, h⟩ := h
      split at h
      · rename_i hb
        simp only [Option.map_eq_some_iff] at h
        obtain ⟨n, hn, rfl⟩ := h
        exact snd_fieldN ho hx hd hf hfd hb hn
      · rename_i hb; cases h; exact snd_field1 ho hx hd hf hfd (by simpa using hb)
    · cases h
  case h_16 t x i ho =>
    split at h
    · rename_i e hd
      simp only [Option.bind_eq_some_iff, Option.map_eq_some_iff] at h
      obtain ⟨x', hx, i', hi, n, hn, rfl⟩ := h
      exact snd_iaddr ho hx hi hd hn
    · rename_i len e hd
      simp only [Option.bind_eq_some_iff, Option.map_eq_some_iff] at h
      obtain ⟨x', hx, i', hi, n, hn, rfl⟩ := h
      exact snd_iaddrA ho hx hi hd hn
    · cases h
  case h_17 t x i ho =>
    split at h
    · rename_i len e hd
      simp only [Option.bind_eq_some_iff] at h
      obtain ⟨x', hx, i', hi, d, hfd, n, hn, h⟩ := h
      split at h
      · rename_i hb; cases h; exact snd_idxAN ho hx hi hd hfd hb hn
      · rename_i hb
        split at h
        · rename_i h1; subst h1; cases h; exact snd_idxA1 ho hx hi hd hfd (by simpa using hb) hn
        · cases h
    · rename_i hd
      simp only [Option.bind_eq_some_iff, Option.map_eq_some_iff] at h
      obtain ⟨x', hx, i', hi, rfl⟩ := h
      exact snd_idxS ho hx hi hd
    · cases h
  case h_18 t x lo hi mx ho =>
    split at h
    · rename_i e hd
      simp only [Option.bind_eq_some_iff, Option.map_eq_some_iff] at h
      obtain ⟨x', hx, lo', hlo, hi', hhi, mx', hmx, n, hn, rfl⟩ := h
      exact snd_slice ho hx hlo hhi hmx hd hn
    · rename_i len e hd
      simp only [Option.bind_eq_some_iff, Option.map_eq_some_iff] at h
      obtain ⟨x', hx, lo', hlo, hi', hhi, mx', hmx, n, hn, rfl⟩ := h
      exact snd_sliceA ho hx hlo hhi hmx hd hn
    · rename_i hd
      split at h
      · simp only [Option.bind_eq_some_iff, Option.map_eq_some_iff] at h
        obtain ⟨x', hx, lo', hlo, hi', hhi, rfl⟩ := h
        exact snd_sliceS ho hx hlo hhi hd
      · cases h
    · cases h
  case h_19 x i ho => simp only [Option.map_eq_some_iff] at h; obtain ⟨y, hy, rfl⟩ := h; exact snd_extract ho hy
  case h_20 fn f c ho =>
    simp only [Option.bind_eq_some_iff, Option.map_eq_some_iff] at h
    obtain ⟨f', hf, c', hc, rfl⟩ := h
    exact snd_mkfunc ho hf hc
  case h_21 t l c ho =>
    split at h
    · rename_i e hd
      simp only [Option.bind_eq_some_iff] at h
      obtain ⟨l', hl, c', hc, n, hn, b, hb, zv, hz, h⟩ := h
      split at h
      · rename_i hf; cases h; exact snd_mkslice ho hl hc hd hn hb hz hf
      · cases h
    · cases h
  case h_22 x t ho =>
    split at h
    · rename_i e hd
      simp only [Option.map_eq_some_iff] at h; obtain ⟨y, hy, rfl⟩ := h; exact snd_lenL ho hy hd
    · rename_i hd
      simp only [Option.map_eq_some_iff] at h; obtain ⟨y, hy, rfl⟩ := h; exact snd_lenS ho hy hd
    · rename_i n e hd; cases h; exact snd_lenK (.inl ho) hd
    · cases h
  case h_23 x t ho =>
    split at h
    · rename_i e hd
      simp only [Option.map_eq_some_iff] at h; obtain ⟨y, hy, rfl⟩ := h; exact snd_cap ho hy hd
    · rename_i n e hd; cases h; exact snd_lenK (.inr ho) hd
    · cases h
  case h_24 x xs ts ho =>
    simp only [Option.bind_eq_some_iff, Option.map_eq_some_iff] at h
    obtain ⟨x', hx, xs', hxs, rfl⟩ := h
    exact snd_mm (mx := true) (by simpa using ho) hx hxs
  case h_25 x xs ts ho =>
    simp only [Option.bind_eq_some_iff, Option.map_eq_some_iff] at h
    obtain ⟨x', hx, xs', hxs, rfl⟩ := h
    exact snd_mm (mx := false) (by simpa using ho) hx hxs
  case h_26 s x t xt ho =>
    split at h
    · rename_i e dx hd hdx
      split at h
      · rename_i hp
        simp only [Option.bind_eq_some_iff, Option.map_eq_some_iff] at h
        obtain ⟨s', hs, x', hx, n, hn, b, hb, zv, hz, rfl⟩ := h
        exact snd_append ho hs hx hd hdx hp hn hb hz
      · split at h
        · simp only [Option.bind_eq_some_iff] at h
          obtain ⟨s', hs, x', hx, n, hn, b, hb, zv, hz, h⟩ := h
          split at h
          · rename_i hf; cases h; exact snd_appz ho hs hx hd hdx hn hb hz hf
          · cases h
        · cases h
    · cases h
  case h_27 s x t xt ho =>
    split at h
    · rename_i e hd
      simp only [Option.bind_eq_some_iff, Option.map_eq_some_iff] at h
      obtain ⟨s', hs, x', hx, n, hn, rfl⟩ := h
      exact snd_copy ho hs hx hd hn
    · cases h
  case h_28 => cases h
end
end Go.Ai
