import Derived.Test.YtkjmlfbafmdegaaVmA
namespace Go.Vm
set_option linter.unusedSectionVars false
set_option linter.unusedSimpArgs false
set_option linter.unusedVariables false
open Go

/-! ### operations, resolved -/
def cst1 : Value → AV
  | .int kd n => .i kd n
  | .bool x => .b x
  | .string x => .s x.data.toList
  | v => .k v
def cst : Value → AV
  | .agg cs => .agg (cs.toList.map cst1)
  | v => cst1 v

def ev (T : Tm) : Operand → AV
  | .tmp t => T t
  | .const v => cst v
  | .func f => .fn f []
  | .global _ => .undef

inductive LOp where
  | mov (x : Operand)
  | pick (c a b : Operand)
  | alloc (zs : List Value)
  | box (n : Nat) (x : Operand)
  | build (zs : List Value) (parts : List (Nat × Nat × Operand))
  | slit (sz : Nat) (zs : List Value) (len : Nat) (parts : List (Nat × Operand))
  | load (n : Nat) (ag : Bool) (p : Operand)
  | store (n : Nat) (p v : Operand)
  | nilc (x : Operand)
  | bin (op : BinOp) (x y : Operand)
  | eqB (neg : Bool) (x y : Operand)
  | eqn (neg isP : Bool) (x : Operand)            -- against nil: an error, a pointer, a function
  | eqa (neg : Bool) (n : Nat) (x y : Operand)  -- structs and arrays of whole numbers
  | un (op : UnOp) (x : Operand)
  | convI (kd : IntKind) (x : Operand)
  | convS (x : Operand)                       -- bytes to a string
  | convB (x : Operand)                       -- a string to bytes
  | mkI (t : TypeId) (x : Operand)
  | mkF (f : FuncId) (caps : List Operand)
  | mkSl (sz bytes : Nat) (zs : List Value) (len cap : Operand)
  | slc (sz : Nat) (x : Operand) (lo hi : Option Operand)      -- a slice
  | slcS (x : Operand) (lo hi : Option Operand)                -- a string
  | slcA (m sz : Nat) (x : Operand) (lo hi : Option Operand)   -- an array behind a pointer
  | fldA (off : Nat) (p : Operand)
  | fld (off n : Nat) (ag : Bool) (x : Operand)
  | idxA (sz : Nat) (x ix : Operand)          -- of a slice
  | idxP (m sz : Nat) (x ix : Operand)        -- of an array behind a pointer
  | idx (m sz : Nat) (ag : Bool) (x ix : Operand)   -- of an array that is a value
  | idxS (x ix : Operand)                     -- of a string
  | ext (x : Operand) (j : Nat)
  | lenL (x : Operand)
  | lenS (x : Operand)
  | lenC (n : Nat)
  | app (sz bytes : Nat) (s x : Operand)
  | mn (x y : Operand)
  | mx (x y : Operand)
  | call (f : FuncId) (args : List Operand)
  | callv (x : Operand) (args : List Operand)
  | eqs (neg : Bool) (x : Operand)            -- a slice against nil
  | capL (x : Operand)                        -- of nil
  | slc3 (sz : Nat) (x : Operand) (lo : Option Operand) (hi mx : Operand)
  | convSl (x : Operand)                      -- bytes to bytes: only read from then on
  | appN (sz bytes : Nat) (zs : List Value) (s x : Operand)   -- so many zeros behind nil
  | bad

structure LOper where
  dst : Option Nat
  op : LOp
  guard : Option (Nat × Bool)

structure Out where
  v : AV
  eff : List (Nat × Option Row) := []
  rd : List Nat := []

def upd (M : Mem) : List (Nat × Option Row) → Mem
  | [] => M
  | (a, r) :: e => fun id => if id = a then r else upd M e id
def put (T : Tm) (d : Option Nat) (v : AV) : Tm :=
  match d with
  | none => T
  | some d => fun t => if t = d then v else T t

/-- What a value is, cell by cell. -/
def AV.cells : AV → List AV
  | .agg cs => cs
  | v => [v]
/-- Whose row a cell leads to. -/
def AV.ref1 : AV → List Nat
  | .own id _ _ _ => [id]
  | .ptr id _ _ => [id]
  | _ => []
/-- A value that fills one cell; what it leads to is there. -/
def oneC (M : Mem) : AV → Bool
  | .agg _ | .tup _ | .undef => false
  | .k (.agg _) | .k (.tuple _) => false
  | .own id _ _ _ => (M id).isSome
  | .ptr id _ _ => (M id).isSome
  | _ => true
def flatC (M : Mem) : AV → Bool
  | .agg cs => cs.all (oneC M)
  | v => oneC M v
def refsC (v : AV) : List Nat := v.cells.flatMap AV.ref1

def Row.get1 (r : Row) (i o : Nat) : Option AV :=
  if r.sz = 1 then (r.el[i + o]?).bind (·[0]?) else (r.el[i]?).bind (·[o]?)
def Row.getN (r : Row) (i o n : Nat) : Option (List AV) :=
  if r.sz = 1 then (let cs := ((r.el.drop (i + o)).take n).flatten; if cs.length = n then some cs else none)
  else (r.el[i]?).bind fun cs => if o + n ≤ cs.length then some ((cs.drop o).take n) else none
def Row.set1 (r : Row) (i o : Nat) (c : AV) : Option Row :=
  if r.sz = 1 then (if i + o < r.el.length then some { r with el := r.el.set (i + o) [c] } else none)
  else (r.el[i]?).bind fun cs => if o < cs.length then some { r with el := r.el.set i (cs.set o c) } else none
/-- Cells written over from place o on. -/
def over {α : Type} : List α → Nat → List α → List α
  | cs, _, [] => cs
  | cs, o, v :: vs => over (cs.set o v) (o + 1) vs
def Row.setN (r : Row) (i o : Nat) (vs : List AV) : Option Row :=
  if r.sz = 1 then (if i + o + vs.length ≤ r.el.length then some { r with el := r.el.take (i + o) ++ vs.map (fun c => [c]) ++ r.el.drop (i + o + vs.length) } else none)
  else (r.el[i]?).bind fun cs => if o + vs.length ≤ cs.length then some { r with el := r.el.set i (over cs o vs) } else none

def cells1 (zs : List Value) : List AV := zs.map cst1

/-- Parts laid into zero cells. -/
def fillL (M : Mem) (cs : List AV) (T : Tm) : List (Nat × Nat × Operand) → Option (List AV)
  | [] => some cs
  | (off, n, x) :: ps =>
    let v := ev T x
    if flatC M v = true ∧ v.cells.length = n ∧ off + n ≤ cs.length then fillL M (over cs off v.cells) T ps else none
def fillE (M : Mem) (el : List (List AV)) (sz : Nat) (T : Tm) : List (Nat × Operand) → Option (List (List AV))
  | [] => some el
  | (i, x) :: ps =>
    let v := ev T x
    if flatC M v = true ∧ v.cells.length = sz ∧ i < el.length then fillE M (el.set i v.cells) sz T ps else none

/-- The elements that a slice reads as. -/
def elems (M : Mem) (sz : Nat) : AV → Option (List (List AV) × List Nat)
  | .k (.slice none 0 0) => some ([], [])
  | .k (.slice (some _) 0 _) => some ([], [])
  | .deep sz' xs => if sz' = sz ∨ xs = [] then some (xs, []) else none
  | .own id off n 1 => (M id).bind fun r => if r.sz = sz then some ((r.el.drop off).take n, [id]) else none
  | _ => none

def bound (T : Tm) (d : Nat) : Option Operand → Option Int
  | none => some d
  | some x => match ev T x with | .i _ n => some n | _ => none

def binI (op : BinOp) (kd : IntKind) (a b : Int) : Option AV :=
  match op with
  | .add => some (.i kd (kd.wrap (a + b)))
  | .sub => some (.i kd (kd.wrap (a - b)))
  | .mul => some (.i kd (kd.wrap (a * b)))
  | .quo => if b = 0 then none else some (.i kd (kd.wrap (a.tdiv b)))
  | .rem => if b = 0 then none else some (.i kd (a.tmod b))
  | .and | .or | .xor | .andNot => some (.i kd (bits op kd a b))
  | .eql => some (.b (decide (a = b)))
  | .neq => some (.b (!decide (a = b)))
  | .lss => some (.b (decide (a < b)))
  | .leq => some (.b (decide (a ≤ b)))
  | .gtr => some (.b (decide (b < a)))
  | .geq => some (.b (decide (b ≤ a)))
  | _ => none
def shI (op : BinOp) (kd : IntKind) (a b : Int) : Option AV :=
  if b < 0 then none else
  match op with
  | .shl => some (.i kd (kd.wrap (a * 2 ^ (min b.toNat kd.bits))))
  | .shr => some (.i kd (a.fdiv (2 ^ (min b.toNat kd.bits))))
  | _ => none
def binS (op : BinOp) (a b : List UInt8) : Option AV :=
  match op with
  | .eql => some (.b (decide (a = b)))
  | .neq => some (.b (!decide (a = b)))
  | .lss => some (.b (Op.bytesLess a b))
  | .add => if a.length + b.length ≤ 9223372036854775807 then some (.s (a ++ b)) else none
  | _ => none
def binL (op : BinOp) : AV → AV → Option AV
  | .i kd a, .i kd' b => match op with
    | .shl | .shr => shI op kd a b
    | _ => if kd = kd' then binI op kd a b else none
  | .s a, .s b => binS op a b
  | _, _ => none
def eqCells : List AV → List AV → Option Bool
  | [], [] => some true
  | .i kd a :: xs, .i kd' b :: ys => if kd = kd' then (eqCells xs ys).map fun r => decide (a = b) && r else none
  | _, _ => none
def unL (op : UnOp) : AV → Option AV
  | .b x => match op with | .not => some (.b (!x)) | _ => none
  | .i kd n => match op with
    | .neg => some (.i kd (kd.wrap (0 - n)))
    | _ => none
  | _ => none
def byts (l : List UInt8) : List (List AV) := l.map fun c => [.i .u8 c.toNat]
def bytesOf : List (List AV) → Option (List UInt8)
  | [] => some []
  | [.i .u8 n] :: r => (bytesOf r).map (UInt8.ofNat n.toNat :: ·)
  | _ => none

/-- One operation. -/
def step (T : Tm) (M : Mem) (slot : Nat) : LOp → Option Out
  | .mov x => some { v := ev T x }
  | .pick c a b => match ev T c with
    | .b t => some { v := if t then ev T a else ev T b }
    | _ => none
  | .alloc zs => if zs = [] then none else some { v := .ptr slot 0 0, eff := [(slot, some ⟨1, (cells1 zs).map fun c => [c]⟩)] }
  | .box n x => let v := ev T x
    if flatC M v = true ∧ v.cells.length = n ∧ 0 < n then some { v := .ptr slot 0 0, eff := [(slot, some ⟨1, v.cells.map fun c => [c]⟩)], rd := refsC v } else none
  | .build zs ps => (fillL M (cells1 zs) T ps).map fun cs => { v := .agg cs, rd := ps.flatMap fun p => refsC (ev T p.2.2) }
  | .slit sz zs len ps => (fillE M (List.replicate len (cells1 zs)) sz T ps).map fun el => { v := .own slot 0 len 1, eff := [(slot, some ⟨sz, el⟩)], rd := ps.flatMap fun p => refsC (ev T p.2) }
  | .load n ag p => match ev T p with
    | .dptr cs => if ag then (if n ≤ cs.length then some { v := .agg (cs.take n) } else none) else (cs[0]?).map fun c => { v := c }
    | .ptr id i o => (M id).bind fun r =>
      if ag then (r.getN i o n).map fun cs => { v := .agg cs, rd := [id] } else (r.get1 i o).map fun c => { v := c, rd := [id] }
    | _ => none
  | .store n p x => match ev T p with
    | .ptr id i o => let v := ev T x
      if flatC M v = true ∧ v.cells.length = n then
        (M id).bind fun r => (if n = 1 then (v.cells[0]?).bind (r.set1 i o) else r.setN i o v.cells).map fun r' => { v := .k undef, eff := [(id, some r')], rd := id :: refsC v }
      else none
    | _ => none
  | .nilc x => match ev T x with
    | .ptr id i o => (M id).map fun _ => { v := .ptr id i o, rd := [id] }
    | .dptr cs => some { v := .dptr cs }
    | _ => none
  | .bin op x y => (binL op (ev T x) (ev T y)).map fun v => { v }
  | .eqB neg x y => match ev T x, ev T y with
    | .b p, .b q => some { v := .b (if neg then p != q else p == q) }
    | _, _ => none
  | .eqn neg false x => match ev T x with
    | .k .nilIface => some { v := .b (!neg) }
    | .ifc _ _ => some { v := .b neg }
    | _ => none
  | .eqn neg true x => match ev T x with
    | .k (.pointer none) => some { v := .b (!neg) }
    | .dptr _ => some { v := .b neg }
    | .ptr id _ _ => (M id).map fun _ => { v := .b neg, rd := [id] }
    | _ => none
  | .eqa neg n x y => match ev T x, ev T y with
    | .agg xs, .agg ys => if xs.length = n ∧ ys.length = n then (eqCells xs ys).map fun t => { v := .b (if neg then !t else t) } else none
    | _, _ => none
  | .un op x => (unL op (ev T x)).map fun v => { v }
  | .convI kd x => match ev T x with
    | .i _ n => some { v := .i kd (kd.wrap n) }
    | _ => none
  | .convS x => (elems M 1 (ev T x)).bind fun (el, rd) => (bytesOf el).map fun l => { v := .s l, rd }
  | .convB x => match ev T x with
    | .s s => if s.length ≤ 4611686018427387904 then some { v := .own slot 0 s.length 1, eff := [(slot, some ⟨1, byts s⟩)] } else none
    | _ => none
  | .mkI t x => let v := ev T x
    if oneC M v = true then some { v := .ifc t v, rd := refsC v } else none
  | .mkF f caps => some { v := .fn f (caps.map (ev T)) }
  | .mkSl sz bytes zs len cap => match ev T len, ev T cap with
    | .i .i64 n, .i .i64 c => if 0 ≤ n ∧ n ≤ c ∧ c ≤ 9223372036854775807 ∧ c.toNat * bytes ≤ 281474976710656 then
        some { v := .own slot 0 n.toNat 1, eff := [(slot, some ⟨sz, List.replicate n.toNat (cells1 zs)⟩)] } else none
    | _, _ => none
  | .slc sz x lo hi => match ev T x with
    | .own id off n st => (bound T 0 lo).bind fun l => (bound T n hi).bind fun h => (M id).bind fun r =>
        if 0 ≤ l ∧ l ≤ h ∧ h ≤ n ∧ sz = st * r.sz then some { v := .own id (off + l.toNat * st) (h.toNat - l.toNat) st, rd := [id] } else none
    | .deep sz' xs => (bound T 0 lo).bind fun l => (bound T xs.length hi).bind fun h =>
        if 0 ≤ l ∧ l ≤ h ∧ h ≤ xs.length ∧ (sz' = sz ∨ xs = []) then some { v := .deep sz ((xs.drop l.toNat).take (h.toNat - l.toNat)) } else none
    | .k (.slice none 0 0) => (bound T 0 lo).bind fun l => (bound T 0 hi).bind fun h => if l = 0 ∧ h = 0 then some { v := .k (.slice none 0 0) } else none
    | _ => none
  | .slcS x lo hi => match ev T x with
    | .s s => (bound T 0 lo).bind fun l => (bound T s.length hi).bind fun h =>
        if 0 ≤ l ∧ l ≤ h ∧ h ≤ s.length then some { v := .s ((s.drop l.toNat).take (h.toNat - l.toNat)) } else none
    | _ => none
  | .slcA m sz x lo hi => match ev T x with
    | .ptr id i o => (bound T 0 lo).bind fun l => (bound T m hi).bind fun h => (M id).bind fun r =>
        if r.sz = 1 ∧ 0 ≤ l ∧ l ≤ h ∧ h ≤ m ∧ i + o + m * sz ≤ r.el.length then some { v := .own id (i + o + l.toNat * sz) (h.toNat - l.toNat) sz, rd := [id] } else none
    | _ => none
  | .fldA off p => match ev T p with
    | .ptr id i o => (M id).map fun _ => { v := .ptr id i (o + off), rd := [id] }
    | .dptr cs => some { v := .dptr (cs.drop off) }
    | _ => none
  | .fld off n ag x => match ev T x with
    | .agg cs => if ag then (if off + n ≤ cs.length then some { v := .agg ((cs.drop off).take n) } else none) else (cs[off]?).map fun c => { v := c }
    | _ => none
  | .idxA sz x ix => match ev T ix with
    | .i _ j => match ev T x with
      | .own id off n st => (M id).bind fun r => if 0 ≤ j ∧ j < n ∧ sz = st * r.sz ∧ 0 < st then some { v := .ptr id (off + j.toNat * st) 0, rd := [id] } else none
      | .deep sz' xs => if 0 ≤ j ∧ sz' = sz then (xs[j.toNat]?).map fun cs => { v := .dptr cs } else none
      | _ => none
    | _ => none
  | .idxP m sz x ix => match ev T ix with
    | .i _ j => if 0 ≤ j ∧ j < m then (match ev T x with
      | .ptr id i o => (M id).map fun _ => { v := .ptr id i (o + j.toNat * sz), rd := [id] }
      | .dptr cs => some { v := .dptr (cs.drop (j.toNat * sz)) }
      | _ => none) else none
    | _ => none
  | .idx m sz ag x ix => match ev T ix with
    | .i _ j => if 0 ≤ j ∧ j < m then (match ev T x with
      | .agg cs => if ag then (if j.toNat * sz + sz ≤ cs.length then some { v := .agg ((cs.drop (j.toNat * sz)).take sz) } else none) else (cs[j.toNat * sz]?).map fun c => { v := c }
      | _ => none) else none
    | _ => none
  | .idxS x ix => match ev T ix with
    | .i _ j => match ev T x with
      | .s s => if 0 ≤ j then (s[j.toNat]?).map fun c => { v := .i .u8 c.toNat } else none
      | _ => none
    | _ => none
  | .ext x j => match ev T x with
    | .tup vs => (vs[j]?).map fun v => { v }
    | _ => none
  | .lenL x => match ev T x with
    | .own id _ n _ => (M id).map fun _ => { v := .i .i64 n, rd := [id] }
    | .deep _ xs => some { v := .i .i64 xs.length }
    | .k (.slice none 0 0) => some { v := .i .i64 0 }
    | _ => none
  | .lenS x => match ev T x with
    | .s s => some { v := .i .i64 s.length }
    | _ => none
  | .lenC n => some { v := .i .i64 n }
  | .app sz bytes s x =>
    match ev T s with
    | .k (.slice none 0 0) => (elems M sz (ev T x)).bind fun (ys, rd) =>
        if ys.length * bytes ≤ 140737488355328 ∧ ys.length ≤ 4611686018427387904 then some { v := .own slot 0 ys.length 1, eff := [(slot, some ⟨sz, ys⟩)], rd } else none
    | .own id off n 1 => (M id).bind fun r => (elems M sz (ev T x)).bind fun (ys, rd) =>
        if r.sz = sz ∧ (n + ys.length) * bytes ≤ 140737488355328 ∧ n + ys.length ≤ 4611686018427387904 then
          some { v := .own slot 0 (n + ys.length) 1, eff := [(slot, some ⟨sz, (r.el.drop off).take n ++ ys⟩), (id, none)], rd := id :: rd } else none
    | _ => none
  | .mn x y => match ev T x, ev T y with
    | .i kd a, .i kd' b => if kd = kd' then some { v := .i kd (if b < a then b else a) } else none
    | _, _ => none
  | .mx x y => match ev T x, ev T y with
    | .i kd a, .i kd' b => if kd = kd' then some { v := .i kd (if a < b then b else a) } else none
    | _, _ => none
  | .eqs neg x => match ev T x with
    | .k (.slice none _ _) => some { v := .b (!neg) }
    | .k (.slice (some _) _ _) => some { v := .b neg }
    | .deep _ (_ :: _) => some { v := .b neg }
    | _ => none
  | .capL x => match ev T x with
    | .k (.slice none 0 0) => some { v := .i .i64 0 }
    | _ => none
  | .slc3 sz x lo hi mx => match ev T x with
    | .own id off n st => (bound T 0 lo).bind fun l => (bound T n (some hi)).bind fun h => (bound T n (some mx)).bind fun m => (M id).bind fun r =>
        if 0 ≤ l ∧ l ≤ h ∧ h ≤ m ∧ m ≤ n ∧ sz = st * r.sz then some { v := .own id (off + l.toNat * st) (h.toNat - l.toNat) st, rd := [id] } else none
    | .deep sz' xs => (bound T 0 lo).bind fun l => (bound T xs.length (some hi)).bind fun h => (bound T xs.length (some mx)).bind fun m =>
        if 0 ≤ l ∧ l ≤ h ∧ h ≤ m ∧ m ≤ xs.length ∧ (sz' = sz ∨ xs = []) then some { v := .deep sz ((xs.drop l.toNat).take (h.toNat - l.toNat)) } else none
    | _ => none
  | .convSl x => match ev T x with
    | .own id off n 1 => (M id).bind fun r => if 0 < n then some { v := .deep r.sz ((r.el.drop off).take n), eff := [(id, none)], rd := [id] } else none
    | _ => none
  | .appN sz bytes zs s x => match ev T s, ev T x with
    | .k (.slice none 0 0), .i kd n => if 0 < n ∧ n ≤ 9223372036854775807 ∧ n.toNat * bytes ≤ 281474976710656 then
        some { v := .own slot 0 n.toNat 1, eff := [(slot, some ⟨sz, List.replicate n.toNat (cells1 zs)⟩)] } else none
    | _, _ => none
  | .bad => none
  | .call _ _ | .callv _ _ => none

inductive LCode where
  | skip
  | rgn (wk draw : Bool) (bef : List Nat) (keep : List Nat) (ops : List LOper)
  | seq (a b : LCode)
  | cond (c : Operand) (x y : LCode)
  | block (id : Nat) (c : LCode)
  | loop (c : LCode)
  | exit (id : Nat)
  | ret
end Go.Vm
