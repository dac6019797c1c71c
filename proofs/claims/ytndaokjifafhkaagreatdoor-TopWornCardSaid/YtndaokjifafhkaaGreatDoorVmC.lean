import Derived.Test.YtndaokjifafhkaaGreatDoorVmA
import Derived.Laws.Cells
import Derived.Laws.Append
import Derived.Laws.IdiomCopy
import Derived.ChangeKeysEq
import Derived.KernelRfl
namespace Go.Vm
set_option linter.unusedSectionVars false
set_option linter.unusedSimpArgs false
set_option linter.unusedVariables false
open Go
variable [Inhabited LayT]

/-! ### from the program's operations to the resolved ones -/
def fieldOf (P : Program) (t : TypeId) (j : Nat) : Option (Nat × TypeId) :=
  match P.underlying t with
  | some (.struct fs) => (fs[j]?).map fun f => (f.offset, f.type)
  | _ => none
def isAggB (P : Program) (t : TypeId) : Option Bool :=
  match P.underlying t with
  | some (.struct _) | some (.array _ _) => some true
  | some _ => some false
  | none => none
def sizeB (P : Program) (t : TypeId) : Option Nat := (P.info? t).map (·.size)
def zeroB (P : Program) (t : TypeId) : Option (List Value) := (P.info? t).bind fun i => i.zero.map (·.cells.toList)

def isIntLit : Operand → Bool
  | .const (.int _ _) => true
  | _ => false
def isNilI : Operand → Bool
  | .const .nilIface => true
  | _ => false
def isNilP : Operand → Bool
  | .const (.pointer none) => true
  | _ => false

def isNilS : Operand → Bool
  | .const (.slice none 0 0) => true
  | _ => false

def isIntB (P : Program) (t : TypeId) : Bool :=
  match P.underlying t with
  | some (.int _) => true
  | _ => false
/-- A struct of whole numbers, laid one behind the other. -/
def eqStr (P : Program) (t : TypeId) (fs : Array Field) : Bool :=
  (!P.stoodInHeld t) && (!P.eqGuardType P.depth t) && fs.toList.zipIdx.all fun x => x.1.name != "_" && x.1.offset == x.2 && isIntB P x.1.type
def eqArr (P : Program) (t e : TypeId) : Bool :=
  (!P.eqGuardType P.depth t) && isIntB P e && (P.info? e).isSome && P.cellsOf e == 1
/-- A map's keys: strings, whole numbers; its elements. -/
def mapB (P : Program) (t : TypeId) : Option (Bool × TypeId) :=
  match P.underlying t with
  | some (.map k e) => match P.underlying k with
    | some .string => some (true, e)
    | some (.int _) => some (false, e)
    | _ => none
  | _ => none
def compOp (P : Program) : Op → Option LOp
  | .move x | .assign x => some (.mov x)
  | .pick c a b => some (.pick c a b)
  | .alloc e => (zeroB P e).bind fun zs => if zs.all (·.oneCell') = true then some (.alloc e zs) else none
  | .box e x => (sizeB P e).map fun n => .box n x
  | .build t ps => match P.underlying t with
    | some (.struct fs) => if fs.toList.all (fun f => (sizeB P f.type).isSome) = true then match zeroB P t, ps.toList.mapM (fun (p : Nat × Operand) => (fs[p.1]?).bind fun f => (sizeB P f.type).map fun n => (f.offset, n, p.2)) with
      | some zs, some qs => some (.build zs qs)
      | _, _ => none
      else none
    | some (.array _ e) => match zeroB P t, sizeB P e with
      | some zs, some n => some (.build zs (ps.toList.map fun p => (p.1 * n, n, p.2)))
      | _, _ => none
    | _ => none
  | .buildSlice t len ps => match P.underlying t with
    | some (.slice e) => match zeroB P e, sizeB P e with
      | some zs, some n => if len * n ≤ 16777216 ∧ zs.length = n ∧ 0 < n ∧ zs.all (·.oneCell') = true then some (.slit n zs len ps.toList) else none
      | _, _ => none
    | _ => none
  | .load t p => match isAggB P t, sizeB P t with
    | some ag, some n => some (.load n ag p)
    | _, _ => none
  | .store t p x => (sizeB P t).map fun n => .store n p x
  | .nilCheck x => some (.nilc x)
  | .binOp op t x y _ => match op with
    | .eql => match P.underlying t with
      | some (.interface _) => if isNilI y then some (.eqn false false x) else none
      | some (.pointer _) => if isNilP y then some (.eqn false true x) else none
      | some .bool => some (.eqB false x y)
      | some (.slice _) => if isNilS y then some (.eqs false x) else none
      | some (.struct fs) => if eqStr P t fs = true then some (.eqa false fs.size x y) else none
      | some (.array m e) => if eqArr P t e = true then some (.eqa false m x y) else none
      | some (.int _) | some .string => some (.bin op x y)
      | _ => none
    | .neq => match P.underlying t with
      | some (.interface _) => if isNilI y then some (.eqn true false x) else none
      | some (.pointer _) => if isNilP y then some (.eqn true true x) else none
      | some .bool => some (.eqB true x y)
      | some (.slice _) => if isNilS y then some (.eqs true x) else none
      | some (.struct fs) => if eqStr P t fs = true then some (.eqa true fs.size x y) else none
      | some (.array m e) => if eqArr P t e = true then some (.eqa true m x y) else none
      | some (.int _) | some .string => some (.bin op x y)
      | _ => none
    | _ => some (.bin op x y)
  | .unOp op _ x => some (.un op x)
  | .convert src dst x => match P.underlying src, P.underlying dst with
    | some (.int _), some (.int kd) => some (.convI kd x)
    | some (.slice e), some .string => match P.underlying e with
      | some (.int .u8) => some (.convS x)
      | _ => none
    | some (.slice _), some (.slice e) => match P.underlying e with
      | some (.int .u8) => if src = dst then some (.convSl x) else none
      | _ => none
    | some .string, some (.slice e) => match P.underlying e with
      | some (.int .u8) => some (.convB x)
      | _ => none
    | _, _ => none
  | .makeInterface t x => match P.underlying t with
    | some (.interface _) => none
    | some _ => some (.mkI t x)
    | none => none
  | .makeFunc (.func f) fst caps => if fst.size = 0 then some (.mkF f caps.toList) else if caps.size = 0 then some (.mkB f fst.toList) else none
  | .makeSlice t l c => match P.underlying t with
    | some (.slice e) => match P.info? e with
      | some i => match i.zero with
        | some z => if z.cells.size = i.size ∧ 0 < i.size ∧ z.cells.toList.all (·.oneCell') = true then some (.mkSl i.size i.bytes z.cells.toList l c) else none
        | none => none
      | none => none
    | _ => none
  | .slice t x lo hi mx => match mx with
    | some m3 => match P.underlying t, hi with
      | some (.slice e), some h3 => (sizeB P e).map fun n => .slc3 n x lo h3 m3
      | _, _ => none
    | none => match P.underlying t with
      | some (.slice e) => (sizeB P e).map fun n => .slc n x lo hi
      | some .string => some (.slcS x lo hi)
      | some (.array m e) => (sizeB P e).map fun n => .slcA m n x lo hi
      | _ => none
  | .fieldAddr t p j => match fieldOf P t j with
    | some (off, ft) => match sizeB P ft with
      | some n => if 0 < n then some (.fldA off p) else none
      | none => none
    | none => none
  | .field t x j => match fieldOf P t j with
    | some (off, ft) => match sizeB P ft, isAggB P ft with
      | some n, some ag => some (.fld off n ag x)
      | _, _ => none
    | none => none
  | .indexAddr t x ix => match P.underlying t with
    | some (.slice e) => (sizeB P e).map fun n => .idxA n x ix
    | some (.array m e) => (sizeB P e).map fun n => match x with | .global i => .gix i m n ix | x => .idxP m n x ix
    | _ => none
  | .index t x ix => match P.underlying t with
    | some (.array m e) => match sizeB P e, isAggB P e with
      | some n, some ag => some (.idx m n ag x ix)
      | _, _ => none
    | some .string => some (.idxS x ix)
    | _ => none
  | .extract x j => some (.ext x j)
  | .makeMap _ r => if r.isNone = true then some (.x .mkM) else none
  | .mapUpdate t m k v => (mapB P t).map fun y => .x (.mup y.1 m k v)
  | .lookup t m k ok => (mapB P t).bind fun y => ((P.info? y.2).bind (·.zero)).map fun z => .x (.look y.1 z ok m k)
  | .range t x => match P.underlying t with
    | some .string => some (.x (.rngS x))
    | some (.map _ _) => some (.x (.rngM x))
    | _ => none
  | .entry it => some (.x (.ent it))
  | .next it isS => if isS = true then some (.x (.nxtS it)) else some (.x (.nxtM it))
  | .call c => match c.callee with
    | .value (.func f) => some (.call f c.args.toList)
    | .value x => some (.callv x c.args.toList)
    | .builtin .len => match c.argTypes[0]?, c.args.toList with
      | some t, [x] => match P.underlying t with
        | some (.slice _) => some (.lenL x)
        | some .string => some (.lenS x)
        | some (.array n _) => some (.lenC n)
        | _ => none
      | _, _ => none
    | .builtin .cap => match c.argTypes[0]?, c.args.toList with
      | some t, [x] => match P.underlying t with
        | some (.slice _) => some (.capL x)
        | _ => none
      | _, _ => none
    | .builtin .append => match c.argTypes.toList, c.args.toList with
      | [t, u], [s, x] => match P.underlying t, P.underlying u with
        | some (.slice e), some (.int _) => match P.info? e with
          | some i => match i.zero with
            | some z => if 0 < i.size ∧ z.cells.size = i.size ∧ z.cells.toList.all (·.oneCell') = true then some (.appN i.size i.bytes z.cells.toList s x) else none
            | none => none
          | none => none
        | some (.slice e), some (.slice _) => match P.info? e with
          | some i => match i.zero with
            | some z => if 0 < i.size ∧ z.cells.size = i.size then some (.app e i.size i.bytes s x) else none
            | none => none
          | none => none
        | some (.slice e), some .string => match P.info? e with
          | some i => match i.zero with
            | some z => if i.size = 1 ∧ z.cells.size = i.size then some (.x (.appS e i.bytes s x)) else none
            | none => none
          | none => none
        | _, _ => none
      | _, _ => none
    | .builtin .min => match c.args.toList with
      | [x, y] => some (.mn x y)
      | _ => none
    | .builtin .max => match c.args.toList with
      | [x, y] => some (.mx x y)
      | _ => none
    | _ => none
  | _ => none

/-! ### what stands behind an operation -/
def OpRun (P : Program) (o : Oper) (a : Act) (w : World) (u : Value) (w' : World) : Prop :=
  (execOp a.eval o).run P w = .ok (.value u) w' ∨ ((execOp a.eval o).run P w = .ok .skip w' ∧ u = undef)

def RelT (g : Gh) (M : Mem) (w : World) (T : Tm) (a : Act) : Prop := ∀ t, Rel g M w (T t) (a.tmps.getD t undef)

def Res (P : Program) (o : Oper) (a : Act) (w : World) (g : Gh) (M : Mem) (slot : Nat) (out : Out) : Prop :=
  ∃ u w' g', OpRun P o a w u w' ∧ Rel g' (upd M out.eff) w' out.v u ∧ MemRel g' (upd M out.eff) w' ∧ Evo g M w g' (upd M out.eff) w' ∧ ∀ id, g'.L id → g.L id ∨ id = slot

theorem Res.pure {P : Program} {o : Oper} {a : Act} {w : World} {g : Gh} {M : Mem} {slot : Nat} {out : Out} {u : Value}
    (hm : MemRel g M w) (he : out.eff = []) (hr : OpRun P o a w u w) (h : Rel g M w out.v u) : Res P o a w g M slot out :=
  ⟨u, w, g, hr, by rw [he]; exact h, by rw [he]; exact hm, by rw [he]; exact Evo.refl g M w, fun _ h => .inl h⟩

section
variable {P : Program} {o : Oper} {a : Act} {w : World} {g : Gh} {M : Mem} {slot : Nat} {T : Tm}

theorem rel_cst1 (v : Value) : Rel g M w (cst1 v) v := by
  cases v <;> simp [cst1, Rel]
theorem relL_cst1 : ∀ (l : List Value), RelL g M w (l.map cst1) l
  | [] => rfl
  | v :: l => ⟨v, l, rfl, rel_cst1 v, relL_cst1 l⟩
theorem rel_cst (v : Value) : Rel g M w (cst v) v := by
  unfold cst
  split
  · rename_i cs
    exact ⟨cs.toList, by simp, relL_cst1 _⟩
  · exact rel_cst1 v
theorem rel_ev (h : RelT g M w T a) (x : Operand) : Rel g M w (ev T x) (a.eval x) := by
  cases x with
  | tmp t => exact h t
  | const v => exact rel_cst v
  | global _ => trivial
  | func f => exact ⟨[], rfl, rfl⟩

theorem relL_get {xs : List AV} : ∀ {us : List Value} (j : Nat) {x : AV}, RelL g M w xs us → xs[j]? = some x → ∃ u, us[j]? = some u ∧ Rel g M w x u := by
  induction xs with
  | nil => intro us j x h e; simp at e
  | cons y ys ih =>
    intro us j x h e
    obtain ⟨u, r, rfl, h1, h2⟩ := h
    cases j with
    | zero => obtain rfl : y = x := by simpa using e
              exact ⟨u, rfl, h1⟩
    | succ j => exact ih j h2 (by simpa using e)
theorem relL_length {xs : List AV} : ∀ {us : List Value}, RelL g M w xs us → us.length = xs.length := by
  induction xs with
  | nil => intro us h; rw [show us = [] from h]; rfl
  | cons y ys ih =>
    intro us h
    obtain ⟨u, r, rfl, h1, h2⟩ := h
    simp [ih h2]
theorem relL_drop {xs : List AV} : ∀ {us : List Value} (j : Nat), RelL g M w xs us → RelL g M w (xs.drop j) (us.drop j) := by
  induction xs with
  | nil => intro us j h; rw [show us = [] from h]; simp [RelL]
  | cons y ys ih =>
    intro us j h
    obtain ⟨u, r, rfl, h1, h2⟩ := h
    cases j with
    | zero => exact ⟨u, r, rfl, h1, h2⟩
    | succ j => exact ih j h2
theorem relL_take {xs : List AV} : ∀ {us : List Value} (j : Nat), RelL g M w xs us → RelL g M w (xs.take j) (us.take j) := by
  induction xs with
  | nil => intro us j h; rw [show us = [] from h]; simp [RelL]
  | cons y ys ih =>
    intro us j h
    obtain ⟨u, r, rfl, h1, h2⟩ := h
    cases j with
    | zero => simp [RelL]
    | succ j => exact ⟨u, r.take j, rfl, h1, ih j h2⟩

theorem step_mov (hm : MemRel g M w) (hT : RelT g M w T a) {x : Operand} (ho : o.op = .move x ∨ o.op = .assign x) {out : Out}
    (h : step T M slot (.mov x) = some out) : Res P o a w g M slot out := by
  obtain rfl := Option.some.inj h
  refine Res.pure hm rfl (u := a.eval x) (.inl ?_) (rel_ev hT x)
  rcases ho with ho | ho <;> simp [execOp, ho]

theorem step_pick (hm : MemRel g M w) (hT : RelT g M w T a) {c x y : Operand} (ho : o.op = .pick c x y) {out : Out}
    (h : step T M slot (.pick c x y) = some out) : Res P o a w g M slot out := by
  have hc := rel_ev hT c
  simp only [step] at h
  split at h
  · rename_i t e
    rw [e] at hc
    have hc' : a.eval c = .bool t := hc
    obtain rfl := Option.some.inj h
    refine Res.pure hm rfl (u := if t then a.eval x else a.eval y) (.inl ?_) (by cases t; exact rel_ev hT y; exact rel_ev hT x)
    simp [execOp, ho, asBool, hc']
  · cases h

theorem step_nilc (hm : MemRel g M w) (hT : RelT g M w T a) {x : Operand} (ho : o.op = .nilCheck x) {out : Out}
    (h : step T M slot (.nilc x) = some out) : Res P o a w g M slot out := by
  have hx := rel_ev hT x
  simp only [step] at h
  split at h
  · rename_i id i o' e
    simp only [Option.map_eq_some_iff] at h
    obtain ⟨r, hr, rfl⟩ := h
    rw [e] at hx
    obtain ⟨_, rb, ro, size, _, hu⟩ := hx.2 r hr
    refine Res.pure hm rfl (u := a.eval x) (.inl ?_) hx
    simp [execOp, ho, hu]
  · rename_i cs e
    obtain rfl := Option.some.inj h
    rw [e] at hx
    obtain ⟨blk, off, hu, _⟩ := id hx
    refine Res.pure hm rfl (u := a.eval x) (.inl ?_) hx
    simp [execOp, ho, hu]
  · cases h
end
end Go.Vm
