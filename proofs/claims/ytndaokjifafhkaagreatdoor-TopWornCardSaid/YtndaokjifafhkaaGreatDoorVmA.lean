import Derived.Orders
import Derived.LoopN
import Derived.Below
namespace Go.Vm
set_option linter.unusedSectionVars false
set_option linter.unusedSimpArgs false
set_option linter.unusedVariables false
open Go

/-- Values without worlds: what a slot or a cell holds, told by what it reads as. 'own', 'ptr': a slice of, a pointer into, a row of the call's own; 'deep', 'dptr': a slice, a pointer, to what is only read. -/
inductive AV where
  | k (v : Value)
  | i (kd : IntKind) (n : Int)
  | b (x : Bool)
  | s (x : List UInt8)
  | ifc (t : TypeId) (v : AV)
  | agg (cs : List AV)
  | tup (vs : List AV)
  | own (id off n st : Nat)
  | ptr (id i o : Nat)
  | deep (sz : Nat) (xs : List (List AV))
  | dptr (cs : List AV)
  | fn (f : FuncId) (caps : List AV)
  | bfn (f : FuncId) (rs : List AV)
  | mp (id : Nat)
  | undef
  deriving Inhabited

/-- A row of elements, each of 'sz' cells; 'ty': the block's type, where it is known. sz = 0: no cells, but a map or an iterator, told by the list that stands there alone. -/
structure Row where
  sz : Nat
  el : List (List AV)
  ty : Option TypeId
  deriving Inhabited

abbrev Mem := Nat → Option Row
abbrev Tm := Nat → AV

/-- Where rows lie; which blocks are read only; which may not be touched; which rows' names are used up. -/
structure Gh where
  at_ : Nat → Option (Nat × Nat × Nat)
  Z : Nat → Prop
  U : Nat → Prop
  L : Nat → Prop

def OwnAt (g : Gh) (r : Row) (id off n st : Nat) (u : Value) : Prop :=
  off + n * st ≤ r.el.length ∧ ∃ A c, u = .slice A n c ∧ n ≤ c ∧
    (0 < c → ∃ rb ro size, g.at_ id = some (rb, ro, size) ∧ A = some ⟨rb, ro + off * r.sz, none⟩ ∧ ro + (off + c * st) * r.sz ≤ size)

section
variable (g : Gh) (M : Mem) (w : World)
mutual
def Rel : AV → Value → Prop
  | .k v, u => u = v
  | .i kd n, u => u = .int kd n
  | .b x, u => u = .bool x
  | .s x, u => u = .string ⟨x.toArray⟩
  | .ifc t v, u => ∃ u', u = .iface t u' ∧ Rel v u'
  | .agg cs, u => ∃ us : List Value, u = .agg us.toArray ∧ RelL cs us
  | .tup vs, u => ∃ us : List Value, u = .tuple us.toArray ∧ RelL vs us
  | .own id off n st, u => g.L id ∧ ∀ r, M id = some r → OwnAt g r id off n st u
  | .ptr id i o, u => g.L id ∧ ∀ r, M id = some r → i < r.el.length ∧ ∃ rb ro size, g.at_ id = some (rb, ro, size) ∧ u = .pointer (some ⟨rb, ro + i * r.sz + o, none⟩)
  | .deep sz xs, u => ∃ A c, u = .slice A xs.length c ∧ xs.length ≤ c ∧ (xs = [] ∨ ∃ blk off, A = some ⟨blk, off, none⟩ ∧ g.Z blk ∧ RelD sz blk off xs)
  | .dptr cs, u => ∃ blk off, u = .pointer (some ⟨blk, off, none⟩) ∧ g.Z blk ∧ RelM blk off cs
  | .fn f caps, u => ∃ us : List Value, u = .func (.func f) #[] us.toArray ∧ RelL caps us
  | .bfn f rs, u => ∃ us : List Value, u = .func (.func f) us.toArray #[] ∧ RelL rs us
  | .mp id, u => g.L id ∧ ∀ r, M id = some r → ∃ rb ro size, g.at_ id = some (rb, ro, size) ∧ u = .map (some rb)
  | .undef, _ => True
def RelL : List AV → List Value → Prop
  | [], us => us = []
  | x :: xs, us => ∃ u r, us = u :: r ∧ Rel x u ∧ RelL xs r
def RelM (blk off : Nat) : List AV → Prop
  | [] => True
  | x :: xs => (∃ u, w.cell? ⟨blk, off, none⟩ = some u ∧ u.oneCell' = true ∧ Rel x u) ∧ RelM blk (off + 1) xs
def RelD (sz blk off : Nat) : List (List AV) → Prop
  | [] => True
  | cs :: xs => (cs.length = sz ∧ RelM blk off cs) ∧ RelD sz blk (off + sz) xs
end
end

/-- From one state to a later one: what was known stays known; what may not be touched was not touched. -/
structure Evo (g : Gh) (M : Mem) (w : World) (g' : Gh) (M' : Mem) (w' : World) : Prop where
  L : ∀ id, g.L id → g'.L id
  Z : ∀ b, g.Z b → g'.Z b
  Zn : ∀ b, g'.Z b → g.Z b ∨ ¬ g.U b
  U : ∀ b, g.U b → g'.U b
  keep : ∀ b, g.U b → w'.heap[b]? = w.heap[b]?
  size : w.heap.size ≤ w'.heap.size
  os : w'.os = w.os
  tape : w'.tape = w.tape
  output : w'.output = w.output ∧ w.drawn ≤ w'.drawn
  ids : ∀ id, g.L id → ∀ r', M' id = some r' → ∃ r, M id = some r ∧ g'.at_ id = g.at_ id ∧ r'.sz = r.sz ∧ r'.el.length = r.el.length

theorem Evo.refl (g : Gh) (M : Mem) (w : World) : Evo g M w g M w :=
  ⟨fun _ h => h, fun _ h => h, fun _ h => .inl h, fun _ h => h, fun _ _ => rfl, Nat.le_refl _, rfl, rfl, ⟨rfl, Nat.le_refl _⟩, fun _ _ r h => ⟨r, h, rfl, rfl, rfl⟩⟩

theorem Evo.trans {g g1 g2 : Gh} {M M1 M2 : Mem} {w w1 w2 : World} (h : Evo g M w g1 M1 w1) (k : Evo g1 M1 w1 g2 M2 w2) : Evo g M w g2 M2 w2 where
  L id hl := k.L id (h.L id hl)
  Z b hb := k.Z b (h.Z b hb)
  Zn b hb := by
    rcases k.Zn b hb with h3 | h3
    · exact h.Zn b h3
    · exact .inr fun h4 => h3 (h.U b h4)
  U b hb := k.U b (h.U b hb)
  keep b hb := (k.keep b (h.U b hb)).trans (h.keep b hb)
  size := Nat.le_trans h.size k.size
  os := k.os.trans h.os
  tape := k.tape.trans h.tape
  output := ⟨k.output.1.trans h.output.1, Nat.le_trans h.output.2 k.output.2⟩
  ids id hl r' hr := by
    obtain ⟨r1, e1, a1, s1, l1⟩ := k.ids id (h.L id hl) r' hr
    obtain ⟨r, e, a, s, l⟩ := h.ids id hl r1 e1
    exact ⟨r, e, a1.trans a, s1.trans s, l1.trans l⟩

section
variable {g g' : Gh} {M M' : Mem} {w w' : World} (E : Evo g M w g' M' w') (hz : ∀ b, g.Z b → g.U b)
include E hz
mutual
theorem Rel.evo : ∀ (a : AV) (u : Value), Rel g M w a u → Rel g' M' w' a u
  | .k _, _, h => h
  | .i _ _, _, h => h
  | .b _, _, h => h
  | .s _, _, h => h
  | .ifc _ v, _, ⟨u', e, h⟩ => ⟨u', e, Rel.evo v u' h⟩
  | .agg cs, _, ⟨us, e, h⟩ => ⟨us, e, RelL.evo cs us h⟩
  | .tup vs, _, ⟨us, e, h⟩ => ⟨us, e, RelL.evo vs us h⟩
  | .own id off n st, u, ⟨hl, h⟩ => ⟨E.L id hl, fun r' hr' => by
      obtain ⟨r, hr, ha, hs, hn⟩ := E.ids id hl r' hr'
      obtain ⟨h1, A, c, h2, h3, h4⟩ := h r hr
      exact ⟨by rw [hn]; exact h1, A, c, h2, h3, fun hc => by rw [ha, hs]; exact h4 hc⟩⟩
  | .ptr id i o, u, ⟨hl, h⟩ => ⟨E.L id hl, fun r' hr' => by
      obtain ⟨r, hr, ha, hs, hn⟩ := E.ids id hl r' hr'
      rw [hn, ha, hs]; exact h r hr⟩
  | .deep sz xs, _, ⟨A, c, h1, h2, h3⟩ => ⟨A, c, h1, h2, h3.imp id fun ⟨blk, off, e, hb, h⟩ => ⟨blk, off, e, E.Z blk hb, RelD.evo sz blk off xs (E.keep blk (hz blk hb)) h⟩⟩
  | .dptr cs, _, ⟨blk, off, e, hb, h⟩ => ⟨blk, off, e, E.Z blk hb, RelM.evo blk off cs (E.keep blk (hz blk hb)) h⟩
  | .fn _ caps, _, ⟨us, e, h⟩ => ⟨us, e, RelL.evo caps us h⟩
  | .bfn _ rs, _, ⟨us, e, h⟩ => ⟨us, e, RelL.evo rs us h⟩
  | .mp id, u, ⟨hl, h⟩ => ⟨E.L id hl, fun r' hr' => by
      obtain ⟨r, hr, ha, hs, hn⟩ := E.ids id hl r' hr'
      rw [ha]; exact h r hr⟩
  | .undef, _, _ => trivial
theorem RelL.evo : ∀ (xs : List AV) (us : List Value), RelL g M w xs us → RelL g' M' w' xs us
  | [], _, h => h
  | x :: xs, _, ⟨u, r, e, h1, h2⟩ => ⟨u, r, e, Rel.evo x u h1, RelL.evo xs r h2⟩
theorem RelM.evo (blk off : Nat) : ∀ (xs : List AV), w'.heap[blk]? = w.heap[blk]? → RelM g M w blk off xs → RelM g' M' w' blk off xs
  | [], _, _ => trivial
  | x :: xs, hb, ⟨⟨u, hu, h0, h1⟩, h2⟩ => ⟨⟨u, (World.cell?_of_block (w := w) (a := ⟨blk, off, none⟩) hb).trans hu, h0, Rel.evo x u h1⟩, RelM.evo blk (off + 1) xs hb h2⟩
theorem RelD.evo (sz blk off : Nat) : ∀ (xs : List (List AV)), w'.heap[blk]? = w.heap[blk]? → RelD g M w sz blk off xs → RelD g' M' w' sz blk off xs
  | [], _, _ => trivial
  | cs :: xs, hb, ⟨⟨h0, h1⟩, h2⟩ => ⟨⟨h0, RelM.evo blk off cs hb h1⟩, RelD.evo sz blk (off + sz) xs hb h2⟩
end
end

/-- A block of cells of this size, none of which is frozen. -/
def BlockAt (w : World) (rb size : Nat) : Prop :=
  ∃ arr ty fz, w.heap[rb]? = some (.cells arr ty fz) ∧ arr.size = size ∧ ∀ o, o < size → ¬ (fz.1 ≤ o ∧ o < fz.2)

/-- A block of a known type is a row from its head on. -/
def TyAt (w : World) (rb ro : Nat) (t : Option TypeId) : Prop := ∀ t', t = some t' → ro = 0 ∧ ∃ arr fz, w.heap[rb]? = some (.cells arr t' fz)
/-- Entries of a map, key and value, one behind the other, in the order in which they came. -/
def RelE (g : Gh) (M : Mem) (w : World) : List AV → List MapEntry → Nat → Prop
  | [], es, _ => es = []
  | [_], _, _ => False
  | k :: v :: cs, es, n => ∃ e r, es = e :: r ∧ e.born = n ∧ Rel g M w k e.key ∧ Rel g M w v e.val ∧ RelE g M w cs r (n + 1)
/-- A map; an iterator over a string; one over a map. -/
def ObjR (g : Gh) (M : Mem) (w : World) (cs : List AV) : Obj → Prop
  | .map es clock => clock = es.size ∧ RelE g M w cs es.toList 0
  | .stringIter s pos => cs = [.s s.data.toList, .i .i64 pos, .undef]
  | .mapIter (some b) since seen st => ∃ (id n : Nat), cs = [.mp id, .i .i64 since, .i .i64 n, .i .i64 st, .undef] ∧ Rel g M w (.mp id) (.map (some b)) ∧ seen = Array.range n
  | _ => False
def InBlk (g : Gh) (M : Mem) (w : World) (r : Row) (rb ro size : Nat) : Prop :=
  (r.sz ≠ 0 ∧ BlockAt w rb size ∧ ro + r.el.length * r.sz ≤ size ∧ RelD g M w r.sz rb ro r.el ∧ TyAt w rb ro r.ty) ∨
  (r.sz = 0 ∧ ro = 0 ∧ ∃ cs ob, r.el = [cs] ∧ w.heap[rb]? = some ob ∧ ObjR g M w cs ob)
/-- A row where it lies. -/
def RowAt (g : Gh) (M : Mem) (w : World) (id : Nat) (r : Row) : Prop :=
  (r.el = [] ∧ g.at_ id = none) ∨
  ∃ rb ro size, g.at_ id = some (rb, ro, size) ∧ ¬ g.U rb ∧ InBlk g M w r rb ro size
theorem BlockAt.evo {w w' : World} {rb size : Nat} (h : BlockAt w rb size) (hb : w'.heap[rb]? = w.heap[rb]?) : BlockAt w' rb size := by
  obtain ⟨arr, ty, fz, h1, h2⟩ := h
  exact ⟨arr, ty, fz, hb.trans h1, h2⟩
theorem TyAt.evo {w w' : World} {rb ro : Nat} {t : Option TypeId} (h : TyAt w rb ro t) (hb : w'.heap[rb]? = w.heap[rb]?) : TyAt w' rb ro t := fun t' e => by
  obtain ⟨h0, arr, fz, h⟩ := h t' e
  exact ⟨h0, arr, fz, hb.trans h⟩
theorem tyAt_none {w : World} {rb ro : Nat} : TyAt w rb ro none := fun _ e => by cases e
section
variable {g g' : Gh} {M M' : Mem} {w w' : World} (E : Evo g M w g' M' w') (hz : ∀ b, g.Z b → g.U b)
include E hz
theorem RelE.evo : ∀ (cs : List AV) (es : List MapEntry) (n : Nat), RelE g M w cs es n → RelE g' M' w' cs es n
  | [], _, _, h => h
  | [_], _, _, h => h.elim
  | k :: v :: cs, _, n, ⟨e, r, h0, h1, h2, h3, h4⟩ => ⟨e, r, h0, h1, Rel.evo E hz k _ h2, Rel.evo E hz v _ h3, RelE.evo cs r (n + 1) h4⟩
theorem ObjR.evo {cs : List AV} {ob : Obj} (h : ObjR g M w cs ob) : ObjR g' M' w' cs ob := by
  cases ob with
  | map es clock => exact ⟨h.1, RelE.evo E hz cs _ 0 h.2⟩
  | stringIter s pos => exact h
  | mapIter m since seen st =>
    cases m with
    | none => exact h.elim
    | some b =>
      obtain ⟨id, n, h1, h2, h3⟩ := h
      exact ⟨id, n, h1, Rel.evo E hz _ _ h2, h3⟩
  | _ => exact h.elim
theorem InBlk.evo {r : Row} {rb ro size : Nat} (h : InBlk g M w r rb ro size) (hb : w'.heap[rb]? = w.heap[rb]?) : InBlk g' M' w' r rb ro size := by
  rcases h with ⟨h0, h1, h2, h3, h4⟩ | ⟨h0, h1, cs, ob, h2, h3, h4⟩
  · exact .inl ⟨h0, h1.evo hb, h2, RelD.evo E hz _ _ _ _ hb h3, h4.evo hb⟩
  · exact .inr ⟨h0, h1, cs, ob, h2, hb.trans h3, ObjR.evo E hz h4⟩
end
theorem InBlk.obj {g : Gh} {M : Mem} {w : World} {r : Row} {rb ro size : Nat} (h : InBlk g M w r rb ro size) : ∃ ob, w.heap[rb]? = some ob := by
  rcases h with ⟨h0, ⟨arr, ty, fz, h1, _⟩, _⟩ | ⟨h0, h1, cs, ob, h2, h3, h4⟩
  · exact ⟨_, h1⟩
  · exact ⟨_, h3⟩

/-- What stands in the blocks that may not be touched, and stays so. -/
structure LayT where
  ok : (Nat → Prop) → World → Prop
  st : ∀ {Z Z' : Nat → Prop} {w w' : World}, (∀ b, Z b → Z' b) → (∀ b, Z b → w'.heap[b]? = w.heap[b]?) → ok Z w → ok Z' w'
  glc : Nat → Option (List AV)
  glr : ∀ {g : Gh} {M : Mem} {w : World} {i : Nat} {cs : List AV}, ok g.Z w → glc i = some cs → g.Z i ∧ RelM g M w i 0 cs
variable [Inhabited LayT]
def layOk (g : Gh) (w : World) : Prop := (default : LayT).ok g.Z w
theorem layOk.st {g g' : Gh} {w w' : World} (h : layOk g w) (hZ : ∀ b, g.Z b → g'.Z b) (hk : ∀ b, g.Z b → w'.heap[b]? = w.heap[b]?) : layOk g' w' := (default : LayT).st hZ hk h
theorem layOk.evo {g g' : Gh} {M M' : Mem} {w w' : World} (h : layOk g w) (hz : ∀ b, g.Z b → g.U b) (E : Evo g M w g' M' w') : layOk g' w' := h.st E.Z fun b hb => E.keep b (hz b hb)

structure MemRel (g : Gh) (M : Mem) (w : World) : Prop where
  zu : ∀ b, g.Z b → g.U b
  ul : ∀ b, g.U b → b < w.heap.size
  known : ∀ id r, M id = some r → g.L id
  row : ∀ id r, M id = some r → RowAt g M w id r
  lay : layOk g w
  inj : ∀ id id' r r' x x', M id = some r → M id' = some r' → g.at_ id = some x → g.at_ id' = some x' → x.1 = x'.1 → id = id'

/-! ### reading -/
section
variable {g : Gh} {M : Mem} {w : World}
theorem relM_get {blk : Nat} : ∀ {cs : List AV} {off : Nat} (k : Nat) {c : AV}, RelM g M w blk off cs → cs[k]? = some c →
    ∃ u, w.cell? ⟨blk, off + k, none⟩ = some u ∧ Rel g M w c u
  | x :: xs, off, 0, c, ⟨⟨u, hu, _, h⟩, _⟩, e => by
    obtain rfl : x = c := by simpa using e
    exact ⟨u, hu, h⟩
  | x :: xs, off, k + 1, c, ⟨_, h2⟩, e => by
    have := relM_get (off := off + 1) k h2 (by simpa using e)
    rwa [show off + 1 + k = off + (k + 1) by omega] at this
theorem relD_get {sz blk : Nat} : ∀ {xs : List (List AV)} {off : Nat} (j : Nat) {cs : List AV}, RelD g M w sz blk off xs → xs[j]? = some cs →
    cs.length = sz ∧ RelM g M w blk (off + j * sz) cs
  | x :: xs, off, 0, cs, ⟨h, _⟩, e => by
    obtain rfl : x = cs := by simpa using e
    simpa using h
  | x :: xs, off, j + 1, cs, ⟨_, h2⟩, e => by
    have := relD_get (off := off + sz) j h2 (by simpa using e)
    rwa [show off + sz + j * sz = off + (j + 1) * sz by rw [Nat.add_mul]; omega] at this
theorem relM_drop {blk : Nat} : ∀ {cs : List AV} {off : Nat} (k : Nat), RelM g M w blk off cs → RelM g M w blk (off + k) (cs.drop k)
  | [], _, k, _ => by simp [RelM]
  | x :: xs, off, 0, h => by simpa using h
  | x :: xs, off, k + 1, ⟨_, h⟩ => by
    have := relM_drop (off := off + 1) k h
    rwa [show off + 1 + k = off + (k + 1) by omega] at this
theorem relM_take {blk : Nat} : ∀ {cs : List AV} {off : Nat} (k : Nat), RelM g M w blk off cs → RelM g M w blk off (cs.take k)
  | [], _, k, _ => by simp [RelM]
  | x :: xs, off, 0, h => by simp [RelM]
  | x :: xs, off, k + 1, ⟨h1, h⟩ => ⟨h1, relM_take k h⟩
theorem relD_drop {sz blk : Nat} : ∀ {xs : List (List AV)} {off : Nat} (k : Nat), RelD g M w sz blk off xs → RelD g M w sz blk (off + k * sz) (xs.drop k)
  | [], _, k, _ => by simp [RelD]
  | x :: xs, off, 0, h => by simpa using h
  | x :: xs, off, k + 1, ⟨_, h⟩ => by
    have := relD_drop (off := off + sz) k h
    rwa [show off + sz + k * sz = off + (k + 1) * sz by rw [Nat.add_mul]; omega] at this
theorem relD_take {sz blk : Nat} : ∀ {xs : List (List AV)} {off : Nat} (k : Nat), RelD g M w sz blk off xs → RelD g M w sz blk off (xs.take k)
  | [], _, k, _ => by simp [RelD]
  | x :: xs, off, 0, h => by simp [RelD]
  | x :: xs, off, k + 1, ⟨h1, h⟩ => ⟨h1, relD_take k h⟩
end
#print axioms Rel.evo
end Go.Vm

namespace Go.Vm
set_option linter.unusedSectionVars false
set_option linter.unusedSimpArgs false
set_option linter.unusedVariables false
open Go

/-! ### operations, resolved -/
def cst1 : Value → AV
  | .int kd n => .i kd n
  | .bool x => .b x
  | .string x => .s x.data.toList
  | v => .k v
def cst : Value → AV
  | .agg cs => .agg (cs.toList.map cst1)
  | v => cst1 v

def ev (T : Tm) : Operand → AV
  | .tmp t => T t
  | .const v => cst v
  | .func f => .fn f []
  | .global _ => .undef

/-- Maps and their iterators; iterators over strings; a string behind bytes. -/
inductive XOp where
  | mkM
  | mup (isS : Bool) (x k v : Operand)
  | look (isS : Bool) (z : Value) (ok : Bool) (x k : Operand)
  | rngS (x : Operand)
  | rngM (x : Operand)
  | nxtS (x : Operand)
  | nxtM (x : Operand)
  | ent (x : Operand)
  | appS (e : TypeId) (bytes : Nat) (s x : Operand)

inductive LOp where
  | mov (x : Operand)
  | pick (c a b : Operand)
  | alloc (e : TypeId) (zs : List Value)
  | box (n : Nat) (x : Operand)
  | build (zs : List Value) (parts : List (Nat × Nat × Operand))
  | slit (sz : Nat) (zs : List Value) (len : Nat) (parts : List (Nat × Operand))
  | load (n : Nat) (ag : Bool) (p : Operand)
  | store (n : Nat) (p v : Operand)
  | nilc (x : Operand)
  | bin (op : BinOp) (x y : Operand)
  | eqB (neg : Bool) (x y : Operand)
  | eqn (neg isP : Bool) (x : Operand)            -- against nil: an error, a pointer, a function
  | eqa (neg : Bool) (n : Nat) (x y : Operand)  -- structs and arrays of whole numbers
  | un (op : UnOp) (x : Operand)
  | convI (kd : IntKind) (x : Operand)
  | convS (x : Operand)                       -- bytes to a string
  | convB (x : Operand)                       -- a string to bytes
  | mkI (t : TypeId) (x : Operand)
  | mkF (f : FuncId) (caps : List Operand)
  | mkSl (sz bytes : Nat) (zs : List Value) (len cap : Operand)
  | slc (sz : Nat) (x : Operand) (lo hi : Option Operand)      -- a slice
  | slcS (x : Operand) (lo hi : Option Operand)                -- a string
  | slcA (m sz : Nat) (x : Operand) (lo hi : Option Operand)   -- an array behind a pointer
  | fldA (off : Nat) (p : Operand)
  | fld (off n : Nat) (ag : Bool) (x : Operand)
  | idxA (sz : Nat) (x ix : Operand)          -- of a slice
  | idxP (m sz : Nat) (x ix : Operand)        -- of an array behind a pointer
  | idx (m sz : Nat) (ag : Bool) (x ix : Operand)   -- of an array that is a value
  | idxS (x ix : Operand)                     -- of a string
  | ext (x : Operand) (j : Nat)
  | lenL (x : Operand)
  | lenS (x : Operand)
  | lenC (n : Nat)
  | app (e : TypeId) (sz bytes : Nat) (s x : Operand)
  | mn (x y : Operand)
  | mx (x y : Operand)
  | call (f : FuncId) (args : List Operand)
  | callv (x : Operand) (args : List Operand)
  | eqs (neg : Bool) (x : Operand)            -- a slice against nil
  | capL (x : Operand)                        -- of nil
  | slc3 (sz : Nat) (x : Operand) (lo : Option Operand) (hi mx : Operand)
  | convSl (x : Operand)                      -- bytes to bytes: only read from then on
  | appN (sz bytes : Nat) (zs : List Value) (s x : Operand)   -- so many zeros behind nil
  | mkB (f : FuncId) (rs : List Operand)      -- a method with its receiver
  | gix (i m sz : Nat) (ix : Operand)             -- of an array that is a package's variable
  | x (op : XOp)
  | bad

structure LOper where
  dst : Option Nat
  op : LOp
  guard : Option (Nat × Bool)

structure Out where
  v : AV
  eff : List (Nat × Option Row) := []
  rd : List Nat := []

def upd (M : Mem) : List (Nat × Option Row) → Mem
  | [] => M
  | (a, r) :: e => fun id => if id = a then r else upd M e id
def put (T : Tm) (d : Option Nat) (v : AV) : Tm :=
  match d with
  | none => T
  | some d => fun t => if t = d then v else T t

/-- What a value is, cell by cell. -/
def AV.cells : AV → List AV
  | .agg cs => cs
  | v => [v]
/-- Whose row a cell leads to. -/
def AV.ref1 : AV → List Nat
  | .own id _ _ _ => [id]
  | .ptr id _ _ => [id]
  | .mp id => [id]
  | _ => []
/-- A value that fills one cell; what it leads to is there. -/
def oneC (M : Mem) : AV → Bool
  | .agg _ | .tup _ | .undef => false
  | .k (.agg _) | .k (.tuple _) => false
  | .own id _ _ _ => (M id).isSome
  | .ptr id _ _ => (M id).isSome
  | .mp id => (M id).isSome
  | _ => true
def flatC (M : Mem) : AV → Bool
  | .agg cs => cs.all (oneC M)
  | v => oneC M v
def refsC (v : AV) : List Nat := v.cells.flatMap AV.ref1

def Row.get1 (r : Row) (i o : Nat) : Option AV :=
  if r.sz = 1 then (r.el[i + o]?).bind (·[0]?) else if r.sz = 0 then none else (r.el[i]?).bind (·[o]?)
def Row.getN (r : Row) (i o n : Nat) : Option (List AV) :=
  if r.sz = 1 then (let cs := ((r.el.drop (i + o)).take n).flatten; if cs.length = n then some cs else none)
  else if r.sz = 0 then none else (r.el[i]?).bind fun cs => if o + n ≤ cs.length then some ((cs.drop o).take n) else none
def Row.set1 (r : Row) (i o : Nat) (c : AV) : Option Row :=
  if r.sz = 1 then (if i + o < r.el.length then some { r with el := r.el.set (i + o) [c] } else none)
  else if r.sz = 0 then none else (r.el[i]?).bind fun cs => if o < cs.length then some { r with el := r.el.set i (cs.set o c) } else none
/-- Cells written over from place o on. -/
def over {α : Type} : List α → Nat → List α → List α
  | cs, _, [] => cs
  | cs, o, v :: vs => over (cs.set o v) (o + 1) vs
def Row.setN (r : Row) (i o : Nat) (vs : List AV) : Option Row :=
  if r.sz = 1 then (if i + o + vs.length ≤ r.el.length then some { r with el := r.el.take (i + o) ++ vs.map (fun c => [c]) ++ r.el.drop (i + o + vs.length) } else none)
  else if r.sz = 0 then none else (r.el[i]?).bind fun cs => if o + vs.length ≤ cs.length then some { r with el := r.el.set i (over cs o vs) } else none

def cells1 (zs : List Value) : List AV := zs.map cst1

/-- Parts laid into zero cells. -/
def fillL (M : Mem) (cs : List AV) (T : Tm) : List (Nat × Nat × Operand) → Option (List AV)
  | [] => some cs
  | (off, n, x) :: ps =>
    let v := ev T x
    if flatC M v = true ∧ v.cells.length = n ∧ off + n ≤ cs.length then fillL M (over cs off v.cells) T ps else none
def fillE (M : Mem) (el : List (List AV)) (sz : Nat) (T : Tm) : List (Nat × Operand) → Option (List (List AV))
  | [] => some el
  | (i, x) :: ps =>
    let v := ev T x
    if flatC M v = true ∧ v.cells.length = sz ∧ i < el.length then fillE M (el.set i v.cells) sz T ps else none

/-- The elements that a slice reads as. -/
def elems (M : Mem) (sz : Nat) : AV → Option (List (List AV) × List Nat)
  | .k (.slice none 0 0) => some ([], [])
  | .k (.slice (some _) 0 _) => some ([], [])
  | .deep sz' xs => if sz' = sz ∨ xs = [] then some (xs, []) else none
  | .own id off n 1 => (M id).bind fun r => if r.sz = sz ∧ sz ≠ 0 then some ((r.el.drop off).take n, [id]) else none
  | _ => none

def bound (T : Tm) (d : Nat) : Option Operand → Option Int
  | none => some d
  | some x => match ev T x with | .i _ n => some n | _ => none

def binI (op : BinOp) (kd : IntKind) (a b : Int) : Option AV :=
  match op with
  | .add => some (.i kd (kd.wrap (a + b)))
  | .sub => some (.i kd (kd.wrap (a - b)))
  | .mul => some (.i kd (kd.wrap (a * b)))
  | .quo => if b = 0 then none else some (.i kd (kd.wrap (a.tdiv b)))
  | .rem => if b = 0 then none else some (.i kd (a.tmod b))
  | .and | .or | .xor | .andNot => some (.i kd (bits op kd a b))
  | .eql => some (.b (decide (a = b)))
  | .neq => some (.b (!decide (a = b)))
  | .lss => some (.b (decide (a < b)))
  | .leq => some (.b (decide (a ≤ b)))
  | .gtr => some (.b (decide (b < a)))
  | .geq => some (.b (decide (b ≤ a)))
  | _ => none
def shI (op : BinOp) (kd : IntKind) (a b : Int) : Option AV :=
  if b < 0 then none else
  match op with
  | .shl => some (.i kd (kd.wrap (a * 2 ^ (min b.toNat kd.bits))))
  | .shr => some (.i kd (a.fdiv (2 ^ (min b.toNat kd.bits))))
  | _ => none
def binS (op : BinOp) (a b : List UInt8) : Option AV :=
  match op with
  | .eql => some (.b (decide (a = b)))
  | .neq => some (.b (!decide (a = b)))
  | .lss => some (.b (Op.bytesLess a b))
  | .add => if a.length + b.length ≤ 9223372036854775807 then some (.s (a ++ b)) else none
  | _ => none
def binL (op : BinOp) : AV → AV → Option AV
  | .i kd a, .i kd' b => match op with
    | .shl | .shr => shI op kd a b
    | _ => if kd = kd' then binI op kd a b else none
  | .s a, .s b => binS op a b
  | _, _ => none
def eqCells : List AV → List AV → Option Bool
  | [], [] => some true
  | .i kd a :: xs, .i kd' b :: ys => if kd = kd' then (eqCells xs ys).map fun r => decide (a = b) && r else none
  | _, _ => none
def unL (op : UnOp) : AV → Option AV
  | .b x => match op with | .not => some (.b (!x)) | _ => none
  | .i kd n => match op with
    | .neg => some (.i kd (kd.wrap (0 - n)))
    | .xor => some (.i kd (bits .xor kd (if kd.signed = true then -1 else kd.max) n))
    | _ => none
  | _ => none
def byts (l : List UInt8) : List (List AV) := l.map fun c => [.i .u8 c.toNat]
def bytesOf : List (List AV) → Option (List UInt8)
  | [] => some []
  | [.i .u8 n] :: r => (bytesOf r).map (UInt8.ofNat n.toNat :: ·)
  | _ => none

/-- Elements behind a slice. -/
def appX (M : Mem) (slot : Nat) (e : TypeId) (sz bytes : Nat) (s : AV) (ys : List (List AV)) (rd : List Nat) : Option Out :=
  match s with
  | .k (.slice none 0 0) => if ys.length * bytes ≤ 140737488355328 ∧ ys.length ≤ 4611686018427387904 then some { v := .own slot 0 ys.length 1, eff := [(slot, some ⟨sz, ys, some e⟩)], rd } else none
  | .own id off n 1 => (M id).bind fun r =>
        if r.sz = sz ∧ (n + ys.length) * bytes ≤ 140737488355328 ∧ n + ys.length ≤ 4611686018427387904 then
          some { v := .own slot 0 (n + ys.length) 1, eff := [(slot, some ⟨sz, (r.el.drop off).take n ++ ys, if r.ty = some e ∧ off = 0 then some e else none⟩), (id, none)], rd := id :: rd } else none
  | _ => none
def eqK (isS : Bool) : AV → AV → Option Bool
  | .s a, .s b => if isS = true then some (decide (a = b)) else none
  | .i kd a, .i kd' b => if isS = false ∧ kd = kd' then some (decide (a = b)) else none
  | _, _ => none
def getM (isS : Bool) (k : AV) : List AV → Option (Option AV)
  | [] => some none
  | [_] => none
  | k' :: v :: cs => match eqK isS k k' with
    | some true => some (some v)
    | some false => getM isS k cs
    | none => none
def putM (isS : Bool) (k v : AV) : List AV → Option (List AV)
  | [] => some [k, v]
  | [_] => none
  | k' :: v' :: cs => match eqK isS k k' with
    | some true => some (k :: v :: cs)
    | some false => (putM isS k v cs).map fun cs' => k' :: v' :: cs'
    | none => none
def isKey (isS : Bool) (k : AV) : Bool := (eqK isS k k).isSome
def spc1 (M : Mem) (id : Nat) : Option (List AV × Option TypeId) := (M id).bind fun r => match r.el with | [cs] => if r.sz = 0 then some (cs, r.ty) else none | _ => none
def mapc (M : Mem) (id : Nat) : Option (List AV × Option TypeId) := (spc1 M id).bind fun y => if y.1.length % 2 = 0 then some y else none
def nxtSX (id : Nat) (ty : Option TypeId) : List AV → Option Out
  | [.s l, .i .i64 pos, .undef] => if 0 ≤ pos then (match l[pos.toNat]? with
    | some c => if c < 128 then some { v := .tup [.b true, .i .i64 pos, .i .i32 c.toNat], eff := [(id, some ⟨0, [[.s l, .i .i64 (pos + 1), .undef]], ty⟩)], rd := [id] } else none
    | none => some { v := .tup [.b false], rd := [id] }) else none
  | _ => none
def nxtMX (id mid : Nat) (ty : Option TypeId) (since n st : Int) : List AV → Option Out
  | [k, v] => if since = 1 ∧ mid ≠ id then (if n = 0 then some { v := .tup [.b true, k, v], eff := [(id, some ⟨0, [[.mp mid, .i .i64 1, .i .i64 1, .i .i64 1, .undef]], ty⟩)], rd := [id, mid] }
      else if n = 1 ∧ st = 1 then some { v := .tup [.b false], rd := [id, mid] } else none) else none
  | _ => none
def entX (id mid : Nat) (n st : Int) : List AV → Option Out
  | [k, v] => if n = 1 ∧ st = 1 then some { v := .tup [k, v], rd := [id, mid] } else none
  | _ => none
def stepX (T : Tm) (M : Mem) (slot : Nat) : XOp → Option Out
  | .mkM => some { v := .mp slot, eff := [(slot, some ⟨0, [[]], none⟩)] }
  | .mup isS x k v => match ev T x with
    | .mp id => (mapc M id).bind fun y => if isKey isS (ev T k) = true then (putM isS (ev T k) (ev T v) y.1).map fun cs' => { v := .k undef, eff := [(id, some ⟨0, [cs'], y.2⟩)], rd := [id] } else none
    | _ => none
  | .look isS z ok x k => match ev T x with
    | .mp id => (mapc M id).bind fun y => if isKey isS (ev T k) = true then (getM isS (ev T k) y.1).map fun f =>
        { v := if ok = true then .tup [f.getD (cst z), .b f.isSome] else f.getD (cst z), rd := [id] } else none
    | _ => none
  | .rngS x => match ev T x with
    | .s l => some { v := .ptr slot 0 0, eff := [(slot, some ⟨0, [[.s l, .i .i64 0, .undef]], none⟩)] }
    | _ => none
  | .rngM x => match ev T x with
    | .mp id => (mapc M id).map fun y => { v := .ptr slot 0 0, eff := [(slot, some ⟨0, [[.mp id, .i .i64 (y.1.length / 2 : Nat), .i .i64 0, .i .i64 (y.1.length / 2 : Nat), .undef]], none⟩)], rd := [id] }
    | _ => none
  | .nxtS x => match ev T x with
    | .ptr id 0 0 => (spc1 M id).bind fun y => nxtSX id y.2 y.1
    | _ => none
  | .nxtM x => match ev T x with
    | .ptr id 0 0 => (spc1 M id).bind fun y => match y.1 with
      | [.mp mid, .i .i64 since, .i .i64 n, .i .i64 st, .undef] => (mapc M mid).bind fun e => nxtMX id mid y.2 since n st e.1
      | _ => none
    | _ => none
  | .ent x => match ev T x with
    | .ptr id 0 0 => (spc1 M id).bind fun y => match y.1 with
      | [.mp mid, .i .i64 since, .i .i64 n, .i .i64 st, .undef] => (mapc M mid).bind fun e => entX id mid n st e.1
      | _ => none
    | _ => none
  | .appS e bytes s x => match ev T x with
    | .s l => appX M slot e 1 bytes (ev T s) (byts l) []
    | _ => none

/-- One operation. -/
def step [Inhabited LayT] (T : Tm) (M : Mem) (slot : Nat) : LOp → Option Out
  | .mov x => some { v := ev T x }
  | .pick c a b => match ev T c with
    | .b t => some { v := if t then ev T a else ev T b }
    | _ => none
  | .alloc e zs => if zs = [] then none else some { v := .ptr slot 0 0, eff := [(slot, some ⟨1, (cells1 zs).map fun c => [c], some e⟩)] }
  | .box n x => let v := ev T x
    if flatC M v = true ∧ v.cells.length = n ∧ 0 < n then some { v := .ptr slot 0 0, eff := [(slot, some ⟨1, v.cells.map fun c => [c], none⟩)], rd := refsC v } else none
  | .build zs ps => (fillL M (cells1 zs) T ps).map fun cs => { v := .agg cs, rd := ps.flatMap fun p => refsC (ev T p.2.2) }
  | .slit sz zs len ps => (fillE M (List.replicate len (cells1 zs)) sz T ps).map fun el => { v := .own slot 0 len 1, eff := [(slot, some ⟨sz, el, none⟩)], rd := ps.flatMap fun p => refsC (ev T p.2) }
  | .load n ag p => match ev T p with
    | .dptr cs => if ag then (if n ≤ cs.length then some { v := .agg (cs.take n) } else none) else (cs[0]?).map fun c => { v := c }
    | .ptr id i o => (M id).bind fun r =>
      if ag then (r.getN i o n).map fun cs => { v := .agg cs, rd := [id] } else (r.get1 i o).map fun c => { v := c, rd := [id] }
    | _ => none
  | .store n p x => match ev T p with
    | .ptr id i o => let v := ev T x
      if flatC M v = true ∧ v.cells.length = n then
        (M id).bind fun r => (if n = 1 then (v.cells[0]?).bind (r.set1 i o) else r.setN i o v.cells).map fun r' => { v := .k undef, eff := [(id, some r')], rd := id :: refsC v }
      else none
    | _ => none
  | .nilc x => match ev T x with
    | .ptr id i o => (M id).map fun _ => { v := .ptr id i o, rd := [id] }
    | .dptr cs => some { v := .dptr cs }
    | _ => none
  | .bin op x y => (binL op (ev T x) (ev T y)).map fun v => { v }
  | .eqB neg x y => match ev T x, ev T y with
    | .b p, .b q => some { v := .b (if neg then p != q else p == q) }
    | _, _ => none
  | .eqn neg false x => match ev T x with
    | .k .nilIface => some { v := .b (!neg) }
    | .ifc _ _ => some { v := .b neg }
    | _ => none
  | .eqn neg true x => match ev T x with
    | .k (.pointer none) => some { v := .b (!neg) }
    | .dptr _ => some { v := .b neg }
    | .ptr id _ _ => (M id).map fun _ => { v := .b neg, rd := [id] }
    | _ => none
  | .eqa neg n x y => match ev T x, ev T y with
    | .agg xs, .agg ys => if xs.length = n ∧ ys.length = n then (eqCells xs ys).map fun t => { v := .b (if neg then !t else t) } else none
    | _, _ => none
  | .un op x => (unL op (ev T x)).map fun v => { v }
  | .convI kd x => match ev T x with
    | .i _ n => some { v := .i kd (kd.wrap n) }
    | _ => none
  | .convS x => (elems M 1 (ev T x)).bind fun (el, rd) => (bytesOf el).map fun l => { v := .s l, rd }
  | .convB x => match ev T x with
    | .s s => if s.length ≤ 4611686018427387904 then some { v := .own slot 0 s.length 1, eff := [(slot, some ⟨1, byts s, none⟩)] } else none
    | _ => none
  | .mkI t x => let v := ev T x
    if oneC M v = true then some { v := .ifc t v, rd := refsC v } else none
  | .mkF f caps => some { v := .fn f (caps.map (ev T)) }
  | .mkB f rs => some { v := .bfn f (rs.map (ev T)) }
  | .mkSl sz bytes zs len cap => match ev T len, ev T cap with
    | .i .i64 n, .i .i64 c => if 0 ≤ n ∧ n ≤ c ∧ c ≤ 9223372036854775807 ∧ c.toNat * bytes ≤ 281474976710656 then
        some { v := .own slot 0 n.toNat 1, eff := [(slot, some ⟨sz, List.replicate n.toNat (cells1 zs), none⟩)] } else none
    | _, _ => none
  | .slc sz x lo hi => match ev T x with
    | .own id off n st => (bound T 0 lo).bind fun l => (bound T n hi).bind fun h => (M id).bind fun r =>
        if 0 ≤ l ∧ l ≤ h ∧ h ≤ n ∧ sz = st * r.sz then some { v := .own id (off + l.toNat * st) (h.toNat - l.toNat) st, rd := [id] } else none
    | .deep sz' xs => (bound T 0 lo).bind fun l => (bound T xs.length hi).bind fun h =>
        if 0 ≤ l ∧ l ≤ h ∧ h ≤ xs.length ∧ (sz' = sz ∨ xs = []) then some { v := .deep sz ((xs.drop l.toNat).take (h.toNat - l.toNat)) } else none
    | .k (.slice none 0 0) => (bound T 0 lo).bind fun l => (bound T 0 hi).bind fun h => if l = 0 ∧ h = 0 then some { v := .k (.slice none 0 0) } else none
    | _ => none
  | .slcS x lo hi => match ev T x with
    | .s s => (bound T 0 lo).bind fun l => (bound T s.length hi).bind fun h =>
        if 0 ≤ l ∧ l ≤ h ∧ h ≤ s.length then some { v := .s ((s.drop l.toNat).take (h.toNat - l.toNat)) } else none
    | _ => none
  | .slcA m sz x lo hi => match ev T x with
    | .ptr id i o => (bound T 0 lo).bind fun l => (bound T m hi).bind fun h => (M id).bind fun r =>
        if r.sz = 1 ∧ 0 ≤ l ∧ l ≤ h ∧ h ≤ m ∧ i + o + m * sz ≤ r.el.length then some { v := .own id (i + o + l.toNat * sz) (h.toNat - l.toNat) sz, rd := [id] } else none
    | _ => none
  | .fldA off p => match ev T p with
    | .ptr id i o => (M id).map fun _ => { v := .ptr id i (o + off), rd := [id] }
    | .dptr cs => some { v := .dptr (cs.drop off) }
    | _ => none
  | .fld off n ag x => match ev T x with
    | .agg cs => if ag then (if off + n ≤ cs.length then some { v := .agg ((cs.drop off).take n) } else none) else (cs[off]?).map fun c => { v := c }
    | _ => none
  | .idxA sz x ix => match ev T ix with
    | .i _ j => match ev T x with
      | .own id off n st => (M id).bind fun r => if 0 ≤ j ∧ j < n ∧ sz = st * r.sz ∧ 0 < st then some { v := .ptr id (off + j.toNat * st) 0, rd := [id] } else none
      | .deep sz' xs => if 0 ≤ j ∧ sz' = sz then (xs[j.toNat]?).map fun cs => { v := .dptr cs } else none
      | _ => none
    | _ => none
  | .idxP m sz x ix => match ev T ix with
    | .i _ j => if 0 ≤ j ∧ j < m then (match ev T x with
      | .ptr id i o => (M id).map fun _ => { v := .ptr id i (o + j.toNat * sz), rd := [id] }
      | .dptr cs => some { v := .dptr (cs.drop (j.toNat * sz)) }
      | _ => none) else none
    | _ => none
  | .idx m sz ag x ix => match ev T ix with
    | .i _ j => if 0 ≤ j ∧ j < m then (match ev T x with
      | .agg cs => if ag then (if j.toNat * sz + sz ≤ cs.length then some { v := .agg ((cs.drop (j.toNat * sz)).take sz) } else none) else (cs[j.toNat * sz]?).map fun c => { v := c }
      | _ => none) else none
    | _ => none
  | .idxS x ix => match ev T ix with
    | .i _ j => match ev T x with
      | .s s => if 0 ≤ j then (s[j.toNat]?).map fun c => { v := .i .u8 c.toNat } else none
      | _ => none
    | _ => none
  | .ext x j => match ev T x with
    | .tup vs => (vs[j]?).map fun v => { v }
    | _ => none
  | .lenL x => match ev T x with
    | .own id _ n _ => (M id).map fun _ => { v := .i .i64 n, rd := [id] }
    | .deep _ xs => some { v := .i .i64 xs.length }
    | .k (.slice none 0 0) => some { v := .i .i64 0 }
    | _ => none
  | .lenS x => match ev T x with
    | .s s => some { v := .i .i64 s.length }
    | _ => none
  | .lenC n => some { v := .i .i64 n }
  | .app e sz bytes s x => (elems M sz (ev T x)).bind fun (ys, rd) => appX M slot e sz bytes (ev T s) ys rd
  | .mn x y => match ev T x, ev T y with
    | .i kd a, .i kd' b => if kd = kd' then some { v := .i kd (if b < a then b else a) } else none
    | _, _ => none
  | .mx x y => match ev T x, ev T y with
    | .i kd a, .i kd' b => if kd = kd' then some { v := .i kd (if a < b then b else a) } else none
    | _, _ => none
  | .eqs neg x => match ev T x with
    | .k (.slice none _ _) => some { v := .b (!neg) }
    | .k (.slice (some _) _ _) => some { v := .b neg }
    | .deep _ (_ :: _) => some { v := .b neg }
    | .own id _ n _ => (M id).bind fun _ => if 0 < n then some { v := .b neg, rd := [id] } else none
    | _ => none
  | .capL x => match ev T x with
    | .k (.slice none 0 0) => some { v := .i .i64 0 }
    | _ => none
  | .slc3 sz x lo hi mx => match ev T x with
    | .own id off n st => (bound T 0 lo).bind fun l => (bound T n (some hi)).bind fun h => (bound T n (some mx)).bind fun m => (M id).bind fun r =>
        if 0 ≤ l ∧ l ≤ h ∧ h ≤ m ∧ m ≤ n ∧ sz = st * r.sz then some { v := .own id (off + l.toNat * st) (h.toNat - l.toNat) st, rd := [id] } else none
    | .deep sz' xs => (bound T 0 lo).bind fun l => (bound T xs.length (some hi)).bind fun h => (bound T xs.length (some mx)).bind fun m =>
        if 0 ≤ l ∧ l ≤ h ∧ h ≤ m ∧ m ≤ xs.length ∧ (sz' = sz ∨ xs = []) then some { v := .deep sz ((xs.drop l.toNat).take (h.toNat - l.toNat)) } else none
    | _ => none
  | .convSl x => match ev T x with
    | .own id off n 1 => (M id).bind fun r => if 0 < n ∧ r.sz ≠ 0 then some { v := .deep r.sz ((r.el.drop off).take n), eff := [(id, none)], rd := [id] } else none
    | _ => none
  | .appN sz bytes zs s x => match ev T s, ev T x with
    | .k (.slice none 0 0), .i kd n => if 0 < n ∧ n ≤ 9223372036854775807 ∧ n.toNat * bytes ≤ 281474976710656 then
        some { v := .own slot 0 n.toNat 1, eff := [(slot, some ⟨sz, List.replicate n.toNat (cells1 zs), none⟩)] } else none
    | _, _ => none
  | .gix i m sz ix => match ev T ix with
    | .i _ j => if 0 ≤ j ∧ j < m then ((default : LayT).glc i).map fun cs => { v := .dptr (cs.drop (j.toNat * sz)) } else none
    | _ => none
  | .x op => stepX T M slot op
  | .bad => none
  | .call _ _ | .callv _ _ => none

inductive LCode where
  | skip
  | rgn (wk draw : Bool) (bef : List Nat) (keep : List Nat) (ops : List LOper)
  | seq (a b : LCode)
  | cond (c : Operand) (x y : LCode)
  | block (id : Nat) (c : LCode)
  | loop (c : LCode)
  | exit (id : Nat)
  | ret
end Go.Vm
