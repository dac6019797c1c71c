import Derived.Orders
import Derived.LoopN
import Derived.Below
namespace Go.Vm
set_option linter.unusedSectionVars false
set_option linter.unusedSimpArgs false
set_option linter.unusedVariables false
open Go

/-- Values without worlds: what a slot or a cell holds, told by what it reads as. 'own', 'ptr': a slice of, a pointer into, a row of the call's own; 'deep', 'dptr': a slice, a pointer, to what is only read. -/
inductive AV where
  | k (v : Value)
  | i (kd : IntKind) (n : Int)
  | b (x : Bool)
  | s (x : List UInt8)
  | ifc (t : TypeId) (v : AV)
  | agg (cs : List AV)
  | tup (vs : List AV)
  | own (id off n st : Nat)
  | ptr (id i o : Nat)
  | deep (sz : Nat) (xs : List (List AV))
  | dptr (cs : List AV)
  | fn (f : FuncId) (caps : List AV)
  | undef
  deriving Inhabited

/-- A row of elements, each of 'sz' cells. -/
structure Row where
  sz : Nat
  el : List (List AV)
  deriving Inhabited

abbrev Mem := Nat → Option Row
abbrev Tm := Nat → AV

/-- Where rows lie; which blocks are read only; which may not be touched; which rows' names are used up. -/
structure Gh where
  at_ : Nat → Option (Nat × Nat × Nat)
  Z : Nat → Prop
  U : Nat → Prop
  L : Nat → Prop

def OwnAt (g : Gh) (r : Row) (id off n st : Nat) (u : Value) : Prop :=
  off + n * st ≤ r.el.length ∧ ∃ A c, u = .slice A n c ∧ n ≤ c ∧
    (0 < c → ∃ rb ro size, g.at_ id = some (rb, ro, size) ∧ A = some ⟨rb, ro + off * r.sz, none⟩ ∧ ro + (off + c * st) * r.sz ≤ size)

section
variable (g : Gh) (M : Mem) (w : World)
mutual
def Rel : AV → Value → Prop
  | .k v, u => u = v
  | .i kd n, u => u = .int kd n
  | .b x, u => u = .bool x
  | .s x, u => u = .string ⟨x.toArray⟩
  | .ifc t v, u => ∃ u', u = .iface t u' ∧ Rel v u'
  | .agg cs, u => ∃ us : List Value, u = .agg us.toArray ∧ RelL cs us
  | .tup vs, u => ∃ us : List Value, u = .tuple us.toArray ∧ RelL vs us
  | .own id off n st, u => g.L id ∧ ∀ r, M id = some r → OwnAt g r id off n st u
  | .ptr id i o, u => g.L id ∧ ∀ r, M id = some r → i < r.el.length ∧ ∃ rb ro size, g.at_ id = some (rb, ro, size) ∧ u = .pointer (some ⟨rb, ro + i * r.sz + o, none⟩)
  | .deep sz xs, u => ∃ A c, u = .slice A xs.length c ∧ xs.length ≤ c ∧ (xs = [] ∨ ∃ blk off, A = some ⟨blk, off, none⟩ ∧ g.Z blk ∧ RelD sz blk off xs)
  | .dptr cs, u => ∃ blk off, u = .pointer (some ⟨blk, off, none⟩) ∧ g.Z blk ∧ RelM blk off cs
  | .fn f caps, u => ∃ us : List Value, u = .func (.func f) #[] us.toArray ∧ RelL caps us
  | .undef, _ => True
def RelL : List AV → List Value → Prop
  | [], us => us = []
  | x :: xs, us => ∃ u r, us = u :: r ∧ Rel x u ∧ RelL xs r
def RelM (blk off : Nat) : List AV → Prop
  | [] => True
  | x :: xs => (∃ u, w.cell? ⟨blk, off, none⟩ = some u ∧ u.oneCell' = true ∧ Rel x u) ∧ RelM blk (off + 1) xs
def RelD (sz blk off : Nat) : List (List AV) → Prop
  | [] => True
  | cs :: xs => (cs.length = sz ∧ RelM blk off cs) ∧ RelD sz blk (off + sz) xs
end
end

/-- From one state to a later one: what was known stays known; what may not be touched was not touched. -/
structure Evo (g : Gh) (M : Mem) (w : World) (g' : Gh) (M' : Mem) (w' : World) : Prop where
  L : ∀ id, g.L id → g'.L id
  Z : ∀ b, g.Z b → g'.Z b
  Zn : ∀ b, g'.Z b → g.Z b ∨ ¬ g.U b
  U : ∀ b, g.U b → g'.U b
  keep : ∀ b, g.U b → w'.heap[b]? = w.heap[b]?
  size : w.heap.size ≤ w'.heap.size
  os : w'.os = w.os
  tape : w'.tape = w.tape
  output : w'.output = w.output ∧ w.drawn ≤ w'.drawn
  ids : ∀ id, g.L id → ∀ r', M' id = some r' → ∃ r, M id = some r ∧ g'.at_ id = g.at_ id ∧ r'.sz = r.sz ∧ r'.el.length = r.el.length

theorem Evo.refl (g : Gh) (M : Mem) (w : World) : Evo g M w g M w :=
  ⟨fun _ h => h, fun _ h => h, fun _ h => .inl h, fun _ h => h, fun _ _ => rfl, Nat.le_refl _, rfl, rfl, ⟨rfl, Nat.le_refl _⟩, fun _ _ r h => ⟨r, h, rfl, rfl, rfl⟩⟩

theorem Evo.trans {g g1 g2 : Gh} {M M1 M2 : Mem} {w w1 w2 : World} (h : Evo g M w g1 M1 w1) (k : Evo g1 M1 w1 g2 M2 w2) : Evo g M w g2 M2 w2 where
  L id hl := k.L id (h.L id hl)
  Z b hb := k.Z b (h.Z b hb)
  Zn b hb := by
    rcases k.Zn b hb with h3 | h3
    · exact h.Zn b h3
    · exact .inr fun h4 => h3 (h.U b h4)
  U b hb := k.U b (h.U b hb)
  keep b hb := (k.keep b (h.U b hb)).trans (h.keep b hb)
  size := Nat.le_trans h.size k.size
  os := k.os.trans h.os
  tape := k.tape.trans h.tape
  output := ⟨k.output.1.trans h.output.1, Nat.le_trans h.output.2 k.output.2⟩
  ids id hl r' hr := by
    obtain ⟨r1, e1, a1, s1, l1⟩ := k.ids id (h.L id hl) r' hr
    obtain ⟨r, e, a, s, l⟩ := h.ids id hl r1 e1
    exact ⟨r, e, a1.trans a, s1.trans s, l1.trans l⟩

section
variable {g g' : Gh} {M M' : Mem} {w w' : World} (E : Evo g M w g' M' w') (hz : ∀ b, g.Z b → g.U b)
include E hz
mutual
theorem Rel.evo : ∀ (a : AV) (u : Value), Rel g M w a u → Rel g' M' w' a u
  | .k _, _, h => h
  | .i _ _, _, h => h
  | .b _, _, h => h
  | .s _, _, h => h
  | .ifc _ v, _, ⟨u', e, h⟩ => ⟨u', e, Rel.evo v u' h⟩
  | .agg cs, _, ⟨us, e, h⟩ => ⟨us, e, RelL.evo cs us h⟩
  | .tup vs, _, ⟨us, e, h⟩ => ⟨us, e, RelL.evo vs us h⟩
  | .own id off n st, u, ⟨hl, h⟩ => ⟨E.L id hl, fun r' hr' => by
      obtain ⟨r, hr, ha, hs, hn⟩ := E.ids id hl r' hr'
      obtain ⟨h1, A, c, h2, h3, h4⟩ := h r hr
      exact ⟨by rw [hn]; exact h1, A, c, h2, h3, fun hc => by rw [ha, hs]; exact h4 hc⟩⟩
  | .ptr id i o, u, ⟨hl, h⟩ => ⟨E.L id hl, fun r' hr' => by
      obtain ⟨r, hr, ha, hs, hn⟩ := E.ids id hl r' hr'
      rw [hn, ha, hs]; exact h r hr⟩
  | .deep sz xs, _, ⟨A, c, h1, h2, h3⟩ => ⟨A, c, h1, h2, h3.imp id fun ⟨blk, off, e, hb, h⟩ => ⟨blk, off, e, E.Z blk hb, RelD.evo sz blk off xs (E.keep blk (hz blk hb)) h⟩⟩
  | .dptr cs, _, ⟨blk, off, e, hb, h⟩ => ⟨blk, off, e, E.Z blk hb, RelM.evo blk off cs (E.keep blk (hz blk hb)) h⟩
  | .fn _ caps, _, ⟨us, e, h⟩ => ⟨us, e, RelL.evo caps us h⟩
  | .undef, _, _ => trivial
theorem RelL.evo : ∀ (xs : List AV) (us : List Value), RelL g M w xs us → RelL g' M' w' xs us
  | [], _, h => h
  | x :: xs, _, ⟨u, r, e, h1, h2⟩ => ⟨u, r, e, Rel.evo x u h1, RelL.evo xs r h2⟩
theorem RelM.evo (blk off : Nat) : ∀ (xs : List AV), w'.heap[blk]? = w.heap[blk]? → RelM g M w blk off xs → RelM g' M' w' blk off xs
  | [], _, _ => trivial
  | x :: xs, hb, ⟨⟨u, hu, h0, h1⟩, h2⟩ => ⟨⟨u, (World.cell?_of_block (w := w) (a := ⟨blk, off, none⟩) hb).trans hu, h0, Rel.evo x u h1⟩, RelM.evo blk (off + 1) xs hb h2⟩
theorem RelD.evo (sz blk off : Nat) : ∀ (xs : List (List AV)), w'.heap[blk]? = w.heap[blk]? → RelD g M w sz blk off xs → RelD g' M' w' sz blk off xs
  | [], _, _ => trivial
  | cs :: xs, hb, ⟨⟨h0, h1⟩, h2⟩ => ⟨⟨h0, RelM.evo blk off cs hb h1⟩, RelD.evo sz blk (off + sz) xs hb h2⟩
end
end

/-- A block of cells of this size, none of which is frozen. -/
def BlockAt (w : World) (rb size : Nat) : Prop :=
  ∃ arr ty fz, w.heap[rb]? = some (.cells arr ty fz) ∧ arr.size = size ∧ ∀ o, o < size → ¬ (fz.1 ≤ o ∧ o < fz.2)

/-- A row where it lies. -/
def RowAt (g : Gh) (M : Mem) (w : World) (id : Nat) (r : Row) : Prop :=
  (r.el = [] ∧ g.at_ id = none) ∨
  ∃ rb ro size, g.at_ id = some (rb, ro, size) ∧ ¬ g.U rb ∧ BlockAt w rb size ∧ ro + r.el.length * r.sz ≤ size ∧ RelD g M w r.sz rb ro r.el

/-- What stands in the blocks that may not be touched, and stays so. -/
structure LayT where
  ok : (Nat → Prop) → World → Prop
  st : ∀ {U U' : Nat → Prop} {w w' : World}, (∀ b, U b → U' b) → (∀ b, U b → w'.heap[b]? = w.heap[b]?) → ok U w → ok U' w'
variable [Inhabited LayT]
def layOk (g : Gh) (w : World) : Prop := (default : LayT).ok g.U w
theorem layOk.st {g g' : Gh} {w w' : World} (h : layOk g w) (hU : ∀ b, g.U b → g'.U b) (hk : ∀ b, g.U b → w'.heap[b]? = w.heap[b]?) : layOk g' w' := (default : LayT).st hU hk h
theorem layOk.evo {g g' : Gh} {M M' : Mem} {w w' : World} (h : layOk g w) (E : Evo g M w g' M' w') : layOk g' w' := h.st E.U E.keep

structure MemRel (g : Gh) (M : Mem) (w : World) : Prop where
  zu : ∀ b, g.Z b → g.U b
  ul : ∀ b, g.U b → b < w.heap.size
  known : ∀ id r, M id = some r → g.L id
  row : ∀ id r, M id = some r → RowAt g M w id r
  lay : layOk g w
  inj : ∀ id id' r r' x x', M id = some r → M id' = some r' → g.at_ id = some x → g.at_ id' = some x' → x.1 = x'.1 → id = id'

/-! ### reading -/
section
variable {g : Gh} {M : Mem} {w : World}
theorem relM_get {blk : Nat} : ∀ {cs : List AV} {off : Nat} (k : Nat) {c : AV}, RelM g M w blk off cs → cs[k]? = some c →
    ∃ u, w.cell? ⟨blk, off + k, none⟩ = some u ∧ Rel g M w c u
  | x :: xs, off, 0, c, ⟨⟨u, hu, _, h⟩, _⟩, e => by
    obtain rfl : x = c := by simpa using e
    exact ⟨u, hu, h⟩
  | x :: xs, off, k + 1, c, ⟨_, h2⟩, e => by
    have := relM_get (off := off + 1) k h2 (by simpa using e)
    rwa [show off + 1 + k = off + (k + 1) by omega] at this
theorem relD_get {sz blk : Nat} : ∀ {xs : List (List AV)} {off : Nat} (j : Nat) {cs : List AV}, RelD g M w sz blk off xs → xs[j]? = some cs →
    cs.length = sz ∧ RelM g M w blk (off + j * sz) cs
  | x :: xs, off, 0, cs, ⟨h, _⟩, e => by
    obtain rfl : x = cs := by simpa using e
    simpa using h
  | x :: xs, off, j + 1, cs, ⟨_, h2⟩, e => by
    have := relD_get (off := off + sz) j h2 (by simpa using e)
    rwa [show off + sz + j * sz = off + (j + 1) * sz by rw [Nat.add_mul]; omega] at this
theorem relM_drop {blk : Nat} : ∀ {cs : List AV} {off : Nat} (k : Nat), RelM g M w blk off cs → RelM g M w blk (off + k) (cs.drop k)
  | [], _, k, _ => by simp [RelM]
  | x :: xs, off, 0, h => by simpa using h
  | x :: xs, off, k + 1, ⟨_, h⟩ => by
    have := relM_drop (off := off + 1) k h
    rwa [show off + 1 + k = off + (k + 1) by omega] at this
theorem relM_take {blk : Nat} : ∀ {cs : List AV} {off : Nat} (k : Nat), RelM g M w blk off cs → RelM g M w blk off (cs.take k)
  | [], _, k, _ => by simp [RelM]
  | x :: xs, off, 0, h => by simp [RelM]
  | x :: xs, off, k + 1, ⟨h1, h⟩ => ⟨h1, relM_take k h⟩
theorem relD_drop {sz blk : Nat} : ∀ {xs : List (List AV)} {off : Nat} (k : Nat), RelD g M w sz blk off xs → RelD g M w sz blk (off + k * sz) (xs.drop k)
  | [], _, k, _ => by simp [RelD]
  | x :: xs, off, 0, h => by simpa using h
  | x :: xs, off, k + 1, ⟨_, h⟩ => by
    have := relD_drop (off := off + sz) k h
    rwa [show off + sz + k * sz = off + (k + 1) * sz by rw [Nat.add_mul]; omega] at this
theorem relD_take {sz blk : Nat} : ∀ {xs : List (List AV)} {off : Nat} (k : Nat), RelD g M w sz blk off xs → RelD g M w sz blk off (xs.take k)
  | [], _, k, _ => by simp [RelD]
  | x :: xs, off, 0, h => by simp [RelD]
  | x :: xs, off, k + 1, ⟨h1, h⟩ => ⟨h1, relD_take k h⟩
end
#print axioms Rel.evo
end Go.Vm
