import Derived.Test.YtndaokjifafhkaaGreatDoorVmF
import Derived.Laws.MakeOwn
import Derived.Deep.AppendSrc
namespace Go.Vm
set_option linter.unusedSectionVars false
set_option linter.unusedSimpArgs false
set_option linter.unusedVariables false
open Go
variable [Inhabited LayT]
section
variable {P : Program} {o : Oper} {a : Act} {w : World} {g : Gh} {M : Mem} {slot : Nat} {T : Tm}

theorem one_real {v : AV} {u : Value} (h : oneC M v = true) (hr : Rel g M w v u) : u.oneCell' = true := by
  cases v with
  | k v => obtain rfl : u = v := hr; cases u <;> simp_all [oneC, Value.oneCell']
  | i kd n => obtain rfl : u = .int kd n := hr; rfl
  | b x => obtain rfl : u = .bool x := hr; rfl
  | s x => obtain rfl : u = .string ⟨x.toArray⟩ := hr; rfl
  | ifc t v => obtain ⟨u', rfl, _⟩ := hr; rfl
  | agg cs => simp [oneC] at h
  | tup vs => simp [oneC] at h
  | own id off n st =>
    simp only [oneC, Option.isSome_iff_exists] at h
    obtain ⟨r, hr'⟩ := h
    obtain ⟨A, c, rfl, _⟩ := own_cap (hr.2 r hr')
    rfl
  | ptr id i o =>
    simp only [oneC, Option.isSome_iff_exists] at h
    obtain ⟨r, hr'⟩ := h
    obtain ⟨_, rb, ro, size, _, rfl⟩ := hr.2 r hr'
    rfl
  | mp id =>
    simp only [oneC, Option.isSome_iff_exists] at h
    obtain ⟨r, hr'⟩ := h
    obtain ⟨rb, ro, size, _, rfl⟩ := hr.2 r hr'
    rfl
  | deep sz xs => obtain ⟨A, c, rfl, _⟩ := hr; rfl
  | dptr cs => obtain ⟨blk, off, rfl, _⟩ := hr; rfl
  | fn f caps => obtain ⟨us, rfl, _⟩ := hr; rfl
  | bfn f caps => obtain ⟨us, rfl, _⟩ := hr; rfl
  | undef => simp [oneC] at h
theorem cells_one {u : Value} (h : u.oneCell' = true) : u.cells = #[u] := by cases u <;> simp_all [Value.oneCell', Value.cells]

theorem rel_cells {v : AV} {u : Value} (h : flatC M v = true) (hr : Rel g M w v u) :
    RelL g M w v.cells u.cells.toList ∧ ∀ c ∈ u.cells.toList, c.oneCell' = true := by
  have one : ∀ v : AV, (∀ cs, v ≠ .agg cs) → oneC M v = true → Rel g M w v u → v.cells = [v] → RelL g M w v.cells u.cells.toList ∧ ∀ c ∈ u.cells.toList, c.oneCell' = true := by
    intro v _ h1 h2 h3
    have := one_real h1 h2
    rw [cells_one this, h3]
    exact ⟨⟨u, [], rfl, h2, rfl⟩, by simpa using this⟩
  cases v with
  | agg cs =>
    obtain ⟨us, rfl, hl⟩ := hr
    refine ⟨by simpa [AV.cells, Value.cells] using hl, ?_⟩
    simp only [flatC, List.all_eq_true] at h
    have go : ∀ {cs : List AV} {us : List Value}, RelL g M w cs us → (∀ x ∈ cs, oneC M x = true) → ∀ c ∈ us, c.oneCell' = true := by
      intro cs
      induction cs with
      | nil => intro us h _; rw [show us = [] from h]; simp
      | cons x xs ih =>
        intro us h hx
        obtain ⟨u, r, rfl, h1, h2⟩ := h
        intro c hc
        rcases List.mem_cons.1 hc with rfl | hc
        · exact one_real (hx x (by simp)) h1
        · exact ih h2 (fun y hy => hx y (by simp [hy])) c hc
    simpa [Value.cells] using go hl h
  | k v => exact one _ (by simp) h hr rfl
  | i kd n => exact one _ (by simp) h hr rfl
  | b x => exact one _ (by simp) h hr rfl
  | s x => exact one _ (by simp) h hr rfl
  | ifc t v => exact one _ (by simp) h hr rfl
  | tup vs => simp [flatC, oneC] at h
  | own id off n st => exact one _ (by simp) h hr rfl
  | ptr id i o => exact one _ (by simp) h hr rfl
  | mp id => exact one _ (by simp) h hr rfl
  | deep sz xs => exact one _ (by simp) h hr rfl
  | dptr cs => exact one _ (by simp) h hr rfl
  | fn f caps => exact one _ (by simp) h hr rfl
  | bfn f caps => exact one _ (by simp) h hr rfl
  | undef => simp [flatC, oneC] at h

/-- A world with one block more. -/
theorem grew_push (hm : MemRel g M w) {w0 : World} (h1 : w0.os = w.os) (h2 : w0.tape = w.tape) (h3 : w0.output = w.output ∧ w.drawn ≤ w0.drawn) (h4 : w0.heap = w.heap) (ob : Obj) :
    Grew g w { w0 with heap := w0.heap.push ob } w.heap.size :=
  { os := h1, tape := h2, output := h3, size := by simp [h4],
    keep := fun b hb _ => by simp only [h4]; rw [Array.getElem?_push, if_neg (by omega)]
    free := fun h => absurd (hm.ul _ h) (Nat.lt_irrefl _) }
theorem block_push {w0 : World} {n : Nat} (h4 : w0.heap.size = n) (arr : Array Value) (ty : TypeId) :
    BlockAt { w0 with heap := w0.heap.push (.cells arr ty) } n arr.size :=
  ⟨arr, ty, (0, 0), by simp [← h4], rfl, fun o ho => by simp⟩
theorem cell_push {w0 : World} {n : Nat} (h4 : w0.heap.size = n) (arr : Array Value) (ty : TypeId) (j : Nat) :
    ({ w0 with heap := w0.heap.push (.cells arr ty) } : World).cell? ⟨n, j, none⟩ = arr[j]? := by
  simp [World.cell?, ← h4]
theorem at_fresh (hm : MemRel g M w) (hs : ¬ g.L slot) {M' : Mem} (h2 : ∀ id, id ≠ slot → M' id = M id ∨ M' id = none) :
    ∀ id r', id ≠ slot → M' id = some r' → ∀ x, g.at_ id = some x → x.1 ≠ w.heap.size := by
  intro id r' hne hr' x hx
  have h : M id = some r' := by
    rcases h2 id hne with h | h <;> rw [h] at hr'
    · exact hr'
    · cases hr'
  obtain ⟨rb, ro, size⟩ := x
  obtain ⟨ob, hb⟩ := (row_in hm h hx).2.obj
  have := (Array.getElem?_eq_some_iff.1 hb).1
  simp only
  omega

theorem upd1 (M : Mem) (slot : Nat) (r : Option Row) : upd M [(slot, r)] slot = r := by simp [upd]
theorem upd1_ne (M : Mem) (slot : Nat) (r : Option Row) : ∀ id, id ≠ slot → upd M [(slot, r)] id = M id ∨ upd M [(slot, r)] id = none := fun id h => .inl (by simp [upd, h])
theorem flatten_single (cs : List AV) : (cs.map fun c => [c]).flatten = cs := by induction cs <;> simp_all

/-- A new row in a new block. -/
theorem res_new (hm : MemRel g M w) (hs : ¬ g.L slot) {r : Row} {v : AV} {u : Value} {rd : List Nat} {w0 : World} {arr : Array Value} {ty : TypeId} {us : List Value}
    (h1 : w0.os = w.os) (h2 : w0.tape = w.tape) (h3 : w0.output = w.output ∧ w.drawn ≤ w0.drawn) (h4 : w0.heap = w.heap)
    (hrun : OpRun P o a w u { w0 with heap := w0.heap.push (.cells arr ty) }) (hsz : r.sz ≠ 0) (hty : ∀ t', r.ty = some t' → ty = t')
    (hl : ∀ cs ∈ r.el, cs.length = r.sz) (hus : RelL g M w r.el.flatten us) (h1c : ∀ v ∈ us, v.oneCell' = true) (hc : ∀ (j : Nat) (v : Value), us[j]? = some v → arr[j]? = some v)
    (hfit : r.el.length * r.sz ≤ arr.size)
    (hv : ∀ g' M' w', g'.at_ slot = some (w.heap.size, 0, arr.size) → g'.L slot → M' slot = some r → Rel g' M' w' v u) :
    Res P o a w g M slot { v, eff := [(slot, some r)], rd } := by
  have hz : w0.heap.size = w.heap.size := by rw [h4]
  obtain ⟨hm', hE⟩ := install (M' := upd M [(slot, some r)]) (ro := 0) hm hs (grew_push hm h1 h2 h3 h4 (.cells arr ty)) (upd1 _ _ _) (upd1_ne _ _ _) (at_fresh hm hs (upd1_ne _ _ _)) hsz
    (fun t' e => ⟨rfl, arr, (0, 0), by rw [hty t' e]; simp [← hz]⟩) (block_push hz arr ty) (by simpa using hfit) hl hus h1c (fun j v hj => by rw [Nat.zero_add, cell_push hz]; exact hc j v hj)
  exact ⟨u, _, _, hrun, hv _ _ _ (by simp [Gh.add]) (Or.inr rfl) (upd1 _ _ _), hm', hE, fun id h => h⟩

theorem step_alloc (hm : MemRel g M w) (hs : ¬ g.L slot) {e : TypeId} {zs : List Value} (ho : o.op = .alloc e) (hz : zeroB P e = some zs) (h1z : ∀ v ∈ zs, v.oneCell' = true) {out : Out}
    (h : step T M slot (.alloc e zs) = some out) : Res P o a w g M slot out := by
  simp only [step] at h
  split at h
  · cases h
  · rename_i hne
    obtain rfl := Option.some.inj h
    unfold zeroB at hz
    simp only [Option.bind_eq_some_iff, Option.map_eq_some_iff] at hz
    obtain ⟨i, hi, z, hz1, rfl⟩ := hz
    refine res_new (w0 := w) (arr := z.cells) (ty := e) (us := z.cells.toList) (u := .pointer (some ⟨w.heap.size, 0, none⟩)) hm hs rfl rfl ⟨rfl, Nat.le_refl _⟩ rfl (.inl ?_) (by simp) (fun t' e => by cases e; rfl) ?_ ?_ h1z ?_ ?_ ?_
    · simp [execOp, ho, Instr.alloc, zeroValue, typeInfo, hi, hz1, newVar, newRow]
    · intro cs hcs; simp only [List.mem_map] at hcs; obtain ⟨_, _, rfl⟩ := hcs; rfl
    · rw [flatten_single]; exact relL_cst1 _
    · intro j v hj; simpa using hj
    · simp [cells1]
    · intro g' M' w' e1 e2 e3
      refine ⟨e2, fun r hr => ?_⟩
      rw [e3] at hr
      cases hr
      refine ⟨?_, w.heap.size, 0, z.cells.size, e1, by simp⟩
      simp [cells1]
      exact List.length_pos_iff.2 hne

theorem step_box (hm : MemRel g M w) (hs : ¬ g.L slot) (hT : RelT g M w T a) {e : TypeId} {n : Nat} {x : Operand} (ho : o.op = .box e x) {out : Out}
    (h : step T M slot (.box n x) = some out) : Res P o a w g M slot out := by
  have hx := rel_ev hT x
  simp only [step] at h
  split at h
  · rename_i hc
    obtain rfl := Option.some.inj h
    obtain ⟨h1, h2⟩ := rel_cells hc.1 hx
    have h3 := relL_length h1
    refine res_new (w0 := w) (arr := (a.eval x).cells) (ty := e) (us := (a.eval x).cells.toList) (u := .pointer (some ⟨w.heap.size, 0, none⟩)) hm hs rfl rfl ⟨rfl, Nat.le_refl _⟩ rfl (.inl ?_) (by simp) (fun t' e => by cases e) ?_ ?_ h2 ?_ ?_ ?_
    · simp [execOp, ho, Instr.box, newVar, newRow]
    · intro cs hcs; simp only [List.mem_map] at hcs; obtain ⟨_, _, rfl⟩ := hcs; rfl
    · rw [flatten_single]; exact h1
    · intro j v hj; simpa using hj
    · simp at h3 ⊢; omega
    · intro g' M' w' e1 e2 e3
      refine ⟨e2, fun r hr => ?_⟩
      rw [e3] at hr
      cases hr
      refine ⟨?_, w.heap.size, 0, (a.eval x).cells.size, e1, by simp⟩
      simp; omega
  · cases h

theorem madeCells_get (z : Array Value) (k : Nat) (n : Nat) (hz : 0 < z.size) (hk : k = n * z.size) (j : Nat) (v : Value) (h : ((List.replicate n z.toList).flatten)[j]? = some v) :
    ((Array.range k).map (z[· % z.size]!))[j]? = some v := by
  subst hk
  have hlt := (List.getElem?_eq_some_iff.1 h).1
  have hlen : ((List.replicate n z.toList).flatten).length = n * z.size := by simp [List.length_flatten]
  rw [hlen] at hlt
  have key : ∀ (n j : Nat), j < n * z.size → ((List.replicate n z.toList).flatten)[j]? = z.toList[j % z.size]? := by
    intro n
    induction n with
    | zero => intro j hj; simp at hj
    | succ n ih =>
      intro j hj
      rw [List.replicate_succ, List.flatten_cons]
      rcases Nat.lt_or_ge j z.size with hl | hg
      · rw [List.getElem?_append_left (by simpa using hl), Nat.mod_eq_of_lt hl]
      · rw [List.getElem?_append_right (by simpa using hg), ih _ (by simp; rw [Nat.add_mul] at hj; omega)]
        congr 1
        simp
        rw [Nat.mod_eq_sub_mod hg]
  rw [key n j hlt] at h
  have hmod : j % z.size < z.size := Nat.mod_lt _ hz
  simp [hlt]
  rw [Array.getElem?_toList, Array.getElem?_eq_getElem hmod] at h
  have := Option.some.inj h
  first | exact this | (rw [getElem!_pos z _ hmod] at this; exact this) | (rw [getElem!_pos z _ hmod]; exact this) | simpa [hmod] using this

theorem relL_replicate {cs : List AV} {us : List Value} (h : RelL g M w cs us) : ∀ n, RelL g M w (List.replicate n cs).flatten (List.replicate n us).flatten
  | 0 => rfl
  | n + 1 => by rw [List.replicate_succ, List.replicate_succ, List.flatten_cons, List.flatten_cons]; exact relL_append h (relL_replicate h n)

theorem step_mkSl (hm : MemRel g M w) (hs : ¬ g.L slot) (hT : RelT g M w T a) {t e : TypeId} {i : TypeInfo} {z : Value} {len cap : Operand} (ho : o.op = .makeSlice t len cap)
    (ht : P.underlying t = some (.slice e)) (hi : P.info? e = some i) (hz : i.zero = some z) (hzs : z.cells.size = i.size) (h0 : 0 < i.size) (h1z : ∀ v ∈ z.cells.toList, v.oneCell' = true) {out : Out}
    (h : step T M slot (.mkSl i.size i.bytes z.cells.toList len cap) = some out) : Res P o a w g M slot out := by
  have hl := rel_ev hT len
  have hcp := rel_ev hT cap
  simp only [step] at h
  split at h
  · rename_i n c e1 e2
    rw [e1] at hl
    rw [e2] at hcp
    have hl' : a.eval len = .int .i64 n := hl
    have hc' : a.eval cap = .int .i64 c := hcp
    split at h
    · rename_i hc
      obtain rfl := Option.some.inj h
      obtain ⟨c1, c2, c3, c4⟩ := hc
      have hby : (i.bytes : Int) * c ≤ 281474976710656 := by
        obtain ⟨m, rfl⟩ := Int.eq_ofNat_of_zero_le (Int.le_trans c1 c2)
        have : m * i.bytes ≤ 281474976710656 := by simpa using c4
        rw [Nat.mul_comm] at this
        show (i.bytes : Int) * (m : Int) ≤ 281474976710656
        rw [← Int.natCast_mul]
        omega
      have hrun := run_make (P := P) w t e i z ht hi hz .i64 .i64 n c c1 c2 hby c3
      refine res_new (w0 := w) (arr := madeCells z.cells (c.toNat * i.size)) (ty := e) (us := (List.replicate n.toNat z.cells.toList).flatten) (u := .slice (some ⟨w.heap.size, 0, none⟩) n.toNat c.toNat) hm hs rfl rfl ⟨rfl, Nat.le_refl _⟩ rfl (.inl ?_) (by simp; omega) (fun t' e => by cases e) ?_ ?_ ?_ ?_ ?_ ?_
      · simp [execOp, ho, hl', hc', hrun]
      · intro cs hcs; rw [List.eq_of_mem_replicate hcs]; simp [cells1, hzs]
      · exact relL_replicate (relL_cst1 _) _
      · intro v hv
        simp only [List.mem_flatten] at hv
        obtain ⟨l, hl, hv⟩ := hv
        rw [List.eq_of_mem_replicate hl] at hv
        exact h1z v hv
      · intro j v hj
        unfold madeCells
        have hj' : ((List.replicate c.toNat z.cells.toList).flatten)[j]? = some v := by
          have : c.toNat = n.toNat + (c.toNat - n.toNat) := by omega
          rw [this, ← List.replicate_append_replicate, List.flatten_append, List.getElem?_append_left (List.getElem?_eq_some_iff.1 hj).1]
          exact hj
        exact madeCells_get z.cells _ c.toNat (by omega) (by rw [hzs]) j v hj'
      · simp [madeCells]
        exact Nat.mul_le_mul_right _ (by omega)
      · intro g' M' w' e1 e2 e3
        refine ⟨e2, fun r hr => ?_⟩
        rw [e3] at hr
        cases hr
        refine ⟨by simp, _, _, rfl, by omega, fun _ => ⟨w.heap.size, 0, _, e1, by simp, ?_⟩⟩
        simp [madeCells]
    · cases h
  · cases h
end
end Go.Vm
