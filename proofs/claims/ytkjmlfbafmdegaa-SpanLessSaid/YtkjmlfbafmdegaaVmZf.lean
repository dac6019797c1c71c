import Derived.Test.YtkjmlfbafmdegaaVmZe
import Derived.Shelf.SlSortCmp.NoneTotal
namespace Go.Vm
set_option linter.unusedSectionVars false
set_option linter.unusedSimpArgs false
set_option linter.unusedVariables false
open Go Go.Shelf Go.RowKit Go.Lib Go.Sort Go.Proofs
variable [Inhabited LayT]

/-! ### slices.SortFunc at places: numbers below m -/
def encP {m : Nat} (i : Fin m) : Value := .int .i64 (i.val : Int)
def ints {m : Nat} (ds : List (Fin m)) : List Int := ds.map fun i => (i.val : Int)
def encF {m : Nat} (ds : List (Fin m)) : List (List AV) := enc (.i .i64) (ints ds)
theorem encF_flat {m : Nat} (ds : List (Fin m)) : (encF ds).flatten = (ints ds).map (AV.i .i64) := enc_flatten
theorem relL_ints {m : Nat} {g : Gh} {M : Mem} {w : World} : ∀ (ds : List (Fin m)), RelL g M w ((ints ds).map (AV.i .i64)) (ds.map encP)
  | [] => rfl
  | d :: ds => ⟨_, _, rfl, rfl, relL_ints ds⟩
theorem relL_intsE {m : Nat} {g : Gh} {M : Mem} {w : World} : ∀ (ds : List (Fin m)) {us : List Value}, RelL g M w ((ints ds).map (AV.i .i64)) us → us = ds.map encP
  | [], us, h => h
  | d :: ds, us, ⟨u, r, e, h1, h2⟩ => by
    rw [e, relL_intsE ds h2, show u = encP d from h1]
    rfl
section
variable {m : Nat} [Inhabited (Fin m)] {w : World} {rb ro n : Nat} {ds : List (Fin m)} {os : Array Obj}
theorem sw_far {b : Nat} (hb : b < w.heap.size) (hne : b ≠ rb) (d : Array (Fin m)) : (sortWorld encP w rb ro n d os).heap[b]? = w.heap[b]? := by
  unfold sortWorld grow putRow mapBlock Sort.ahead
  simp only
  rw [Array.getElem?_append_left (by simpa using hb), Array.getElem?_modify, if_neg (Ne.symm hne)]
theorem sw_size (d : Array (Fin m)) : (sortWorld encP w rb ro n d os).heap.size = w.heap.size + os.size := by
  unfold sortWorld grow putRow mapBlock Sort.ahead
  simp
theorem sw_block {arr : Array Value} {ty : TypeId} {fz : Nat × Nat} (hb : w.heap[rb]? = some (.cells arr ty fz)) (d : Array (Fin m)) :
    (sortWorld encP w rb ro n d os).heap[rb]? = some (.cells (putCells encP ro d arr) ty fz) := by
  have hlt : rb < w.heap.size := (Array.getElem?_eq_some_iff.1 hb).1
  unfold sortWorld grow putRow mapBlock Sort.ahead
  simp only
  rw [Array.getElem?_append_left (by simpa using hlt), Array.getElem?_modify, if_pos rfl, hb]
  rfl
end
theorem putCells_size {α : Type} [Inhabited α] (e : α → Value) (ro : Nat) (d : Array α) (c : Array Value) : (putCells e ro d c).size = c.size := by simp [putCells]
theorem putCells_get {α : Type} [Inhabited α] (e : α → Value) (ro : Nat) (d : Array α) (c : Array Value) {j : Nat} (hj : j < d.size) (hc : ro + j < c.size) : (putCells e ro d c)[ro + j]? = some (e d[j]!) := by
  unfold putCells
  rw [Array.getElem?_mapIdx, Array.getElem?_eq_getElem hc, Option.map_some]
  rw [if_pos ⟨Nat.le_add_right _ _, by omega⟩, Nat.add_sub_cancel_left]
theorem callOk_sort {P : Program} {ρ : Ren} {m : Nat} [Inhabited (Fin m)] (L : SlLaysF.n6 P ρ) (cf : Fin m → Fin m → Int) (hO : SWO (ltOf cf)) (hT : ∀ x y, ltOf cf x y = false → ltOf cf y x = false → x = y)
    {g : Nat} {caps : List AV} {M : Mem} {slot id : Nat} {ds : List (Fin m)} (hM : M id = some ⟨1, encF ds⟩) (hcaps : subL (ren fun _ => none) caps = caps)
    (hg : Callable P g) (hf : Callable P (ρ.f 6)) (hn : ds.length < 4611686018427387904)
    (hcl : ∀ x y : Fin m, CallOk P g ([.i .i64 (x.val : Int), .i .i64 (y.val : Int)] ++ caps) mem0 0 { v := .i .i64 (cf x y) }) :
    CallOk P (ρ.f 6) [.own id 0 ds.length 1, .fn g caps] M slot { v := .tup [], eff := [(id, some ⟨1, encF (ds.mergeSort fun x y => !(ltOf cf) y x)⟩)], rd := [id] } := by
  refine ⟨hf, ?_⟩
  intro Mx hMx g0 w us hm hus hslot
  have hr : Mx id = some ⟨1, encF ds⟩ := (hMx id (by simp)).trans hM
  obtain ⟨u1, r1, rfl, hu1, u2, r2, rfl, hu2, rfl⟩ := hus
  obtain ⟨cs, rfl, hcs⟩ := hu2
  obtain ⟨hl, h1⟩ := hu1
  obtain ⟨hlen, A, c, rfl, hnc, hA⟩ := h1 _ hr
  have hel : (encF ds).length = ds.length := by simp [encF, enc, ints]
  by_cases hz : ds = []
  · subst hz
    refine (AnyF.slices_SortFunc_none (P := P) (ρ := ρ) { L with } A c (.func (.func g) #[] cs.toArray) w).mono ?_
    rintro e w' ⟨rfl, rfl⟩
    have e1 : upd Mx [(id, some ⟨1, encF (([] : List (Fin m)).mergeSort fun x y => !(ltOf cf) y x)⟩)] = Mx := by
      funext i
      simp only [upd]
      split
      · rename_i e; rw [e, hr, List.mergeSort_nil]
      · rfl
    refine ⟨_, g0, rfl, ⟨[], rfl, rfl⟩, ?_, ?_, fun _ h => .inl h⟩
    · rw [e1]; exact hm
    · rw [e1]; exact Evo.refl _ _ _
  · have hpos : 0 < ds.length := List.length_pos_iff.2 hz
    obtain ⟨rb, ro, size, hat, rfl, hfit⟩ := hA (by omega)
    obtain ⟨hU, hblk, hfit2, hD⟩ := row_at hm hr hat
    obtain ⟨arr, ty, fz, hb, hasz, hfz⟩ := hblk
    have hrb : rb < w.heap.size := (Array.getElem?_eq_some_iff.1 hb).1
    obtain ⟨_, us, hus, hul, hu1, hcell⟩ := flat_of_relD hD
    rw [encF_flat] at hus
    have hus := relL_intsE ds hus
    subst hus
    have hfit3 : ro + ds.length ≤ size := by rw [hel, Nat.mul_one] at hfit2; exact hfit2
    have hds : ds.toArray.size = ds.length := rfl
    have hH : Holds encP w rb ro ds.toArray := by
      intro j hj
      rw [hds] at hj
      refine ⟨?_, ?_⟩
      · refine hcell j _ ?_
        rw [List.getElem?_map, List.getElem?_eq_getElem hj, Option.map_some]
        congr 2
        simp [hj]
      · simp only [World.frozen?, hb]
        have := hfz (ro + j) (by omega)
        obtain ⟨lo, hi⟩ := fz
        simpa using this
    have hkeep : ∀ (n : Nat) (d : Array (Fin m)) (os : Array Obj) b, g0.U b → (sortWorld encP w rb ro n d os).heap[b]? = w.heap[b]? := fun n d os b hbU => sw_far (hm.ul b hbU) (fun e => hU (by rw [← e]; exact hbU)) d
    have hcmp : CmpLays1 P g cs.toArray encP cf rb ro ds.toArray.size w := by
      intro n os d hs x y
      have hk := hkeep n d os
      have hsz := sw_size (m := m) (w := w) (rb := rb) (ro := ro) (n := n) (os := os) d
      have htp : (sortWorld encP w rb ro n d os).tape = w.tape := rfl
      generalize sortWorld encP w rb ro n d os = W at *
      let gW : Gh := { at_ := fun _ => none, Z := g0.Z, U := fun b => b < W.heap.size, L := fun _ => False }
      have E : SubOk (ren fun _ => none) g0 Mx w gW mem0 W := ren_ok (fun _ _ h => by cases h) (fun _ _ h => by cases h) (fun _ h => h) (fun b hbZ => hk b (hm.zu b hbZ))
      have hc2 : RelL gW mem0 W caps cs := by
        have := RelL.sub E _ _ hcs
        rwa [hcaps] at this
      have hmW : MemRel gW mem0 W := by
        refine ⟨fun b h => ?_, fun b h => h, fun _ _ h => absurd h (by simp [mem0]), fun _ _ h => absurd h (by simp [mem0]), hm.lay.st (fun b h => ?_) hk, fun _ _ _ _ _ _ h => absurd h (by simp [mem0])⟩
        · show b < W.heap.size
          have := hm.ul b (hm.zu b h)
          omega
        · show b < W.heap.size
          have := hm.ul b h
          omega
      have hargs : RelL gW mem0 W ([.i .i64 (x.val : Int), .i .i64 (y.val : Int)] ++ caps) ([encP x, encP y] ++ cs) := ⟨_, _, rfl, rfl, _, _, rfl, rfl, hc2⟩
      have := (hcl x y).2 mem0 (fun _ h => by cases h) gW W _ hmW hargs (fun _ _ _ h => h)
      have e2 : ([encP x, encP y] ++ cs).toArray = #[encP x, encP y] ++ cs.toArray := by simp
      rw [e2] at this
      refine this.mono ?_
      rintro e w' ⟨u, g', rfl, hu, hm', ev, _⟩
      have hu' : u = .int .i64 (cf x y) := hu
      refine ⟨by rw [hu'], w'.drawn - W.drawn, w'.heap.extract W.heap.size w'.heap.size, ?_⟩
      have hh : w'.heap = W.heap ++ w'.heap.extract W.heap.size w'.heap.size := by
        apply Array.ext_getElem?
        intro k
        by_cases hk : k < W.heap.size
        · rw [Array.getElem?_append_left hk]
          exact ev.keep k hk
        · rw [Array.getElem?_append_right (by omega), Array.getElem?_extract]
          by_cases hk2 : k < w'.heap.size
          · rw [if_pos (by have := ev.size; omega)]
            congr 1
            omega
          · rw [if_neg (by omega)]
            exact Array.getElem?_eq_none (by omega)
      have hd := ev.output.2
      show w' = { heap := W.heap ++ _, tape := W.tape, drawn := W.drawn + (w'.drawn - W.drawn), os := W.os, output := W.output }
      rw [← hh, ← ev.tape, ← ev.os, ← ev.output.1, show W.drawn + (w'.drawn - W.drawn) = w'.drawn by omega]
    have hc := Any.slices_SortFunc_total L encP (fun _ => rfl) cf hO g cs.toArray rb (ro + 0 * 1) c ds.toArray w (fun args w => run_callFunc hg args w) (by simpa using hcmp) (by simpa using hH) hrb (by rw [hds]; exact hn) hT
    refine hc.mono ?_
    rintro e w' ⟨rfl, n, os, hw⟩
    rw [Nat.zero_mul, Nat.add_zero] at hw
    have hrest : (ds.toArray.toList.mergeSort fun x y => !(ltOf cf) y x) = ds.mergeSort fun x y => !(ltOf cf) y x := rfl
    rw [hrest] at hw
    generalize hd' : (ds.mergeSort fun x y => !(ltOf cf) y x) = d' at *
    have hdl : d'.length = ds.length := by rw [← hd']; exact List.length_mergeSort ..
    have hfar : ∀ b, b < w.heap.size → b ≠ rb → w'.heap[b]? = w.heap[b]? := fun b h1 h2 => by rw [hw]; exact sw_far h1 h2 _
    have hblk' : w'.heap[rb]? = some (.cells (putCells encP ro d'.toArray arr) ty fz) := by rw [hw]; exact sw_block hb _
    have hsz : w.heap.size ≤ w'.heap.size := by rw [hw, sw_size]; omega
    have hM' : ∀ id', id' ≠ id → upd Mx [(id, some ⟨1, encF d'⟩)] id' = Mx id' := fun id' h => by simp [upd, h]
    have hMi : upd Mx [(id, some ⟨1, encF d'⟩)] id = some ⟨1, encF d'⟩ := by simp [upd]
    have hel' : (encF d').length = d'.length := by simp [encF, enc, ints]
    have hE : Evo g0 Mx w g0 (upd Mx [(id, some ⟨1, encF d'⟩)]) w' := {
      L := fun _ h => h
      Z := fun _ h => h
      Zn := fun _ h => .inl h
      U := fun _ h => h
      keep := fun b hb => hfar b (hm.ul b hb) (fun e => hU (e ▸ hb))
      size := hsz
      os := by rw [hw]; rfl
      tape := by rw [hw]; rfl
      output := ⟨by rw [hw]; rfl, by rw [hw]; exact Nat.le_add_right _ _⟩
      ids := fun id' hid r2 hr2 => by
        by_cases e : id' = id
        · subst e
          rw [hMi] at hr2
          cases hr2
          exact ⟨_, hr, rfl, rfl, by rw [hel', hel, hdl]⟩
        · rw [hM' id' e] at hr2
          exact ⟨r2, hr2, rfl, rfl, rfl⟩ }
    refine ⟨_, g0, rfl, ⟨[], rfl, rfl⟩, { zu := hm.zu, lay := hm.lay.evo hE, ul := fun b hb => Nat.lt_of_lt_of_le (hm.ul b hb) hsz, known := fun id' r2 hr2 => ?_, row := fun id' r2 hr2 => ?_, inj := ?_ }, hE, fun _ h => .inl h⟩
    · by_cases e : id' = id
      · subst e; exact hm.known id' _ hr
      · exact hm.known id' r2 (by rw [← hM' id' e]; exact hr2)
    · by_cases e : id' = id
      · subst e
        rw [hMi] at hr2
        cases hr2
        refine .inr ⟨rb, ro, size, hat, hU, ⟨_, ty, fz, hblk', by rw [putCells_size]; exact hasz, hfz⟩, by rw [hel', hdl, Nat.mul_one]; exact hfit3, ?_⟩
        refine relD_of_flat (us := d'.map encP) ?_ ?_ ?_ ?_
        · intro cs hcs
          simp only [encF, enc, List.mem_map] at hcs
          obtain ⟨_, _, rfl⟩ := hcs
          rfl
        · rw [encF_flat]; exact relL_ints d'
        · intro v hv
          obtain ⟨_, _, rfl⟩ := List.mem_map.1 hv
          rfl
        · intro j v hj
          have hjl : j < d'.length := by
            have := (List.getElem?_eq_some_iff.1 hj).1
            simpa using this
          have hv : v = encP d'[j] := by
            rw [List.getElem?_map, List.getElem?_eq_getElem hjl] at hj
            simpa using hj.symm
          simp only [World.cell?, hblk']
          rw [if_neg (by simp)]
          rw [putCells_get encP ro d'.toArray arr (j := j) (by simpa using hjl) (by omega), hv]
          congr 2
          simp [hjl]
      · rw [hM' id' e] at hr2
        rcases hm.row id' r2 hr2 with ⟨k1, k2⟩ | ⟨rb', ro', size', k1, k2, k3, k4, k5⟩
        · exact .inl ⟨k1, k2⟩
        · have hne : rb' ≠ rb := fun h => e (hm.inj id' id r2 _ _ _ hr2 hr k1 hat h)
          obtain ⟨arr', ty', fz', k6, k7⟩ := k3
          have hb' := hfar rb' (Array.getElem?_eq_some_iff.1 k6).1 hne
          exact .inr ⟨rb', ro', size', k1, k2, ⟨arr', ty', fz', hb'.trans k6, k7⟩, k4, RelD.evo hE hm.zu _ _ _ _ hb' k5⟩
    · intro i1 i2 r1 r2 x x' e1 e2 e3 e4 e5
      have f1 : ∃ r0, Mx i1 = some r0 := by
        by_cases e : i1 = id
        · exact ⟨_, e ▸ hr⟩
        · exact ⟨r1, by rw [← hM' i1 e]; exact e1⟩
      have f2 : ∃ r0, Mx i2 = some r0 := by
        by_cases e : i2 = id
        · exact ⟨_, e ▸ hr⟩
        · exact ⟨r2, by rw [← hM' i2 e]; exact e2⟩
      obtain ⟨_, f1⟩ := f1
      obtain ⟨_, f2⟩ := f2
      exact hm.inj i1 i2 _ _ x x' f1 f2 e3 e4 e5
theorem callOk_sort0 {P : Program} {ρ : Ren} (L : SlLaysF.n6 P ρ) {g : Nat} {caps : List AV} {M : Mem} {slot id : Nat} (hM : M id = some ⟨1, []⟩) (hf : Callable P (ρ.f 6)) :
    CallOk P (ρ.f 6) [.own id 0 0 1, .fn g caps] M slot { v := .tup [], eff := [(id, some ⟨1, []⟩)], rd := [id] } := by
  refine ⟨hf, ?_⟩
  intro Mx hMx g0 w us hm hus hslot
  have hr : Mx id = some ⟨1, []⟩ := (hMx id (by simp)).trans hM
  obtain ⟨u1, r1, rfl, hu1, u2, r2, rfl, hu2, rfl⟩ := hus
  obtain ⟨cs, rfl, hcs⟩ := hu2
  obtain ⟨hl, h1⟩ := hu1
  obtain ⟨hlen, A, c, rfl, hnc, hA⟩ := h1 _ hr
  refine (AnyF.slices_SortFunc_none (P := P) (ρ := ρ) { L with } A c (.func (.func g) #[] cs.toArray) w).mono ?_
  rintro e w' ⟨rfl, rfl⟩
  have e1 : upd Mx [(id, some ⟨1, []⟩)] = Mx := by
    funext i
    simp only [upd]
    split
    · rename_i e; rw [e, hr]
    · rfl
  refine ⟨_, g0, rfl, ⟨[], rfl, rfl⟩, ?_, ?_, fun _ h => .inl h⟩
  · rw [e1]; exact hm
  · rw [e1]; exact Evo.refl _ _ _
#print axioms callOk_sort
end Go.Vm
