import Derived.Test.YtndaokjifafhkaaGreatDoorVmJ
import Derived.Laws.BytesString
namespace Go.Vm
set_option linter.unusedSectionVars false
set_option linter.unusedSimpArgs false
set_option linter.unusedVariables false
open Go
variable [Inhabited LayT]

/-! ### cells written over -/
section
variable {α : Type}
theorem over_length : ∀ (vs cs : List α) (o : Nat), (over cs o vs).length = cs.length
  | [], _, _ => rfl
  | v :: vs, cs, o => by rw [over, over_length vs]; simp
theorem over_left : ∀ (vs cs ds : List α) (o : Nat), o + vs.length ≤ cs.length → over (cs ++ ds) o vs = over cs o vs ++ ds
  | [], _, _, _, _ => rfl
  | v :: vs, cs, ds, o, h => by
    simp only [List.length_cons] at h
    rw [over, over, List.set_append_left _ _ (by omega), over_left vs _ _ _ (by simp; omega)]
theorem over_right : ∀ (vs cs ds : List α) (o : Nat), over (cs ++ ds) (cs.length + o) vs = cs ++ over ds o vs
  | [], _, _, _ => rfl
  | v :: vs, cs, ds, o => by
    rw [over, over, List.set_append_right _ _ (by omega), show cs.length + o - cs.length = o by omega, Nat.add_assoc, over_right vs]
theorem over_eq : ∀ (vs cs : List α) (o : Nat), o + vs.length ≤ cs.length → over cs o vs = cs.take o ++ vs ++ cs.drop (o + vs.length)
  | [], cs, o, _ => by simp [over]
  | v :: vs, cs, o, h => by
    simp only [List.length_cons] at h
    rw [over, over_eq vs _ _ (by simp; omega)]
    rw [List.take_set, List.drop_set_of_lt (by omega)]
    have h1 : o < cs.length := by omega
    have : (List.take (o + 1) cs).set o v = cs.take o ++ [v] := by
      rw [List.take_succ_eq_append_getElem h1, List.set_append_right _ _ (by simp; omega)]
      simp [show o - min o cs.length = 0 by omega]
    rw [this]
    simp [Nat.add_assoc, Nat.add_comm 1]
theorem over_flatten {sz : Nat} : ∀ (el : List (List α)) (i o : Nat) (cs vs : List α), (∀ c ∈ el, c.length = sz) → el[i]? = some cs → o + vs.length ≤ cs.length →
    (el.set i (over cs o vs)).flatten = over el.flatten (i * sz + o) vs
  | [], _, _, _, _, _, h, _ => by simp at h
  | x :: xs, 0, o, cs, vs, hl, h, hb => by
    obtain rfl : x = cs := by simpa using h
    rw [List.set_cons_zero, List.flatten_cons, List.flatten_cons, over_left _ _ _ _ (by simpa using hb)]
    simp
  | x :: xs, i + 1, o, cs, vs, hl, h, hb => by
    have hx : x.length = sz := hl x (by simp)
    rw [List.set_cons_succ, List.flatten_cons, List.flatten_cons, over_flatten xs i o cs vs (fun c hc => hl c (by simp [hc])) (by simpa using h) hb,
      show (i + 1) * sz + o = x.length + (i * sz + o) by rw [hx, Nat.add_mul]; omega, over_right]
theorem over_one (cs : List α) (o : Nat) (v : α) : over cs o [v] = cs.set o v := rfl
theorem flatten_take_one : ∀ (el : List (List α)) (k : Nat), (∀ c ∈ el, c.length = 1) → (el.take k).flatten = el.flatten.take k
  | [], k, _ => by simp
  | x :: xs, 0, _ => by simp
  | x :: xs, k + 1, h => by
    obtain ⟨y, rfl⟩ := List.length_eq_one_iff.1 (h x (by simp))
    rw [List.take_succ_cons, List.flatten_cons, List.flatten_cons, flatten_take_one xs k (fun c hc => h c (by simp [hc]))]
    simp
theorem flatten_drop_one : ∀ (el : List (List α)) (k : Nat), (∀ c ∈ el, c.length = 1) → (el.drop k).flatten = el.flatten.drop k
  | [], k, _ => by simp
  | x :: xs, 0, _ => by simp
  | x :: xs, k + 1, h => by
    obtain ⟨y, rfl⟩ := List.length_eq_one_iff.1 (h x (by simp))
    rw [List.drop_succ_cons, List.flatten_cons, flatten_drop_one xs k (fun c hc => h c (by simp [hc]))]
    simp
theorem flatten_length {sz : Nat} : ∀ (el : List (List α)), (∀ c ∈ el, c.length = sz) → el.flatten.length = el.length * sz
  | [], _ => by simp
  | x :: xs, h => by
    rw [List.flatten_cons, List.length_append, flatten_length xs (fun c hc => h c (by simp [hc])), h x (by simp)]
    simp [Nat.add_mul]; omega
end

section
variable {P : Program} {o : Oper} {a : Act} {w : World} {g : Gh} {M : Mem} {slot : Nat} {T : Tm}

theorem relL_set {x : AV} {u : Value} (hx : Rel g M w x u) : ∀ {xs : List AV} {us : List Value} (j : Nat), RelL g M w xs us → RelL g M w (xs.set j x) (us.set j u)
  | [], us, j, h => by rw [show us = [] from h]; rfl
  | y :: ys, us, j, h => by
    obtain ⟨v, r, rfl, h1, h2⟩ := h
    cases j with
    | zero => exact ⟨u, r, rfl, hx, h2⟩
    | succ j => exact ⟨v, r.set j u, rfl, h1, relL_set hx j h2⟩
theorem relL_over : ∀ {vs : List AV} {ws : List Value} {xs : List AV} {us : List Value} (j : Nat), RelL g M w vs ws → RelL g M w xs us → RelL g M w (over xs j vs) (over us j ws)
  | [], ws, xs, us, j, h, k => by rw [show ws = [] from h]; exact k
  | v :: vs, ws, xs, us, j, h, k => by
    obtain ⟨u, r, rfl, h1, h2⟩ := h
    exact relL_over (j + 1) h2 (relL_set h1 j k)
theorem over_all {p : Value → Bool} : ∀ (vs cs : List Value) (o : Nat), (∀ v ∈ vs, p v = true) → (∀ v ∈ cs, p v = true) → ∀ v ∈ over cs o vs, p v = true
  | [], _, _, _, h => h
  | v :: vs, cs, o, h1, h2 => over_all vs (cs.set o v) (o + 1) (fun x hx => h1 x (by simp [hx])) (fun x hx => by
      rcases List.mem_or_eq_of_mem_set hx with h | rfl
      · exact h2 x h
      · exact h1 x (by simp))

/-- A block written over. -/
theorem setCells_block {b : Nat} : ∀ (vs : List Value) (o : Nat) (w : World) (arr : Array Value) (ty : TypeId) (fz : Nat × Nat), w.heap[b]? = some (.cells arr ty fz) →
    (w.setCells b o vs).heap[b]? = some (.cells (over arr.toList o vs).toArray ty fz)
  | [], o, w, arr, ty, fz, h => by simpa [World.setCells, over] using h
  | v :: vs, o, w, arr, ty, fz, h => by
    have h1 : (w.setCell ⟨b, o, none⟩ v).heap[b]? = some (.cells (arr.setIfInBounds o v) ty fz) := by
      simp [World.setCell, Array.getElem?_modify, h]
    rw [World.setCells, setCells_block vs (o + 1) _ _ ty fz h1, over]
    simp
theorem setCells_far {b : Nat} : ∀ (vs : List Value) (o : Nat) (w : World) (k : Nat), k ≠ b → (w.setCells b o vs).heap[k]? = w.heap[k]?
  | [], _, _, _, _ => rfl
  | v :: vs, o, w, k, h => by
    rw [World.setCells, setCells_far vs (o + 1) _ k h]
    simp only [World.setCell, Array.getElem?_modify]
    rw [if_neg (by simpa using Ne.symm h)]
theorem setCells_rest {b : Nat} : ∀ (vs : List Value) (o : Nat) (w : World), (w.setCells b o vs).os = w.os ∧ (w.setCells b o vs).tape = w.tape ∧ ((w.setCells b o vs).output = w.output ∧ w.drawn ≤ (w.setCells b o vs).drawn) ∧ (w.setCells b o vs).heap.size = w.heap.size
  | [], _, _ => ⟨rfl, rfl, ⟨rfl, Nat.le_refl _⟩, rfl⟩
  | v :: vs, o, w => by
    obtain ⟨h1, h2, h3, h4⟩ := setCells_rest vs (o + 1) (w.setCell ⟨b, o, none⟩ v)
    exact ⟨h1, h2, h3, by rw [World.setCells, h4]; simp [World.setCell]⟩

theorem grew_set {rb size : Nat} (hf : ¬ g.U rb) (o' : Nat) (ws : List Value) : Grew g w (w.setCells rb o' ws) rb := by
  obtain ⟨h1, h2, h3, h4⟩ := setCells_rest (b := rb) ws o' w
  exact { os := h1, tape := h2, output := h3, size := by omega, keep := fun b _ hb => setCells_far ws o' w b hb, free := hf }
theorem block_set {rb size : Nat} (h : BlockAt w rb size) (o' : Nat) (ws : List Value) : BlockAt (w.setCells rb o' ws) rb size := by
  obtain ⟨arr, ty, fz, h1, h2, h3⟩ := h
  exact ⟨_, ty, fz, setCells_block ws o' w arr ty fz h1, by simp [over_length, h2], h3⟩
theorem cell_set {rb size : Nat} {us ws : List Value} {ro : Nat} (h : BlockAt w rb size) (hc : ∀ (j : Nat) (v : Value), us[j]? = some v → w.cell? ⟨rb, ro + j, none⟩ = some v)
    (pos : Nat) (hp : pos + ws.length ≤ us.length) : ∀ (j : Nat) (v : Value), (over us pos ws)[j]? = some v → (w.setCells rb (ro + pos) ws).cell? ⟨rb, ro + j, none⟩ = some v := by
  intro j v hj
  obtain ⟨arr, ty, fz, h1, h2, h3⟩ := h
  have hblk := setCells_block ws (ro + pos) w arr ty fz h1
  have hcell : ∀ j v, us[j]? = some v → arr.toList[ro + j]? = some v := by
    intro j v hj
    have := hc j v hj
    simpa [World.cell?, h1] using this
  have hle : ro + us.length ≤ arr.size := by
    rcases Nat.eq_zero_or_pos us.length with h0 | h0
    · have hl := (List.getElem?_eq_some_iff.1 hj).1
      rw [over_length] at hl
      omega
    · have := hcell (us.length - 1) _ (List.getElem?_eq_getElem (by omega))
      have := (List.getElem?_eq_some_iff.1 this).1
      simp at this
      omega
  simp only [World.cell?, hblk]
  simp only [Option.isSome_none, Bool.false_eq_true, if_false, List.getElem?_toArray]
  rw [over_eq _ _ _ (by simp; omega)]
  rw [over_eq _ _ _ hp] at hj
  rcases Nat.lt_or_ge j pos with c1 | c1
  · rw [List.append_assoc, List.getElem?_append_left (by simp; omega), List.getElem?_take, if_pos c1] at hj
    rw [List.append_assoc, List.getElem?_append_left (by simp; omega), List.getElem?_take, if_pos (by omega)]
    exact hcell j v hj
  · rcases Nat.lt_or_ge j (pos + ws.length) with c2 | c2
    · rw [List.append_assoc, List.getElem?_append_right (by simp; omega), List.getElem?_append_left (by simp; omega)] at hj
      rw [List.append_assoc, List.getElem?_append_right (by simp; omega), List.getElem?_append_left (by simp; omega)]
      rw [← hj]; congr 1; simp; omega
    · rw [List.getElem?_append_right (by simp; omega), List.getElem?_drop] at hj
      rw [List.getElem?_append_right (by simp; omega), List.getElem?_drop]
      have := hcell j v (by rw [← hj]; congr 1; simp; omega)
      rw [← this]; congr 1; simp; omega

/-- A row's cells written over. -/
theorem res_store (hm : MemRel g M w) {id : Nat} {r r' : Row} {rb ro size pos : Nat} {vs : List AV} {ws : List Value} {rd : List Nat} (hr : M id = some r) (hat : g.at_ id = some (rb, ro, size))
    (hz0 : r.sz ≠ 0) (hty : r'.ty = r.ty) (hsz : r'.sz = r.sz) (hlen : r'.el.length = r.el.length) (hl : ∀ cs ∈ r'.el, cs.length = r.sz) (hfl : r'.el.flatten = over r.el.flatten pos vs)
    (hp : pos + vs.length ≤ r.el.length * r.sz) (hv : RelL g M w vs ws) (h1c : ∀ v ∈ ws, v.oneCell' = true)
    (hrun : (execOp a.eval o).run P w = .ok .skip (w.setCells rb (ro + pos) ws)) :
    Res P o a w g M slot { v := .k undef, eff := [(id, some r')], rd } := by
  obtain ⟨hU, hblk, hfit, hD⟩ := row_at hm hr hat hz0
  obtain ⟨hls, us, hus, hul, hu1, hucell⟩ := flat_of_relD hD
  have hwl := relL_length hv
  have hG := grew_set (g := g) (w := w) (size := size) hU (ro + pos) ws
  have hM' : ∀ id', id' ≠ id → upd M [(id, some r')] id' = M id' := fun id' h => by simp [upd, h]
  have hE : Evo g M w g (upd M [(id, some r')]) (w.setCells rb (ro + pos) ws) := {
    L := fun _ h => h
    Z := fun _ h => h
    Zn := fun _ h => .inl h
    U := fun _ h => h
    keep := fun b hb => hG.keep b (hm.ul b hb) (fun e => hU (e ▸ hb))
    size := hG.size
    os := hG.os
    tape := hG.tape
    output := hG.output
    ids := fun id' hid r2 hr2 => by
      by_cases e : id' = id
      · subst e
        rw [upd1] at hr2
        cases hr2
        exact ⟨r, hr, rfl, hsz, hlen⟩
      · rw [hM' id' e] at hr2
        exact ⟨r2, hr2, rfl, rfl, rfl⟩ }
  refine ⟨undef, _, g, .inr ⟨hrun, rfl⟩, rfl, { zu := hm.zu, lay := hm.lay.evo hm.zu hE, ul := fun b hb => Nat.lt_of_lt_of_le (hm.ul b hb) hG.size, known := fun id' r2 hr2 => ?_, row := fun id' r2 hr2 => ?_, inj := ?_ }, hE, fun _ h => .inl h⟩
  · by_cases e : id' = id
    · subst e; exact hm.known id' r hr
    · exact hm.known id' r2 (by rw [← hM' id' e]; exact hr2)
  · by_cases e : id' = id
    · subst e
      rw [upd1] at hr2
      cases hr2
      refine .inr ⟨rb, ro, size, hat, hU, .inl ⟨by rw [hsz]; exact hz0, block_set hblk _ _, by rw [hlen, hsz]; exact hfit, ?_, fun t' e => ?_⟩⟩
      rotate_left
      · obtain ⟨k0, arr, fz, k⟩ := row_ty hm hr hat hz0 t' (hty ▸ e)
        exact ⟨k0, _, fz, setCells_block ws (ro + pos) w arr t' fz k⟩
      rw [hsz]
      refine relD_of_flat (us := over us pos ws) hl ?_ ?_ ?_
      · rw [hfl]; exact RelL.evo hE hm.zu _ _ (relL_over pos hv hus)
      · exact over_all ws us pos h1c hu1
      · exact cell_set hblk hucell pos (by rw [hul, hwl]; exact hp)
    · rw [hM' id' e] at hr2
      rcases hm.row id' r2 hr2 with ⟨k1, k2⟩ | ⟨rb', ro', size', k1, k2, k3⟩
      · exact .inl ⟨k1, k2⟩
      · have hne : rb' ≠ rb := fun h => e (hm.inj id' id r2 r _ _ hr2 hr k1 hat h)
        have hb' := setCells_far ws (ro + pos) w rb' hne
        exact .inr ⟨rb', ro', size', k1, k2, k3.evo hE hm.zu hb'⟩
  · intro i1 i2 r1 r2 x x' e1 e2 e3 e4 e5
    have f1 : ∃ r0, M i1 = some r0 := by
      by_cases e : i1 = id
      · exact ⟨r, e ▸ hr⟩
      · exact ⟨r1, by rw [← hM' i1 e]; exact e1⟩
    have f2 : ∃ r0, M i2 = some r0 := by
      by_cases e : i2 = id
      · exact ⟨r, e ▸ hr⟩
      · exact ⟨r2, by rw [← hM' i2 e]; exact e2⟩
    obtain ⟨_, f1⟩ := f1
    obtain ⟨_, f2⟩ := f2
    exact hm.inj i1 i2 _ _ x x' f1 f2 e3 e4 e5

theorem set1_facts {r r' : Row} {i o : Nat} {c : AV} (hl : ∀ cs ∈ r.el, cs.length = r.sz) (h : r.set1 i o c = some r') :
    r'.sz = r.sz ∧ r'.el.length = r.el.length ∧ (∀ cs ∈ r'.el, cs.length = r.sz) ∧ r'.el.flatten = over r.el.flatten (i * r.sz + o) [c] ∧ i * r.sz + o + 1 ≤ r.el.length * r.sz := by
  unfold Row.set1 at h
  split at h
  · rename_i hs
    split at h
    · rename_i hlt
      obtain rfl := Option.some.inj h
      have hget : r.el[i + o]? = some r.el[i + o] := List.getElem?_eq_getElem hlt
      have h1 := hl r.el[i + o] (List.getElem_mem hlt)
      refine ⟨rfl, by simp, fun cs hcs => ?_, ?_, by rw [hs]; omega⟩
      · rcases List.mem_or_eq_of_mem_set hcs with h | rfl
        · exact hl cs h
        · simp [hs]
      · have := over_flatten r.el (i + o) 0 r.el[i + o] [c] hl hget (by simp; omega)
        rw [hs] at this ⊢
        rw [show i * 1 + o = (i + o) * 1 + 0 by omega, ← this, over_one]
        congr 2
        obtain ⟨x, hx⟩ : ∃ x, r.el[i + o] = [x] := by
          rw [hs] at h1
          exact List.length_eq_one_iff.1 h1
        rw [hx]; rfl
    · cases h
  · split at h
    · cases h
    simp only [Option.bind_eq_some_iff] at h
    obtain ⟨cs, h1, h2⟩ := h
    split at h2
    · rename_i hlt
      obtain rfl := Option.some.inj h2
      have hi := (List.getElem?_eq_some_iff.1 h1).1
      have hcs : cs.length = r.sz := hl cs (List.mem_of_getElem? h1)
      refine ⟨rfl, by simp, fun ds hds => ?_, ?_, ?_⟩
      · rcases List.mem_or_eq_of_mem_set hds with h | rfl
        · exact hl ds h
        · simpa using hcs
      · rw [← over_flatten r.el i o cs [c] hl h1 (by simp; omega), over_one]
      · have : (i + 1) * r.sz ≤ r.el.length * r.sz := Nat.mul_le_mul_right _ (by omega)
        rw [Nat.add_mul] at this
        omega
    · cases h2

theorem setN_facts {r r' : Row} {i o : Nat} {vs : List AV} (hl : ∀ cs ∈ r.el, cs.length = r.sz) (h : r.setN i o vs = some r') :
    r'.sz = r.sz ∧ r'.el.length = r.el.length ∧ (∀ cs ∈ r'.el, cs.length = r.sz) ∧ r'.el.flatten = over r.el.flatten (i * r.sz + o) vs ∧ i * r.sz + o + vs.length ≤ r.el.length * r.sz := by
  unfold Row.setN at h
  split at h
  · rename_i hs
    split at h
    · rename_i hlt
      obtain rfl := Option.some.inj h
      rw [hs] at hl
      refine ⟨rfl, by simp; omega, fun cs hcs => ?_, ?_, by rw [hs]; omega⟩
      · simp only [List.mem_append, List.mem_map] at hcs
        rcases hcs with (h | ⟨_, _, rfl⟩) | h
        · rw [hs]; exact hl cs (List.mem_of_mem_take h)
        · simp [hs]
        · rw [hs]; exact hl cs (List.mem_of_mem_drop h)
      · have hfl := flatten_length r.el hl
        rw [hs, over_eq _ _ _ (by rw [hfl]; omega), List.flatten_append, List.flatten_append, flatten_take_one _ _ hl, flatten_drop_one _ _ hl, flatten_single, Nat.mul_one]
    · cases h
  · split at h
    · cases h
    simp only [Option.bind_eq_some_iff] at h
    obtain ⟨cs, h1, h2⟩ := h
    split at h2
    · rename_i hlt
      obtain rfl := Option.some.inj h2
      have hi := (List.getElem?_eq_some_iff.1 h1).1
      have hcs : cs.length = r.sz := hl cs (List.mem_of_getElem? h1)
      refine ⟨rfl, by simp, fun ds hds => ?_, over_flatten r.el i o cs vs hl h1 hlt, ?_⟩
      · rcases List.mem_or_eq_of_mem_set hds with h | rfl
        · exact hl ds h
        · rw [over_length]; exact hcs
      · have : (i + 1) * r.sz ≤ r.el.length * r.sz := Nat.mul_le_mul_right _ (by omega)
        rw [Nat.add_mul] at this
        omega
    · cases h2

theorem set1_ty {r r' : Row} {i o : Nat} {c : AV} (h : r.set1 i o c = some r') : r'.ty = r.ty := by
  unfold Row.set1 at h
  split at h
  · split at h
    · cases h; rfl
    · cases h
  · split at h
    · cases h
    · obtain ⟨cs, _, h⟩ := Option.bind_eq_some_iff.1 h
      split at h
      · cases h; rfl
      · cases h
theorem setN_ty {r r' : Row} {i o : Nat} {c : List AV} (h : r.setN i o c = some r') : r'.ty = r.ty := by
  unfold Row.setN at h
  split at h
  · split at h
    · cases h; rfl
    · cases h
  · split at h
    · cases h
    · obtain ⟨cs, _, h⟩ := Option.bind_eq_some_iff.1 h
      split at h
      · cases h; rfl
      · cases h
theorem step_store (hm : MemRel g M w) (hT : RelT g M w T a) {t : TypeId} {n : Nat} {p x : Operand} (ho : o.op = .store t p x) (hn : sizeB P t = some n) {out : Out}
    (h : step T M slot (.store n p x) = some out) : Res P o a w g M slot out := by
  have hp := rel_ev hT p
  have hx := rel_ev hT x
  simp only [step] at h
  split at h
  · rename_i id i o' e
    rw [e] at hp
    split at h
    · rename_i hc
      simp only [Option.bind_eq_some_iff, Option.map_eq_some_iff] at h
      obtain ⟨r, hr, r', hset, rfl⟩ := h
      obtain ⟨_, rb, ro, size, hat, hu⟩ := hp.2 r hr
      have hz0 : r.sz ≠ 0 := by
        split at hset
        · simp only [Option.bind_eq_some_iff] at hset
          obtain ⟨c, hc0, hset⟩ := hset
          exact set1_sz hset
        · exact setN_sz hset
      have hty : r'.ty = r.ty := by
        split at hset
        · simp only [Option.bind_eq_some_iff] at hset
          obtain ⟨c, hc0, hset⟩ := hset
          exact set1_ty hset
        · exact setN_ty hset
      obtain ⟨hU, hblk, hfit, hD⟩ := row_at hm hr hat hz0
      obtain ⟨hls, us, hus, hul, hu1, hucell⟩ := flat_of_relD hD
      obtain ⟨hv, h1c⟩ := rel_cells hc.1 hx
      have hvl := relL_length hv
      have facts : r'.sz = r.sz ∧ r'.el.length = r.el.length ∧ (∀ cs ∈ r'.el, cs.length = r.sz) ∧ r'.el.flatten = over r.el.flatten (i * r.sz + o') (ev T x).cells ∧ i * r.sz + o' + (ev T x).cells.length ≤ r.el.length * r.sz := by
        split at hset
        · rename_i hn1
          simp only [Option.bind_eq_some_iff] at hset
          obtain ⟨c, hc0, hset⟩ := hset
          have hcs : (ev T x).cells = [c] := by
            have hl1 := hc.2
            rw [hn1] at hl1
            obtain ⟨y, hy⟩ := List.length_eq_one_iff.1 hl1
            rw [hy] at hc0 ⊢
            simp at hc0
            rw [hc0]
          rw [hcs]
          exact set1_facts hls hset
        · exact setN_facts hls hset
      obtain ⟨f1, f2, f3, f4, f5⟩ := facts
      refine res_store hm hr hat hz0 hty f1 f2 f3 f4 f5 hv h1c ?_
      have hsz : (a.eval x).cells.size = n := by
        rw [← hc.2, ← hvl]; simp
      have hlen : (a.eval x).cells.toList.length = (ev T x).cells.length := hvl
      have hrun := run_storeCells_cells (P := P) rb (ro + i * r.sz + o') (a.eval x).cells.toList 0 w
        (fun j hj => by
          have hjl : i * r.sz + o' + j < us.length := by rw [hul]; omega
          have := hucell (i * r.sz + o' + j) _ (List.getElem?_eq_getElem hjl)
          rw [show ro + i * r.sz + o' + 0 + j = ro + (i * r.sz + o' + j) by omega, this]; rfl)
        (fun j hj => by
          obtain ⟨arr, ty, fz, k1, k2, k3⟩ := hblk
          have := k3 (ro + i * r.sz + o' + 0 + j) (by omega)
          simp only [World.frozen?, k1]
          simpa using this)
        h1c
      rw [show ro + i * r.sz + o' + 0 = ro + (i * r.sz + o') by omega] at hrun
      simp [execOp, ho, hu, Instr.storeAt, Instr.sureAddr, storeVar, hsz, run_size hn, hrun]
    · cases h
  · cases h
end
end Go.Vm

namespace Go.Vm
set_option linter.unusedSectionVars false
set_option linter.unusedSimpArgs false
set_option linter.unusedVariables false
open Go
variable [Inhabited LayT]
section
variable {P : Program} {o : Oper} {a : Act} {w : World} {g : Gh} {M : Mem} {slot : Nat} {T : Tm}

/-! ### parts laid into zero cells -/
theorem fill_fold (off : Nat) : ∀ (l : List Value) (k : Nat) (cells : Array Value),
    ((l.zipIdx k).foldl (fun cs (x : Value × Nat) => cs.setIfInBounds (off + x.2) x.1) cells).toList = over cells.toList (off + k) l
  | [], _, _ => rfl
  | v :: l, k, cells => by
    rw [List.zipIdx_cons, List.foldl_cons, fill_fold off l (k + 1), over]
    simp [Nat.add_assoc]
theorem fill_fold' (off : Nat) (v : Value) (cells : Array Value) :
    (v.cells.zipIdx.foldl (fun cs (x : Value × Nat) => cs.setIfInBounds (off + x.2) x.1) cells) = (over cells.toList off v.cells.toList).toArray := by
  apply Array.ext'
  rw [← Array.foldl_toList, Array.toList_zipIdx, fill_fold off]
  simp

theorem fillL_rel (hT : RelT g M w T a) (place : Nat → Option (Nat × Nat)) : ∀ (ps : List (Nat × Operand)) (qs : List (Nat × Nat × Operand)) (cs cs' : List AV) (us : Array Value),
    (qs.map fun q => (some (q.1, q.2.1), q.2.2)) = (ps.map fun p => (place p.1, p.2)) → RelL g M w cs us.toList → fillL M cs T qs = some cs' →
    ∃ us', Instr.fill place us (ps.map fun p => (p.1, a.eval p.2)) = some us' ∧ RelL g M w cs' us'.toList
  | [], [], cs, cs', us, _, hr, h => by
    obtain rfl := Option.some.inj h
    exact ⟨us, rfl, hr⟩
  | [], _ :: _, _, _, _, e, _, _ => by simp at e
  | _ :: _, [], _, _, _, e, _, _ => by simp at e
  | (i, x) :: ps, (off, n, y) :: qs, cs, cs', us, e, hr, h => by
    simp only [List.map_cons, List.cons.injEq, Prod.mk.injEq] at e
    obtain ⟨⟨e1, rfl⟩, e3⟩ := e
    simp only [fillL] at h
    split at h
    · rename_i hc
      obtain ⟨c1, c2, c3⟩ := hc
      obtain ⟨hv, _⟩ := rel_cells c1 (rel_ev hT y)
      have hvl := relL_length hv
      have hul := relL_length hr
      obtain ⟨us', h1, h2⟩ := fillL_rel hT place ps qs _ cs' (over us.toList off (a.eval y).cells.toList).toArray e3 (by simpa using relL_over off hv hr) h
      refine ⟨us', ?_, h2⟩
      rw [List.map_cons, Instr.fill, ← e1]
      have k1 : ¬ ((a.eval y).cells.size ≠ n) := by simp at hvl ⊢; omega
      have k2 : ¬ (off + (a.eval y).cells.size > us.size) := by simp at hvl hul; omega
      simp only [decide_eq_false k1, decide_eq_false k2, Bool.or_false, Bool.false_eq_true, if_false]
      have := fill_fold' off (a.eval y) us
      rw [this]
      exact h1
    · cases h

theorem fillL_length : ∀ (qs : List (Nat × Nat × Operand)) (cs cs' : List AV), fillL M cs T qs = some cs' → cs'.length = cs.length
  | [], cs, cs', h => by obtain rfl := Option.some.inj h; rfl
  | (off, n, y) :: qs, cs, cs', h => by
    simp only [fillL] at h
    split at h
    · rw [fillL_length qs _ _ h, over_length]
    · cases h

theorem mapM_places (fs : Array Field) (sz : Field → Nat) (h : ∀ f ∈ fs.toList, sizeB P f.type = some (sz f)) (w : World) :
    (fs.mapM fun f => do pure (f.offset, ← sizeOf f.type) : Sem (Array (Nat × Nat))).run P w = .ok (fs.map fun f => (f.offset, sz f)) w := by
  have key : ∀ (l : List Field), (∀ f ∈ l, sizeB P f.type = some (sz f)) → (l.mapM fun f => Prod.mk f.offset <$> sizeOf f.type : Sem (List (Nat × Nat))).run P w = .ok (l.map fun f => (f.offset, sz f)) w := by
    intro l
    induction l with
    | nil => intro _; simp
    | cons f l ih =>
      intro hl
      rw [List.mapM_cons]
      simp [run_size (hl f (by simp)), ih (fun x hx => hl x (by simp [hx]))]
  rw [Array.mapM_eq_mapM_toList]
  have k := key fs.toList h
  simp only [bind_pure_comp, Sem.run_map, k, Result.andThen_ok]
  cases fs; simp

theorem step_buildS (hm : MemRel g M w) (hT : RelT g M w T a) {t : TypeId} {fs : Array Field} {ps : Array (Nat × Operand)} {zs : List Value} {qs : List (Nat × Nat × Operand)} (ho : o.op = .build t ps)
    (ht : P.underlying t = some (.struct fs)) (hz : zeroB P t = some zs) (hall : fs.toList.all (fun f => (sizeB P f.type).isSome) = true)
    (hq : ps.toList.mapM (fun (p : Nat × Operand) => (fs[p.1]?).bind fun f => (sizeB P f.type).map fun n => (f.offset, n, p.2)) = some qs) {out : Out}
    (h : step T M slot (.build zs qs) = some out) : Res P o a w g M slot out := by
  simp only [step, Option.map_eq_some_iff] at h
  obtain ⟨cs, hf, rfl⟩ := h
  unfold zeroB at hz
  simp only [Option.bind_eq_some_iff, Option.map_eq_some_iff] at hz
  obtain ⟨i, hi, z, hz1, rfl⟩ := hz
  let sz : Field → Nat := fun f => (sizeB P f.type).getD 0
  have hsz : ∀ f ∈ fs.toList, sizeB P f.type = some (sz f) := by
    intro f hf
    have := List.all_eq_true.1 hall f hf
    obtain ⟨n, hn⟩ := Option.isSome_iff_exists.1 this
    simp [sz, hn]
  have hqs : ∀ (l : List (Nat × Operand)) (qs : List (Nat × Nat × Operand)), l.mapM (fun (p : Nat × Operand) => (fs[p.1]?).bind fun f => (sizeB P f.type).map fun n => (f.offset, n, p.2)) = some qs →
      (qs.map fun q => (some (q.1, q.2.1), q.2.2)) = (l.map fun p => ((fs.map fun f => (f.offset, sz f))[p.1]?, p.2)) := by
    intro l
    induction l with
    | nil => intro qs h; simp at h; subst h; rfl
    | cons p l ih =>
      intro qs h
      rw [List.mapM_cons] at h
      simp only [Option.bind_eq_bind, Option.bind_eq_some_iff, Option.map_eq_some_iff] at h
      obtain ⟨q, ⟨f, hf, n, hn, rfl⟩, qs', h2, h3⟩ := h
      cases h3
      rw [List.map_cons, List.map_cons, ih qs' h2]
      congr 1
      have : sz f = n := by simp [sz, hn]
      simp [hf, this]
  obtain ⟨us', h1, h2⟩ := fillL_rel (g := g) (w := w) hT ((fs.map fun f => (f.offset, sz f))[·]?) ps.toList qs _ cs z.cells (hqs _ _ hq) (relL_cst1 _) hf
  refine Res.pure hm rfl (u := .agg us') (.inl ?_) ⟨us'.toList, by simp, h2⟩
  have hmap := mapM_places (P := P) fs sz hsz w
  simp only [execOp, ho, Instr.build, Sem.run_bind, Sem.run_pure, Result.andThen_ok, run_under ht]
  have hzv : (zeroValue t).run P w = .ok z w := by simp [zeroValue, typeInfo, hi, hz1]
  simp only [hzv, Result.andThen_ok, hmap]
  have h1' : Instr.fill ((fs.map fun f => (f.offset, sz f))[·]?) z.cells ((ps.map fun (x : Nat × Operand) => (x.1, a.eval x.2)).toList) = some us' := by
    rw [Array.toList_map]; exact h1
  rw [h1']
  simp

theorem step_buildA (hm : MemRel g M w) (hT : RelT g M w T a) {t e : TypeId} {m n : Nat} {ps : Array (Nat × Operand)} {zs : List Value} (ho : o.op = .build t ps)
    (ht : P.underlying t = some (.array m e)) (hz : zeroB P t = some zs) (hn : sizeB P e = some n) {out : Out}
    (h : step T M slot (.build zs (ps.toList.map fun p => (p.1 * n, n, p.2))) = some out) : Res P o a w g M slot out := by
  simp only [step, Option.map_eq_some_iff] at h
  obtain ⟨cs, hf, rfl⟩ := h
  unfold zeroB at hz
  simp only [Option.bind_eq_some_iff, Option.map_eq_some_iff] at hz
  obtain ⟨i, hi, z, hz1, rfl⟩ := hz
  obtain ⟨us', h1, h2⟩ := fillL_rel (g := g) (w := w) hT (fun i => some (i * n, n)) ps.toList _ _ cs z.cells (by simp [Function.comp_def]) (relL_cst1 _) hf
  refine Res.pure hm rfl (u := .agg us') (.inl ?_) ⟨us'.toList, by simp, h2⟩
  simp only [execOp, ho, Instr.build, Sem.run_bind, Sem.run_pure, Result.andThen_ok, run_under ht]
  have hzv : (zeroValue t).run P w = .ok z w := by simp [zeroValue, typeInfo, hi, hz1]
  simp only [hzv, Result.andThen_ok, run_size hn]
  have h1' : Instr.fill (fun i => some (i * n, n)) z.cells ((ps.map fun (x : Nat × Operand) => (x.1, a.eval x.2)).toList) = some us' := by
    rw [Array.toList_map]; exact h1
  rw [h1']
  simp

theorem fillE_fillL {sz : Nat} : ∀ (ps : List (Nat × Operand)) (el el' : List (List AV)), (∀ c ∈ el, c.length = sz) → fillE M el sz T ps = some el' →
    fillL M el.flatten T (ps.map fun p => (p.1 * sz, sz, p.2)) = some el'.flatten ∧ (∀ c ∈ el', c.length = sz) ∧ el'.length = el.length
  | [], el, el', hl, h => by obtain rfl := Option.some.inj h; exact ⟨rfl, hl, rfl⟩
  | (i, x) :: ps, el, el', hl, h => by
    simp only [fillE] at h
    split at h
    · rename_i hc
      obtain ⟨c1, c2, c3⟩ := hc
      have hget : el[i]? = some el[i] := List.getElem?_eq_getElem c3
      have hgl : (el[i]).length = sz := hl _ (List.getElem_mem c3)
      have hov : over el[i] 0 (ev T x).cells = (ev T x).cells := by
        rw [over_eq _ _ _ (by omega)]
        simp; omega
      have hfl := over_flatten el i 0 el[i] (ev T x).cells hl hget (by omega)
      rw [hov] at hfl
      obtain ⟨h1, h2, h3⟩ := fillE_fillL ps _ el' (fun c hc => by
        rcases List.mem_or_eq_of_mem_set hc with h | rfl
        · exact hl c h
        · exact c2) h
      refine ⟨?_, h2, by rw [h3]; simp⟩
      simp only [List.map_cons, fillL]
      have hlen := flatten_length el hl
      have : (i + 1) * sz ≤ el.length * sz := Nat.mul_le_mul_right _ (by omega)
      rw [Nat.add_mul] at this
      rw [if_pos ⟨c1, c2, by rw [hlen]; omega⟩, ← h1, hfl]
      rfl
    · cases h

theorem step_slit (hm : MemRel g M w) (hs : ¬ g.L slot) (hT : RelT g M w T a) {t e : TypeId} {n len : Nat} {ps : Array (Nat × Operand)} {zs : List Value} (ho : o.op = .buildSlice t len ps)
    (ht : P.underlying t = some (.slice e)) (hz : zeroB P e = some zs) (hn : sizeB P e = some n) (hlim : len * n ≤ 16777216) (hzl : zs.length = n) (h0 : 0 < n) (h1z : ∀ v ∈ zs, v.oneCell' = true) {out : Out}
    (h : step T M slot (.slit n zs len ps.toList) = some out) : Res P o a w g M slot out := by
  simp only [step, Option.map_eq_some_iff] at h
  obtain ⟨el, hf, rfl⟩ := h
  unfold zeroB at hz
  simp only [Option.bind_eq_some_iff, Option.map_eq_some_iff] at hz
  obtain ⟨i, hi, z, hz1, rfl⟩ := hz
  obtain ⟨hf1, hf2, hf3⟩ := fillE_fillL ps.toList _ el (fun c hc => by rw [List.eq_of_mem_replicate hc]; simpa [cells1] using hzl) hf
  have hzs : z.cells.size = n := by simpa using hzl
  have hmade : ((Array.range (len * n)).map (fun x => z.cells[x % z.cells.size]!)).toList = (List.replicate len z.cells.toList).flatten := by
    apply List.ext_getElem?
    intro j
    have hlen1 : ((List.replicate len z.cells.toList).flatten).length = len * n := by simp [List.length_flatten, hzs]
    rcases Nat.lt_or_ge j (len * n) with hj | hj
    · have := madeCells_get z.cells (len * n) len (by omega) (by rw [hzs]) j _ (List.getElem?_eq_getElem (by omega))
      rw [Array.getElem?_toList, this, List.getElem?_eq_getElem (by omega)]
    · rw [List.getElem?_eq_none (by simp; omega), List.getElem?_eq_none (by omega)]
  obtain ⟨us', h1, h2⟩ := fillL_rel (g := g) (w := w) hT (fun i => some (i * n, n)) ps.toList _ _ _ ((Array.range (len * n)).map (fun x => z.cells[x % z.cells.size]!)) (by simp [Function.comp_def]) (by rw [hmade]; exact relL_replicate (relL_cst1 _) _) hf1
  have hul : us'.size = el.flatten.length := by rw [← relL_length h2]; simp
  have hfl := flatten_length el hf2
  have hone : ∀ v ∈ us'.toList, v.oneCell' = true := by
    have go : ∀ (ps : List (Nat × Operand)) (us us' : Array Value), (∀ v ∈ us.toList, v.oneCell' = true) → (∀ p ∈ ps, flatC M (ev T p.2) = true) →
        Instr.fill (fun i => some (i * n, n)) us (ps.map fun p => (p.1, a.eval p.2)) = some us' → ∀ v ∈ us'.toList, v.oneCell' = true := by
      intro ps
      induction ps with
      | nil => intro us us' h _ e; obtain rfl := Option.some.inj e; exact h
      | cons p ps ih =>
        intro us us' h hp e
        rw [List.map_cons, Instr.fill] at e
        simp only at e
        split at e
        · cases e
        · have hff := fill_fold' (p.1 * n) (a.eval p.2) us
          rw [hff] at e
          refine ih _ us' ?_ (fun q hq => hp q (by simp [hq])) e
          simp only
          exact over_all _ _ _ (rel_cells (hp p (by simp)) (rel_ev hT p.2)).2 h
    have hps : ∀ (ps : List (Nat × Operand)) (el el' : List (List AV)), fillE M el n T ps = some el' → ∀ p ∈ ps, flatC M (ev T p.2) = true := by
      intro ps
      induction ps with
      | nil => intro _ _ _ p hp; simp at hp
      | cons q ps ih =>
        intro el el' h p hp
        obtain ⟨i, x⟩ := q
        simp only [fillE] at h
        split at h
        · rename_i hc
          rcases List.mem_cons.1 hp with rfl | hp
          · exact hc.1
          · exact ih _ _ h p hp
        · cases h
    refine go ps.toList _ us' ?_ (hps _ _ _ hf) h1
    rw [hmade]
    intro v hv
    simp only [List.mem_flatten] at hv
    obtain ⟨l, hl, hv⟩ := hv
    rw [List.eq_of_mem_replicate hl] at hv
    exact h1z v hv
  refine res_new (w0 := w) (arr := us') (ty := e) (us := us'.toList) (u := .slice (some ⟨w.heap.size, 0, none⟩) len len) hm hs rfl rfl ⟨rfl, Nat.le_refl _⟩ rfl (.inl ?_) (by simp; omega) (fun t' e => by cases e) hf2 h2 hone (fun j v hj => by simpa using hj) ?_ ?_
  · simp only [execOp, ho, Instr.buildSlice, Sem.run_bind, Sem.run_pure, Result.andThen_ok, run_under ht, run_size hn]
    have hzv : (zeroValue e).run P w = .ok z w := by simp [zeroValue, typeInfo, hi, hz1]
    have h1' : Instr.fill (fun i => some (i * n, n)) ((Array.range (len * n)).map (fun x => z.cells[x % z.cells.size]!)) ((ps.map fun (x : Nat × Operand) => (x.1, a.eval x.2)).toList) = some us' := by
      rw [Array.toList_map]; exact h1
    by_cases h00 : len * n = 0
    · have hlen0 : len = 0 := by
        rcases Nat.mul_eq_zero.1 h00 with h | h
        · exact h
        · omega
      subst hlen0
      simp only [Nat.zero_mul] at h1' ⊢
      have e0 : (Array.range 0).map (fun x => z.cells[x % z.cells.size]!) = (Array.range 0).map (fun x => (#[] : Array Value)[x % (#[] : Array Value).size]!) := by simp
      rw [e0] at h1'
      simp at h1' ⊢
      simp [h1', newRow]
    · rw [Array.toList_map] at h1'
      simp [h00, show ¬ (16777216 < len * n) by omega, hzv, h1', newRow]
  · rw [hul, hfl]; exact Nat.le_refl _
  · intro g' M' w' e1 e2 e3
    refine ⟨e2, fun r hr => ?_⟩
    rw [e3] at hr
    cases hr
    simp at hf3
    refine ⟨by simp [hf3], _, _, rfl, Nat.le_refl _, fun _ => ⟨w.heap.size, 0, _, e1, by simp, ?_⟩⟩
    rw [hul, hfl, hf3]; simp
end
end Go.Vm
