import Derived.Test.YtkjmlfbafmdegaaVmH
namespace Go.Vm
set_option linter.unusedSectionVars false
set_option linter.unusedSimpArgs false
set_option linter.unusedVariables false
open Go
variable [Inhabited LayT]

/-- The ghost with one row more. -/
def Gh.add (g : Gh) (slot : Nat) (x : Option (Nat × Nat × Nat)) : Gh :=
  { g with at_ := fun id => if id = slot then x else g.at_ id, L := fun id => g.L id ∨ id = slot }

section
variable {P : Program} {g : Gh} {M M' : Mem} {w w' : World} {slot : Nat}

theorem relD_of_flat {sz blk : Nat} : ∀ {el : List (List AV)} {off : Nat} {us : List Value}, (∀ cs ∈ el, cs.length = sz) → RelL g M w el.flatten us → (∀ v ∈ us, v.oneCell' = true) →
    (∀ j v, us[j]? = some v → w.cell? ⟨blk, off + j, none⟩ = some v) → RelD g M w sz blk off el
  | [], _, _, _, _, _, _ => trivial
  | cs :: el, off, us, hl, hr, h1c, hc => by
    rw [List.flatten_cons] at hr
    have key : ∀ {xs ys : List AV} {us : List Value}, RelL g M w (xs ++ ys) us → ∃ u1 u2, us = u1 ++ u2 ∧ RelL g M w xs u1 ∧ RelL g M w ys u2 := by
      intro xs
      induction xs with
      | nil => intro ys us h; exact ⟨[], us, rfl, rfl, h⟩
      | cons x xs ih =>
        intro ys us h
        obtain ⟨u, r, rfl, h1, h2⟩ := h
        obtain ⟨u1, u2, rfl, h3, h4⟩ := ih h2
        exact ⟨u :: u1, u2, rfl, ⟨u, u1, rfl, h1, h3⟩, h4⟩
    obtain ⟨u1, u2, rfl, h1, h2⟩ := key hr
    have hlen := relL_length h1
    have hcs : cs.length = sz := hl cs (by simp)
    refine ⟨⟨hcs, ?_⟩, relD_of_flat (us := u2) (fun c hc => hl c (by simp [hc])) h2 (fun v hv => h1c v (by simp [hv])) (fun j v hj => ?_)⟩
    · have km : ∀ {xs : List AV} {us : List Value} {off : Nat}, RelL g M w xs us → (∀ v ∈ us, v.oneCell' = true) → (∀ j v, us[j]? = some v → w.cell? ⟨blk, off + j, none⟩ = some v) → RelM g M w blk off xs := by
        intro xs
        induction xs with
        | nil => intro _ _ _ _ _; trivial
        | cons x xs ih =>
          intro us off h h1c hc
          obtain ⟨u, r, rfl, h1, h2⟩ := h
          exact ⟨⟨u, by simpa using hc 0 u rfl, h1c u (by simp), h1⟩, ih h2 (fun v hv => h1c v (by simp [hv])) (fun j v hj => by rw [show off + 1 + j = off + (j + 1) by omega]; exact hc (j + 1) v (by simpa using hj))⟩
      exact km h1 (fun v hv => h1c v (by simp [hv])) (fun j v hj => hc j v (by rw [List.getElem?_append_left (by rw [List.getElem?_eq_some_iff] at hj; exact hj.1)]; exact hj))
    · rw [show off + sz + j = off + (sz + j) by omega]
      exact hc (sz + j) v (by rw [List.getElem?_append_right (by omega)]; rw [show sz + j - u1.length = j by omega]; exact hj)

theorem flat_of_relD {sz blk : Nat} : ∀ {el : List (List AV)} {off : Nat}, RelD g M w sz blk off el →
    (∀ cs ∈ el, cs.length = sz) ∧ ∃ us, RelL g M w el.flatten us ∧ us.length = el.length * sz ∧ (∀ v ∈ us, v.oneCell' = true) ∧ ∀ j v, us[j]? = some v → w.cell? ⟨blk, off + j, none⟩ = some v
  | [], _, _ => ⟨by simp, [], rfl, by simp, by simp, by simp⟩
  | cs :: el, off, ⟨⟨h0, h1⟩, h2⟩ => by
    obtain ⟨ha, us, hb, hc, h1c, hd⟩ := flat_of_relD h2
    obtain ⟨vs, he, h1v, hf⟩ := relM_vals h1
    have hvl := relL_length he
    have happ : ∀ {xs ys : List AV} {u1 u2 : List Value}, RelL g M w xs u1 → RelL g M w ys u2 → RelL g M w (xs ++ ys) (u1 ++ u2) := by
      intro xs
      induction xs with
      | nil => intro ys u1 u2 h k; rw [show u1 = [] from h]; exact k
      | cons x xs ih =>
        intro ys u1 u2 h k
        obtain ⟨u, r, rfl, h1, h2⟩ := h
        exact ⟨u, r ++ u2, rfl, h1, ih h2 k⟩
    refine ⟨by intro c hc; rcases List.mem_cons.1 hc with rfl | hc; exact h0; exact ha c hc, vs ++ us, by rw [List.flatten_cons]; exact happ he hb, by simp [hc, hvl, h0, Nat.add_mul]; omega, fun v hv => by rcases List.mem_append.1 hv with hv | hv; exact h1v v hv; exact h1c v hv, fun j v hj => ?_⟩
    rcases Nat.lt_or_ge j vs.length with hlt | hge
    · rw [List.getElem?_append_left hlt] at hj
      exact hf j v hj
    · rw [List.getElem?_append_right hge] at hj
      have := hd _ v hj
      rwa [show off + sz + (j - vs.length) = off + j by omega] at this

theorem relL_append {xs ys : List AV} : ∀ {u1 u2 : List Value}, RelL g M w xs u1 → RelL g M w ys u2 → RelL g M w (xs ++ ys) (u1 ++ u2) := by
  induction xs with
  | nil => intro u1 u2 h k; rw [show u1 = [] from h]; exact k
  | cons x xs ih =>
    intro u1 u2 h k
    obtain ⟨u, r, rfl, h1, h2⟩ := h
    exact ⟨u, r ++ u2, rfl, h1, ih h2 k⟩

/-- What a new world must keep where a row is laid into block rb. -/
structure Grew (g : Gh) (w w' : World) (rb : Nat) : Prop where
  os : w'.os = w.os
  tape : w'.tape = w.tape
  output : w'.output = w.output ∧ w.drawn ≤ w'.drawn
  size : w.heap.size ≤ w'.heap.size
  keep : ∀ b, b < w.heap.size → b ≠ rb → w'.heap[b]? = w.heap[b]?
  free : ¬ g.U rb

theorem install (hm : MemRel g M w) (hs : ¬ g.L slot) {r : Row} {rb ro size : Nat} (hG : Grew g w w' rb)
    (h1 : M' slot = some r) (h2 : ∀ id, id ≠ slot → M' id = M id ∨ M' id = none)
    (hno : ∀ id r', id ≠ slot → M' id = some r' → ∀ x, g.at_ id = some x → x.1 ≠ rb)
    (hblk : BlockAt w' rb size) (hfit : ro + r.el.length * r.sz ≤ size)
    (hl : ∀ cs ∈ r.el, cs.length = r.sz) {us : List Value} (hus : RelL g M w r.el.flatten us) (h1c : ∀ v ∈ us, v.oneCell' = true) (hc : ∀ j v, us[j]? = some v → w'.cell? ⟨rb, ro + j, none⟩ = some v) :
    MemRel (g.add slot (some (rb, ro, size))) M' w' ∧ Evo g M w (g.add slot (some (rb, ro, size))) M' w' := by
  have hE : Evo g M w (g.add slot (some (rb, ro, size))) M' w' := {
    L := fun id h => .inl h
    Z := fun _ h => h
    Zn := fun _ h => .inl h
    U := fun _ h => h
    keep := fun b hb => hG.keep b (hm.ul b hb) (fun e => hG.free (e ▸ hb))
    size := hG.size
    os := hG.os
    tape := hG.tape
    output := hG.output
    ids := fun id hid r' hr' => by
      have hne : id ≠ slot := fun e => hs (e ▸ hid)
      rcases h2 id hne with h | h
      · rw [h] at hr'
        exact ⟨r', hr', by simp [Gh.add, hne], rfl, rfl⟩
      · rw [h] at hr'; cases hr' }
  refine ⟨{ zu := hm.zu, lay := hm.lay.evo hE, ul := fun b hb => Nat.lt_of_lt_of_le (hm.ul b hb) hG.size, known := fun id r' hr' => ?_, row := fun id r' hr' => ?_, inj := ?_ }, hE⟩
  · by_cases e : id = slot
    · exact .inr e
    · rcases h2 id e with h | h
      · rw [h] at hr'; exact .inl (hm.known id r' hr')
      · rw [h] at hr'; cases hr'
  · by_cases e : id = slot
    · subst e
      rw [h1] at hr'
      cases hr'
      refine .inr ⟨rb, ro, size, by simp [Gh.add], hG.free, hblk, hfit, relD_of_flat hl (RelL.evo hE hm.zu _ _ hus) h1c hc⟩
    · have hr0 := hr'
      rcases h2 id e with h | h
      · rw [h] at hr'
        rcases hm.row id r' hr' with ⟨k1, k2⟩ | ⟨rb', ro', size', k1, k2, k3, k4, k5⟩
        · exact .inl ⟨k1, by simp [Gh.add, e, k2]⟩
        · have hb' : w'.heap[rb']? = w.heap[rb']? := by
            obtain ⟨arr, ty, fz, k6, _⟩ := k3
            exact hG.keep rb' (Array.getElem?_eq_some_iff.1 k6).1 (hno id r' e hr0 _ k1)
          refine .inr ⟨rb', ro', size', by simp [Gh.add, e, k1], k2, ?_, k4, RelD.evo hE hm.zu _ _ _ _ hb' k5⟩
          obtain ⟨arr, ty, fz, k6, k7⟩ := k3
          exact ⟨arr, ty, fz, hb'.trans k6, k7⟩
      · rw [h] at hr'; cases hr'
  · intro id id' r1 r2 x x' e1 e2 e3 e4 e5
    by_cases c1 : id = slot <;> by_cases c2 : id' = slot
    · rw [c1, c2]
    · exfalso
      simp [Gh.add, c1] at e3
      simp [Gh.add, c2] at e4
      refine hno id' r2 c2 e2 _ e4 ?_
      rw [← e5, ← e3]
    · exfalso
      simp [Gh.add, c1] at e3
      simp [Gh.add, c2] at e4
      refine hno id r1 c1 e1 _ e3 ?_
      rw [e5, ← e4]
    · simp [Gh.add, c1] at e3
      simp [Gh.add, c2] at e4
      have f1 : M id = some r1 := by rcases h2 id c1 with h | h <;> rw [h] at e1; exact e1; cases e1
      have f2 : M id' = some r2 := by rcases h2 id' c2 with h | h <;> rw [h] at e2; exact e2; cases e2
      exact hm.inj id id' r1 r2 x x' f1 f2 e3 e4 e5

/-- A row without any cell, that lies nowhere. -/
theorem install_nil (hm : MemRel g M w) (hs : ¬ g.L slot) {sz : Nat} (h1 : M' slot = some ⟨sz, []⟩) (h2 : ∀ id, id ≠ slot → M' id = M id ∨ M' id = none) :
    MemRel (g.add slot none) M' w ∧ Evo g M w (g.add slot none) M' w := by
  have hE : Evo g M w (g.add slot none) M' w := {
    L := fun id h => .inl h
    Z := fun _ h => h
    Zn := fun _ h => .inl h
    U := fun _ h => h
    keep := fun b hb => rfl
    size := Nat.le_refl _
    os := rfl
    tape := rfl
    output := ⟨rfl, Nat.le_refl _⟩
    ids := fun id hid r' hr' => by
      have hne : id ≠ slot := fun e => hs (e ▸ hid)
      rcases h2 id hne with h | h
      · rw [h] at hr'
        exact ⟨r', hr', by simp [Gh.add, hne], rfl, rfl⟩
      · rw [h] at hr'; cases hr' }
  have old : ∀ id r', id ≠ slot → M' id = some r' → M id = some r' := fun id r' e h => by
    rcases h2 id e with k | k <;> rw [k] at h
    · exact h
    · cases h
  refine ⟨{ zu := hm.zu, lay := hm.lay.evo hE, ul := hm.ul, known := fun id r' hr' => ?_, row := fun id r' hr' => ?_, inj := ?_ }, hE⟩
  · by_cases e : id = slot
    · exact .inr e
    · exact .inl (hm.known id r' (old id r' e hr'))
  · by_cases e : id = slot
    · subst e
      rw [h1] at hr'
      cases hr'
      exact .inl ⟨rfl, by simp [Gh.add]⟩
    · rcases hm.row id r' (old id r' e hr') with ⟨k1, k2⟩ | ⟨rb', ro', size', k1, k2, k3, k4, k5⟩
      · exact .inl ⟨k1, by simp [Gh.add, e, k2]⟩
      · exact .inr ⟨rb', ro', size', by simp [Gh.add, e, k1], k2, k3, k4, RelD.evo hE hm.zu _ _ _ _ rfl k5⟩
  · intro id id' r1 r2 x x' e1 e2 e3 e4 e5
    have c1 : id ≠ slot := by intro c; subst c; simp [Gh.add] at e3
    have c2 : id' ≠ slot := by intro c; subst c; simp [Gh.add] at e4
    simp [Gh.add, c1] at e3
    simp [Gh.add, c2] at e4
    exact hm.inj id id' r1 r2 x x' (old id r1 c1 e1) (old id' r2 c2 e2) e3 e4 e5
end
end Go.Vm
