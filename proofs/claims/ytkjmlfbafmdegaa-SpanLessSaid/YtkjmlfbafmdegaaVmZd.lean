import Derived.Test.YtkjmlfbafmdegaaVmZc
namespace Go.Vm
set_option linter.unusedSectionVars false
set_option linter.unusedSimpArgs false
set_option linter.unusedVariables false
open Go
variable [Inhabited LayT]
/-- A slice in a cell that is nil is a slice of an empty row. -/
theorem Wk.nilC {n k : Nat} {T : Tm} {M : Mem} {nb : Nat} {x y z : AV} (rid id sz : Nat) (hr : M rid = some ⟨1, [[x], [y], [z], [.k (.slice none 0 0)]]⟩) (hid : nb ≤ id) (hk : k ≤ nb) :
    Wk n k T M nb T (upd M [(id, some ⟨sz, []⟩), (rid, some ⟨1, [[x], [y], [z], [.own id 0 0 1]]⟩)]) (id + 1) := by
  intro g a w st
  have hnl : ¬ g.L id := fun h => by have := st.nb id h; omega
  have hMn : M id = none := by
    cases h : M id with
    | none => rfl
    | some r => exact absurd (st.mem.known _ _ h) hnl
  have hne0 : id ≠ rid := by
    rintro rfl
    rw [hMn] at hr
    cases hr
  let g2 : Gh := { g with at_ := fun b => if b = id then none else g.at_ b, L := fun b => g.L b ∨ b = id }
  have hM2 : ∀ i, upd M [(id, some ⟨sz, []⟩), (rid, some ⟨1, [[x], [y], [z], [.own id 0 0 1]]⟩)] i = if i = rid then some ⟨1, [[x], [y], [z], [.own id 0 0 1]]⟩ else if i = id then some ⟨sz, []⟩ else M i := by
    intro i
    simp only [upd]
    by_cases e1 : i = rid
    · subst e1
      simp [Ne.symm hne0]
    · simp [e1]
  generalize hM : upd M [(id, some ⟨sz, []⟩), (rid, some ⟨1, [[x], [y], [z], [.own id 0 0 1]]⟩)] = M2 at hM2 ⊢
  have hE : Evo g M w g2 M2 w := by
    refine ⟨fun _ h => .inl h, fun _ h => h, fun _ h => .inl h, fun _ h => h, fun _ _ => rfl, Nat.le_refl _, rfl, rfl, ⟨rfl, Nat.le_refl _⟩, ?_⟩
    intro i hi r' hr'
    have hne : i ≠ id := by rintro rfl; exact hnl hi
    rw [hM2] at hr'
    split at hr'
    · rename_i e
      subst e
      cases hr'
      exact ⟨_, hr, by simp [g2, hne], rfl, rfl⟩
    · skip
      exact ⟨r', hr', by simp [g2, hne], rfl, rfl⟩
  have hmem : MemRel g2 M2 w := by
    refine ⟨st.mem.zu, st.mem.ul, ?_, ?_, st.mem.lay.evo hE, ?_⟩
    · intro i r hr'
      rw [hM2] at hr'
      split at hr'
      · rename_i e
        subst e
        exact .inl (st.mem.known _ _ hr)
      · split at hr'
        · rename_i e; exact .inr e
        · exact .inl (st.mem.known _ _ hr')
    · intro i r hr'
      rw [hM2] at hr'
      split at hr'
      · rename_i e
        subst e
        cases hr'
        have hne : i ≠ id := Ne.symm hne0
        rcases st.mem.row i _ hr with ⟨k1, k2⟩ | ⟨rb, ro, size, k1, k2, k3, k4, k5⟩
        · cases k1
        · refine .inr ⟨rb, ro, size, by simp [g2, hne, k1], k2, k3, k4, ?_⟩
          have k6 := RelD.evo hE st.mem.zu _ _ _ _ rfl k5
          obtain ⟨c1, c2, c3, ⟨_, ⟨u, cu, c5, c6⟩, _⟩, _⟩ := k6
          refine ⟨c1, c2, c3, ⟨rfl, ⟨u, cu, c5, ?_⟩, trivial⟩, trivial⟩
          have c7 : u = .slice none 0 0 := c6
          refine ⟨.inr rfl, fun r hr => ?_⟩
          rw [hM2, if_neg hne0, if_pos rfl] at hr
          cases hr
          exact ⟨by simp, none, 0, c7, by simp, by simp⟩
      · split at hr'
        · rename_i e
          cases hr'
          exact .inl ⟨rfl, by simp [g2, e]⟩
        · rename_i e
          rcases st.mem.row i r hr' with ⟨k1, k2⟩ | ⟨rb, ro, size, k1, k2, k3, k4, k5⟩
          · exact .inl ⟨k1, by simp [g2, e, k2]⟩
          · exact .inr ⟨rb, ro, size, by simp [g2, e, k1], k2, k3, k4, RelD.evo hE st.mem.zu _ _ _ _ rfl k5⟩
    · intro i i' r r' x1 x' e1 e2 e3 e4 e5
      simp only [g2] at e3 e4
      split at e3
      · cases e3
      · rename_i n1
        split at e4
        · cases e4
        · rename_i n2
          have f1 : ∃ r, M i = some r := by
            rw [hM2] at e1
            split at e1
            · rename_i e; subst e; exact ⟨_, hr⟩
            · exact ⟨_, e1⟩
          have f2 : ∃ r, M i' = some r := by
            rw [hM2] at e2
            split at e2
            · rename_i e; subst e; exact ⟨_, hr⟩
            · exact ⟨_, e2⟩
          obtain ⟨r1, f1⟩ := f1
          obtain ⟨r2, f2⟩ := f2
          exact st.mem.inj _ _ _ _ _ _ f1 f2 e3 e4 e5
  refine ⟨g2, ⟨hmem, fun t' => Rel.evo hE st.mem.zu _ _ (st.tm t'), ?_, fun i hi => .inl (st.kn i hi), st.size, st.defers⟩, hE.wevo st.kn⟩
  rintro i (h | rfl)
  · have := st.nb i h; omega
  · omega
theorem Wk.nilC' {n k : Nat} {T : Tm} {m : List (Nat × Row)} {nb : Nat} {x y z : AV} (rid id sz : Nat) (hr : lkM m rid = some ⟨1, [[x], [y], [z], [.k (.slice none 0 0)]]⟩) (hid : nb ≤ id) (hk : k ≤ nb) :
    Wk n k T (lkM m) nb T (lkM ((id, ⟨sz, []⟩) :: (rid, ⟨1, [[x], [y], [z], [.own id 0 0 1]]⟩) :: m)) (id + 1) := by
  have h := Wk.nilC (n := n) (k := k) (T := T) (M := lkM m) (nb := nb) rid id sz hr hid hk
  have e2 : upd (lkM m) [(id, some ⟨sz, []⟩), (rid, some ⟨1, [[x], [y], [z], [.own id 0 0 1]]⟩)] = lkM ((id, ⟨sz, []⟩) :: (rid, ⟨1, [[x], [y], [z], [.own id 0 0 1]]⟩) :: m) := by
    funext j
    simp only [upd, lkM]
  rw [e2] at h
  exact h
/-- A call that leaves its rows as they were has no effect. -/
theorem callOk_noeff {P : Program} {f : FuncId} {args : List AV} {M : Mem} {slot : Nat} {v : AV} {eff : List (Nat × Option Row)} {rd : List Nat} (h : CallOk P f args M slot { v := v, eff := eff, rd := rd })
    (he : ∀ x ∈ eff, x.1 ∈ rd ∧ M x.1 = x.2) : CallOk P f args M slot { v := v, rd := rd } := by
  refine ⟨h.1, ?_⟩
  intro M' hM g w us hm hus hslot
  have hu : ∀ (l : List (Nat × Option Row)), (∀ x ∈ l, M' x.1 = x.2) → upd M' l = M' := by
    intro l
    induction l with
    | nil => intro _; rfl
    | cons x l ih =>
      intro hl
      funext j
      have hx := hl x (List.mem_cons_self ..)
      have : upd M' (x :: l) j = if j = x.1 then x.2 else upd M' l j := by
        cases x; simp [upd]
      rw [this, ih fun y hy => hl y (List.mem_cons_of_mem _ hy)]
      split
      · rename_i e; subst e; exact hx.symm
      · rfl
  have e1 : upd M' eff = M' := hu eff fun x hx => (hM _ (he x hx).1).trans (he x hx).2
  have e2 : upd M' [] = M' := rfl
  have := h.2 M' hM g w us hm hus hslot
  simp only [e1] at this
  exact this
end Go.Vm
