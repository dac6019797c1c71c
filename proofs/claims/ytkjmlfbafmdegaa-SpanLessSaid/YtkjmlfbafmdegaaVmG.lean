import Derived.Test.YtkjmlfbafmdegaaVmF
namespace Go.Vm
set_option linter.unusedSectionVars false
set_option linter.unusedSimpArgs false
set_option linter.unusedVariables false
open Go
variable [Inhabited LayT]
section
variable {P : Program} {o : Oper} {a : Act} {w : World} {g : Gh} {M : Mem} {slot : Nat} {T : Tm}

theorem size_mk (l : List UInt8) : (⟨l.toArray⟩ : ByteArray).size = l.length := by simp [ByteArray.size]
theorem own_cap {r : Row} {id off n st : Nat} {u : Value} (h : OwnAt g r id off n st u) : ∃ A c, u = .slice A n c ∧ n ≤ c := by
  obtain ⟨_, A, c, h1, h2, _⟩ := h
  exact ⟨A, c, h1, h2⟩

theorem step_lenL (hm : MemRel g M w) (hT : RelT g M w T a) {t e0 : TypeId} {x : Operand} {ts : Array TypeId} (ho : o.op = .call { callee := .builtin .len, args := #[x], argTypes := ts })
    (hts : ts[0]? = some t) (ht : P.underlying t = some (.slice e0)) {out : Out}
    (h : step T M slot (.lenL x) = some out) : Res P o a w g M slot out := by
  have hx := rel_ev hT x
  have key : ∀ A n c, a.eval x = .slice A n c → OpRun P o a w (.int .i64 n) w := by
    intro A n c e
    exact .inl (by simp [execOp, ho, resolve, invoke, builtin, Builtin.len_, hts, e, run_under ht, goInt])
  simp only [step] at h
  split at h
  · rename_i id off n st e
    rw [e] at hx
    simp only [Option.map_eq_some_iff] at h
    obtain ⟨r, hr, rfl⟩ := h
    obtain ⟨A, c, hu, _⟩ := own_cap (hx.2 r hr)
    exact Res.pure hm rfl (key _ _ _ hu) rfl
  · rename_i sz xs e
    rw [e] at hx
    obtain rfl := Option.some.inj h
    obtain ⟨A, c, hu, _⟩ := hx
    exact Res.pure hm rfl (key _ _ _ hu) rfl
  · rename_i e
    rw [e] at hx
    obtain rfl := Option.some.inj h
    exact Res.pure hm rfl (key none 0 0 hx) rfl
  · cases h

theorem step_capL (hm : MemRel g M w) (hT : RelT g M w T a) {t e0 : TypeId} {x : Operand} {ts : Array TypeId} (ho : o.op = .call { callee := .builtin .cap, args := #[x], argTypes := ts })
    (hts : ts[0]? = some t) (ht : P.underlying t = some (.slice e0)) {out : Out}
    (h : step T M slot (.capL x) = some out) : Res P o a w g M slot out := by
  have hx := rel_ev hT x
  simp only [step] at h
  split at h
  · rename_i e
    rw [e] at hx
    have hx' : a.eval x = .slice none 0 0 := hx
    obtain rfl := Option.some.inj h
    refine Res.pure hm rfl (u := .int .i64 0) (.inl ?_) rfl
    simp [execOp, ho, resolve, invoke, builtin, Builtin.cap_, hts, hx', run_under ht, goInt]
  · cases h

theorem step_lenS (hm : MemRel g M w) (hT : RelT g M w T a) {t : TypeId} {x : Operand} {ts : Array TypeId} (ho : o.op = .call { callee := .builtin .len, args := #[x], argTypes := ts })
    (hts : ts[0]? = some t) (ht : P.underlying t = some .string) {out : Out}
    (h : step T M slot (.lenS x) = some out) : Res P o a w g M slot out := by
  have hx := rel_ev hT x
  simp only [step] at h
  split at h
  · rename_i s e
    rw [e] at hx
    have hx' : a.eval x = .string ⟨s.toArray⟩ := hx
    obtain rfl := Option.some.inj h
    refine Res.pure hm rfl (u := .int .i64 s.length) (.inl ?_) rfl
    simp [execOp, ho, resolve, invoke, builtin, Builtin.len_, hts, hx', run_under ht, goInt, size_mk]
  · cases h

theorem step_lenC (hm : MemRel g M w) {t e0 : TypeId} {x : Operand} {m : Nat} {ts : Array TypeId} (ho : o.op = .call { callee := .builtin .len, args := #[x], argTypes := ts })
    (hts : ts[0]? = some t) (ht : P.underlying t = some (.array m e0)) {out : Out}
    (h : step T M slot (.lenC m) = some out) : Res P o a w g M slot out := by
  simp only [step] at h
  obtain rfl := Option.some.inj h
  refine Res.pure hm rfl (u := .int .i64 m) (.inl ?_) rfl
  simp only [execOp, ho, resolve, invoke, builtin, Builtin.len_]
  simp [hts, run_under ht, goInt]

theorem step_idxA (hm : MemRel g M w) (hT : RelT g M w T a) {t e0 : TypeId} {sz : Nat} {x ix : Operand} (ho : o.op = .indexAddr t x ix)
    (ht : P.underlying t = some (.slice e0)) (hn : sizeB P e0 = some sz) {out : Out}
    (h : step T M slot (.idxA sz x ix) = some out) : Res P o a w g M slot out := by
  have hx := rel_ev hT x
  have hi := rel_ev hT ix
  simp only [step] at h
  split at h
  · rename_i kd j ej
    rw [ej] at hi
    have hi' : a.eval ix = .int kd j := hi
    have key : ∀ b o' n c, a.eval x = .slice (some ⟨b, o', none⟩) n c → 0 ≤ j → j < n → OpRun P o a w (.pointer (some ⟨b, o' + j.toNat * sz, none⟩)) w := by
      intro b o' n c e h0 h1
      exact .inl (by simp [execOp, ho, Instr.indexAt, asIntOf, hi', e, run_under ht, h0, h1, run_size hn, addr_add])
    split at h
    · rename_i id off n st e
      rw [e] at hx
      simp only [Option.bind_eq_some_iff] at h
      obtain ⟨r, hr, h⟩ := h
      split at h
      · rename_i hj
        obtain rfl := Option.some.inj h
        obtain ⟨hlen, A, c, hu, hnc, hA⟩ := hx.2 r hr
        obtain ⟨rb, ro, size, hat, hA', _⟩ := hA (by omega)
        subst hA'
        refine Res.pure hm rfl (key _ _ _ _ hu hj.1 hj.2.1) ⟨hx.1, fun r' hr' => ?_⟩
        rw [hr] at hr'
        cases hr'
        have hst : 0 < st := hj.2.2.2
        have hjn : j.toNat < n := by omega
        refine ⟨?_, rb, ro, size, hat, ?_⟩
        · have h1 : (j.toNat + 1) * st ≤ n * st := Nat.mul_le_mul_right _ (by omega)
          rw [Nat.add_mul] at h1
          omega
        · rw [hj.2.2.1, Nat.add_mul, Nat.mul_assoc]; simp [Nat.add_assoc]
      · cases h
    · rename_i sz' xs e
      rw [e] at hx
      split at h
      · rename_i hj
        simp only [Option.map_eq_some_iff] at h
        obtain ⟨cs, hcs, rfl⟩ := h
        obtain ⟨A, c, hu, hle, hor⟩ := hx
        have hlt := (List.getElem?_eq_some_iff.1 hcs).1
        rcases hor with rfl | ⟨blk, off, rfl, hz, hD⟩
        · simp at hlt
        · obtain ⟨h1, h2⟩ := relD_get j.toNat hD hcs
          exact Res.pure hm rfl (key _ _ _ _ hu hj.1 (by omega)) ⟨blk, off + j.toNat * sz, rfl, hz, by rw [← hj.2]; exact h2⟩
      · cases h
    · cases h
  · cases h
end
end Go.Vm
