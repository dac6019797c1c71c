import Derived.Test.YtkjmlfbafmdegaaVmG
namespace Go.Vm
set_option linter.unusedSectionVars false
set_option linter.unusedSimpArgs false
set_option linter.unusedVariables false
open Go
variable [Inhabited LayT]
section
variable {P : Program} {o : Oper} {a : Act} {w : World} {g : Gh} {M : Mem} {slot : Nat} {T : Tm}

theorem step_idxP (hm : MemRel g M w) (hT : RelT g M w T a) {t e0 : TypeId} {m sz : Nat} {x ix : Operand} (ho : o.op = .indexAddr t x ix)
    (ht : P.underlying t = some (.array m e0)) (hn : sizeB P e0 = some sz) {out : Out}
    (h : step T M slot (.idxP m sz x ix) = some out) : Res P o a w g M slot out := by
  have hx := rel_ev hT x
  have hi := rel_ev hT ix
  simp only [step] at h
  split at h
  · rename_i kd j ej
    rw [ej] at hi
    have hi' : a.eval ix = .int kd j := hi
    split at h
    · rename_i hj
      have key : ∀ b o', a.eval x = .pointer (some ⟨b, o', none⟩) → OpRun P o a w (.pointer (some ⟨b, o' + j.toNat * sz, none⟩)) w := by
        intro b o' e
        exact .inl (by simp [execOp, ho, Instr.indexAt, asIntOf, hi', e, run_under ht, hj.1, hj.2, run_size hn, addr_add, Instr.sureAddr])
      split at h
      · rename_i id i o' e
        rw [e] at hx
        simp only [Option.map_eq_some_iff] at h
        obtain ⟨r, hr, rfl⟩ := h
        obtain ⟨hi2, rb, ro, size, hat, hu⟩ := hx.2 r hr
        refine Res.pure hm rfl (key _ _ hu) ⟨hx.1, fun r' hr' => ?_⟩
        rw [hr] at hr'
        cases hr'
        exact ⟨hi2, rb, ro, size, hat, by rw [Nat.add_assoc]⟩
      · rename_i cs e
        rw [e] at hx
        obtain ⟨blk, o', hu, hz, hM⟩ := hx
        obtain rfl := Option.some.inj h
        exact Res.pure hm rfl (key _ _ hu) ⟨blk, o' + j.toNat * sz, rfl, hz, relM_drop _ hM⟩
      · cases h
    · cases h
  · cases h

theorem bound_run (hT : RelT g M w T a) {d : Nat} {x : Option Operand} {n : Int} (h : bound T d x = some n) :
    (x = none ∧ n = d) ∨ ∃ y kd, x = some y ∧ a.eval y = .int kd n := by
  unfold bound at h
  split at h
  · exact .inl ⟨rfl, (Option.some.inj h).symm⟩
  · rename_i y
    split at h
    · rename_i kd n' e
      obtain rfl := Option.some.inj h
      have := rel_ev hT y
      rw [e] at this
      exact .inr ⟨y, kd, rfl, this⟩
    · cases h

theorem run_bounds (hT : RelT g M w T a) {isS : Bool} {lo hi : Option Operand} {len cap : Nat} {l h : Int} (hl : bound T 0 lo = some l) (hh : bound T len hi = some h)
    (h0 : 0 ≤ l) (h1 : l ≤ h) (h2 : h ≤ len) (hc : len ≤ cap) :
    (Instr.sliceBounds isS len cap (lo.map a.eval) (hi.map a.eval) none).run P w = .ok (l.toNat, h.toNat, cap) w := by
  unfold Instr.sliceBounds
  have c1 : h ≤ cap := by omega
  have c2 : 0 ≤ h := by omega
  have c3 : h.toNat = h := by omega
  rcases bound_run (a := a) (g := g) (M := M) (w := w) hT hl with ⟨rfl, rfl⟩ | ⟨y, kd, rfl, ey⟩ <;> rcases bound_run (a := a) (g := g) (M := M) (w := w) hT hh with ⟨rfl, rfl⟩ | ⟨z, kd', rfl, ez⟩ <;>
    simp [*, Instr.sliceBound, asIntOf]

theorem step_slc (hm : MemRel g M w) (hT : RelT g M w T a) {t e0 : TypeId} {sz : Nat} {x : Operand} {lo hi : Option Operand} (ho : o.op = .slice t x lo hi none)
    (ht : P.underlying t = some (.slice e0)) (hn : sizeB P e0 = some sz) {out : Out}
    (h : step T M slot (.slc sz x lo hi) = some out) : Res P o a w g M slot out := by
  have hx := rel_ev hT x
  have key : ∀ A n c l h, a.eval x = .slice A n c → n ≤ c → bound T 0 lo = some l → bound T n hi = some h → 0 ≤ l → l ≤ h → h ≤ n →
      OpRun P o a w (.slice (if c = l.toNat then A else A.map (·.add (l.toNat * sz))) (h.toNat - l.toNat) (c - l.toNat)) w := by
    intro A n c l h e hnc hl hh h0 h1 h2
    have := run_bounds (P := P) (isS := true) hT hl hh h0 h1 h2 hnc
    exact .inl (by simp [execOp, ho, Instr.sliceAt, Instr.slice, e, run_under ht, this, run_size hn])
  simp only [step] at h
  split at h
  · rename_i id off n st e
    rw [e] at hx
    simp only [Option.bind_eq_some_iff] at h
    obtain ⟨l, hl, h', hh, r, hr, h⟩ := h
    split at h
    · rename_i hc
      obtain rfl := Option.some.inj h
      obtain ⟨hlen, A, c, hu, hnc, hA⟩ := hx.2 r hr
      refine Res.pure hm rfl (key _ _ _ _ _ hu hnc hl hh hc.1 hc.2.1 hc.2.2.1) ⟨hx.1, fun r' hr' => ?_⟩
      rw [hr] at hr'
      cases hr'
      have e1 : l.toNat * st + (h'.toNat - l.toNat) * st = h'.toNat * st := by rw [← Nat.add_mul]; congr 1; omega
      have e2 : h'.toNat * st ≤ n * st := Nat.mul_le_mul_right _ (by omega)
      refine ⟨by omega, _, _, rfl, by omega, fun hpos => ?_⟩
      obtain ⟨rb, ro, size, hat, hA', hs⟩ := hA (by omega)
      have e3 : l.toNat * st + (c - l.toNat) * st = c * st := by rw [← Nat.add_mul]; congr 1; omega
      refine ⟨rb, ro, size, hat, ?_, ?_⟩
      · rw [if_neg (by omega), hA', Option.map_some, addr_add, hc.2.2.2, Nat.add_mul, Nat.mul_assoc, Nat.add_assoc]
      · rw [show off + l.toNat * st + (c - l.toNat) * st = off + c * st by omega]; exact hs
    · cases h
  · rename_i sz' xs e
    rw [e] at hx
    simp only [Option.bind_eq_some_iff] at h
    obtain ⟨l, hl, h', hh, h⟩ := h
    split at h
    · rename_i hc
      obtain rfl := Option.some.inj h
      obtain ⟨A, c, hu, hle, hor⟩ := hx
      have hlen : ((xs.drop l.toNat).take (h'.toNat - l.toNat)).length = h'.toNat - l.toNat := by simp; omega
      refine Res.pure hm rfl (key _ _ _ _ _ hu hle hl hh hc.1 hc.2.1 hc.2.2.1) ⟨_, _, by rw [hlen], by rw [hlen]; omega, ?_⟩
      by_cases hempty : h'.toNat - l.toNat = 0
      · exact .inl (List.eq_nil_of_length_eq_zero (by rw [hlen]; exact hempty))
      · rcases hor with rfl | ⟨blk, off, rfl, hz, hD⟩
        · simp at hc; omega
        · have hs : sz' = sz := by
            rcases hc.2.2.2 with h | h
            · exact h
            · subst h; simp at hc; omega
          subst hs
          refine .inr ⟨blk, off + l.toNat * sz', ?_, hz, relD_take _ (relD_drop _ hD)⟩
          rw [if_neg (by omega), Option.map_some, addr_add]
    · cases h
  · rename_i e
    rw [e] at hx
    simp only [Option.bind_eq_some_iff] at h
    obtain ⟨l, hl, h', hh, h⟩ := h
    split at h
    · rename_i hc
      obtain rfl := Option.some.inj h
      obtain ⟨rfl, rfl⟩ := hc
      have := key none 0 0 0 0 hx (Nat.le_refl _) hl hh (by omega) (by omega) (by omega)
      exact Res.pure hm rfl this (by simp [Rel])
    · cases h
  · cases h

theorem bound_run' (hT : RelT g M w T a) {d : Nat} {y : Operand} {n : Int} (h : bound T d (some y) = some n) : ∃ kd, a.eval y = .int kd n := by
  rcases bound_run (a := a) (g := g) (M := M) (w := w) hT h with ⟨h, _⟩ | ⟨z, kd, h, e⟩
  · cases h
  · cases h; exact ⟨kd, e⟩
theorem run_bounds3 (hT : RelT g M w T a) {lo : Option Operand} {hi mx : Operand} {len cap : Nat} {l h m : Int} (hl : bound T 0 lo = some l) (hh : bound T len (some hi) = some h) (hmx : bound T len (some mx) = some m)
    (h0 : 0 ≤ l) (h1 : l ≤ h) (h2 : h ≤ m) (h3 : m ≤ len) (hc : len ≤ cap) :
    (Instr.sliceBounds true len cap (lo.map a.eval) (some (a.eval hi)) (some (a.eval mx))).run P w = .ok (l.toNat, h.toNat, m.toNat) w := by
  unfold Instr.sliceBounds
  have c1 : m ≤ cap := by omega
  have c2 : 0 ≤ h := by omega
  have c3 : h.toNat = h := by omega
  have c4 : 0 ≤ m := by omega
  have c5 : m.toNat = m := by omega
  obtain ⟨kh, eh⟩ := bound_run' (a := a) (g := g) (M := M) (w := w) hT hh
  obtain ⟨km, em⟩ := bound_run' (a := a) (g := g) (M := M) (w := w) hT hmx
  rcases bound_run (a := a) (g := g) (M := M) (w := w) hT hl with ⟨rfl, rfl⟩ | ⟨y, kd, rfl, ey⟩ <;>
    simp [*, Instr.sliceBound, asIntOf]

theorem step_slc3 (hm : MemRel g M w) (hT : RelT g M w T a) {t e0 : TypeId} {sz : Nat} {x : Operand} {lo : Option Operand} {hi mx : Operand} (ho : o.op = .slice t x lo (some hi) (some mx))
    (ht : P.underlying t = some (.slice e0)) (hn : sizeB P e0 = some sz) {out : Out}
    (h : step T M slot (.slc3 sz x lo hi mx) = some out) : Res P o a w g M slot out := by
  have hx := rel_ev hT x
  have key : ∀ A n c l h m, a.eval x = .slice A n c → n ≤ c → bound T 0 lo = some l → bound T n (some hi) = some h → bound T n (some mx) = some m → 0 ≤ l → l ≤ h → h ≤ m → m ≤ n →
      OpRun P o a w (.slice (if m.toNat = l.toNat then A else A.map (·.add (l.toNat * sz))) (h.toNat - l.toNat) (m.toNat - l.toNat)) w := by
    intro A n c l h m e hnc hl hh hmx h0 h1 h2 h3
    have := run_bounds3 (P := P) (a := a) (g := g) (M := M) (w := w) hT hl hh hmx h0 h1 h2 h3 hnc
    exact .inl (by simp [execOp, ho, Instr.sliceAt, Instr.slice, e, run_under ht, this, run_size hn])
  simp only [step] at h
  split at h
  · rename_i id off n st e
    rw [e] at hx
    simp only [Option.bind_eq_some_iff] at h
    obtain ⟨l, hl, h', hh, m, hmx, r, hr, h⟩ := h
    split at h
    · rename_i hc
      obtain rfl := Option.some.inj h
      obtain ⟨hlen, A, c, hu, hnc, hA⟩ := hx.2 r hr
      refine Res.pure hm rfl (key _ _ _ _ _ _ hu hnc hl hh hmx hc.1 hc.2.1 hc.2.2.1 hc.2.2.2.1) ⟨hx.1, fun r' hr' => ?_⟩
      rw [hr] at hr'
      cases hr'
      have e1 : l.toNat * st + (h'.toNat - l.toNat) * st = h'.toNat * st := by rw [← Nat.add_mul]; congr 1; omega
      have e2 : h'.toNat * st ≤ n * st := Nat.mul_le_mul_right _ (by omega)
      refine ⟨by omega, _, _, rfl, by omega, fun hpos => ?_⟩
      obtain ⟨rb, ro, size, hat, hA', hs⟩ := hA (by omega)
      have e3 : l.toNat * st + (m.toNat - l.toNat) * st = m.toNat * st := by rw [← Nat.add_mul]; congr 1; omega
      have e5 : m.toNat * st ≤ c * st := Nat.mul_le_mul_right _ (by omega)
      have e6 : (off + l.toNat * st + (m.toNat - l.toNat) * st) * r.sz ≤ (off + c * st) * r.sz := Nat.mul_le_mul_right _ (by omega)
      refine ⟨rb, ro, size, hat, ?_, ?_⟩
      · rw [if_neg (by omega), hA', Option.map_some, addr_add, hc.2.2.2.2, Nat.add_mul, Nat.mul_assoc, Nat.add_assoc]
      · omega
    · cases h
  · rename_i sz' xs e
    rw [e] at hx
    simp only [Option.bind_eq_some_iff] at h
    obtain ⟨l, hl, h', hh, m, hmx, h⟩ := h
    split at h
    · rename_i hc
      obtain rfl := Option.some.inj h
      obtain ⟨A, c, hu, hle, hor⟩ := hx
      have hlen : ((xs.drop l.toNat).take (h'.toNat - l.toNat)).length = h'.toNat - l.toNat := by simp; omega
      refine Res.pure hm rfl (key _ _ _ _ _ _ hu hle hl hh hmx hc.1 hc.2.1 hc.2.2.1 hc.2.2.2.1) ⟨_, _, by rw [hlen], by rw [hlen]; omega, ?_⟩
      by_cases hempty : h'.toNat - l.toNat = 0
      · exact .inl (List.eq_nil_of_length_eq_zero (by rw [hlen]; exact hempty))
      · rcases hor with rfl | ⟨blk, off, rfl, hz, hD⟩
        · simp at hc; omega
        · have hs : sz' = sz := by
            rcases hc.2.2.2.2 with h | h
            · exact h
            · subst h; simp at hc; omega
          subst hs
          refine .inr ⟨blk, off + l.toNat * sz', ?_, hz, relD_take _ (relD_drop _ hD)⟩
          rw [if_neg (by omega), Option.map_some, addr_add]
    · cases h
  · cases h

theorem step_slcS (hm : MemRel g M w) (hT : RelT g M w T a) {t : TypeId} {x : Operand} {lo hi : Option Operand} (ho : o.op = .slice t x lo hi none)
    (ht : P.underlying t = some .string) {out : Out}
    (h : step T M slot (.slcS x lo hi) = some out) : Res P o a w g M slot out := by
  have hx := rel_ev hT x
  simp only [step] at h
  split at h
  · rename_i s e
    rw [e] at hx
    have hx' : a.eval x = .string ⟨s.toArray⟩ := hx
    simp only [Option.bind_eq_some_iff] at h
    obtain ⟨l, hl, h', hh, h⟩ := h
    split at h
    · rename_i hc
      obtain rfl := Option.some.inj h
      have hb := run_bounds (P := P) (isS := false) hT hl hh hc.1 hc.2.1 hc.2.2 (Nat.le_refl _)
      refine Res.pure hm rfl (u := .string ⟨((s.drop l.toNat).take (h'.toNat - l.toNat)).toArray⟩) (.inl ?_) rfl
      have hex : (⟨s.toArray⟩ : ByteArray).extract l.toNat h'.toNat = ⟨((s.drop l.toNat).take (h'.toNat - l.toNat)).toArray⟩ := by
        apply ByteArray.ext
        simp [ByteArray.data_extract]
      simp [execOp, ho, Instr.sliceAt, Instr.slice, hx', run_under ht, size_mk, hb, hex]
    · cases h
  · cases h

theorem step_slcA (hm : MemRel g M w) (hT : RelT g M w T a) {t e0 : TypeId} {m sz : Nat} {x : Operand} {lo hi : Option Operand} (ho : o.op = .slice t x lo hi none)
    (ht : P.underlying t = some (.array m e0)) (hn : sizeB P e0 = some sz) {out : Out}
    (h : step T M slot (.slcA m sz x lo hi) = some out) : Res P o a w g M slot out := by
  have hx := rel_ev hT x
  simp only [step] at h
  split at h
  · rename_i id i o' e
    rw [e] at hx
    simp only [Option.bind_eq_some_iff] at h
    obtain ⟨l, hl, h', hh, r, hr, h⟩ := h
    split at h
    · rename_i hc
      obtain rfl := Option.some.inj h
      obtain ⟨hi, rb, ro, size, hat, hu⟩ := hx.2 r hr
      obtain ⟨_, _, hsz, _⟩ := row_at hm hr hat
      have hb := run_bounds (P := P) (isS := false) hT hl hh hc.2.1 hc.2.2.1 hc.2.2.2.1 (Nat.le_refl _)
      have e1 : l.toNat * sz + (h'.toNat - l.toNat) * sz = h'.toNat * sz := by rw [← Nat.add_mul]; congr 1; omega
      have e2 : h'.toNat * sz ≤ m * sz := Nat.mul_le_mul_right _ (by omega)
      have e3 : l.toNat * sz + (m - l.toNat) * sz = m * sz := by rw [← Nat.add_mul]; congr 1; omega
      rw [hc.1] at hu hsz
      refine Res.pure hm rfl (u := .slice (some (if m = l.toNat then ⟨rb, ro + i * 1 + o', none⟩ else (⟨rb, ro + i * 1 + o', none⟩ : Addr).add (l.toNat * sz))) (h'.toNat - l.toNat) (m - l.toNat)) (.inl ?_) ⟨hx.1, fun r' hr' => ?_⟩
      · simp [execOp, ho, Instr.sliceAt, hu, run_under ht, Instr.sureAddr, hb, run_size hn]
      · rw [hr] at hr'
        cases hr'
        refine ⟨by omega, _, _, rfl, by omega, fun hpos => ⟨rb, ro, size, hat, ?_, ?_⟩⟩
        · rw [if_neg (by omega), addr_add, hc.1]; congr 2; omega
        · rw [hc.1]; omega
    · cases h
  · cases h
end
end Go.Vm
