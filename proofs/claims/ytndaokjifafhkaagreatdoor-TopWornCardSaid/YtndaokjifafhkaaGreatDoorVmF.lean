import Derived.Test.YtndaokjifafhkaaGreatDoorVmD
import Derived.Laws.StructEq
import Derived.ChangeKeysEq
namespace Go.Vm
set_option linter.unusedSectionVars false
set_option linter.unusedSimpArgs false
set_option linter.unusedVariables false
open Go
variable [Inhabited LayT]
section
variable {P : Program} {o : Oper} {a : Act} {w : World} {g : Gh} {M : Mem} {slot : Nat} {T : Tm}

theorem addr_add (b o j : Nat) : (⟨b, o, none⟩ : Addr).add j = ⟨b, o + j, none⟩ := by unfold Addr.add; split <;> simp_all

theorem row_in (hm : MemRel g M w) {id : Nat} {r : Row} {rb ro size : Nat} (hr : M id = some r) (ha : g.at_ id = some (rb, ro, size)) :
    ¬ g.U rb ∧ InBlk g M w r rb ro size := by
  rcases hm.row id r hr with ⟨_, h⟩ | ⟨rb', ro', size', h, h1, h2⟩
  · rw [ha] at h; cases h
  · rw [ha] at h
    cases h
    exact ⟨h1, h2⟩
theorem row_at (hm : MemRel g M w) {id : Nat} {r : Row} {rb ro size : Nat} (hr : M id = some r) (ha : g.at_ id = some (rb, ro, size)) (hz : r.sz ≠ 0) :
    ¬ g.U rb ∧ BlockAt w rb size ∧ ro + r.el.length * r.sz ≤ size ∧ RelD g M w r.sz rb ro r.el := by
  obtain ⟨h1, h2⟩ := row_in hm hr ha
  rcases h2 with ⟨_, k1, k2, k3, _⟩ | ⟨h0, _⟩
  · exact ⟨h1, k1, k2, k3⟩
  · exact absurd h0 hz
theorem row_ty (hm : MemRel g M w) {id : Nat} {r : Row} {rb ro size : Nat} (hr : M id = some r) (ha : g.at_ id = some (rb, ro, size)) (hz : r.sz ≠ 0) : TyAt w rb ro r.ty := by
  obtain ⟨h1, h2⟩ := row_in hm hr ha
  rcases h2 with ⟨_, _, _, _, k⟩ | ⟨h0, _⟩
  · exact k
  · exact absurd h0 hz
theorem get1_sz {r : Row} {i o : Nat} {c : AV} (h : r.get1 i o = some c) : r.sz ≠ 0 := fun h0 => by simp [Row.get1, h0] at h
theorem getN_sz {r : Row} {i o n : Nat} {c : List AV} (h : r.getN i o n = some c) : r.sz ≠ 0 := fun h0 => by simp [Row.getN, h0] at h
theorem set1_sz {r r' : Row} {i o : Nat} {c : AV} (h : r.set1 i o c = some r') : r.sz ≠ 0 := fun h0 => by simp [Row.set1, h0] at h
theorem setN_sz {r r' : Row} {i o : Nat} {c : List AV} (h : r.setN i o c = some r') : r.sz ≠ 0 := fun h0 => by simp [Row.setN, h0] at h

theorem relM_vals {blk : Nat} : ∀ {cs : List AV} {off : Nat}, RelM g M w blk off cs → ∃ us, RelL g M w cs us ∧ (∀ v ∈ us, v.oneCell' = true) ∧ ∀ j v, us[j]? = some v → w.cell? ⟨blk, off + j, none⟩ = some v
  | [], _, _ => ⟨[], rfl, fun v h => by simp at h, fun j v h => by simp at h⟩
  | x :: xs, off, ⟨⟨u, hu, h0, h1⟩, h2⟩ => by
    obtain ⟨us, h3, h5, h4⟩ := relM_vals h2
    refine ⟨u :: us, ⟨u, us, rfl, h1, h3⟩, fun v hv => by rcases List.mem_cons.1 hv with rfl | hv; exact h0; exact h5 v hv, fun j v hj => ?_⟩
    cases j with
    | zero => obtain rfl : u = v := by simpa using hj
              exact hu
    | succ j => rw [show off + (j + 1) = off + 1 + j by omega]; exact h4 j v (by simpa using hj)
theorem relM_append {blk : Nat} : ∀ {cs ds : List AV} {off : Nat}, RelM g M w blk off cs → RelM g M w blk (off + cs.length) ds → RelM g M w blk off (cs ++ ds)
  | [], _, _, _, h => by simpa using h
  | x :: xs, ds, off, ⟨h1, h2⟩, h => ⟨h1, relM_append h2 (by rw [show off + 1 + xs.length = off + (x :: xs).length by simp; omega]; exact h)⟩
theorem relD_append {sz blk : Nat} : ∀ {xs ys : List (List AV)} {off : Nat}, RelD g M w sz blk off xs → RelD g M w sz blk (off + xs.length * sz) ys → RelD g M w sz blk off (xs ++ ys)
  | [], _, _, _, h => by simpa using h
  | x :: xs, ys, off, ⟨h1, h2⟩, h => ⟨h1, relD_append h2 (by rw [show off + sz + xs.length * sz = off + (x :: xs).length * sz by simp [Nat.add_mul]; omega]; exact h)⟩
theorem relD_flat {blk : Nat} : ∀ {xs : List (List AV)} {off : Nat}, RelD g M w 1 blk off xs → RelM g M w blk off xs.flatten
  | [], _, _ => trivial
  | x :: xs, off, ⟨⟨h0, h1⟩, h2⟩ => by
    rw [List.flatten_cons]
    exact relM_append h1 (by rw [h0]; exact relD_flat h2)

theorem get1_rel {r : Row} {i o : Nat} {c : AV} {rb ro : Nat} (h : RelD g M w r.sz rb ro r.el) (hc : r.get1 i o = some c) :
    ∃ u, w.cell? ⟨rb, ro + i * r.sz + o, none⟩ = some u ∧ Rel g M w c u := by
  unfold Row.get1 at hc
  split at hc
  · rename_i hs
    simp only [Option.bind_eq_some_iff] at hc
    obtain ⟨cs, h1, h2⟩ := hc
    obtain ⟨_, h4⟩ := relD_get (i + o) h h1
    obtain ⟨u, h5, h6⟩ := relM_get 0 h4 h2
    refine ⟨u, ?_, h6⟩
    rw [hs] at h5 ⊢
    rw [← h5]; congr 2; omega
  · split at hc
    · cases hc
    simp only [Option.bind_eq_some_iff] at hc
    obtain ⟨cs, h1, h2⟩ := hc
    obtain ⟨_, h4⟩ := relD_get i h h1
    exact relM_get o h4 h2

theorem getN_rel {r : Row} {i o n : Nat} {cs : List AV} {rb ro : Nat} (h : RelD g M w r.sz rb ro r.el) (hc : r.getN i o n = some cs) :
    cs.length = n ∧ RelM g M w rb (ro + i * r.sz + o) cs := by
  unfold Row.getN at hc
  split at hc
  · rename_i hs
    simp only at hc
    split at hc
    · rename_i hl
      obtain rfl := Option.some.inj hc
      refine ⟨hl, ?_⟩
      rw [hs] at h ⊢
      have := relD_flat (relD_take n (relD_drop (i + o) h))
      rwa [show ro + (i + o) * 1 = ro + i * 1 + o by omega] at this
    · cases hc
  · split at hc
    · cases hc
    simp only [Option.bind_eq_some_iff] at hc
    obtain ⟨ds, h1, h2⟩ := hc
    split at h2
    · rename_i hl
      obtain rfl := Option.some.inj h2
      obtain ⟨h3, h4⟩ := relD_get i h h1
      exact ⟨by simp; omega, relM_take n (relM_drop o h4)⟩
    · cases h2

theorem run_loadN {t : TypeId} {n : Nat} {blk off : Nat} {cs : List AV} (hag : isAggB P t = some true) (hn : sizeB P t = some n) (hl : cs.length = n) (h : RelM g M w blk off cs) :
    ∃ u, (loadVar t ⟨blk, off, none⟩).run P w = .ok u w ∧ Rel g M w (.agg cs) u := by
  obtain ⟨us, h1, _, h2⟩ := relM_vals h
  have h3 := relL_length h1
  refine ⟨.agg us.toArray, ?_, us, rfl, h1⟩
  have h4 := run_loadCells_list (P := P) w ⟨blk, off, none⟩ us (fun j v hj => by rw [addr_add]; exact h2 j v hj)
  rw [h3, hl] at h4
  unfold loadVar
  simp [run_agg hag, run_size hn, h4]
theorem run_load1 {t : TypeId} {blk off : Nat} {u : Value} (hag : isAggB P t = some false) (h : w.cell? ⟨blk, off, none⟩ = some u) :
    (loadVar t ⟨blk, off, none⟩).run P w = .ok u w := by
  unfold loadVar
  simp [run_agg hag, h]

theorem step_load (hm : MemRel g M w) (hT : RelT g M w T a) {t : TypeId} {n : Nat} {ag : Bool} {p : Operand} (ho : o.op = .load t p)
    (hag : isAggB P t = some ag) (hn : sizeB P t = some n) {out : Out}
    (h : step T M slot (.load n ag p) = some out) : Res P o a w g M slot out := by
  have hp := rel_ev hT p
  have key : ∀ blk off u, a.eval p = .pointer (some ⟨blk, off, none⟩) → (loadVar t ⟨blk, off, none⟩).run P w = .ok u w → OpRun P o a w u w := by
    intro blk off u e h1
    exact .inl (by simp [execOp, ho, e, Instr.loadAt, Instr.sureAddr, h1])
  simp only [step] at h
  split at h
  · rename_i cs e
    rw [e] at hp
    obtain ⟨blk, off, hu, _, hM⟩ := hp
    split at h
    · rename_i hag'
      subst hag'
      split at h
      · rename_i hl
        obtain rfl := Option.some.inj h
        obtain ⟨u, h1, h2⟩ := run_loadN (P := P) (n := n) hag hn (by simp; omega) (relM_take n hM)
        exact Res.pure hm rfl (key blk off u hu h1) h2
      · cases h
    · rename_i hag'
      have hag' : ag = false := by simpa using hag'
      subst hag'
      simp only [Option.map_eq_some_iff] at h
      obtain ⟨c, hc, rfl⟩ := h
      obtain ⟨u, h1, h2⟩ := relM_get 0 hM hc
      exact Res.pure hm rfl (key blk off u hu (run_load1 hag (by simpa using h1))) h2
  · rename_i id i o' e
    rw [e] at hp
    simp only [Option.bind_eq_some_iff] at h
    obtain ⟨r, hr, h⟩ := h
    obtain ⟨_, rb, ro, size, hat, hu⟩ := hp.2 r hr
    split at h
    · rename_i hag'
      subst hag'
      simp only [Option.map_eq_some_iff] at h
      obtain ⟨cs, hc, rfl⟩ := h
      obtain ⟨_, _, _, hD⟩ := row_at hm hr hat (getN_sz hc)
      obtain ⟨hl, hM⟩ := getN_rel hD hc
      obtain ⟨u, h1, h2⟩ := run_loadN (P := P) hag hn hl hM
      exact Res.pure hm rfl (key _ _ u hu h1) h2
    · rename_i hag'
      have hag' : ag = false := by simpa using hag'
      subst hag'
      simp only [Option.map_eq_some_iff] at h
      obtain ⟨c, hc, rfl⟩ := h
      obtain ⟨_, _, _, hD⟩ := row_at hm hr hat (get1_sz hc)
      obtain ⟨u, h1, h2⟩ := get1_rel hD hc
      exact Res.pure hm rfl (key _ _ u hu (run_load1 hag h1)) h2
  · cases h

theorem run_fieldPlace {f : Field} {n : Nat} (hn : sizeB P f.type = some n) (h0 : 0 < n) (b off : Nat) :
    (fieldPlace ⟨b, off, none⟩ f).run P w = .ok ⟨b, off + f.offset, none⟩ w := by
  unfold fieldPlace
  simp [run_size hn, show n ≠ 0 by omega, addr_add]

theorem step_fldA (hm : MemRel g M w) (hT : RelT g M w T a) {t ft : TypeId} {j off n : Nat} {p : Operand} (ho : o.op = .fieldAddr t p j)
    (hf : fieldOf P t j = some (off, ft)) (hn : sizeB P ft = some n) (h0 : 0 < n) {out : Out}
    (h : step T M slot (.fldA off p) = some out) : Res P o a w g M slot out := by
  have hp := rel_ev hT p
  have key : ∀ blk o', a.eval p = .pointer (some ⟨blk, o', none⟩) → OpRun P o a w (.pointer (some ⟨blk, o' + off, none⟩)) w := by
    intro blk o' e
    unfold fieldOf at hf
    split at hf
    · rename_i fs hs
      simp only [Option.map_eq_some_iff] at hf
      obtain ⟨f, hf, he⟩ := hf
      cases he
      exact .inl (by simp [execOp, ho, e, Instr.fieldAt, Instr.sureAddr, run_under hs, hf, run_fieldPlace hn h0])
    · cases hf
  simp only [step] at h
  split at h
  · rename_i id i o' e
    rw [e] at hp
    simp only [Option.map_eq_some_iff] at h
    obtain ⟨r, hr, rfl⟩ := h
    obtain ⟨hi, rb, ro, size, hat, hu⟩ := hp.2 r hr
    refine Res.pure hm rfl (key _ _ hu) ⟨hp.1, fun r' hr' => ?_⟩
    rw [hr] at hr'
    cases hr'
    exact ⟨hi, rb, ro, size, hat, by rw [Nat.add_assoc]⟩
  · rename_i cs e
    rw [e] at hp
    obtain ⟨blk, o', hu, hz, hM⟩ := hp
    obtain rfl := Option.some.inj h
    exact Res.pure hm rfl (key _ _ hu) ⟨blk, o' + off, rfl, hz, relM_drop off hM⟩
  · cases h

theorem run_part {t : TypeId} {ag : Bool} {n off : Nat} {cs : List AV} {us : List Value} {v : AV} (hag : isAggB P t = some ag) (hn : sizeB P t = some n) (hl : RelL g M w cs us)
    (h : (if ag then (if off + n ≤ cs.length then some (AV.agg ((cs.drop off).take n)) else none) else cs[off]?) = some v) :
    ∃ u, (part t us.toArray off).run P w = .ok u w ∧ Rel g M w v u := by
  split at h
  · rename_i hag'
    subst hag'
    split at h
    · obtain rfl := Option.some.inj h
      refine ⟨.agg (us.toArray.extract off (off + n)), ?_, (us.drop off).take n, ?_, relL_take n (relL_drop off hl)⟩
      · simp [part, run_agg hag, run_size hn]
      · simp
    · cases h
  · rename_i hag'
    have hag' : ag = false := by simpa using hag'
    subst hag'
    obtain ⟨u, h1, h2⟩ := relL_get off hl h
    exact ⟨u, by simp [part, run_agg hag, h1], h2⟩

theorem step_fld (hm : MemRel g M w) (hT : RelT g M w T a) {t ft : TypeId} {j off n : Nat} {ag : Bool} {x : Operand} (ho : o.op = .field t x j)
    (hf : fieldOf P t j = some (off, ft)) (hn : sizeB P ft = some n) (hag : isAggB P ft = some ag) {out : Out}
    (h : step T M slot (.fld off n ag x) = some out) : Res P o a w g M slot out := by
  have hx := rel_ev hT x
  simp only [step] at h
  split at h
  · rename_i cs e
    rw [e] at hx
    obtain ⟨us, hu, hl⟩ := hx
    have key : ∃ v, (if ag then (if off + n ≤ cs.length then some (AV.agg ((cs.drop off).take n)) else none) else cs[off]?) = some v ∧ out = { v } := by
      cases ag <;> simp only [if_true, if_false, Bool.false_eq_true] at h ⊢
      · simp only [Option.map_eq_some_iff] at h
        obtain ⟨c, h1, h2⟩ := h
        exact ⟨c, h1, h2.symm⟩
      · split at h
        · exact ⟨_, by rename_i hh; simp [hh], (Option.some.inj h).symm⟩
        · cases h
    obtain ⟨v, hv, rfl⟩ := key
    obtain ⟨u, h1, h2⟩ := run_part (P := P) hag hn hl hv
    refine Res.pure hm rfl (u := u) (.inl ?_) h2
    unfold fieldOf at hf
    split at hf
    · rename_i fs hs
      simp only [Option.map_eq_some_iff] at hf
      obtain ⟨f, hf, he⟩ := hf
      cases he
      simp [execOp, ho, hu, Instr.field, run_under hs, hf, asAgg, h1]
    · cases hf
  · cases h

theorem step_idx (hm : MemRel g M w) (hT : RelT g M w T a) {t e0 : TypeId} {m n : Nat} {ag : Bool} {x ix : Operand} (ho : o.op = .index t x ix)
    (ht : P.underlying t = some (.array m e0)) (hn : sizeB P e0 = some n) (hag : isAggB P e0 = some ag) {out : Out}
    (h : step T M slot (.idx m n ag x ix) = some out) : Res P o a w g M slot out := by
  have hx := rel_ev hT x
  have hi := rel_ev hT ix
  simp only [step] at h
  split at h
  · rename_i kd j ej
    rw [ej] at hi
    have hi' : a.eval ix = .int kd j := hi
    split at h
    · rename_i hj
      split at h
      · rename_i cs e
        rw [e] at hx
        obtain ⟨us, hu, hl⟩ := hx
        have key : ∃ v, (if ag then (if j.toNat * n + n ≤ cs.length then some (AV.agg ((cs.drop (j.toNat * n)).take n)) else none) else cs[j.toNat * n]?) = some v ∧ out = { v } := by
          cases ag <;> simp only [if_true, if_false, Bool.false_eq_true] at h ⊢
          · simp only [Option.map_eq_some_iff] at h
            obtain ⟨c, h1, h2⟩ := h
            exact ⟨c, h1, h2.symm⟩
          · split at h
            · exact ⟨_, by rename_i hh; simp [hh], (Option.some.inj h).symm⟩
            · cases h
        obtain ⟨v, hv, rfl⟩ := key
        obtain ⟨u, h1, h2⟩ := run_part (P := P) hag hn hl hv
        refine Res.pure hm rfl (u := u) (.inl ?_) h2
        simp [execOp, ho, hu, hi', Instr.index, asIntOf, run_under ht, hj.1, hj.2, run_size hn, h1]
      · cases h
    · cases h
  · cases h

theorem step_idxS (hm : MemRel g M w) (hT : RelT g M w T a) {t : TypeId} {x ix : Operand} (ho : o.op = .index t x ix)
    (ht : P.underlying t = some .string) {out : Out}
    (h : step T M slot (.idxS x ix) = some out) : Res P o a w g M slot out := by
  have hx := rel_ev hT x
  have hi := rel_ev hT ix
  simp only [step] at h
  split at h
  · rename_i kd j ej
    rw [ej] at hi
    have hi' : a.eval ix = .int kd j := hi
    split at h
    · rename_i s e
      rw [e] at hx
      have hx' : a.eval x = .string ⟨s.toArray⟩ := hx
      split at h
      · rename_i hj
        simp only [Option.map_eq_some_iff] at h
        obtain ⟨c, hc, rfl⟩ := h
        refine Res.pure hm rfl (u := .int .u8 c.toNat) (.inl ?_) rfl
        have hlt : j.toNat < s.length := (List.getElem?_eq_some_iff.1 hc).1
        have hsz : (⟨s.toArray⟩ : ByteArray).size = s.length := by simp [ByteArray.size]
        have : (⟨s.toArray⟩ : ByteArray)[j.toNat]? = some c := by
          rw [getElem?_pos _ _ (by rw [hsz]; exact hlt)]
          have := (List.getElem?_eq_some_iff.1 hc).2
          simp [← this]
          rfl
        simp [execOp, ho, hx', hi', Instr.index, asIntOf, run_under ht, hj, this]
      · cases h
    · cases h
  · cases h
theorem eqCells_int : ∀ {xs ys : List AV} {r : Bool} {us vs : List Value}, eqCells xs ys = some r → RelL g M w xs us → RelL g M w ys vs →
    ∀ (fs : List Field) (i : Nat) (A B : Array Value) (d : Nat), fs.length = xs.length → fs.length = ys.length → (∀ x ∈ fs.zipIdx i, (x.1.name != "_" && x.1.offset == x.2 && isIntB P x.1.type) = true) →
      (∀ j, us[j]? = A[i + j]?) → (∀ j, vs[j]? = B[i + j]?) → (Op.eqFields (d + 1) A B fs).run P w = .ok r w
  | [], [], r, us, vs, h, hu, hv, fs, i, A, B, d, hl, hl2, hf, hA, hB => by
    cases h
    obtain rfl : fs = [] := List.length_eq_zero_iff.1 hl
    simp [Op.eqFields]
  | [], _ :: _, r, us, vs, h, hu, hv, fs, i, A, B, d, hl, hl2, hf, hA, hB => by simp [eqCells] at h
  | x :: xs, [], r, us, vs, h, hu, hv, fs, i, A, B, d, hl, hl2, hf, hA, hB => by
    rw [hl2] at hl
    simp at hl
  | x :: xs, y :: ys, r, us, vs, h, hu, hv, fs, i, A, B, d, hl, hl2, hf, hA, hB => by
    cases fs with
    | nil => simp at hl
    | cons f fs =>
    obtain ⟨u, us', rfl, hu1, hu2⟩ := hu
    obtain ⟨v, vs', rfl, hv1, hv2⟩ := hv
    have hf0 := hf (f, i) (by simp)
    simp only [Bool.and_eq_true, bne_iff_ne, ne_eq, beq_iff_eq] at hf0
    obtain ⟨⟨hn, ho⟩, hi⟩ := hf0
    unfold isIntB at hi
    split at hi
    · rename_i k hk
      unfold eqCells at h
      split at h
      · rename_i e1 e2; cases e1
      · rename_i kd a xs1 kd' b ys1 ex ey
        cases ex
        cases ey
        split at h
        · rename_i hkd
          subst hkd
          simp only [Option.map_eq_some_iff] at h
          obtain ⟨r1, h1, rfl⟩ := h
          have hu' : u = .int kd a := hu1
          have hv' : v = .int kd b := hv1
          have hag : isAggB P f.type = some false := by simp [isAggB, hk]
          have pa : (part f.type A f.offset).run P w = .ok (.int kd a) w := by
            have := hA 0
            rw [ho]
            simp [part, run_agg hag, ← hu', Nat.add_zero] at this ⊢
            rw [← this]
            simp
          have pb : (part f.type B f.offset).run P w = .ok (.int kd b) w := by
            have := hB 0
            rw [ho]
            simp [part, run_agg hag, ← hv', Nat.add_zero] at this ⊢
            rw [← this]
            simp
          have ih := eqCells_int h1 hu2 hv2 fs (i + 1) A B d (by simpa using hl) (by simpa using hl2) (fun x hx => hf x (by rw [List.zipIdx_cons]; exact List.mem_cons_of_mem _ hx))
            (fun j => by have := hA (j + 1); rw [show i + 1 + j = i + (j + 1) by omega]; simpa using this) (fun j => by have := hB (j + 1); rw [show i + 1 + j = i + (j + 1) by omega]; simpa using this)
          simp only [Op.eqFields, hn, ne_eq, not_false_eq_true, if_true, Sem.run_bind, pa, pb, Result.andThen_ok, run_equalIn_int w d f.type kd k a b hk, Sem.run_ite]
          by_cases e : a = b
          · subst e
            simp [ih]
          · have e' : (a == b) = false := by simpa using e
            simp [e', e]
        · cases h
      · cases h
    · cases hi
theorem eqCells_items {e : TypeId} (he : isIntB P e = true) : ∀ {xs ys : List AV} {r : Bool} {us vs : List Value}, eqCells xs ys = some r → RelL g M w xs us → RelL g M w ys vs →
    ∀ (i n : Nat) (A B : Array Value) (d : Nat), n = xs.length → n = ys.length →
      (∀ j, us[j]? = A[i + j]?) → (∀ j, vs[j]? = B[i + j]?) → (Op.eqItems (d + 1) e 1 A B (List.range' i n)).run P w = .ok r w
  | [], [], r, us, vs, h, hu, hv, i, n, A, B, d, hl, hl2, hA, hB => by
    cases h
    obtain rfl : n = 0 := hl
    simp [Op.eqItems]
  | [], _ :: _, r, us, vs, h, hu, hv, i, n, A, B, d, hl, hl2, hA, hB => by simp [eqCells] at h
  | x :: xs, [], r, us, vs, h, hu, hv, i, n, A, B, d, hl, hl2, hA, hB => by
    rw [hl2] at hl
    simp at hl
  | x :: xs, y :: ys, r, us, vs, h, hu, hv, i, n, A, B, d, hl, hl2, hA, hB => by
    obtain ⟨m, rfl⟩ : ∃ m, n = m + 1 := ⟨n - 1, by simp at hl; omega⟩
    obtain ⟨u, us', rfl, hu1, hu2⟩ := hu
    obtain ⟨v, vs', rfl, hv1, hv2⟩ := hv
    have hi := he
    unfold isIntB at hi
    split at hi
    · rename_i k hk
      unfold eqCells at h
      split at h
      · rename_i e1 e2; cases e1
      · rename_i kd a xs1 kd' b ys1 ex ey
        cases ex
        cases ey
        split at h
        · rename_i hkd
          subst hkd
          simp only [Option.map_eq_some_iff] at h
          obtain ⟨r1, h1, rfl⟩ := h
          have hu' : u = .int kd a := hu1
          have hv' : v = .int kd b := hv1
          have hag : isAggB P e = some false := by simp [isAggB, hk]
          have pa : (part e A (i * 1)).run P w = .ok (.int kd a) w := by
            have := hA 0
            simp [part, run_agg hag, ← hu', Nat.add_zero] at this ⊢
            rw [← this]
            simp
          have pb : (part e B (i * 1)).run P w = .ok (.int kd b) w := by
            have := hB 0
            simp [part, run_agg hag, ← hv', Nat.add_zero] at this ⊢
            rw [← this]
            simp
          have ih := eqCells_items he h1 hu2 hv2 (i + 1) m A B d (by simpa using hl) (by simpa using hl2)
            (fun j => by have := hA (j + 1); rw [show i + 1 + j = i + (j + 1) by omega]; simpa using this) (fun j => by have := hB (j + 1); rw [show i + 1 + j = i + (j + 1) by omega]; simpa using this)
          simp only [List.range'_succ, Op.eqItems, Sem.run_bind, pa, pb, Result.andThen_ok, run_equalIn_int w d e kd k a b hk, Sem.run_ite]
          by_cases e : a = b
          · subst e
            simp [ih]
          · have e' : (a == b) = false := by simpa using e
            simp [e', e]
        · cases h
      · cases h
    · cases hi
theorem step_eqa (hm : MemRel g M w) (hT : RelT g M w T a) {op : BinOp} {t ty : TypeId} {x y : Operand} {neg : Bool} {n : Nat} (ho : o.op = .binOp op t x y ty)
    (hop : op = (if neg then .neq else .eql)) (h2 : P.eqGuardType P.depth t = false)
    (hE : ∀ (xs ys : List AV) (r : Bool) (us vs : List Value), eqCells xs ys = some r → xs.length = n → ys.length = n → RelL g M w xs us → RelL g M w ys vs → (Op.equal t (.agg us.toArray) (.agg vs.toArray)).run P w = .ok r w) {out : Out}
    (h : step T M slot (.eqa neg n x y) = some out) : Res P o a w g M slot out := by
  have hx := rel_ev hT x
  have hy := rel_ev hT y
  simp only [step] at h
  split at h
  · rename_i xs ys e1 e2
    rw [e1] at hx
    rw [e2] at hy
    obtain ⟨us, hx, hus⟩ := hx
    obtain ⟨vs, hy, hvs⟩ := hy
    split at h
    · rename_i hl
      simp only [Option.map_eq_some_iff] at h
      obtain ⟨r, hr, rfl⟩ := h
      have heq := hE xs ys r us vs hr hl.1 hl.2 hus hvs
      have hg : (eqGuard op t x y (.agg us.toArray) (.agg vs.toArray)).run P w = .ok () w := by
        cases neg <;> simp only [if_true, if_false, Bool.false_eq_true] at hop <;> subst hop <;> simp [eqGuard, h2]
      refine Res.pure hm rfl (u := .bool (if neg then !r else r)) (.inl ?_) (by cases neg <;> rfl)
      cases neg <;> simp only [if_true, if_false, Bool.false_eq_true] at hop <;> subst hop
      · simp [execOp, ho, hx, hy, hg, binOp, heq]
      · simp [execOp, ho, hx, hy, hg, binOp, heq]
    · cases h
  · cases h
theorem step_eqaS (hm : MemRel g M w) (hT : RelT g M w T a) {op : BinOp} {t ty : TypeId} {x y : Operand} {neg : Bool} {fs : Array Field} (ho : o.op = .binOp op t x y ty)
    (hop : op = (if neg then .neq else .eql)) (ht : P.underlying t = some (.struct fs)) (hs : eqStr P t fs = true) {out : Out}
    (h : step T M slot (.eqa neg fs.size x y) = some out) : Res P o a w g M slot out := by
  simp only [eqStr, Bool.and_eq_true, Bool.not_eq_true', List.all_eq_true] at hs
  obtain ⟨⟨h1, h2⟩, h3⟩ := hs
  have hfo : P.fieldsOf t = fs := by simp [Program.fieldsOf, ht]
  refine step_eqa hm hT ho hop h2 ?_ h
  intro xs ys r us vs hr hl1 hl2 hus hvs
  have hst := run_equalIn_struct (P := P) w 9999 t us.toArray vs.toArray (by rw [hfo]; exact ht) h1
  refine (show (Op.equal t (.agg us.toArray) (.agg vs.toArray)).run P w = (Op.equalIn (9999 + 1) t (.agg us.toArray) (.agg vs.toArray)).run P w from rfl).trans (hst.trans ?_)
  rw [hfo]
  refine eqCells_int hr hus hvs fs.toList 0 _ _ 9998 (by simp [hl1]) (by simp [hl2]) ?_ (fun j => by simp) (fun j => by simp)
  intro x hx
  have := h3 x hx
  simpa [Bool.and_eq_true] using this
theorem step_eqaA (hm : MemRel g M w) (hT : RelT g M w T a) {op : BinOp} {t ty e0 : TypeId} {x y : Operand} {neg : Bool} {m : Nat} (ho : o.op = .binOp op t x y ty)
    (hop : op = (if neg then .neq else .eql)) (ht : P.underlying t = some (.array m e0)) (hs : eqArr P t e0 = true) {out : Out}
    (h : step T M slot (.eqa neg m x y) = some out) : Res P o a w g M slot out := by
  simp only [eqArr, Bool.and_eq_true, Bool.not_eq_true', beq_iff_eq] at hs
  obtain ⟨⟨⟨h2, h1⟩, h3⟩, h4⟩ := hs
  obtain ⟨i, hi⟩ := Option.isSome_iff_exists.1 h3
  refine step_eqa hm hT ho hop h2 ?_ h
  intro xs ys r us vs hr hl1 hl2 hus hvs
  have hst := run_equalIn_array (P := P) w 9999 us.toArray vs.toArray ht hi
  refine (show (Op.equal t (.agg us.toArray) (.agg vs.toArray)).run P w = (Op.equalIn (9999 + 1) t (.agg us.toArray) (.agg vs.toArray)).run P w from rfl).trans (hst.trans ?_)
  rw [h4, List.range_eq_range']
  exact eqCells_items h1 hr hus hvs 0 m _ _ 9998 hl1.symm hl2.symm (fun j => by simp) (fun j => by simp)
end
end Go.Vm

namespace Go.Vm
set_option linter.unusedSectionVars false
set_option linter.unusedSimpArgs false
set_option linter.unusedVariables false
open Go
variable [Inhabited LayT]
section
variable {P : Program} {o : Oper} {a : Act} {w : World} {g : Gh} {M : Mem} {slot : Nat} {T : Tm}

theorem size_mk (l : List UInt8) : (⟨l.toArray⟩ : ByteArray).size = l.length := by simp [ByteArray.size]
theorem own_cap {r : Row} {id off n st : Nat} {u : Value} (h : OwnAt g r id off n st u) : ∃ A c, u = .slice A n c ∧ n ≤ c := by
  obtain ⟨_, A, c, h1, h2, _⟩ := h
  exact ⟨A, c, h1, h2⟩

theorem step_lenL (hm : MemRel g M w) (hT : RelT g M w T a) {t e0 : TypeId} {x : Operand} {ts : Array TypeId} (ho : o.op = .call { callee := .builtin .len, args := #[x], argTypes := ts })
    (hts : ts[0]? = some t) (ht : P.underlying t = some (.slice e0)) {out : Out}
    (h : step T M slot (.lenL x) = some out) : Res P o a w g M slot out := by
  have hx := rel_ev hT x
  have key : ∀ A n c, a.eval x = .slice A n c → OpRun P o a w (.int .i64 n) w := by
    intro A n c e
    exact .inl (by simp [execOp, ho, resolve, invoke, builtin, Builtin.len_, hts, e, run_under ht, goInt])
  simp only [step] at h
  split at h
  · rename_i id off n st e
    rw [e] at hx
    simp only [Option.map_eq_some_iff] at h
    obtain ⟨r, hr, rfl⟩ := h
    obtain ⟨A, c, hu, _⟩ := own_cap (hx.2 r hr)
    exact Res.pure hm rfl (key _ _ _ hu) rfl
  · rename_i sz xs e
    rw [e] at hx
    obtain rfl := Option.some.inj h
    obtain ⟨A, c, hu, _⟩ := hx
    exact Res.pure hm rfl (key _ _ _ hu) rfl
  · rename_i e
    rw [e] at hx
    obtain rfl := Option.some.inj h
    exact Res.pure hm rfl (key none 0 0 hx) rfl
  · cases h

theorem step_capL (hm : MemRel g M w) (hT : RelT g M w T a) {t e0 : TypeId} {x : Operand} {ts : Array TypeId} (ho : o.op = .call { callee := .builtin .cap, args := #[x], argTypes := ts })
    (hts : ts[0]? = some t) (ht : P.underlying t = some (.slice e0)) {out : Out}
    (h : step T M slot (.capL x) = some out) : Res P o a w g M slot out := by
  have hx := rel_ev hT x
  simp only [step] at h
  split at h
  · rename_i e
    rw [e] at hx
    have hx' : a.eval x = .slice none 0 0 := hx
    obtain rfl := Option.some.inj h
    refine Res.pure hm rfl (u := .int .i64 0) (.inl ?_) rfl
    simp [execOp, ho, resolve, invoke, builtin, Builtin.cap_, hts, hx', run_under ht, goInt]
  · cases h

theorem step_lenS (hm : MemRel g M w) (hT : RelT g M w T a) {t : TypeId} {x : Operand} {ts : Array TypeId} (ho : o.op = .call { callee := .builtin .len, args := #[x], argTypes := ts })
    (hts : ts[0]? = some t) (ht : P.underlying t = some .string) {out : Out}
    (h : step T M slot (.lenS x) = some out) : Res P o a w g M slot out := by
  have hx := rel_ev hT x
  simp only [step] at h
  split at h
  · rename_i s e
    rw [e] at hx
    have hx' : a.eval x = .string ⟨s.toArray⟩ := hx
    obtain rfl := Option.some.inj h
    refine Res.pure hm rfl (u := .int .i64 s.length) (.inl ?_) rfl
    simp [execOp, ho, resolve, invoke, builtin, Builtin.len_, hts, hx', run_under ht, goInt, size_mk]
  · cases h

theorem step_lenC (hm : MemRel g M w) {t e0 : TypeId} {x : Operand} {m : Nat} {ts : Array TypeId} (ho : o.op = .call { callee := .builtin .len, args := #[x], argTypes := ts })
    (hts : ts[0]? = some t) (ht : P.underlying t = some (.array m e0)) {out : Out}
    (h : step T M slot (.lenC m) = some out) : Res P o a w g M slot out := by
  simp only [step] at h
  obtain rfl := Option.some.inj h
  refine Res.pure hm rfl (u := .int .i64 m) (.inl ?_) rfl
  simp only [execOp, ho, resolve, invoke, builtin, Builtin.len_]
  simp [hts, run_under ht, goInt]

theorem step_idxA (hm : MemRel g M w) (hT : RelT g M w T a) {t e0 : TypeId} {sz : Nat} {x ix : Operand} (ho : o.op = .indexAddr t x ix)
    (ht : P.underlying t = some (.slice e0)) (hn : sizeB P e0 = some sz) {out : Out}
    (h : step T M slot (.idxA sz x ix) = some out) : Res P o a w g M slot out := by
  have hx := rel_ev hT x
  have hi := rel_ev hT ix
  simp only [step] at h
  split at h
  · rename_i kd j ej
    rw [ej] at hi
    have hi' : a.eval ix = .int kd j := hi
    have key : ∀ b o' n c, a.eval x = .slice (some ⟨b, o', none⟩) n c → 0 ≤ j → j < n → OpRun P o a w (.pointer (some ⟨b, o' + j.toNat * sz, none⟩)) w := by
      intro b o' n c e h0 h1
      exact .inl (by simp [execOp, ho, Instr.indexAt, asIntOf, hi', e, run_under ht, h0, h1, run_size hn, addr_add])
    split at h
    · rename_i id off n st e
      rw [e] at hx
      simp only [Option.bind_eq_some_iff] at h
      obtain ⟨r, hr, h⟩ := h
      split at h
      · rename_i hj
        obtain rfl := Option.some.inj h
        obtain ⟨hlen, A, c, hu, hnc, hA⟩ := hx.2 r hr
        obtain ⟨rb, ro, size, hat, hA', _⟩ := hA (by omega)
        subst hA'
        refine Res.pure hm rfl (key _ _ _ _ hu hj.1 hj.2.1) ⟨hx.1, fun r' hr' => ?_⟩
        rw [hr] at hr'
        cases hr'
        have hst : 0 < st := hj.2.2.2
        have hjn : j.toNat < n := by omega
        refine ⟨?_, rb, ro, size, hat, ?_⟩
        · have h1 : (j.toNat + 1) * st ≤ n * st := Nat.mul_le_mul_right _ (by omega)
          rw [Nat.add_mul] at h1
          omega
        · rw [hj.2.2.1, Nat.add_mul, Nat.mul_assoc]; simp [Nat.add_assoc]
      · cases h
    · rename_i sz' xs e
      rw [e] at hx
      split at h
      · rename_i hj
        simp only [Option.map_eq_some_iff] at h
        obtain ⟨cs, hcs, rfl⟩ := h
        obtain ⟨A, c, hu, hle, hor⟩ := hx
        have hlt := (List.getElem?_eq_some_iff.1 hcs).1
        rcases hor with rfl | ⟨blk, off, rfl, hz, hD⟩
        · simp at hlt
        · obtain ⟨h1, h2⟩ := relD_get j.toNat hD hcs
          exact Res.pure hm rfl (key _ _ _ _ hu hj.1 (by omega)) ⟨blk, off + j.toNat * sz, rfl, hz, by rw [← hj.2]; exact h2⟩
      · cases h
    · cases h
  · cases h
end
end Go.Vm

namespace Go.Vm
set_option linter.unusedSectionVars false
set_option linter.unusedSimpArgs false
set_option linter.unusedVariables false
open Go
variable [Inhabited LayT]
section
variable {P : Program} {o : Oper} {a : Act} {w : World} {g : Gh} {M : Mem} {slot : Nat} {T : Tm}

theorem step_idxP (hm : MemRel g M w) (hT : RelT g M w T a) {t e0 : TypeId} {m sz : Nat} {x ix : Operand} (ho : o.op = .indexAddr t x ix)
    (ht : P.underlying t = some (.array m e0)) (hn : sizeB P e0 = some sz) {out : Out}
    (h : step T M slot (.idxP m sz x ix) = some out) : Res P o a w g M slot out := by
  have hx := rel_ev hT x
  have hi := rel_ev hT ix
  simp only [step] at h
  split at h
  · rename_i kd j ej
    rw [ej] at hi
    have hi' : a.eval ix = .int kd j := hi
    split at h
    · rename_i hj
      have key : ∀ b o', a.eval x = .pointer (some ⟨b, o', none⟩) → OpRun P o a w (.pointer (some ⟨b, o' + j.toNat * sz, none⟩)) w := by
        intro b o' e
        exact .inl (by simp [execOp, ho, Instr.indexAt, asIntOf, hi', e, run_under ht, hj.1, hj.2, run_size hn, addr_add, Instr.sureAddr])
      split at h
      · rename_i id i o' e
        rw [e] at hx
        simp only [Option.map_eq_some_iff] at h
        obtain ⟨r, hr, rfl⟩ := h
        obtain ⟨hi2, rb, ro, size, hat, hu⟩ := hx.2 r hr
        refine Res.pure hm rfl (key _ _ hu) ⟨hx.1, fun r' hr' => ?_⟩
        rw [hr] at hr'
        cases hr'
        exact ⟨hi2, rb, ro, size, hat, by rw [Nat.add_assoc]⟩
      · rename_i cs e
        rw [e] at hx
        obtain ⟨blk, o', hu, hz, hM⟩ := hx
        obtain rfl := Option.some.inj h
        exact Res.pure hm rfl (key _ _ hu) ⟨blk, o' + j.toNat * sz, rfl, hz, relM_drop _ hM⟩
      · cases h
    · cases h
  · cases h

theorem step_gix (hm : MemRel g M w) (hT : RelT g M w T a) {t e0 : TypeId} {m sz gi : Nat} {ix : Operand} (ho : o.op = .indexAddr t (.global gi) ix)
    (ht : P.underlying t = some (.array m e0)) (hn : sizeB P e0 = some sz) {out : Out}
    (h : step T M slot (.gix gi m sz ix) = some out) : Res P o a w g M slot out := by
  have hi := rel_ev hT ix
  simp only [step] at h
  split at h
  · rename_i kd j ej
    rw [ej] at hi
    have hi' : a.eval ix = .int kd j := hi
    split at h
    · rename_i hj
      obtain ⟨cs, hcs, rfl⟩ := Option.map_eq_some_iff.1 h
      obtain ⟨hz, hr⟩ := (default : LayT).glr (M := M) hm.lay hcs
      have key : OpRun P o a w (.pointer (some ⟨gi, 0 + j.toNat * sz, none⟩)) w := by
        have e : a.eval (.global gi) = .pointer (some ⟨gi, 0, none⟩) := rfl
        exact .inl (by simp [execOp, ho, Instr.indexAt, asIntOf, hi', e, run_under ht, hj.1, hj.2, run_size hn, addr_add, Instr.sureAddr])
      exact Res.pure hm rfl key ⟨gi, 0 + j.toNat * sz, rfl, hz, relM_drop _ hr⟩
    · cases h
  · cases h
theorem bound_run (hT : RelT g M w T a) {d : Nat} {x : Option Operand} {n : Int} (h : bound T d x = some n) :
    (x = none ∧ n = d) ∨ ∃ y kd, x = some y ∧ a.eval y = .int kd n := by
  unfold bound at h
  split at h
  · exact .inl ⟨rfl, (Option.some.inj h).symm⟩
  · rename_i y
    split at h
    · rename_i kd n' e
      obtain rfl := Option.some.inj h
      have := rel_ev hT y
      rw [e] at this
      exact .inr ⟨y, kd, rfl, this⟩
    · cases h

theorem run_bounds (hT : RelT g M w T a) {isS : Bool} {lo hi : Option Operand} {len cap : Nat} {l h : Int} (hl : bound T 0 lo = some l) (hh : bound T len hi = some h)
    (h0 : 0 ≤ l) (h1 : l ≤ h) (h2 : h ≤ len) (hc : len ≤ cap) :
    (Instr.sliceBounds isS len cap (lo.map a.eval) (hi.map a.eval) none).run P w = .ok (l.toNat, h.toNat, cap) w := by
  unfold Instr.sliceBounds
  have c1 : h ≤ cap := by omega
  have c2 : 0 ≤ h := by omega
  have c3 : h.toNat = h := by omega
  rcases bound_run (a := a) (g := g) (M := M) (w := w) hT hl with ⟨rfl, rfl⟩ | ⟨y, kd, rfl, ey⟩ <;> rcases bound_run (a := a) (g := g) (M := M) (w := w) hT hh with ⟨rfl, rfl⟩ | ⟨z, kd', rfl, ez⟩ <;>
    simp [*, Instr.sliceBound, asIntOf]

theorem step_slc (hm : MemRel g M w) (hT : RelT g M w T a) {t e0 : TypeId} {sz : Nat} {x : Operand} {lo hi : Option Operand} (ho : o.op = .slice t x lo hi none)
    (ht : P.underlying t = some (.slice e0)) (hn : sizeB P e0 = some sz) {out : Out}
    (h : step T M slot (.slc sz x lo hi) = some out) : Res P o a w g M slot out := by
  have hx := rel_ev hT x
  have key : ∀ A n c l h, a.eval x = .slice A n c → n ≤ c → bound T 0 lo = some l → bound T n hi = some h → 0 ≤ l → l ≤ h → h ≤ n →
      OpRun P o a w (.slice (if c = l.toNat then A else A.map (·.add (l.toNat * sz))) (h.toNat - l.toNat) (c - l.toNat)) w := by
    intro A n c l h e hnc hl hh h0 h1 h2
    have := run_bounds (P := P) (isS := true) hT hl hh h0 h1 h2 hnc
    exact .inl (by simp [execOp, ho, Instr.sliceAt, Instr.slice, e, run_under ht, this, run_size hn])
  simp only [step] at h
  split at h
  · rename_i id off n st e
    rw [e] at hx
    simp only [Option.bind_eq_some_iff] at h
    obtain ⟨l, hl, h', hh, r, hr, h⟩ := h
    split at h
    · rename_i hc
      obtain rfl := Option.some.inj h
      obtain ⟨hlen, A, c, hu, hnc, hA⟩ := hx.2 r hr
      refine Res.pure hm rfl (key _ _ _ _ _ hu hnc hl hh hc.1 hc.2.1 hc.2.2.1) ⟨hx.1, fun r' hr' => ?_⟩
      rw [hr] at hr'
      cases hr'
      have e1 : l.toNat * st + (h'.toNat - l.toNat) * st = h'.toNat * st := by rw [← Nat.add_mul]; congr 1; omega
      have e2 : h'.toNat * st ≤ n * st := Nat.mul_le_mul_right _ (by omega)
      refine ⟨by omega, _, _, rfl, by omega, fun hpos => ?_⟩
      obtain ⟨rb, ro, size, hat, hA', hs⟩ := hA (by omega)
      have e3 : l.toNat * st + (c - l.toNat) * st = c * st := by rw [← Nat.add_mul]; congr 1; omega
      refine ⟨rb, ro, size, hat, ?_, ?_⟩
      · rw [if_neg (by omega), hA', Option.map_some, addr_add, hc.2.2.2, Nat.add_mul, Nat.mul_assoc, Nat.add_assoc]
      · rw [show off + l.toNat * st + (c - l.toNat) * st = off + c * st by omega]; exact hs
    · cases h
  · rename_i sz' xs e
    rw [e] at hx
    simp only [Option.bind_eq_some_iff] at h
    obtain ⟨l, hl, h', hh, h⟩ := h
    split at h
    · rename_i hc
      obtain rfl := Option.some.inj h
      obtain ⟨A, c, hu, hle, hor⟩ := hx
      have hlen : ((xs.drop l.toNat).take (h'.toNat - l.toNat)).length = h'.toNat - l.toNat := by simp; omega
      refine Res.pure hm rfl (key _ _ _ _ _ hu hle hl hh hc.1 hc.2.1 hc.2.2.1) ⟨_, _, by rw [hlen], by rw [hlen]; omega, ?_⟩
      by_cases hempty : h'.toNat - l.toNat = 0
      · exact .inl (List.eq_nil_of_length_eq_zero (by rw [hlen]; exact hempty))
      · rcases hor with rfl | ⟨blk, off, rfl, hz, hD⟩
        · simp at hc; omega
        · have hs : sz' = sz := by
            rcases hc.2.2.2 with h | h
            · exact h
            · subst h; simp at hc; omega
          subst hs
          refine .inr ⟨blk, off + l.toNat * sz', ?_, hz, relD_take _ (relD_drop _ hD)⟩
          rw [if_neg (by omega), Option.map_some, addr_add]
    · cases h
  · rename_i e
    rw [e] at hx
    simp only [Option.bind_eq_some_iff] at h
    obtain ⟨l, hl, h', hh, h⟩ := h
    split at h
    · rename_i hc
      obtain rfl := Option.some.inj h
      obtain ⟨rfl, rfl⟩ := hc
      have := key none 0 0 0 0 hx (Nat.le_refl _) hl hh (by omega) (by omega) (by omega)
      exact Res.pure hm rfl this (by simp [Rel])
    · cases h
  · cases h

theorem bound_run' (hT : RelT g M w T a) {d : Nat} {y : Operand} {n : Int} (h : bound T d (some y) = some n) : ∃ kd, a.eval y = .int kd n := by
  rcases bound_run (a := a) (g := g) (M := M) (w := w) hT h with ⟨h, _⟩ | ⟨z, kd, h, e⟩
  · cases h
  · cases h; exact ⟨kd, e⟩
theorem run_bounds3 (hT : RelT g M w T a) {lo : Option Operand} {hi mx : Operand} {len cap : Nat} {l h m : Int} (hl : bound T 0 lo = some l) (hh : bound T len (some hi) = some h) (hmx : bound T len (some mx) = some m)
    (h0 : 0 ≤ l) (h1 : l ≤ h) (h2 : h ≤ m) (h3 : m ≤ len) (hc : len ≤ cap) :
    (Instr.sliceBounds true len cap (lo.map a.eval) (some (a.eval hi)) (some (a.eval mx))).run P w = .ok (l.toNat, h.toNat, m.toNat) w := by
  unfold Instr.sliceBounds
  have c1 : m ≤ cap := by omega
  have c2 : 0 ≤ h := by omega
  have c3 : h.toNat = h := by omega
  have c4 : 0 ≤ m := by omega
  have c5 : m.toNat = m := by omega
  obtain ⟨kh, eh⟩ := bound_run' (a := a) (g := g) (M := M) (w := w) hT hh
  obtain ⟨km, em⟩ := bound_run' (a := a) (g := g) (M := M) (w := w) hT hmx
  rcases bound_run (a := a) (g := g) (M := M) (w := w) hT hl with ⟨rfl, rfl⟩ | ⟨y, kd, rfl, ey⟩ <;>
    simp [*, Instr.sliceBound, asIntOf]

theorem step_slc3 (hm : MemRel g M w) (hT : RelT g M w T a) {t e0 : TypeId} {sz : Nat} {x : Operand} {lo : Option Operand} {hi mx : Operand} (ho : o.op = .slice t x lo (some hi) (some mx))
    (ht : P.underlying t = some (.slice e0)) (hn : sizeB P e0 = some sz) {out : Out}
    (h : step T M slot (.slc3 sz x lo hi mx) = some out) : Res P o a w g M slot out := by
  have hx := rel_ev hT x
  have key : ∀ A n c l h m, a.eval x = .slice A n c → n ≤ c → bound T 0 lo = some l → bound T n (some hi) = some h → bound T n (some mx) = some m → 0 ≤ l → l ≤ h → h ≤ m → m ≤ n →
      OpRun P o a w (.slice (if m.toNat = l.toNat then A else A.map (·.add (l.toNat * sz))) (h.toNat - l.toNat) (m.toNat - l.toNat)) w := by
    intro A n c l h m e hnc hl hh hmx h0 h1 h2 h3
    have := run_bounds3 (P := P) (a := a) (g := g) (M := M) (w := w) hT hl hh hmx h0 h1 h2 h3 hnc
    exact .inl (by simp [execOp, ho, Instr.sliceAt, Instr.slice, e, run_under ht, this, run_size hn])
  simp only [step] at h
  split at h
  · rename_i id off n st e
    rw [e] at hx
    simp only [Option.bind_eq_some_iff] at h
    obtain ⟨l, hl, h', hh, m, hmx, r, hr, h⟩ := h
    split at h
    · rename_i hc
      obtain rfl := Option.some.inj h
      obtain ⟨hlen, A, c, hu, hnc, hA⟩ := hx.2 r hr
      refine Res.pure hm rfl (key _ _ _ _ _ _ hu hnc hl hh hmx hc.1 hc.2.1 hc.2.2.1 hc.2.2.2.1) ⟨hx.1, fun r' hr' => ?_⟩
      rw [hr] at hr'
      cases hr'
      have e1 : l.toNat * st + (h'.toNat - l.toNat) * st = h'.toNat * st := by rw [← Nat.add_mul]; congr 1; omega
      have e2 : h'.toNat * st ≤ n * st := Nat.mul_le_mul_right _ (by omega)
      refine ⟨by omega, _, _, rfl, by omega, fun hpos => ?_⟩
      obtain ⟨rb, ro, size, hat, hA', hs⟩ := hA (by omega)
      have e3 : l.toNat * st + (m.toNat - l.toNat) * st = m.toNat * st := by rw [← Nat.add_mul]; congr 1; omega
      have e5 : m.toNat * st ≤ c * st := Nat.mul_le_mul_right _ (by omega)
      have e6 : (off + l.toNat * st + (m.toNat - l.toNat) * st) * r.sz ≤ (off + c * st) * r.sz := Nat.mul_le_mul_right _ (by omega)
      refine ⟨rb, ro, size, hat, ?_, ?_⟩
      · rw [if_neg (by omega), hA', Option.map_some, addr_add, hc.2.2.2.2, Nat.add_mul, Nat.mul_assoc, Nat.add_assoc]
      · omega
    · cases h
  · rename_i sz' xs e
    rw [e] at hx
    simp only [Option.bind_eq_some_iff] at h
    obtain ⟨l, hl, h', hh, m, hmx, h⟩ := h
    split at h
    · rename_i hc
      obtain rfl := Option.some.inj h
      obtain ⟨A, c, hu, hle, hor⟩ := hx
      have hlen : ((xs.drop l.toNat).take (h'.toNat - l.toNat)).length = h'.toNat - l.toNat := by simp; omega
      refine Res.pure hm rfl (key _ _ _ _ _ _ hu hle hl hh hmx hc.1 hc.2.1 hc.2.2.1 hc.2.2.2.1) ⟨_, _, by rw [hlen], by rw [hlen]; omega, ?_⟩
      by_cases hempty : h'.toNat - l.toNat = 0
      · exact .inl (List.eq_nil_of_length_eq_zero (by rw [hlen]; exact hempty))
      · rcases hor with rfl | ⟨blk, off, rfl, hz, hD⟩
        · simp at hc; omega
        · have hs : sz' = sz := by
            rcases hc.2.2.2.2 with h | h
            · exact h
            · subst h; simp at hc; omega
          subst hs
          refine .inr ⟨blk, off + l.toNat * sz', ?_, hz, relD_take _ (relD_drop _ hD)⟩
          rw [if_neg (by omega), Option.map_some, addr_add]
    · cases h
  · cases h

theorem step_slcS (hm : MemRel g M w) (hT : RelT g M w T a) {t : TypeId} {x : Operand} {lo hi : Option Operand} (ho : o.op = .slice t x lo hi none)
    (ht : P.underlying t = some .string) {out : Out}
    (h : step T M slot (.slcS x lo hi) = some out) : Res P o a w g M slot out := by
  have hx := rel_ev hT x
  simp only [step] at h
  split at h
  · rename_i s e
    rw [e] at hx
    have hx' : a.eval x = .string ⟨s.toArray⟩ := hx
    simp only [Option.bind_eq_some_iff] at h
    obtain ⟨l, hl, h', hh, h⟩ := h
    split at h
    · rename_i hc
      obtain rfl := Option.some.inj h
      have hb := run_bounds (P := P) (isS := false) hT hl hh hc.1 hc.2.1 hc.2.2 (Nat.le_refl _)
      refine Res.pure hm rfl (u := .string ⟨((s.drop l.toNat).take (h'.toNat - l.toNat)).toArray⟩) (.inl ?_) rfl
      have hex : (⟨s.toArray⟩ : ByteArray).extract l.toNat h'.toNat = ⟨((s.drop l.toNat).take (h'.toNat - l.toNat)).toArray⟩ := by
        apply ByteArray.ext
        simp [ByteArray.data_extract]
      simp [execOp, ho, Instr.sliceAt, Instr.slice, hx', run_under ht, size_mk, hb, hex]
    · cases h
  · cases h

theorem step_slcA (hm : MemRel g M w) (hT : RelT g M w T a) {t e0 : TypeId} {m sz : Nat} {x : Operand} {lo hi : Option Operand} (ho : o.op = .slice t x lo hi none)
    (ht : P.underlying t = some (.array m e0)) (hn : sizeB P e0 = some sz) {out : Out}
    (h : step T M slot (.slcA m sz x lo hi) = some out) : Res P o a w g M slot out := by
  have hx := rel_ev hT x
  simp only [step] at h
  split at h
  · rename_i id i o' e
    rw [e] at hx
    simp only [Option.bind_eq_some_iff] at h
    obtain ⟨l, hl, h', hh, r, hr, h⟩ := h
    split at h
    · rename_i hc
      obtain rfl := Option.some.inj h
      obtain ⟨hi, rb, ro, size, hat, hu⟩ := hx.2 r hr
      obtain ⟨_, _, hsz, _⟩ := row_at hm hr hat (by rw [hc.1]; decide)
      have hb := run_bounds (P := P) (isS := false) hT hl hh hc.2.1 hc.2.2.1 hc.2.2.2.1 (Nat.le_refl _)
      have e1 : l.toNat * sz + (h'.toNat - l.toNat) * sz = h'.toNat * sz := by rw [← Nat.add_mul]; congr 1; omega
      have e2 : h'.toNat * sz ≤ m * sz := Nat.mul_le_mul_right _ (by omega)
      have e3 : l.toNat * sz + (m - l.toNat) * sz = m * sz := by rw [← Nat.add_mul]; congr 1; omega
      rw [hc.1] at hu hsz
      refine Res.pure hm rfl (u := .slice (some (if m = l.toNat then ⟨rb, ro + i * 1 + o', none⟩ else (⟨rb, ro + i * 1 + o', none⟩ : Addr).add (l.toNat * sz))) (h'.toNat - l.toNat) (m - l.toNat)) (.inl ?_) ⟨hx.1, fun r' hr' => ?_⟩
      · simp [execOp, ho, Instr.sliceAt, hu, run_under ht, Instr.sureAddr, hb, run_size hn]
      · rw [hr] at hr'
        cases hr'
        refine ⟨by omega, _, _, rfl, by omega, fun hpos => ⟨rb, ro, size, hat, ?_, ?_⟩⟩
        · rw [if_neg (by omega), addr_add, hc.1]; congr 2; omega
        · rw [hc.1]; omega
    · cases h
  · cases h
end
end Go.Vm

namespace Go.Vm
set_option linter.unusedSectionVars false
set_option linter.unusedSimpArgs false
set_option linter.unusedVariables false
open Go
variable [Inhabited LayT]

/-- The ghost with one row more. -/
def Gh.add (g : Gh) (slot : Nat) (x : Option (Nat × Nat × Nat)) : Gh :=
  { g with at_ := fun id => if id = slot then x else g.at_ id, L := fun id => g.L id ∨ id = slot }

section
variable {P : Program} {g : Gh} {M M' : Mem} {w w' : World} {slot : Nat}

theorem relD_of_flat {sz blk : Nat} : ∀ {el : List (List AV)} {off : Nat} {us : List Value}, (∀ cs ∈ el, cs.length = sz) → RelL g M w el.flatten us → (∀ v ∈ us, v.oneCell' = true) →
    (∀ j v, us[j]? = some v → w.cell? ⟨blk, off + j, none⟩ = some v) → RelD g M w sz blk off el
  | [], _, _, _, _, _, _ => trivial
  | cs :: el, off, us, hl, hr, h1c, hc => by
    rw [List.flatten_cons] at hr
    have key : ∀ {xs ys : List AV} {us : List Value}, RelL g M w (xs ++ ys) us → ∃ u1 u2, us = u1 ++ u2 ∧ RelL g M w xs u1 ∧ RelL g M w ys u2 := by
      intro xs
      induction xs with
      | nil => intro ys us h; exact ⟨[], us, rfl, rfl, h⟩
      | cons x xs ih =>
        intro ys us h
        obtain ⟨u, r, rfl, h1, h2⟩ := h
        obtain ⟨u1, u2, rfl, h3, h4⟩ := ih h2
        exact ⟨u :: u1, u2, rfl, ⟨u, u1, rfl, h1, h3⟩, h4⟩
    obtain ⟨u1, u2, rfl, h1, h2⟩ := key hr
    have hlen := relL_length h1
    have hcs : cs.length = sz := hl cs (by simp)
    refine ⟨⟨hcs, ?_⟩, relD_of_flat (us := u2) (fun c hc => hl c (by simp [hc])) h2 (fun v hv => h1c v (by simp [hv])) (fun j v hj => ?_)⟩
    · have km : ∀ {xs : List AV} {us : List Value} {off : Nat}, RelL g M w xs us → (∀ v ∈ us, v.oneCell' = true) → (∀ j v, us[j]? = some v → w.cell? ⟨blk, off + j, none⟩ = some v) → RelM g M w blk off xs := by
        intro xs
        induction xs with
        | nil => intro _ _ _ _ _; trivial
        | cons x xs ih =>
          intro us off h h1c hc
          obtain ⟨u, r, rfl, h1, h2⟩ := h
          exact ⟨⟨u, by simpa using hc 0 u rfl, h1c u (by simp), h1⟩, ih h2 (fun v hv => h1c v (by simp [hv])) (fun j v hj => by rw [show off + 1 + j = off + (j + 1) by omega]; exact hc (j + 1) v (by simpa using hj))⟩
      exact km h1 (fun v hv => h1c v (by simp [hv])) (fun j v hj => hc j v (by rw [List.getElem?_append_left (by rw [List.getElem?_eq_some_iff] at hj; exact hj.1)]; exact hj))
    · rw [show off + sz + j = off + (sz + j) by omega]
      exact hc (sz + j) v (by rw [List.getElem?_append_right (by omega)]; rw [show sz + j - u1.length = j by omega]; exact hj)

theorem flat_of_relD {sz blk : Nat} : ∀ {el : List (List AV)} {off : Nat}, RelD g M w sz blk off el →
    (∀ cs ∈ el, cs.length = sz) ∧ ∃ us, RelL g M w el.flatten us ∧ us.length = el.length * sz ∧ (∀ v ∈ us, v.oneCell' = true) ∧ ∀ j v, us[j]? = some v → w.cell? ⟨blk, off + j, none⟩ = some v
  | [], _, _ => ⟨by simp, [], rfl, by simp, by simp, by simp⟩
  | cs :: el, off, ⟨⟨h0, h1⟩, h2⟩ => by
    obtain ⟨ha, us, hb, hc, h1c, hd⟩ := flat_of_relD h2
    obtain ⟨vs, he, h1v, hf⟩ := relM_vals h1
    have hvl := relL_length he
    have happ : ∀ {xs ys : List AV} {u1 u2 : List Value}, RelL g M w xs u1 → RelL g M w ys u2 → RelL g M w (xs ++ ys) (u1 ++ u2) := by
      intro xs
      induction xs with
      | nil => intro ys u1 u2 h k; rw [show u1 = [] from h]; exact k
      | cons x xs ih =>
        intro ys u1 u2 h k
        obtain ⟨u, r, rfl, h1, h2⟩ := h
        exact ⟨u, r ++ u2, rfl, h1, ih h2 k⟩
    refine ⟨by intro c hc; rcases List.mem_cons.1 hc with rfl | hc; exact h0; exact ha c hc, vs ++ us, by rw [List.flatten_cons]; exact happ he hb, by simp [hc, hvl, h0, Nat.add_mul]; omega, fun v hv => by rcases List.mem_append.1 hv with hv | hv; exact h1v v hv; exact h1c v hv, fun j v hj => ?_⟩
    rcases Nat.lt_or_ge j vs.length with hlt | hge
    · rw [List.getElem?_append_left hlt] at hj
      exact hf j v hj
    · rw [List.getElem?_append_right hge] at hj
      have := hd _ v hj
      rwa [show off + sz + (j - vs.length) = off + j by omega] at this

theorem relL_append {xs ys : List AV} : ∀ {u1 u2 : List Value}, RelL g M w xs u1 → RelL g M w ys u2 → RelL g M w (xs ++ ys) (u1 ++ u2) := by
  induction xs with
  | nil => intro u1 u2 h k; rw [show u1 = [] from h]; exact k
  | cons x xs ih =>
    intro u1 u2 h k
    obtain ⟨u, r, rfl, h1, h2⟩ := h
    exact ⟨u, r ++ u2, rfl, h1, ih h2 k⟩

/-- What a new world must keep where a row is laid into block rb. -/
structure Grew (g : Gh) (w w' : World) (rb : Nat) : Prop where
  os : w'.os = w.os
  tape : w'.tape = w.tape
  output : w'.output = w.output ∧ w.drawn ≤ w'.drawn
  size : w.heap.size ≤ w'.heap.size
  keep : ∀ b, b < w.heap.size → b ≠ rb → w'.heap[b]? = w.heap[b]?
  free : ¬ g.U rb

theorem install (hm : MemRel g M w) (hs : ¬ g.L slot) {r : Row} {rb ro size : Nat} (hG : Grew g w w' rb)
    (h1 : M' slot = some r) (h2 : ∀ id, id ≠ slot → M' id = M id ∨ M' id = none)
    (hno : ∀ id r', id ≠ slot → M' id = some r' → ∀ x, g.at_ id = some x → x.1 ≠ rb)
    (hsz : r.sz ≠ 0) (hty : TyAt w' rb ro r.ty) (hblk : BlockAt w' rb size) (hfit : ro + r.el.length * r.sz ≤ size)
    (hl : ∀ cs ∈ r.el, cs.length = r.sz) {us : List Value} (hus : RelL g M w r.el.flatten us) (h1c : ∀ v ∈ us, v.oneCell' = true) (hc : ∀ j v, us[j]? = some v → w'.cell? ⟨rb, ro + j, none⟩ = some v) :
    MemRel (g.add slot (some (rb, ro, size))) M' w' ∧ Evo g M w (g.add slot (some (rb, ro, size))) M' w' := by
  have hE : Evo g M w (g.add slot (some (rb, ro, size))) M' w' := {
    L := fun id h => .inl h
    Z := fun _ h => h
    Zn := fun _ h => .inl h
    U := fun _ h => h
    keep := fun b hb => hG.keep b (hm.ul b hb) (fun e => hG.free (e ▸ hb))
    size := hG.size
    os := hG.os
    tape := hG.tape
    output := hG.output
    ids := fun id hid r' hr' => by
      have hne : id ≠ slot := fun e => hs (e ▸ hid)
      rcases h2 id hne with h | h
      · rw [h] at hr'
        exact ⟨r', hr', by simp [Gh.add, hne], rfl, rfl⟩
      · rw [h] at hr'; cases hr' }
  refine ⟨{ zu := hm.zu, lay := hm.lay.evo hm.zu hE, ul := fun b hb => Nat.lt_of_lt_of_le (hm.ul b hb) hG.size, known := fun id r' hr' => ?_, row := fun id r' hr' => ?_, inj := ?_ }, hE⟩
  · by_cases e : id = slot
    · exact .inr e
    · rcases h2 id e with h | h
      · rw [h] at hr'; exact .inl (hm.known id r' hr')
      · rw [h] at hr'; cases hr'
  · by_cases e : id = slot
    · subst e
      rw [h1] at hr'
      cases hr'
      refine .inr ⟨rb, ro, size, by simp [Gh.add], hG.free, .inl ⟨hsz, hblk, hfit, relD_of_flat hl (RelL.evo hE hm.zu _ _ hus) h1c hc, hty⟩⟩
    · have hr0 := hr'
      rcases h2 id e with h | h
      · rw [h] at hr'
        rcases hm.row id r' hr' with ⟨k1, k2⟩ | ⟨rb', ro', size', k1, k2, k3⟩
        · exact .inl ⟨k1, by simp [Gh.add, e, k2]⟩
        · have hb' : w'.heap[rb']? = w.heap[rb']? := by
            obtain ⟨ob, k6⟩ := k3.obj
            exact hG.keep rb' (Array.getElem?_eq_some_iff.1 k6).1 (hno id r' e hr0 _ k1)
          exact .inr ⟨rb', ro', size', by simp [Gh.add, e, k1], k2, k3.evo hE hm.zu hb'⟩
      · rw [h] at hr'; cases hr'
  · intro id id' r1 r2 x x' e1 e2 e3 e4 e5
    by_cases c1 : id = slot <;> by_cases c2 : id' = slot
    · rw [c1, c2]
    · exfalso
      simp [Gh.add, c1] at e3
      simp [Gh.add, c2] at e4
      refine hno id' r2 c2 e2 _ e4 ?_
      rw [← e5, ← e3]
    · exfalso
      simp [Gh.add, c1] at e3
      simp [Gh.add, c2] at e4
      refine hno id r1 c1 e1 _ e3 ?_
      rw [e5, ← e4]
    · simp [Gh.add, c1] at e3
      simp [Gh.add, c2] at e4
      have f1 : M id = some r1 := by rcases h2 id c1 with h | h <;> rw [h] at e1; exact e1; cases e1
      have f2 : M id' = some r2 := by rcases h2 id' c2 with h | h <;> rw [h] at e2; exact e2; cases e2
      exact hm.inj id id' r1 r2 x x' f1 f2 e3 e4 e5

/-- A row without any cell, that lies nowhere. -/
theorem install_nil (hm : MemRel g M w) (hs : ¬ g.L slot) {sz : Nat} {ty : Option TypeId} (h1 : M' slot = some ⟨sz, [], ty⟩) (h2 : ∀ id, id ≠ slot → M' id = M id ∨ M' id = none) :
    MemRel (g.add slot none) M' w ∧ Evo g M w (g.add slot none) M' w := by
  have hE : Evo g M w (g.add slot none) M' w := {
    L := fun id h => .inl h
    Z := fun _ h => h
    Zn := fun _ h => .inl h
    U := fun _ h => h
    keep := fun b hb => rfl
    size := Nat.le_refl _
    os := rfl
    tape := rfl
    output := ⟨rfl, Nat.le_refl _⟩
    ids := fun id hid r' hr' => by
      have hne : id ≠ slot := fun e => hs (e ▸ hid)
      rcases h2 id hne with h | h
      · rw [h] at hr'
        exact ⟨r', hr', by simp [Gh.add, hne], rfl, rfl⟩
      · rw [h] at hr'; cases hr' }
  have old : ∀ id r', id ≠ slot → M' id = some r' → M id = some r' := fun id r' e h => by
    rcases h2 id e with k | k <;> rw [k] at h
    · exact h
    · cases h
  refine ⟨{ zu := hm.zu, lay := hm.lay.evo hm.zu hE, ul := hm.ul, known := fun id r' hr' => ?_, row := fun id r' hr' => ?_, inj := ?_ }, hE⟩
  · by_cases e : id = slot
    · exact .inr e
    · exact .inl (hm.known id r' (old id r' e hr'))
  · by_cases e : id = slot
    · subst e
      rw [h1] at hr'
      cases hr'
      exact .inl ⟨rfl, by simp [Gh.add]⟩
    · rcases hm.row id r' (old id r' e hr') with ⟨k1, k2⟩ | ⟨rb', ro', size', k1, k2, k3⟩
      · exact .inl ⟨k1, by simp [Gh.add, e, k2]⟩
      · exact .inr ⟨rb', ro', size', by simp [Gh.add, e, k1], k2, k3.evo hE hm.zu rfl⟩
  · intro id id' r1 r2 x x' e1 e2 e3 e4 e5
    have c1 : id ≠ slot := by intro c; subst c; simp [Gh.add] at e3
    have c2 : id' ≠ slot := by intro c; subst c; simp [Gh.add] at e4
    simp [Gh.add, c1] at e3
    simp [Gh.add, c2] at e4
    exact hm.inj id id' r1 r2 x x' (old id r1 c1 e1) (old id' r2 c2 e2) e3 e4 e5
end
end Go.Vm
