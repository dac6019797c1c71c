import Derived.Test.YtkjmlfbafmdegaaVmE
import Derived.Laws.StructEq
import Derived.ChangeKeysEq
namespace Go.Vm
set_option linter.unusedSectionVars false
set_option linter.unusedSimpArgs false
set_option linter.unusedVariables false
open Go
variable [Inhabited LayT]
section
variable {P : Program} {o : Oper} {a : Act} {w : World} {g : Gh} {M : Mem} {slot : Nat} {T : Tm}

theorem addr_add (b o j : Nat) : (⟨b, o, none⟩ : Addr).add j = ⟨b, o + j, none⟩ := by unfold Addr.add; split <;> simp_all

theorem row_at (hm : MemRel g M w) {id : Nat} {r : Row} {rb ro size : Nat} (hr : M id = some r) (ha : g.at_ id = some (rb, ro, size)) :
    ¬ g.U rb ∧ BlockAt w rb size ∧ ro + r.el.length * r.sz ≤ size ∧ RelD g M w r.sz rb ro r.el := by
  rcases hm.row id r hr with ⟨_, h⟩ | ⟨rb', ro', size', h, h1, h2, h3, h4⟩
  · rw [ha] at h; cases h
  · rw [ha] at h
    cases h
    exact ⟨h1, h2, h3, h4⟩

theorem relM_vals {blk : Nat} : ∀ {cs : List AV} {off : Nat}, RelM g M w blk off cs → ∃ us, RelL g M w cs us ∧ (∀ v ∈ us, v.oneCell' = true) ∧ ∀ j v, us[j]? = some v → w.cell? ⟨blk, off + j, none⟩ = some v
  | [], _, _ => ⟨[], rfl, fun v h => by simp at h, fun j v h => by simp at h⟩
  | x :: xs, off, ⟨⟨u, hu, h0, h1⟩, h2⟩ => by
    obtain ⟨us, h3, h5, h4⟩ := relM_vals h2
    refine ⟨u :: us, ⟨u, us, rfl, h1, h3⟩, fun v hv => by rcases List.mem_cons.1 hv with rfl | hv; exact h0; exact h5 v hv, fun j v hj => ?_⟩
    cases j with
    | zero => obtain rfl : u = v := by simpa using hj
              exact hu
    | succ j => rw [show off + (j + 1) = off + 1 + j by omega]; exact h4 j v (by simpa using hj)
theorem relM_append {blk : Nat} : ∀ {cs ds : List AV} {off : Nat}, RelM g M w blk off cs → RelM g M w blk (off + cs.length) ds → RelM g M w blk off (cs ++ ds)
  | [], _, _, _, h => by simpa using h
  | x :: xs, ds, off, ⟨h1, h2⟩, h => ⟨h1, relM_append h2 (by rw [show off + 1 + xs.length = off + (x :: xs).length by simp; omega]; exact h)⟩
theorem relD_append {sz blk : Nat} : ∀ {xs ys : List (List AV)} {off : Nat}, RelD g M w sz blk off xs → RelD g M w sz blk (off + xs.length * sz) ys → RelD g M w sz blk off (xs ++ ys)
  | [], _, _, _, h => by simpa using h
  | x :: xs, ys, off, ⟨h1, h2⟩, h => ⟨h1, relD_append h2 (by rw [show off + sz + xs.length * sz = off + (x :: xs).length * sz by simp [Nat.add_mul]; omega]; exact h)⟩
theorem relD_flat {blk : Nat} : ∀ {xs : List (List AV)} {off : Nat}, RelD g M w 1 blk off xs → RelM g M w blk off xs.flatten
  | [], _, _ => trivial
  | x :: xs, off, ⟨⟨h0, h1⟩, h2⟩ => by
    rw [List.flatten_cons]
    exact relM_append h1 (by rw [h0]; exact relD_flat h2)

theorem get1_rel {r : Row} {i o : Nat} {c : AV} {rb ro : Nat} (h : RelD g M w r.sz rb ro r.el) (hc : r.get1 i o = some c) :
    ∃ u, w.cell? ⟨rb, ro + i * r.sz + o, none⟩ = some u ∧ Rel g M w c u := by
  unfold Row.get1 at hc
  split at hc
  · rename_i hs
    simp only [Option.bind_eq_some_iff] at hc
    obtain ⟨cs, h1, h2⟩ := hc
    obtain ⟨_, h4⟩ := relD_get (i + o) h h1
    obtain ⟨u, h5, h6⟩ := relM_get 0 h4 h2
    refine ⟨u, ?_, h6⟩
    rw [hs] at h5 ⊢
    rw [← h5]; congr 2; omega
  · simp only [Option.bind_eq_some_iff] at hc
    obtain ⟨cs, h1, h2⟩ := hc
    obtain ⟨_, h4⟩ := relD_get i h h1
    exact relM_get o h4 h2

theorem getN_rel {r : Row} {i o n : Nat} {cs : List AV} {rb ro : Nat} (h : RelD g M w r.sz rb ro r.el) (hc : r.getN i o n = some cs) :
    cs.length = n ∧ RelM g M w rb (ro + i * r.sz + o) cs := by
  unfold Row.getN at hc
  split at hc
  · rename_i hs
    simp only at hc
    split at hc
    · rename_i hl
      obtain rfl := Option.some.inj hc
      refine ⟨hl, ?_⟩
      rw [hs] at h ⊢
      have := relD_flat (relD_take n (relD_drop (i + o) h))
      rwa [show ro + (i + o) * 1 = ro + i * 1 + o by omega] at this
    · cases hc
  · simp only [Option.bind_eq_some_iff] at hc
    obtain ⟨ds, h1, h2⟩ := hc
    split at h2
    · rename_i hl
      obtain rfl := Option.some.inj h2
      obtain ⟨h3, h4⟩ := relD_get i h h1
      exact ⟨by simp; omega, relM_take n (relM_drop o h4)⟩
    · cases h2

theorem run_loadN {t : TypeId} {n : Nat} {blk off : Nat} {cs : List AV} (hag : isAggB P t = some true) (hn : sizeB P t = some n) (hl : cs.length = n) (h : RelM g M w blk off cs) :
    ∃ u, (loadVar t ⟨blk, off, none⟩).run P w = .ok u w ∧ Rel g M w (.agg cs) u := by
  obtain ⟨us, h1, _, h2⟩ := relM_vals h
  have h3 := relL_length h1
  refine ⟨.agg us.toArray, ?_, us, rfl, h1⟩
  have h4 := run_loadCells_list (P := P) w ⟨blk, off, none⟩ us (fun j v hj => by rw [addr_add]; exact h2 j v hj)
  rw [h3, hl] at h4
  unfold loadVar
  simp [run_agg hag, run_size hn, h4]
theorem run_load1 {t : TypeId} {blk off : Nat} {u : Value} (hag : isAggB P t = some false) (h : w.cell? ⟨blk, off, none⟩ = some u) :
    (loadVar t ⟨blk, off, none⟩).run P w = .ok u w := by
  unfold loadVar
  simp [run_agg hag, h]

theorem step_load (hm : MemRel g M w) (hT : RelT g M w T a) {t : TypeId} {n : Nat} {ag : Bool} {p : Operand} (ho : o.op = .load t p)
    (hag : isAggB P t = some ag) (hn : sizeB P t = some n) {out : Out}
    (h : step T M slot (.load n ag p) = some out) : Res P o a w g M slot out := by
  have hp := rel_ev hT p
  have key : ∀ blk off u, a.eval p = .pointer (some ⟨blk, off, none⟩) → (loadVar t ⟨blk, off, none⟩).run P w = .ok u w → OpRun P o a w u w := by
    intro blk off u e h1
    exact .inl (by simp [execOp, ho, e, Instr.loadAt, Instr.sureAddr, h1])
  simp only [step] at h
  split at h
  · rename_i cs e
    rw [e] at hp
    obtain ⟨blk, off, hu, _, hM⟩ := hp
    split at h
    · rename_i hag'
      subst hag'
      split at h
      · rename_i hl
        obtain rfl := Option.some.inj h
        obtain ⟨u, h1, h2⟩ := run_loadN (P := P) (n := n) hag hn (by simp; omega) (relM_take n hM)
        exact Res.pure hm rfl (key blk off u hu h1) h2
      · cases h
    · rename_i hag'
      have hag' : ag = false := by simpa using hag'
      subst hag'
      simp only [Option.map_eq_some_iff] at h
      obtain ⟨c, hc, rfl⟩ := h
      obtain ⟨u, h1, h2⟩ := relM_get 0 hM hc
      exact Res.pure hm rfl (key blk off u hu (run_load1 hag (by simpa using h1))) h2
  · rename_i id i o' e
    rw [e] at hp
    simp only [Option.bind_eq_some_iff] at h
    obtain ⟨r, hr, h⟩ := h
    obtain ⟨_, rb, ro, size, hat, hu⟩ := hp.2 r hr
    obtain ⟨_, _, _, hD⟩ := row_at hm hr hat
    split at h
    · rename_i hag'
      subst hag'
      simp only [Option.map_eq_some_iff] at h
      obtain ⟨cs, hc, rfl⟩ := h
      obtain ⟨hl, hM⟩ := getN_rel hD hc
      obtain ⟨u, h1, h2⟩ := run_loadN (P := P) hag hn hl hM
      exact Res.pure hm rfl (key _ _ u hu h1) h2
    · rename_i hag'
      have hag' : ag = false := by simpa using hag'
      subst hag'
      simp only [Option.map_eq_some_iff] at h
      obtain ⟨c, hc, rfl⟩ := h
      obtain ⟨u, h1, h2⟩ := get1_rel hD hc
      exact Res.pure hm rfl (key _ _ u hu (run_load1 hag h1)) h2
  · cases h

theorem run_fieldPlace {f : Field} {n : Nat} (hn : sizeB P f.type = some n) (h0 : 0 < n) (b off : Nat) :
    (fieldPlace ⟨b, off, none⟩ f).run P w = .ok ⟨b, off + f.offset, none⟩ w := by
  unfold fieldPlace
  simp [run_size hn, show n ≠ 0 by omega, addr_add]

theorem step_fldA (hm : MemRel g M w) (hT : RelT g M w T a) {t ft : TypeId} {j off n : Nat} {p : Operand} (ho : o.op = .fieldAddr t p j)
    (hf : fieldOf P t j = some (off, ft)) (hn : sizeB P ft = some n) (h0 : 0 < n) {out : Out}
    (h : step T M slot (.fldA off p) = some out) : Res P o a w g M slot out := by
  have hp := rel_ev hT p
  have key : ∀ blk o', a.eval p = .pointer (some ⟨blk, o', none⟩) → OpRun P o a w (.pointer (some ⟨blk, o' + off, none⟩)) w := by
    intro blk o' e
    unfold fieldOf at hf
    split at hf
    · rename_i fs hs
      simp only [Option.map_eq_some_iff] at hf
      obtain ⟨f, hf, he⟩ := hf
      cases he
      exact .inl (by simp [execOp, ho, e, Instr.fieldAt, Instr.sureAddr, run_under hs, hf, run_fieldPlace hn h0])
    · cases hf
  simp only [step] at h
  split at h
  · rename_i id i o' e
    rw [e] at hp
    simp only [Option.map_eq_some_iff] at h
    obtain ⟨r, hr, rfl⟩ := h
    obtain ⟨hi, rb, ro, size, hat, hu⟩ := hp.2 r hr
    refine Res.pure hm rfl (key _ _ hu) ⟨hp.1, fun r' hr' => ?_⟩
    rw [hr] at hr'
    cases hr'
    exact ⟨hi, rb, ro, size, hat, by rw [Nat.add_assoc]⟩
  · rename_i cs e
    rw [e] at hp
    obtain ⟨blk, o', hu, hz, hM⟩ := hp
    obtain rfl := Option.some.inj h
    exact Res.pure hm rfl (key _ _ hu) ⟨blk, o' + off, rfl, hz, relM_drop off hM⟩
  · cases h

theorem run_part {t : TypeId} {ag : Bool} {n off : Nat} {cs : List AV} {us : List Value} {v : AV} (hag : isAggB P t = some ag) (hn : sizeB P t = some n) (hl : RelL g M w cs us)
    (h : (if ag then (if off + n ≤ cs.length then some (AV.agg ((cs.drop off).take n)) else none) else cs[off]?) = some v) :
    ∃ u, (part t us.toArray off).run P w = .ok u w ∧ Rel g M w v u := by
  split at h
  · rename_i hag'
    subst hag'
    split at h
    · obtain rfl := Option.some.inj h
      refine ⟨.agg (us.toArray.extract off (off + n)), ?_, (us.drop off).take n, ?_, relL_take n (relL_drop off hl)⟩
      · simp [part, run_agg hag, run_size hn]
      · simp
    · cases h
  · rename_i hag'
    have hag' : ag = false := by simpa using hag'
    subst hag'
    obtain ⟨u, h1, h2⟩ := relL_get off hl h
    exact ⟨u, by simp [part, run_agg hag, h1], h2⟩

theorem step_fld (hm : MemRel g M w) (hT : RelT g M w T a) {t ft : TypeId} {j off n : Nat} {ag : Bool} {x : Operand} (ho : o.op = .field t x j)
    (hf : fieldOf P t j = some (off, ft)) (hn : sizeB P ft = some n) (hag : isAggB P ft = some ag) {out : Out}
    (h : step T M slot (.fld off n ag x) = some out) : Res P o a w g M slot out := by
  have hx := rel_ev hT x
  simp only [step] at h
  split at h
  · rename_i cs e
    rw [e] at hx
    obtain ⟨us, hu, hl⟩ := hx
    have key : ∃ v, (if ag then (if off + n ≤ cs.length then some (AV.agg ((cs.drop off).take n)) else none) else cs[off]?) = some v ∧ out = { v } := by
      cases ag <;> simp only [if_true, if_false, Bool.false_eq_true] at h ⊢
      · simp only [Option.map_eq_some_iff] at h
        obtain ⟨c, h1, h2⟩ := h
        exact ⟨c, h1, h2.symm⟩
      · split at h
        · exact ⟨_, by rename_i hh; simp [hh], (Option.some.inj h).symm⟩
        · cases h
    obtain ⟨v, hv, rfl⟩ := key
    obtain ⟨u, h1, h2⟩ := run_part (P := P) hag hn hl hv
    refine Res.pure hm rfl (u := u) (.inl ?_) h2
    unfold fieldOf at hf
    split at hf
    · rename_i fs hs
      simp only [Option.map_eq_some_iff] at hf
      obtain ⟨f, hf, he⟩ := hf
      cases he
      simp [execOp, ho, hu, Instr.field, run_under hs, hf, asAgg, h1]
    · cases hf
  · cases h

theorem step_idx (hm : MemRel g M w) (hT : RelT g M w T a) {t e0 : TypeId} {m n : Nat} {ag : Bool} {x ix : Operand} (ho : o.op = .index t x ix)
    (ht : P.underlying t = some (.array m e0)) (hn : sizeB P e0 = some n) (hag : isAggB P e0 = some ag) {out : Out}
    (h : step T M slot (.idx m n ag x ix) = some out) : Res P o a w g M slot out := by
  have hx := rel_ev hT x
  have hi := rel_ev hT ix
  simp only [step] at h
  split at h
  · rename_i kd j ej
    rw [ej] at hi
    have hi' : a.eval ix = .int kd j := hi
    split at h
    · rename_i hj
      split at h
      · rename_i cs e
        rw [e] at hx
        obtain ⟨us, hu, hl⟩ := hx
        have key : ∃ v, (if ag then (if j.toNat * n + n ≤ cs.length then some (AV.agg ((cs.drop (j.toNat * n)).take n)) else none) else cs[j.toNat * n]?) = some v ∧ out = { v } := by
          cases ag <;> simp only [if_true, if_false, Bool.false_eq_true] at h ⊢
          · simp only [Option.map_eq_some_iff] at h
            obtain ⟨c, h1, h2⟩ := h
            exact ⟨c, h1, h2.symm⟩
          · split at h
            · exact ⟨_, by rename_i hh; simp [hh], (Option.some.inj h).symm⟩
            · cases h
        obtain ⟨v, hv, rfl⟩ := key
        obtain ⟨u, h1, h2⟩ := run_part (P := P) hag hn hl hv
        refine Res.pure hm rfl (u := u) (.inl ?_) h2
        simp [execOp, ho, hu, hi', Instr.index, asIntOf, run_under ht, hj.1, hj.2, run_size hn, h1]
      · cases h
    · cases h
  · cases h

theorem step_idxS (hm : MemRel g M w) (hT : RelT g M w T a) {t : TypeId} {x ix : Operand} (ho : o.op = .index t x ix)
    (ht : P.underlying t = some .string) {out : Out}
    (h : step T M slot (.idxS x ix) = some out) : Res P o a w g M slot out := by
  have hx := rel_ev hT x
  have hi := rel_ev hT ix
  simp only [step] at h
  split at h
  · rename_i kd j ej
    rw [ej] at hi
    have hi' : a.eval ix = .int kd j := hi
    split at h
    · rename_i s e
      rw [e] at hx
      have hx' : a.eval x = .string ⟨s.toArray⟩ := hx
      split at h
      · rename_i hj
        simp only [Option.map_eq_some_iff] at h
        obtain ⟨c, hc, rfl⟩ := h
        refine Res.pure hm rfl (u := .int .u8 c.toNat) (.inl ?_) rfl
        have hlt : j.toNat < s.length := (List.getElem?_eq_some_iff.1 hc).1
        have hsz : (⟨s.toArray⟩ : ByteArray).size = s.length := by simp [ByteArray.size]
        have : (⟨s.toArray⟩ : ByteArray)[j.toNat]? = some c := by
          rw [getElem?_pos _ _ (by rw [hsz]; exact hlt)]
          have := (List.getElem?_eq_some_iff.1 hc).2
          simp [← this]
          rfl
        simp [execOp, ho, hx', hi', Instr.index, asIntOf, run_under ht, hj, this]
      · cases h
    · cases h
  · cases h
theorem eqCells_int : ∀ {xs ys : List AV} {r : Bool} {us vs : List Value}, eqCells xs ys = some r → RelL g M w xs us → RelL g M w ys vs →
    ∀ (fs : List Field) (i : Nat) (A B : Array Value) (d : Nat), fs.length = xs.length → fs.length = ys.length → (∀ x ∈ fs.zipIdx i, (x.1.name != "_" && x.1.offset == x.2 && isIntB P x.1.type) = true) →
      (∀ j, us[j]? = A[i + j]?) → (∀ j, vs[j]? = B[i + j]?) → (Op.eqFields (d + 1) A B fs).run P w = .ok r w
  | [], [], r, us, vs, h, hu, hv, fs, i, A, B, d, hl, hl2, hf, hA, hB => by
    cases h
    obtain rfl : fs = [] := List.length_eq_zero_iff.1 hl
    simp [Op.eqFields]
  | [], _ :: _, r, us, vs, h, hu, hv, fs, i, A, B, d, hl, hl2, hf, hA, hB => by simp [eqCells] at h
  | x :: xs, [], r, us, vs, h, hu, hv, fs, i, A, B, d, hl, hl2, hf, hA, hB => by
    rw [hl2] at hl
    simp at hl
  | x :: xs, y :: ys, r, us, vs, h, hu, hv, fs, i, A, B, d, hl, hl2, hf, hA, hB => by
    cases fs with
    | nil => simp at hl
    | cons f fs =>
    obtain ⟨u, us', rfl, hu1, hu2⟩ := hu
    obtain ⟨v, vs', rfl, hv1, hv2⟩ := hv
    have hf0 := hf (f, i) (by simp)
    simp only [Bool.and_eq_true, bne_iff_ne, ne_eq, beq_iff_eq] at hf0
    obtain ⟨⟨hn, ho⟩, hi⟩ := hf0
    unfold isIntB at hi
    split at hi
    · rename_i k hk
      unfold eqCells at h
      split at h
      · rename_i e1 e2; cases e1
      · rename_i kd a xs1 kd' b ys1 ex ey
        cases ex
        cases ey
        split at h
        · rename_i hkd
          subst hkd
          simp only [Option.map_eq_some_iff] at h
          obtain ⟨r1, h1, rfl⟩ := h
          have hu' : u = .int kd a := hu1
          have hv' : v = .int kd b := hv1
          have hag : isAggB P f.type = some false := by simp [isAggB, hk]
          have pa : (part f.type A f.offset).run P w = .ok (.int kd a) w := by
            have := hA 0
            rw [ho]
            simp [part, run_agg hag, ← hu', Nat.add_zero] at this ⊢
            rw [← this]
            simp
          have pb : (part f.type B f.offset).run P w = .ok (.int kd b) w := by
            have := hB 0
            rw [ho]
            simp [part, run_agg hag, ← hv', Nat.add_zero] at this ⊢
            rw [← this]
            simp
          have ih := eqCells_int h1 hu2 hv2 fs (i + 1) A B d (by simpa using hl) (by simpa using hl2) (fun x hx => hf x (by rw [List.zipIdx_cons]; exact List.mem_cons_of_mem _ hx))
            (fun j => by have := hA (j + 1); rw [show i + 1 + j = i + (j + 1) by omega]; simpa using this) (fun j => by have := hB (j + 1); rw [show i + 1 + j = i + (j + 1) by omega]; simpa using this)
          simp only [Op.eqFields, hn, ne_eq, not_false_eq_true, if_true, Sem.run_bind, pa, pb, Result.andThen_ok, run_equalIn_int w d f.type kd k a b hk, Sem.run_ite]
          by_cases e : a = b
          · subst e
            simp [ih]
          · have e' : (a == b) = false := by simpa using e
            simp [e', e]
        · cases h
      · cases h
    · cases hi
theorem eqCells_items {e : TypeId} (he : isIntB P e = true) : ∀ {xs ys : List AV} {r : Bool} {us vs : List Value}, eqCells xs ys = some r → RelL g M w xs us → RelL g M w ys vs →
    ∀ (i n : Nat) (A B : Array Value) (d : Nat), n = xs.length → n = ys.length →
      (∀ j, us[j]? = A[i + j]?) → (∀ j, vs[j]? = B[i + j]?) → (Op.eqItems (d + 1) e 1 A B (List.range' i n)).run P w = .ok r w
  | [], [], r, us, vs, h, hu, hv, i, n, A, B, d, hl, hl2, hA, hB => by
    cases h
    obtain rfl : n = 0 := hl
    simp [Op.eqItems]
  | [], _ :: _, r, us, vs, h, hu, hv, i, n, A, B, d, hl, hl2, hA, hB => by simp [eqCells] at h
  | x :: xs, [], r, us, vs, h, hu, hv, i, n, A, B, d, hl, hl2, hA, hB => by
    rw [hl2] at hl
    simp at hl
  | x :: xs, y :: ys, r, us, vs, h, hu, hv, i, n, A, B, d, hl, hl2, hA, hB => by
    obtain ⟨m, rfl⟩ : ∃ m, n = m + 1 := ⟨n - 1, by simp at hl; omega⟩
    obtain ⟨u, us', rfl, hu1, hu2⟩ := hu
    obtain ⟨v, vs', rfl, hv1, hv2⟩ := hv
    have hi := he
    unfold isIntB at hi
    split at hi
    · rename_i k hk
      unfold eqCells at h
      split at h
      · rename_i e1 e2; cases e1
      · rename_i kd a xs1 kd' b ys1 ex ey
        cases ex
        cases ey
        split at h
        · rename_i hkd
          subst hkd
          simp only [Option.map_eq_some_iff] at h
          obtain ⟨r1, h1, rfl⟩ := h
          have hu' : u = .int kd a := hu1
          have hv' : v = .int kd b := hv1
          have hag : isAggB P e = some false := by simp [isAggB, hk]
          have pa : (part e A (i * 1)).run P w = .ok (.int kd a) w := by
            have := hA 0
            simp [part, run_agg hag, ← hu', Nat.add_zero] at this ⊢
            rw [← this]
            simp
          have pb : (part e B (i * 1)).run P w = .ok (.int kd b) w := by
            have := hB 0
            simp [part, run_agg hag, ← hv', Nat.add_zero] at this ⊢
            rw [← this]
            simp
          have ih := eqCells_items he h1 hu2 hv2 (i + 1) m A B d (by simpa using hl) (by simpa using hl2)
            (fun j => by have := hA (j + 1); rw [show i + 1 + j = i + (j + 1) by omega]; simpa using this) (fun j => by have := hB (j + 1); rw [show i + 1 + j = i + (j + 1) by omega]; simpa using this)
          simp only [List.range'_succ, Op.eqItems, Sem.run_bind, pa, pb, Result.andThen_ok, run_equalIn_int w d e kd k a b hk, Sem.run_ite]
          by_cases e : a = b
          · subst e
            simp [ih]
          · have e' : (a == b) = false := by simpa using e
            simp [e', e]
        · cases h
      · cases h
    · cases hi
theorem step_eqa (hm : MemRel g M w) (hT : RelT g M w T a) {op : BinOp} {t ty : TypeId} {x y : Operand} {neg : Bool} {n : Nat} (ho : o.op = .binOp op t x y ty)
    (hop : op = (if neg then .neq else .eql)) (h2 : P.eqGuardType P.depth t = false)
    (hE : ∀ (xs ys : List AV) (r : Bool) (us vs : List Value), eqCells xs ys = some r → xs.length = n → ys.length = n → RelL g M w xs us → RelL g M w ys vs → (Op.equal t (.agg us.toArray) (.agg vs.toArray)).run P w = .ok r w) {out : Out}
    (h : step T M slot (.eqa neg n x y) = some out) : Res P o a w g M slot out := by
  have hx := rel_ev hT x
  have hy := rel_ev hT y
  simp only [step] at h
  split at h
  · rename_i xs ys e1 e2
    rw [e1] at hx
    rw [e2] at hy
    obtain ⟨us, hx, hus⟩ := hx
    obtain ⟨vs, hy, hvs⟩ := hy
    split at h
    · rename_i hl
      simp only [Option.map_eq_some_iff] at h
      obtain ⟨r, hr, rfl⟩ := h
      have heq := hE xs ys r us vs hr hl.1 hl.2 hus hvs
      have hg : (eqGuard op t x y (.agg us.toArray) (.agg vs.toArray)).run P w = .ok () w := by
        cases neg <;> simp only [if_true, if_false, Bool.false_eq_true] at hop <;> subst hop <;> simp [eqGuard, h2]
      refine Res.pure hm rfl (u := .bool (if neg then !r else r)) (.inl ?_) (by cases neg <;> rfl)
      cases neg <;> simp only [if_true, if_false, Bool.false_eq_true] at hop <;> subst hop
      · simp [execOp, ho, hx, hy, hg, binOp, heq]
      · simp [execOp, ho, hx, hy, hg, binOp, heq]
    · cases h
  · cases h
theorem step_eqaS (hm : MemRel g M w) (hT : RelT g M w T a) {op : BinOp} {t ty : TypeId} {x y : Operand} {neg : Bool} {fs : Array Field} (ho : o.op = .binOp op t x y ty)
    (hop : op = (if neg then .neq else .eql)) (ht : P.underlying t = some (.struct fs)) (hs : eqStr P t fs = true) {out : Out}
    (h : step T M slot (.eqa neg fs.size x y) = some out) : Res P o a w g M slot out := by
  simp only [eqStr, Bool.and_eq_true, Bool.not_eq_true', List.all_eq_true] at hs
  obtain ⟨⟨h1, h2⟩, h3⟩ := hs
  have hfo : P.fieldsOf t = fs := by simp [Program.fieldsOf, ht]
  refine step_eqa hm hT ho hop h2 ?_ h
  intro xs ys r us vs hr hl1 hl2 hus hvs
  have hst := run_equalIn_struct (P := P) w 9999 t us.toArray vs.toArray (by rw [hfo]; exact ht) h1
  refine (show (Op.equal t (.agg us.toArray) (.agg vs.toArray)).run P w = (Op.equalIn (9999 + 1) t (.agg us.toArray) (.agg vs.toArray)).run P w from rfl).trans (hst.trans ?_)
  rw [hfo]
  refine eqCells_int hr hus hvs fs.toList 0 _ _ 9998 (by simp [hl1]) (by simp [hl2]) ?_ (fun j => by simp) (fun j => by simp)
  intro x hx
  have := h3 x hx
  simpa [Bool.and_eq_true] using this
theorem step_eqaA (hm : MemRel g M w) (hT : RelT g M w T a) {op : BinOp} {t ty e0 : TypeId} {x y : Operand} {neg : Bool} {m : Nat} (ho : o.op = .binOp op t x y ty)
    (hop : op = (if neg then .neq else .eql)) (ht : P.underlying t = some (.array m e0)) (hs : eqArr P t e0 = true) {out : Out}
    (h : step T M slot (.eqa neg m x y) = some out) : Res P o a w g M slot out := by
  simp only [eqArr, Bool.and_eq_true, Bool.not_eq_true', beq_iff_eq] at hs
  obtain ⟨⟨⟨h2, h1⟩, h3⟩, h4⟩ := hs
  obtain ⟨i, hi⟩ := Option.isSome_iff_exists.1 h3
  refine step_eqa hm hT ho hop h2 ?_ h
  intro xs ys r us vs hr hl1 hl2 hus hvs
  have hst := run_equalIn_array (P := P) w 9999 us.toArray vs.toArray ht hi
  refine (show (Op.equal t (.agg us.toArray) (.agg vs.toArray)).run P w = (Op.equalIn (9999 + 1) t (.agg us.toArray) (.agg vs.toArray)).run P w from rfl).trans (hst.trans ?_)
  rw [h4, List.range_eq_range']
  exact eqCells_items h1 hr hus hvs 0 m _ _ 9998 hl1.symm hl2.symm (fun j => by simp) (fun j => by simp)
end
end Go.Vm
