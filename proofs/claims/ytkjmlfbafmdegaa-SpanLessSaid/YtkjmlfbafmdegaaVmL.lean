import Derived.Test.YtkjmlfbafmdegaaVmK
namespace Go.Vm
set_option linter.unusedSectionVars false
set_option linter.unusedSimpArgs false
set_option linter.unusedVariables false
open Go
variable [Inhabited LayT]
section
variable {P : Program} {o : Oper} {a : Act} {w : World} {g : Gh} {M : Mem} {slot : Nat} {T : Tm}

/-! ### parts laid into zero cells -/
theorem fill_fold (off : Nat) : ∀ (l : List Value) (k : Nat) (cells : Array Value),
    ((l.zipIdx k).foldl (fun cs (x : Value × Nat) => cs.setIfInBounds (off + x.2) x.1) cells).toList = over cells.toList (off + k) l
  | [], _, _ => rfl
  | v :: l, k, cells => by
    rw [List.zipIdx_cons, List.foldl_cons, fill_fold off l (k + 1), over]
    simp [Nat.add_assoc]
theorem fill_fold' (off : Nat) (v : Value) (cells : Array Value) :
    (v.cells.zipIdx.foldl (fun cs (x : Value × Nat) => cs.setIfInBounds (off + x.2) x.1) cells) = (over cells.toList off v.cells.toList).toArray := by
  apply Array.ext'
  rw [← Array.foldl_toList, Array.toList_zipIdx, fill_fold off]
  simp

theorem fillL_rel (hT : RelT g M w T a) (place : Nat → Option (Nat × Nat)) : ∀ (ps : List (Nat × Operand)) (qs : List (Nat × Nat × Operand)) (cs cs' : List AV) (us : Array Value),
    (qs.map fun q => (some (q.1, q.2.1), q.2.2)) = (ps.map fun p => (place p.1, p.2)) → RelL g M w cs us.toList → fillL M cs T qs = some cs' →
    ∃ us', Instr.fill place us (ps.map fun p => (p.1, a.eval p.2)) = some us' ∧ RelL g M w cs' us'.toList
  | [], [], cs, cs', us, _, hr, h => by
    obtain rfl := Option.some.inj h
    exact ⟨us, rfl, hr⟩
  | [], _ :: _, _, _, _, e, _, _ => by simp at e
  | _ :: _, [], _, _, _, e, _, _ => by simp at e
  | (i, x) :: ps, (off, n, y) :: qs, cs, cs', us, e, hr, h => by
    simp only [List.map_cons, List.cons.injEq, Prod.mk.injEq] at e
    obtain ⟨⟨e1, rfl⟩, e3⟩ := e
    simp only [fillL] at h
    split at h
    · rename_i hc
      obtain ⟨c1, c2, c3⟩ := hc
      obtain ⟨hv, _⟩ := rel_cells c1 (rel_ev hT y)
      have hvl := relL_length hv
      have hul := relL_length hr
      obtain ⟨us', h1, h2⟩ := fillL_rel hT place ps qs _ cs' (over us.toList off (a.eval y).cells.toList).toArray e3 (by simpa using relL_over off hv hr) h
      refine ⟨us', ?_, h2⟩
      rw [List.map_cons, Instr.fill, ← e1]
      have k1 : ¬ ((a.eval y).cells.size ≠ n) := by simp at hvl ⊢; omega
      have k2 : ¬ (off + (a.eval y).cells.size > us.size) := by simp at hvl hul; omega
      simp only [decide_eq_false k1, decide_eq_false k2, Bool.or_false, Bool.false_eq_true, if_false]
      have := fill_fold' off (a.eval y) us
      rw [this]
      exact h1
    · cases h

theorem fillL_length : ∀ (qs : List (Nat × Nat × Operand)) (cs cs' : List AV), fillL M cs T qs = some cs' → cs'.length = cs.length
  | [], cs, cs', h => by obtain rfl := Option.some.inj h; rfl
  | (off, n, y) :: qs, cs, cs', h => by
    simp only [fillL] at h
    split at h
    · rw [fillL_length qs _ _ h, over_length]
    · cases h

theorem mapM_places (fs : Array Field) (sz : Field → Nat) (h : ∀ f ∈ fs.toList, sizeB P f.type = some (sz f)) (w : World) :
    (fs.mapM fun f => do pure (f.offset, ← sizeOf f.type) : Sem (Array (Nat × Nat))).run P w = .ok (fs.map fun f => (f.offset, sz f)) w := by
  have key : ∀ (l : List Field), (∀ f ∈ l, sizeB P f.type = some (sz f)) → (l.mapM fun f => Prod.mk f.offset <$> sizeOf f.type : Sem (List (Nat × Nat))).run P w = .ok (l.map fun f => (f.offset, sz f)) w := by
    intro l
    induction l with
    | nil => intro _; simp
    | cons f l ih =>
      intro hl
      rw [List.mapM_cons]
      simp [run_size (hl f (by simp)), ih (fun x hx => hl x (by simp [hx]))]
  rw [Array.mapM_eq_mapM_toList]
  have k := key fs.toList h
  simp only [bind_pure_comp, Sem.run_map, k, Result.andThen_ok]
  cases fs; simp

theorem step_buildS (hm : MemRel g M w) (hT : RelT g M w T a) {t : TypeId} {fs : Array Field} {ps : Array (Nat × Operand)} {zs : List Value} {qs : List (Nat × Nat × Operand)} (ho : o.op = .build t ps)
    (ht : P.underlying t = some (.struct fs)) (hz : zeroB P t = some zs) (hall : fs.toList.all (fun f => (sizeB P f.type).isSome) = true)
    (hq : ps.toList.mapM (fun (p : Nat × Operand) => (fs[p.1]?).bind fun f => (sizeB P f.type).map fun n => (f.offset, n, p.2)) = some qs) {out : Out}
    (h : step T M slot (.build zs qs) = some out) : Res P o a w g M slot out := by
  simp only [step, Option.map_eq_some_iff] at h
  obtain ⟨cs, hf, rfl⟩ := h
  unfold zeroB at hz
  simp only [Option.bind_eq_some_iff, Option.map_eq_some_iff] at hz
  obtain ⟨i, hi, z, hz1, rfl⟩ := hz
  let sz : Field → Nat := fun f => (sizeB P f.type).getD 0
  have hsz : ∀ f ∈ fs.toList, sizeB P f.type = some (sz f) := by
    intro f hf
    have := List.all_eq_true.1 hall f hf
    obtain ⟨n, hn⟩ := Option.isSome_iff_exists.1 this
    simp [sz, hn]
  have hqs : ∀ (l : List (Nat × Operand)) (qs : List (Nat × Nat × Operand)), l.mapM (fun (p : Nat × Operand) => (fs[p.1]?).bind fun f => (sizeB P f.type).map fun n => (f.offset, n, p.2)) = some qs →
      (qs.map fun q => (some (q.1, q.2.1), q.2.2)) = (l.map fun p => ((fs.map fun f => (f.offset, sz f))[p.1]?, p.2)) := by
    intro l
    induction l with
    | nil => intro qs h; simp at h; subst h; rfl
    | cons p l ih =>
      intro qs h
      rw [List.mapM_cons] at h
      simp only [Option.bind_eq_bind, Option.bind_eq_some_iff, Option.map_eq_some_iff] at h
      obtain ⟨q, ⟨f, hf, n, hn, rfl⟩, qs', h2, h3⟩ := h
      cases h3
      rw [List.map_cons, List.map_cons, ih qs' h2]
      congr 1
      have : sz f = n := by simp [sz, hn]
      simp [hf, this]
  obtain ⟨us', h1, h2⟩ := fillL_rel (g := g) (w := w) hT ((fs.map fun f => (f.offset, sz f))[·]?) ps.toList qs _ cs z.cells (hqs _ _ hq) (relL_cst1 _) hf
  refine Res.pure hm rfl (u := .agg us') (.inl ?_) ⟨us'.toList, by simp, h2⟩
  have hmap := mapM_places (P := P) fs sz hsz w
  simp only [execOp, ho, Instr.build, Sem.run_bind, Sem.run_pure, Result.andThen_ok, run_under ht]
  have hzv : (zeroValue t).run P w = .ok z w := by simp [zeroValue, typeInfo, hi, hz1]
  simp only [hzv, Result.andThen_ok, hmap]
  have h1' : Instr.fill ((fs.map fun f => (f.offset, sz f))[·]?) z.cells ((ps.map fun (x : Nat × Operand) => (x.1, a.eval x.2)).toList) = some us' := by
    rw [Array.toList_map]; exact h1
  rw [h1']
  simp

theorem step_buildA (hm : MemRel g M w) (hT : RelT g M w T a) {t e : TypeId} {m n : Nat} {ps : Array (Nat × Operand)} {zs : List Value} (ho : o.op = .build t ps)
    (ht : P.underlying t = some (.array m e)) (hz : zeroB P t = some zs) (hn : sizeB P e = some n) {out : Out}
    (h : step T M slot (.build zs (ps.toList.map fun p => (p.1 * n, n, p.2))) = some out) : Res P o a w g M slot out := by
  simp only [step, Option.map_eq_some_iff] at h
  obtain ⟨cs, hf, rfl⟩ := h
  unfold zeroB at hz
  simp only [Option.bind_eq_some_iff, Option.map_eq_some_iff] at hz
  obtain ⟨i, hi, z, hz1, rfl⟩ := hz
  obtain ⟨us', h1, h2⟩ := fillL_rel (g := g) (w := w) hT (fun i => some (i * n, n)) ps.toList _ _ cs z.cells (by simp [Function.comp_def]) (relL_cst1 _) hf
  refine Res.pure hm rfl (u := .agg us') (.inl ?_) ⟨us'.toList, by simp, h2⟩
  simp only [execOp, ho, Instr.build, Sem.run_bind, Sem.run_pure, Result.andThen_ok, run_under ht]
  have hzv : (zeroValue t).run P w = .ok z w := by simp [zeroValue, typeInfo, hi, hz1]
  simp only [hzv, Result.andThen_ok, run_size hn]
  have h1' : Instr.fill (fun i => some (i * n, n)) z.cells ((ps.map fun (x : Nat × Operand) => (x.1, a.eval x.2)).toList) = some us' := by
    rw [Array.toList_map]; exact h1
  rw [h1']
  simp

theorem fillE_fillL {sz : Nat} : ∀ (ps : List (Nat × Operand)) (el el' : List (List AV)), (∀ c ∈ el, c.length = sz) → fillE M el sz T ps = some el' →
    fillL M el.flatten T (ps.map fun p => (p.1 * sz, sz, p.2)) = some el'.flatten ∧ (∀ c ∈ el', c.length = sz) ∧ el'.length = el.length
  | [], el, el', hl, h => by obtain rfl := Option.some.inj h; exact ⟨rfl, hl, rfl⟩
  | (i, x) :: ps, el, el', hl, h => by
    simp only [fillE] at h
    split at h
    · rename_i hc
      obtain ⟨c1, c2, c3⟩ := hc
      have hget : el[i]? = some el[i] := List.getElem?_eq_getElem c3
      have hgl : (el[i]).length = sz := hl _ (List.getElem_mem c3)
      have hov : over el[i] 0 (ev T x).cells = (ev T x).cells := by
        rw [over_eq _ _ _ (by omega)]
        simp; omega
      have hfl := over_flatten el i 0 el[i] (ev T x).cells hl hget (by omega)
      rw [hov] at hfl
      obtain ⟨h1, h2, h3⟩ := fillE_fillL ps _ el' (fun c hc => by
        rcases List.mem_or_eq_of_mem_set hc with h | rfl
        · exact hl c h
        · exact c2) h
      refine ⟨?_, h2, by rw [h3]; simp⟩
      simp only [List.map_cons, fillL]
      have hlen := flatten_length el hl
      have : (i + 1) * sz ≤ el.length * sz := Nat.mul_le_mul_right _ (by omega)
      rw [Nat.add_mul] at this
      rw [if_pos ⟨c1, c2, by rw [hlen]; omega⟩, ← h1, hfl]
      rfl
    · cases h

theorem step_slit (hm : MemRel g M w) (hs : ¬ g.L slot) (hT : RelT g M w T a) {t e : TypeId} {n len : Nat} {ps : Array (Nat × Operand)} {zs : List Value} (ho : o.op = .buildSlice t len ps)
    (ht : P.underlying t = some (.slice e)) (hz : zeroB P e = some zs) (hn : sizeB P e = some n) (hlim : len * n ≤ 16777216) (hzl : zs.length = n) (h0 : 0 < n) (h1z : ∀ v ∈ zs, v.oneCell' = true) {out : Out}
    (h : step T M slot (.slit n zs len ps.toList) = some out) : Res P o a w g M slot out := by
  simp only [step, Option.map_eq_some_iff] at h
  obtain ⟨el, hf, rfl⟩ := h
  unfold zeroB at hz
  simp only [Option.bind_eq_some_iff, Option.map_eq_some_iff] at hz
  obtain ⟨i, hi, z, hz1, rfl⟩ := hz
  obtain ⟨hf1, hf2, hf3⟩ := fillE_fillL ps.toList _ el (fun c hc => by rw [List.eq_of_mem_replicate hc]; simpa [cells1] using hzl) hf
  have hzs : z.cells.size = n := by simpa using hzl
  have hmade : ((Array.range (len * n)).map (fun x => z.cells[x % z.cells.size]!)).toList = (List.replicate len z.cells.toList).flatten := by
    apply List.ext_getElem?
    intro j
    have hlen1 : ((List.replicate len z.cells.toList).flatten).length = len * n := by simp [List.length_flatten, hzs]
    rcases Nat.lt_or_ge j (len * n) with hj | hj
    · have := madeCells_get z.cells (len * n) len (by omega) (by rw [hzs]) j _ (List.getElem?_eq_getElem (by omega))
      rw [Array.getElem?_toList, this, List.getElem?_eq_getElem (by omega)]
    · rw [List.getElem?_eq_none (by simp; omega), List.getElem?_eq_none (by omega)]
  obtain ⟨us', h1, h2⟩ := fillL_rel (g := g) (w := w) hT (fun i => some (i * n, n)) ps.toList _ _ _ ((Array.range (len * n)).map (fun x => z.cells[x % z.cells.size]!)) (by simp [Function.comp_def]) (by rw [hmade]; exact relL_replicate (relL_cst1 _) _) hf1
  have hul : us'.size = el.flatten.length := by rw [← relL_length h2]; simp
  have hfl := flatten_length el hf2
  have hone : ∀ v ∈ us'.toList, v.oneCell' = true := by
    have go : ∀ (ps : List (Nat × Operand)) (us us' : Array Value), (∀ v ∈ us.toList, v.oneCell' = true) → (∀ p ∈ ps, flatC M (ev T p.2) = true) →
        Instr.fill (fun i => some (i * n, n)) us (ps.map fun p => (p.1, a.eval p.2)) = some us' → ∀ v ∈ us'.toList, v.oneCell' = true := by
      intro ps
      induction ps with
      | nil => intro us us' h _ e; obtain rfl := Option.some.inj e; exact h
      | cons p ps ih =>
        intro us us' h hp e
        rw [List.map_cons, Instr.fill] at e
        simp only at e
        split at e
        · cases e
        · have hff := fill_fold' (p.1 * n) (a.eval p.2) us
          rw [hff] at e
          refine ih _ us' ?_ (fun q hq => hp q (by simp [hq])) e
          simp only
          exact over_all _ _ _ (rel_cells (hp p (by simp)) (rel_ev hT p.2)).2 h
    have hps : ∀ (ps : List (Nat × Operand)) (el el' : List (List AV)), fillE M el n T ps = some el' → ∀ p ∈ ps, flatC M (ev T p.2) = true := by
      intro ps
      induction ps with
      | nil => intro _ _ _ p hp; simp at hp
      | cons q ps ih =>
        intro el el' h p hp
        obtain ⟨i, x⟩ := q
        simp only [fillE] at h
        split at h
        · rename_i hc
          rcases List.mem_cons.1 hp with rfl | hp
          · exact hc.1
          · exact ih _ _ h p hp
        · cases h
    refine go ps.toList _ us' ?_ (hps _ _ _ hf) h1
    rw [hmade]
    intro v hv
    simp only [List.mem_flatten] at hv
    obtain ⟨l, hl, hv⟩ := hv
    rw [List.eq_of_mem_replicate hl] at hv
    exact h1z v hv
  refine res_new (w0 := w) (arr := us') (ty := e) (us := us'.toList) (u := .slice (some ⟨w.heap.size, 0, none⟩) len len) hm hs rfl rfl ⟨rfl, Nat.le_refl _⟩ rfl (.inl ?_) hf2 h2 hone (fun j v hj => by simpa using hj) ?_ ?_
  · simp only [execOp, ho, Instr.buildSlice, Sem.run_bind, Sem.run_pure, Result.andThen_ok, run_under ht, run_size hn]
    have hzv : (zeroValue e).run P w = .ok z w := by simp [zeroValue, typeInfo, hi, hz1]
    have h1' : Instr.fill (fun i => some (i * n, n)) ((Array.range (len * n)).map (fun x => z.cells[x % z.cells.size]!)) ((ps.map fun (x : Nat × Operand) => (x.1, a.eval x.2)).toList) = some us' := by
      rw [Array.toList_map]; exact h1
    by_cases h00 : len * n = 0
    · have hlen0 : len = 0 := by
        rcases Nat.mul_eq_zero.1 h00 with h | h
        · exact h
        · omega
      subst hlen0
      simp only [Nat.zero_mul] at h1' ⊢
      have e0 : (Array.range 0).map (fun x => z.cells[x % z.cells.size]!) = (Array.range 0).map (fun x => (#[] : Array Value)[x % (#[] : Array Value).size]!) := by simp
      rw [e0] at h1'
      simp at h1' ⊢
      simp [h1', newRow]
    · rw [Array.toList_map] at h1'
      simp [h00, show ¬ (16777216 < len * n) by omega, hzv, h1', newRow]
  · rw [hul, hfl]; exact Nat.le_refl _
  · intro g' M' w' e1 e2 e3
    refine ⟨e2, fun r hr => ?_⟩
    rw [e3] at hr
    cases hr
    simp at hf3
    refine ⟨by simp [hf3], _, _, rfl, Nat.le_refl _, fun _ => ⟨w.heap.size, 0, _, e1, by simp, ?_⟩⟩
    rw [hul, hfl, hf3]; simp
end
end Go.Vm
