import Derived.Test.YtkjmlfbafmdegaaVmQ
namespace Go.Vm
set_option linter.unusedSectionVars false
set_option linter.unusedSimpArgs false
set_option linter.unusedVariables false
open Go
variable [Inhabited LayT]

def opdTmps : Operand → List Nat
  | .tmp t => [t]
  | _ => []
def opds : LOp → List Operand
  | .bad => []
  | .eqs _ x | .capL x | .convSl x => [x]
  | .appN _ _ _ s x => [s, x]
  | .slc3 _ x lo hi mx => x :: (lo.toList ++ [hi, mx])
  | .mov x | .nilc x | .un _ x | .convI _ x | .convS x | .convB x | .mkI _ x | .fldA _ x | .fld _ _ _ x | .ext x _ | .lenL x | .lenS x | .box _ x | .load _ _ x | .eqn _ _ x => [x]
  | .pick c a b => [c, a, b]
  | .alloc _ | .lenC _ => []
  | .build _ ps => ps.map (·.2.2)
  | .slit _ _ _ ps => ps.map (·.2)
  | .store _ p v => [p, v]
  | .bin _ x y | .eqB _ x y | .eqa _ _ x y | .mkSl _ _ _ x y | .idxA _ x y | .idxP _ _ x y | .idx _ _ _ x y | .idxS x y | .app _ _ x y | .mn x y | .mx x y => [x, y]
  | .mkF _ caps => caps
  | .slc _ x lo hi | .slcS x lo hi | .slcA _ _ x lo hi => x :: (lo.toList ++ hi.toList)
  | .call _ args => args
  | .callv x args => x :: args
def tmpsOf (o : LOper) : List Nat := (opds o.op).flatMap opdTmps ++ (match o.guard with | none => [] | some (t, _) => [t])

section
variable {P : Program} {T T' : Tm} {M M' : Mem} {slot : Nat}

theorem ev_congr {x : Operand} (h : ∀ t ∈ opdTmps x, T' t = T t) : ev T' x = ev T x := by
  cases x with
  | tmp t => exact h t (by simp [opdTmps])
  | _ => rfl
theorem fillL_congr : ∀ (ps : List (Nat × Nat × Operand)) (cs : List AV), (∀ x ∈ ps.map (·.2.2), ev T' x = ev T x) → fillL M cs T' ps = fillL M cs T ps
  | [], _, _ => rfl
  | (off, n, x) :: ps, cs, h => by
    simp only [fillL, h x (by simp)]
    split
    · exact fillL_congr ps _ (fun y hy => h y (by simp at hy ⊢; exact .inr hy))
    · rfl
theorem fillE_congr {sz : Nat} : ∀ (ps : List (Nat × Operand)) (el : List (List AV)), (∀ x ∈ ps.map (·.2), ev T' x = ev T x) → fillE M el sz T' ps = fillE M el sz T ps
  | [], _, _ => rfl
  | (i, x) :: ps, el, h => by
    simp only [fillE, h x (by simp)]
    split
    · exact fillE_congr ps _ (fun y hy => h y (by simp at hy ⊢; exact .inr hy))
    · rfl
theorem bound_congr {d : Nat} {x : Option Operand} (h : ∀ y ∈ x.toList, ev T' y = ev T y) : bound T' d x = bound T d x := by
  cases x with
  | none => rfl
  | some y => simp only [bound, h y (by simp)]

theorem step_congrT {op : LOp} (h : ∀ x ∈ opds op, ev T' x = ev T x) : step T' M slot op = step T M slot op := by
  cases op with
  | build zs ps =>
    simp only [step, opds] at h ⊢
    rw [fillL_congr ps _ h]
    have : (ps.flatMap fun p => refsC (ev T' p.2.2)) = ps.flatMap fun p => refsC (ev T p.2.2) := by
      rw [List.flatMap_def, List.flatMap_def]
      congr 1
      exact List.map_congr_left fun p hp => by rw [h p.2.2 (List.mem_map.2 ⟨p, hp, rfl⟩)]
    rw [this]
  | slit sz zs len ps =>
    simp only [step, opds] at h ⊢
    rw [fillE_congr ps _ h]
    have : (ps.flatMap fun p => refsC (ev T' p.2)) = ps.flatMap fun p => refsC (ev T p.2) := by
      rw [List.flatMap_def, List.flatMap_def]
      congr 1
      exact List.map_congr_left fun p hp => by rw [h p.2 (List.mem_map.2 ⟨p, hp, rfl⟩)]
    rw [this]
  | mkF f caps =>
    simp only [step, opds] at h ⊢
    rw [List.map_congr_left h]
  | slc sz x lo hi =>
    simp only [opds] at h
    have h1 := h x (by simp)
    have h2 : ∀ d, bound T' d lo = bound T d lo := fun d => bound_congr fun y hy => h y (by simp at hy ⊢; simp [hy])
    have h3 : ∀ d, bound T' d hi = bound T d hi := fun d => bound_congr fun y hy => h y (by simp at hy ⊢; simp [hy])
    simp only [step, h1, h2, h3]
  | bad => rfl
  | slc3 sz x lo hi mx =>
    simp only [opds] at h
    have h1 := h x (by simp)
    have h2 : ∀ d, bound T' d lo = bound T d lo := fun d => bound_congr fun y hy => h y (by simp at hy ⊢; simp [hy])
    have h3 : ∀ d, bound T' d (some hi) = bound T d (some hi) := fun d => bound_congr fun y hy => h y (by simp at hy ⊢; simp [hy])
    have h4 : ∀ d, bound T' d (some mx) = bound T d (some mx) := fun d => bound_congr fun y hy => h y (by simp at hy ⊢; simp [hy])
    simp only [step, h1, h2, h3, h4]
  | slcS x lo hi =>
    simp only [opds] at h
    have h1 := h x (by simp)
    have h2 : ∀ d, bound T' d lo = bound T d lo := fun d => bound_congr fun y hy => h y (by simp at hy ⊢; simp [hy])
    have h3 : ∀ d, bound T' d hi = bound T d hi := fun d => bound_congr fun y hy => h y (by simp at hy ⊢; simp [hy])
    simp only [step, h1, h2, h3]
  | slcA m sz x lo hi =>
    simp only [opds] at h
    have h1 := h x (by simp)
    have h2 : ∀ d, bound T' d lo = bound T d lo := fun d => bound_congr fun y hy => h y (by simp at hy ⊢; simp [hy])
    have h3 : ∀ d, bound T' d hi = bound T d hi := fun d => bound_congr fun y hy => h y (by simp at hy ⊢; simp [hy])
    simp only [step, h1, h2, h3]
  | eqn neg isP x => cases isP <;> simp only [opds, List.mem_cons, forall_eq_or_imp, List.not_mem_nil, false_implies, implies_true, and_true] at h <;> simp only [step, h]
  | call f args => rfl
  | callv x args => rfl
  | alloc zs => rfl
  | lenC n => rfl
  | _ =>
    simp only [opds, List.mem_cons, forall_eq_or_imp, List.not_mem_nil, false_implies, implies_true, and_true] at h
    simp only [step, h]

theorem one_congr {v : AV} (h : ∀ id ∈ v.ref1, M' id = M id) : oneC M' v = oneC M v := by
  cases v with
  | k v => cases v <;> rfl
  | own id off n st => simp only [oneC]; rw [h _ (by simp [AV.ref1])]
  | ptr id i o => simp only [oneC]; rw [h _ (by simp [AV.ref1])]
  | _ => rfl
theorem flat_congr {v : AV} (h : ∀ id ∈ refsC v, M' id = M id) : flatC M' v = flatC M v := by
  cases v with
  | agg cs =>
    simp only [flatC]
    have : ∀ c ∈ cs, oneC M' c = oneC M c := fun c hc => one_congr fun id hid => h id (by simp only [refsC, AV.cells, List.mem_flatMap]; exact ⟨c, hc, hid⟩)
    rw [Bool.eq_iff_iff, List.all_eq_true, List.all_eq_true]
    exact ⟨fun k c hc => by rw [← this c hc]; exact k c hc, fun k c hc => by rw [this c hc]; exact k c hc⟩
  | _ => exact one_congr fun id hid => h id (by simpa [refsC, AV.cells] using hid)
theorem fillL_congrM : ∀ (ps : List (Nat × Nat × Operand)) (cs : List AV), (∀ id ∈ ps.flatMap (fun p => refsC (ev T p.2.2)), M' id = M id) → fillL M' cs T ps = fillL M cs T ps
  | [], _, _ => rfl
  | (off, n, x) :: ps, cs, h => by
    simp only [fillL, flat_congr (fun id hid => h id (by simp only [List.mem_flatMap, List.mem_cons]; exact ⟨_, .inl rfl, hid⟩))]
    split
    · exact fillL_congrM ps _ (fun id hid => h id (by rw [List.flatMap_cons]; exact List.mem_append.2 (.inr hid)))
    · rfl
theorem fillE_congrM {sz : Nat} : ∀ (ps : List (Nat × Operand)) (el : List (List AV)), (∀ id ∈ ps.flatMap (fun p => refsC (ev T p.2)), M' id = M id) → fillE M' el sz T ps = fillE M el sz T ps
  | [], _, _ => rfl
  | (i, x) :: ps, el, h => by
    simp only [fillE, flat_congr (fun id hid => h id (by simp only [List.mem_flatMap, List.mem_cons]; exact ⟨_, .inl rfl, hid⟩))]
    split
    · exact fillE_congrM ps _ (fun id hid => h id (by rw [List.flatMap_cons]; exact List.mem_append.2 (.inr hid)))
    · rfl
theorem elems_congr {sz : Nat} {v : AV} {ys : List (List AV)} {rd : List Nat} (h : elems M sz v = some (ys, rd)) (hr : ∀ id ∈ rd, M' id = M id) : elems M' sz v = some (ys, rd) := by
  unfold elems at h ⊢
  split at h
  · exact h
  · exact h
  · exact h
  · rename_i id off n
    simp only [Option.bind_eq_some_iff] at h
    obtain ⟨r, h1, h2⟩ := h
    split at h2
    · rename_i hs
      cases h2
      simp [hr id (by simp), h1, hs]
    · cases h2
  · cases h

set_option maxHeartbeats 1000000 in
theorem step_congrM {op : LOp} {out : Out} (h : step T M slot op = some out) (hr : ∀ id ∈ out.rd, M' id = M id) : step T M' slot op = some out := by
  cases op with
  | build zs ps =>
    simp only [step, Option.map_eq_some_iff] at h ⊢
    obtain ⟨cs, h1, rfl⟩ := h
    exact ⟨cs, by rw [fillL_congrM ps _ hr]; exact h1, rfl⟩
  | slit sz zs len ps =>
    simp only [step, Option.map_eq_some_iff] at h ⊢
    obtain ⟨cs, h1, rfl⟩ := h
    exact ⟨cs, by rw [fillE_congrM ps _ hr]; exact h1, rfl⟩
  | box n x =>
    simp only [step] at h ⊢
    split at h
    · rename_i hc
      cases h
      rw [if_pos ⟨by rw [flat_congr hr]; exact hc.1, hc.2⟩]
    · cases h
  | mkI t x =>
    simp only [step] at h ⊢
    split at h
    · rename_i hc
      cases h
      have : ∀ id ∈ (ev T x).ref1, M' id = M id := by
        intro id hid
        refine hr id ?_
        generalize ev T x = v at hid
        cases v <;> simp [AV.ref1] at hid <;> simp [refsC, AV.cells, AV.ref1, hid]
      rw [if_pos (by rw [one_congr this]; exact hc)]
    · cases h
  | load n ag p =>
    simp only [step] at h ⊢
    split at h
    · exact h
    · rename_i id i o' e
      simp only [Option.bind_eq_some_iff] at h ⊢
      obtain ⟨r, h1, h2⟩ := h
      refine ⟨r, ?_, h2⟩
      rw [hr id ?_]
      · exact h1
      · split at h2 <;> (simp only [Option.map_eq_some_iff] at h2; obtain ⟨_, _, rfl⟩ := h2; simp)
    · cases h
  | store n p x =>
    simp only [step] at h ⊢
    split at h
    · rename_i id i o' e
      split at h
      · rename_i hc
        simp only [Option.bind_eq_some_iff, Option.map_eq_some_iff] at h
        obtain ⟨r, h1, r', h2, rfl⟩ := h
        rw [if_pos ⟨by rw [flat_congr fun id hid => hr id (by simp [hid])]; exact hc.1, hc.2⟩, hr id (by simp)]
        simp only [Option.bind_eq_some_iff, Option.map_eq_some_iff]
        exact ⟨r, h1, r', h2, rfl⟩
      · cases h
    · cases h
  | nilc x =>
    simp only [step] at h ⊢
    split at h
    · simp only [Option.map_eq_some_iff] at h ⊢
      obtain ⟨r, h1, rfl⟩ := h
      exact ⟨r, by rw [hr _ (by simp)]; exact h1, rfl⟩
    · exact h
    · cases h
  | eqn neg isP x =>
    cases isP with
    | false => exact h
    | true =>
      simp only [step] at h ⊢
      split at h
      · exact h
      · exact h
      · simp only [Option.map_eq_some_iff] at h ⊢
        obtain ⟨r, h1, rfl⟩ := h
        exact ⟨r, by rw [hr _ (by simp)]; exact h1, rfl⟩
      · cases h
  | convS x =>
    simp only [step, Option.bind_eq_some_iff, Option.map_eq_some_iff] at h ⊢
    obtain ⟨⟨el, rd⟩, h1, l, h2, rfl⟩ := h
    exact ⟨(el, rd), elems_congr h1 hr, l, h2, rfl⟩
  | slc sz x lo hi =>
    simp only [step] at h ⊢
    split at h
    · simp only [Option.bind_eq_some_iff] at h ⊢
      obtain ⟨l, h1, h', h2, r, h3, h4⟩ := h
      split at h4
      · rename_i hc
        cases h4
        exact ⟨l, h1, h', h2, r, by rw [hr _ (by simp)]; exact h3, by rw [if_pos hc]⟩
      · cases h4
    · exact h
    · exact h
    · cases h
  | convSl x =>
    simp only [step] at h ⊢
    split at h
    · simp only [Option.bind_eq_some_iff] at h ⊢
      obtain ⟨r, h3, h4⟩ := h
      split at h4
      · rename_i hc
        cases h4
        exact ⟨r, by rw [hr _ (by simp)]; exact h3, by rw [if_pos hc]⟩
      · cases h4
    · cases h
  | slc3 sz x lo hi mx =>
    simp only [step] at h ⊢
    split at h
    · simp only [Option.bind_eq_some_iff] at h ⊢
      obtain ⟨l, h1, h', h2, m, h5, r, h3, h4⟩ := h
      split at h4
      · rename_i hc
        cases h4
        exact ⟨l, h1, h', h2, m, h5, r, by rw [hr _ (by simp)]; exact h3, by rw [if_pos hc]⟩
      · cases h4
    · exact h
    · cases h
  | slcA m sz x lo hi =>
    simp only [step] at h ⊢
    split at h
    · simp only [Option.bind_eq_some_iff] at h ⊢
      obtain ⟨l, h1, h', h2, r, h3, h4⟩ := h
      split at h4
      · rename_i hc
        cases h4
        exact ⟨l, h1, h', h2, r, by rw [hr _ (by simp)]; exact h3, by rw [if_pos hc]⟩
      · cases h4
    · cases h
  | fldA off p =>
    simp only [step] at h ⊢
    split at h
    · simp only [Option.map_eq_some_iff] at h ⊢
      obtain ⟨r, h1, rfl⟩ := h
      exact ⟨r, by rw [hr _ (by simp)]; exact h1, rfl⟩
    · exact h
    · cases h
  | idxA sz x ix =>
    simp only [step] at h ⊢
    split at h
    · split at h
      · simp only [Option.bind_eq_some_iff] at h ⊢
        obtain ⟨r, h1, h2⟩ := h
        split at h2
        · rename_i hc
          cases h2
          exact ⟨r, by rw [hr _ (by simp)]; exact h1, by rw [if_pos hc]⟩
        · cases h2
      · exact h
      · cases h
    · cases h
  | idxP m sz x ix =>
    simp only [step] at h ⊢
    split at h
    · split at h
      · rename_i hc
        rw [if_pos hc]
        split at h
        · simp only [Option.map_eq_some_iff] at h ⊢
          obtain ⟨r, h1, rfl⟩ := h
          exact ⟨r, by rw [hr _ (by simp)]; exact h1, rfl⟩
        · exact h
        · cases h
      · cases h
    · cases h
  | lenL x =>
    simp only [step] at h ⊢
    split at h
    · simp only [Option.map_eq_some_iff] at h ⊢
      obtain ⟨r, h1, rfl⟩ := h
      exact ⟨r, by rw [hr _ (by simp)]; exact h1, rfl⟩
    · exact h
    · exact h
    · cases h
  | app sz bytes s x =>
    simp only [step] at h ⊢
    split at h
    · simp only [Option.bind_eq_some_iff] at h ⊢
      obtain ⟨⟨ys, rd⟩, h1, h2⟩ := h
      refine ⟨(ys, rd), elems_congr h1 fun id hid => hr id ?_, h2⟩
      simp only at h2
      split at h2
      · cases h2; exact hid
      · cases h2
    · simp only [Option.bind_eq_some_iff] at h ⊢
      obtain ⟨r, h0, ⟨ys, rd⟩, h1, h2⟩ := h
      simp only at h2
      split at h2
      · rename_i hc
        cases h2
        exact ⟨r, by rw [hr _ (by simp)]; exact h0, (ys, rd), elems_congr h1 fun id hid => hr id (by simp [hid]), by simp only; rw [if_pos hc]⟩
      · cases h2
    · cases h
  | _ => exact h

theorem does_congr {op : LOp} {out : Out} (h : does P T M slot op out) (hT : ∀ t ∈ (opds op).flatMap opdTmps, T' t = T t) (hr : ∀ id ∈ out.rd, M' id = M id) : does P T' M' slot op out := by
  have he : ∀ x ∈ opds op, ev T' x = ev T x := fun x hx => ev_congr fun t ht => hT t (List.mem_flatMap.2 ⟨x, hx, ht⟩)
  have calls : ∀ {f : FuncId} {args : List AV}, CallOk P f args M slot out → CallOk P f args M' slot out := fun hc => ⟨hc.1, fun M2 h2 => hc.2 M2 fun id hid => (h2 id hid).trans (hr id hid)⟩
  have other : step T M slot op = some out → step T' M' slot op = some out := fun hs => step_congrM (by rw [step_congrT he]; exact hs) hr
  cases op with
  | call f args =>
    have h' : CallOk P f (args.map (ev T)) M slot out := h
    show CallOk P f (args.map (ev T')) M' slot out
    rw [List.map_congr_left (show ∀ x ∈ args, ev T' x = ev T x from he)]
    exact calls h'
  | callv x args =>
    obtain ⟨f, caps, h1, h2⟩ := h
    refine ⟨f, caps, by rw [he x (by simp [opds])]; exact h1, ?_⟩
    rw [List.map_congr_left (show ∀ y ∈ args, ev T' y = ev T y from fun y hy => he y (by simp [opds, hy]))]
    exact calls h2
  | _ => exact other h
end
end Go.Vm
