import Derived.Test.YtkjmlfbafmdegaaVmS
namespace Go.Vm
set_option linter.unusedSectionVars false
set_option linter.unusedSimpArgs false
set_option linter.unusedVariables false
open Go
variable [Inhabited LayT]

def lkT : List (Nat × AV) → Tm
  | [] => fun _ => .undef
  | (a, v) :: r => fun t => if t = a then v else lkT r t
def restrict (keep : List Nat) (T : Tm) : Tm := lkT (keep.map fun t => (t, T t))

def disj (a b : List Nat) : Bool := a.all fun x => !b.contains x
def okLog (bef : List Nat) : Log → Bool
  | [] => true
  | (i, w, r) :: rest => (rest.all fun e => befOf bef i e.1 || (disj e.2.1 r && disj e.2.1 w && disj w e.2.2)) && okLog bef rest
def apartB (p q : LOper) : Bool :=
  (match p.dst with | none => true | some d => !(tmpsOf q).contains d && !(q.dst == some d)) && (match q.dst with | none => true | some d => !(tmpsOf p).contains d)
def okTmps (bef : List Nat) (os : List LOper) : Bool :=
  os.zipIdx.all fun (q, i) => (os.zipIdx.take i).all fun (p, j) => befOf bef i j || apartB p q

def compC (P : Program) (n : Nat) (ks : Nat → Bool × List Nat) : Code → Option LCode
  | .skip => some .skip
  | .region id ops dr => match ops.toList.mapM (compOper P n ops) with
    | none => none
    | some os => if dr = true then
        (if okBack ops.toList = true ∧ okBef ops.toList (Region.before ops).toList = true ∧ okTmps (Region.before ops).toList os = true then some (.rgn (ks id).1 true (Region.before ops).toList (ks id).2 os) else none)
      else some (.rgn (ks id).1 false [] (ks id).2 os)
  | .seq x y => match compC P n ks x, compC P n ks y with
    | some a, some b => some (.seq a b)
    | _, _ => none
  | .cond c x y => match compC P n ks x, compC P n ks y with
    | some a, some b => some (.cond c a b)
    | _, _ => none
  | .block id c => (compC P n ks c).map (.block id)
  | .loop c => (compC P n ks c).map .loop
  | .exit id => some (.exit id)
  | .ret => some .ret
  | _ => none

abbrev Cont := Exit → Tm → Mem → Nat → Prop

def onNormal (f : Tm → Mem → Nat → Prop) (K : Cont) : Cont
  | .normal, T, M, nb => f T M nb
  | x, T, M, nb => K x T M nb
def onExit (id : Nat) (K : Cont) : Cont
  | .exit i, T, M, nb => if i = id then K .normal T M nb else K (.exit i) T M nb
  | x, T, M, nb => K x T M nb
/-- What is told of a state is told of it in other words, too: weaker ones. -/
def Wk (n k : Nat) (T : Tm) (M : Mem) (nb : Nat) (T2 : Tm) (M2 : Mem) (nb2 : Nat) : Prop :=
  ∀ g a w, StR n k g T M nb a w → ∃ g2, StR n k g2 T2 M2 nb2 a w ∧ WEvo k g M w g2 M2 w
theorem Wk.refl (n k : Nat) (T : Tm) (M : Mem) (nb : Nat) : Wk n k T M nb T M nb := fun g a w st => ⟨g, st, WEvo.refl _ _ _ _⟩
theorem Wk.trans {n k : Nat} {T T1 T2 : Tm} {M M1 M2 : Mem} {nb nb1 nb2 : Nat} (h : Wk n k T M nb T1 M1 nb1) (h2 : Wk n k T1 M1 nb1 T2 M2 nb2) : Wk n k T M nb T2 M2 nb2 := fun g a w st => by
  obtain ⟨g1, st1, e1⟩ := h g a w st
  obtain ⟨g2, st2, e2⟩ := h2 g1 a w st1
  exact ⟨g2, st2, e1.trans e2⟩
def WkB (wk : Bool) (n k : Nat) (F : Tm → Mem → Nat → Prop) (T : Tm) (M : Mem) (nb : Nat) : Prop :=
  if wk = true then ∃ T2 M2 nb2, Wk n k T M nb T2 M2 nb2 ∧ F T2 M2 nb2 else F T M nb

def loopN (n k : Nat) (body : Cont → Tm → Mem → Nat → Prop) (K : Cont) : Nat → Tm → Mem → Nat → Prop
  | 0 => fun _ _ _ => False
  | m + 1 => fun T M nb => ∃ T2 M2 nb2, Wk n k T M nb T2 M2 nb2 ∧ body (onNormal (loopN n k body K m) K) T2 M2 nb2
def LoopB (n k : Nat) (body : Cont → Tm → Mem → Nat → Prop) (K : Cont) (T : Tm) (M : Mem) (nb : Nat) : Prop := ∃ m, loopN n k body K m T M nb

/-- What a code comes to: told by canonical states alone. -/
def run (P : Program) (n k : Nat) : LCode → Cont → Tm → Mem → Nat → Prop
  | .skip, K => K .normal
  | .rgn wk dr bef keep ops, K => WkB wk n k fun T M nb => rgnP P dr nb (fun T' M' log => (dr = true → okLog bef log = true) ∧ K .normal (restrict keep T') M' (nb + 8 * ops.length)) ops 0 T M []
  | .seq a b, K => run P n k a (onNormal (run P n k b K) K)
  | .cond c x y, K => fun T M nb => match ev T c with
    | .b t => if t = true then run P n k x K T M nb else run P n k y K T M nb
    | _ => False
  | .block id c, K => run P n k c (onExit id K)
  | .loop c, K => LoopB n k (run P n k c) K
  | .exit id, K => K (.exit id)
  | .ret, K => K .ret

section
variable {P : Program} {n k : Nat}

/-- From every real state that is told so. -/
def AWp (P : Program) (n k : Nat) (c : Code) (Q : Cont) (T : Tm) (M : Mem) (nb : Nat) : Prop :=
  ∀ g a w, StR n k g T M nb a w → c.wp P (fun ex a' w' => ∃ T' M' nb' g', Q ex T' M' nb' ∧ StR n k g' T' M' nb' a' w' ∧ WEvo k g M w g' M' w') a w

theorem lkT_rel {g : Gh} {M : Mem} {w : World} {T : Tm} {a : Act} (h : RelT g M w T a) : ∀ (keep : List Nat), RelT g M w (restrict keep T) a
  | [] => fun t => trivial
  | k :: keep => fun t => by
    have ih := lkT_rel h keep t
    simp only [restrict, List.map_cons, lkT] at ih ⊢
    by_cases e : t = k
    · rw [if_pos e, e]; exact h k
    · rw [if_neg e]; exact ih
theorem StR.restrict {g : Gh} {T : Tm} {M : Mem} {nb : Nat} {a : Act} {w : World} (h : StR n k g T M nb a w) (keep : List Nat) : StR n k g (restrict keep T) M nb a w :=
  { h with tm := lkT_rel h.tm keep }

/-- What the text's order shows, operation by operation. -/
theorem tr_of_rgnP {base : Nat} {K : Tm → Mem → Log → Prop} {ops : Array Oper} : ∀ (os : List LOper) (rest : List Oper) (i : Nat) {T : Tm} {M : Mem} {log : Log},
    rest.mapM (compOper P n ops) = some os → (∀ j o, rest[j]? = some o → ops[i + j]? = some o) → rgnP P true base K os i T M log →
    ∃ R : List It, ∃ T' M' log', Runs P base R T M T' M' ∧ K T' M' (log' ++ log) ∧ R.map (·.lo) = os ∧ R.map (·.i) = List.range' i os.length ∧ (∀ p ∈ R, ops[p.i]? = some p.o ∧ Comped P n ops p.o p.lo) ∧
      ((R.filter (·.x.isSome)).map fun p => (p.i, p.wr, p.rd)).reverse = log'
  | [], rest, i, T, M, log, hc, hget, h => by
    cases rest with
    | nil => exact ⟨[], T, M, [], ⟨rfl, rfl⟩, h, rfl, rfl, by simp, rfl⟩
    | cons o r =>
      rw [List.mapM_cons] at hc
      simp only [Option.bind_eq_bind, Option.bind_eq_some_iff] at hc
      obtain ⟨_, _, _, _, h3⟩ := hc
      cases h3
  | lo :: os, [], i, T, M, log, hc, hget, h => by simp at hc
  | lo :: os, o :: rest, i, T, M, log, hc, hget, h => by
    rw [List.mapM_cons] at hc
    simp only [Option.bind_eq_bind, Option.bind_eq_some_iff] at hc
    obtain ⟨lo', h1, os', h2, h3⟩ := hc
    cases h3
    have hc' := comped h1
    have ho : ops[i]? = some o := by simpa using hget 0 o rfl
    have hget' : ∀ j o', rest[j]? = some o' → ops[i + 1 + j]? = some o' := fun j o' hj => by
      have := hget (j + 1) o' (by simpa using hj)
      rwa [show i + (j + 1) = i + 1 + j by omega] at this
    unfold rgnP at h
    split at h
    · exact h.elim
    · rename_i t hg
      cases t with
      | false =>
        simp only [Bool.false_eq_true, if_false] at h
        obtain ⟨R, T', M', log', r1, r2, r3, r4, r5, r6⟩ := tr_of_rgnP os rest (i + 1) h2 hget' h
        refine ⟨⟨i, o, lo, none⟩ :: R, T', M', log', ⟨⟨by simpa using hg, by simp⟩, r1⟩, r2, by simp [r3], by simp [r4, List.range'_succ], ?_, by simpa using r6⟩
        intro p hp
        rcases List.mem_cons.1 hp with rfl | hp
        · exact ⟨ho, hc'⟩
        · exact r5 p hp
      | true =>
        simp only [if_true] at h
        have go : ∀ out, does P T M (base + 8 * i) lo.op out → rgnP P true base K os (i + 1) (put T lo.dst out.v) (upd M out.eff) ((i, out.eff.map (·.1), out.rd) :: log) →
            ∃ R : List It, ∃ T' M' log', Runs P base R T M T' M' ∧ K T' M' (log' ++ log) ∧ R.map (·.lo) = lo :: os ∧ R.map (·.i) = List.range' i (lo :: os).length ∧ (∀ p ∈ R, ops[p.i]? = some p.o ∧ Comped P n ops p.o p.lo) ∧
              ((R.filter (·.x.isSome)).map fun p => (p.i, p.wr, p.rd)).reverse = log' := by
          intro out hd hr
          obtain ⟨R, T', M', log', r1, r2, r3, r4, r5, r6⟩ := tr_of_rgnP os rest (i + 1) h2 hget' hr
          refine ⟨⟨i, o, lo, some out⟩ :: R, T', M', log' ++ [(i, out.eff.map (·.1), out.rd)], ⟨⟨by simpa using hg, fun out' e => by cases e; exact hd⟩, r1⟩, by simpa using r2, by simp [r3], by simp [r4, List.range'_succ], ?_, ?_⟩
          · intro p hp
            rcases List.mem_cons.1 hp with rfl | hp
            · exact ⟨ho, hc'⟩
            · exact r5 p hp
          · simp only [List.filter_cons, Option.isSome_some, if_true, List.map_cons, List.reverse_cons, r6]
            rfl
        split at h
        · rename_i f args e
          obtain ⟨out, h4, h5⟩ := h
          exact go out (by rw [e]; exact h4) h5
        · rename_i x args e
          obtain ⟨out, h4, h5⟩ := h
          exact go out (by rw [e]; exact h4) h5
        · rename_i op hn1 hn2
          split at h
          · exact h.elim
          · rename_i out hs
            exact go out (does_of_step hs) h

theorem disj_spec {a b : List Nat} (h : disj a b = true) : ∀ x ∈ a, x ∉ b := fun x hx hb => by
  have := List.all_eq_true.1 h x hx
  simp at this
  exact this hb
theorem apartB_spec {p q : LOper} (h : apartB p q = true) : (∀ d, p.dst = some d → d ∉ tmpsOf q ∧ q.dst ≠ some d) ∧ (∀ d, q.dst = some d → d ∉ tmpsOf p) := by
  unfold apartB at h
  rw [Bool.and_eq_true] at h
  refine ⟨fun d hd => ?_, fun d hd => ?_⟩
  · rw [hd] at h; simp at h; exact h.1
  · rw [hd] at h; simp at h; exact h.2

theorem pair_ok {bef : List Nat} {R : List It} {os : List LOper} (h1 : R.map (·.lo) = os) (h2 : R.map (·.i) = List.range' 0 os.length) (ht : okTmps bef os = true)
    (hl : okLog bef (((R.filter (·.x.isSome)).map fun p => (p.i, p.wr, p.rd)).reverse) = true) : R.Pairwise fun p q => befOf bef q.i p.i = true ∨ Ind p q := by
  have hlog : ∀ l : Log, okLog bef l = true → l.reverse.Pairwise fun e e' => befOf bef e'.1 e.1 = true ∨ ((∀ x ∈ e.2.1, x ∉ e'.2.2 ∧ x ∉ e'.2.1) ∧ ∀ x ∈ e'.2.1, x ∉ e.2.2) := by
    intro l
    induction l with
    | nil => intro _; exact List.Pairwise.nil
    | cons e l ih =>
      intro h
      obtain ⟨i, w, r⟩ := e
      simp only [okLog, Bool.and_eq_true] at h
      rw [List.reverse_cons, List.pairwise_append]
      refine ⟨ih h.2, List.pairwise_singleton _ _, fun e1 he1 e2 he2 => ?_⟩
      simp only [List.mem_singleton] at he2
      subst he2
      have := List.all_eq_true.1 h.1 e1 (by simpa using he1)
      simp only [Bool.or_eq_true, Bool.and_eq_true] at this
      rcases this with h | ⟨⟨k1, k2⟩, k3⟩
      · exact .inl h
      · exact .inr ⟨fun x hx => ⟨disj_spec k1 x hx, disj_spec k2 x hx⟩, disj_spec k3⟩
  have hmem := hlog _ hl
  rw [List.reverse_reverse, List.pairwise_map] at hmem
  have hpm : R.Pairwise fun p q => befOf bef q.i p.i = true ∨ ((∀ x ∈ p.wr, x ∉ q.rd ∧ x ∉ q.wr) ∧ ∀ x ∈ q.wr, x ∉ p.rd) := by
    rw [List.pairwise_iff_getElem] at hmem ⊢
    have key : ∀ {R : List It}, (R.filter (·.x.isSome)).Pairwise (fun p q => befOf bef q.i p.i = true ∨ ((∀ x ∈ p.wr, x ∉ q.rd ∧ x ∉ q.wr) ∧ ∀ x ∈ q.wr, x ∉ p.rd)) →
        R.Pairwise fun p q => befOf bef q.i p.i = true ∨ ((∀ x ∈ p.wr, x ∉ q.rd ∧ x ∉ q.wr) ∧ ∀ x ∈ q.wr, x ∉ p.rd) := by
      intro R
      induction R with
      | nil => intro _; exact List.Pairwise.nil
      | cons p R ih =>
        intro h
        rw [List.filter_cons] at h
        cases hx : p.x with
        | none =>
          simp only [hx, Option.isSome_none, Bool.false_eq_true, if_false] at h
          refine List.Pairwise.cons (fun q _ => .inr ⟨fun x hx' => ?_, fun x _ hr => ?_⟩) (ih h)
          · simp [It.wr, hx] at hx'
          · simp [It.rd, hx] at hr
        | some out =>
          simp only [hx, Option.isSome_some, if_true] at h
          refine List.Pairwise.cons (fun q hq => ?_) (ih (List.Pairwise.of_cons h))
          cases hy : q.x with
          | none => exact .inr ⟨fun x _ => by simp [It.rd, It.wr, hy], fun x hx' => by simp [It.wr, hy] at hx'⟩
          | some out' => exact List.rel_of_pairwise_cons h (List.mem_filter.2 ⟨hq, by simp [hy]⟩)
    have := key (R := R) (by rw [List.pairwise_iff_getElem]; exact hmem)
    rw [List.pairwise_iff_getElem] at this
    exact this
  rw [List.pairwise_iff_getElem] at hpm ⊢
  intro i j hi hj hij
  rcases hpm i j hi hj hij with h | h
  · exact .inl h
  · subst h1
    have e1 : (R.map (·.lo)).length = R.length := by simp
    have ei : R[i].i = i := by
      have : (R.map (·.i))[i]? = some R[i].i := by simp [hi]
      rw [h2, List.getElem?_range' (by rw [e1]; exact hi)] at this
      simpa using this.symm
    have ej : R[j].i = j := by
      have : (R.map (·.i))[j]? = some R[j].i := by simp [hj]
      rw [h2, List.getElem?_range' (by rw [e1]; exact hj)] at this
      simpa using this.symm
    have k1 := List.all_eq_true.1 ht (R[j].lo, j) (by rw [List.mem_iff_getElem?]; exact ⟨j, by rw [List.getElem?_zipIdx]; simp [hj]⟩)
    have k2 := List.all_eq_true.1 k1 (R[i].lo, i) (by
      rw [List.mem_iff_getElem?]
      exact ⟨i, by rw [List.getElem?_take, if_pos hij, List.getElem?_zipIdx]; simp [hi]⟩)
    simp only [Bool.or_eq_true] at k2
    rw [ei, ej]
    rcases k2 with k2 | k2
    · exact .inl k2
    · obtain ⟨k3, k4⟩ := apartB_spec k2
      exact .inr ⟨k3, k4, h.1, h.2⟩

theorem awp_region {id : Nat} {ops : Array Oper} {dr : Bool} {bef keep : List Nat} {os : List LOper} {K : Cont} {T : Tm} {M : Mem} {nb : Nat} (hmix : P.follows .mixedOrders = true)
    (hc : ops.toList.mapM (compOper P n ops) = some os) (hd : dr = true → okBack ops.toList = true ∧ okBef ops.toList bef = true ∧ okTmps bef os = true)
    (h : rgnP P dr nb (fun T' M' log => (dr = true → okLog bef log = true) ∧ K .normal (Go.Vm.restrict keep T') M' (nb + 8 * os.length)) os 0 T M []) : AWp P n k (.region id ops dr) K T M nb := by
  intro g a w st
  have hlen : os.length = ops.size := by
    have key : ∀ (l : List Oper) (os : List LOper), l.mapM (compOper P n ops) = some os → os.length = l.length := by
      intro l
      induction l with
      | nil => intro os h; simp at h; subst h; rfl
      | cons o l ih =>
        intro os h
        rw [List.mapM_cons] at h
        simp only [Option.bind_eq_bind, Option.bind_eq_some_iff] at h
        obtain ⟨_, _, os', h2, h3⟩ := h
        cases h3
        simp [ih os' h2]
    simpa using key _ _ hc
  cases dr with
  | false =>
    refine wp_region ?_
    rw [List.range_eq_range']
    have := rgn_seq (P := P) (n := n) (ops := ops) (Q := fun ex a' w' => ∃ T' M' nb' g', K ex T' M' nb' ∧ StR n k g' T' M' nb' a' w' ∧ WEvo k g M w g' M' w') (k := k) (g0 := g) (M0 := M) (w0 := w) ops.size
      (fun T' M' log g' a' w' hk st' hw => ⟨_, M', _, g', hk.2, by rw [hlen]; exact st'.restrict keep, hw⟩) ops.toList os 0 (by simp) (fun j o hj => by simpa using hj) hc (by simpa using st) (WEvo.refl k g M w) h
    simpa using this
  | true =>
    obtain ⟨h1, h2, h3⟩ := hd rfl
    refine wp_region_any hmix ?_
    obtain ⟨R, T', M', log', r1, r2, r3, r4, r5, r6⟩ := tr_of_rgnP os ops.toList 0 hc (fun j o hj => by simpa using hj) h
    simp only [List.append_nil] at r2
    have hRl : R.length = ops.size := by rw [← hlen, ← r3]; simp
    have hmemi : ∀ p ∈ R, p.i < ops.size := fun p hp => by
      have : p.i ∈ R.map (·.i) := List.mem_map.2 ⟨p, hp, rfl⟩
      rw [r4] at this
      simp at this
      omega
    have hE : Evo g M w g M { w with drawn := w.drawn + 1 } := ⟨fun _ h => h, fun _ h => h, fun _ h => .inl h, fun _ h => h, fun _ _ => rfl, Nat.le_refl _, rfl, rfl, ⟨rfl, Nat.le_succ _⟩, fun _ _ r h => ⟨r, h, rfl, rfl, rfl⟩⟩
    have hm' : MemRel g M { w with drawn := w.drawn + 1 } :=
      { zu := st.mem.zu, lay := st.mem.lay.evo hE, ul := st.mem.ul, known := st.mem.known, inj := st.mem.inj
        row := fun id r hr => by
          rcases st.mem.row id r hr with h | ⟨rb, ro, size, k1, k2, k3, k4, k5⟩
          · exact .inl h
          · exact .inr ⟨rb, ro, size, k1, k2, k3, k4, RelD.evo hE st.mem.zu _ _ _ _ rfl k5⟩ }
    refine any_runs (P := P) (n := n) (ops := ops) (bef := bef) (base := nb) (k := k) (g0 := g) (M0 := M) (w0 := w) (T' := T') (M' := M') h2 h1
      (fun g' a' w' st' hw => ⟨_, M', _, g', r2.2, by rw [hlen]; exact st'.restrict keep, hw⟩) ops.size _ R (by omega) ?_ r1 hm' (fun t => Rel.evo hE st.mem.zu _ _ (st.tm t)) st.size st.defers
      (fun id hid => .inl (st.nb id hid)) st.kn (hE.wevo st.kn)
    exact {
      size := by simp
      mem := fun i hi _ => by
        have : i ∈ R.map (·.i) := by rw [r4]; simp [hlen]; exact hi
        obtain ⟨p, hp, rfl⟩ := List.mem_map.1 this
        exact ⟨p, hp, rfl⟩
      un := fun p hp => ⟨hmemi p hp, by simp [hmemi p hp]⟩
      cl := fun i hi hl => by simp [hi] at hl
      it := r5
      pw := pair_ok r3 r4 h3 (by rw [r6]; exact r2.1 (by trivial))
      so := by
        have : (R.map (·.i)).Pairwise (· < ·) := by rw [r4]; exact List.pairwise_lt_range'
        rwa [List.pairwise_map] at this }
end
end Go.Vm
