import Derived.Test.YtndaokjifafhkaaGreatDoorVmN
import Derived.Test.YtndaokjifafhkaaGreatDoorVmX
/- Calls told in one memory, with a window of new names; regions that draw their order, where stores into different cells of one row are apart. -/
namespace Go.Vx
set_option linter.unusedSectionVars false
set_option linter.unusedSimpArgs false
set_option linter.unusedVariables false
open Go Go.Vm
variable [Inhabited LayT]

/-- A call that comes back, whether the function has a body or not. -/
def CallsX (P : Program) (f : FuncId) (us : Array Value) (w : World) (R : Value → World → Prop) : Prop :=
  (Callable P f ∧ Calls P f us w fun e w' => ∃ u, e = .returned u ∧ R u w') ∨ ∃ u w', (callFunc f us).run P w = .ok (.value u) w' ∧ R u w'
/-- What a call does, told at one memory, of which it looks at the rows 'rd' alone; new names are of the window. -/
def CallW (P : Program) (f : FuncId) (args : List AV) (M : Mem) (V : Nat → Prop) (out : Out) : Prop :=
  ∀ M', (∀ id ∈ out.rd, M' id = M id) → ∀ g w us, MemRel g M' w → RelL g M' w args us → (∀ id, V id → ¬ g.L id) →
    CallsX P f us.toArray w fun u w' => ∃ g', Rel g' (upd M' out.eff) w' out.v u ∧ MemRel g' (upd M' out.eff) w' ∧ Evo g M' w g' (upd M' out.eff) w' ∧
      ∀ id, g'.L id → g.L id ∨ V id
theorem CallW.of_ok {P : Program} {f : FuncId} {args : List AV} {M : Mem} {lo : Nat} {out : Out} (h : CallOk P f args M lo out) : CallW P f args M (fun id => lo ≤ id ∧ id < lo + 8) out := by
  intro M' hM g w us hm hus hs
  refine .inl ⟨h.1, (h.2 M' hM g w us hm hus fun id h1 h2 => hs id ⟨h1, h2⟩).mono ?_⟩
  rintro e w' ⟨u, g', h1, h2⟩
  exact ⟨u, h1, g', h2⟩
def doesW (P : Program) (T : Tm) (M : Mem) (V : Nat → Prop) (op : LOp) (out : Out) : Prop :=
  match op with
  | .call f args => CallW P f (args.map (ev T)) M V out
  | .callv x args => (∃ f caps, ev T x = .fn f caps ∧ CallW P f (args.map (ev T) ++ caps) M V out) ∨ ∃ f rs, ev T x = .bfn f rs ∧ CallW P f (rs ++ args.map (ev T)) M V out
  | op => ∃ s, V s ∧ Go.Vm.step T M s op = some out

section
variable {P : Program} {n k : Nat} {g : Gh} {T : Tm} {M : Mem} {nb : Nat} {a : Act} {w : World}
theorem callX_wp {o : Oper} {f : FuncId} {args : List AV} {us : List Value} {V : Nat → Prop} {out : Out} (hrun : ∀ r, (callFunc f us.toArray).run P w = r → (execOp a.eval o).run P w = r)
    (hc : CallW P f args M V out) (hm : MemRel g M w) (hus : RelL g M w args us) (hslot : ∀ id, V id → ¬ g.L id) {K : Act → World → Prop} {Q : Exit → Act → World → Prop}
    (hK : ∀ u w' g', Rel g' (upd M out.eff) w' out.v u → MemRel g' (upd M out.eff) w' → Evo g M w g' (upd M out.eff) w' → (∀ id, g'.L id → g.L id ∨ V id) → K (a.put o.dst u) w') : o.wp P a w K Q := by
  rcases hc M (fun _ _ => rfl) g w us hm hus hslot with ⟨hcl, h⟩ | ⟨u, w', hr, g', h1, h2, h3, h4⟩
  · unfold Oper.wp
    rw [hrun _ (run_callFunc hcl us.toArray w), Oper.upon_enter]
    refine h.mono ?_
    rintro e w' ⟨u, rfl, g', h1, h2, h3, h4⟩
    exact hK u w' g' h1 h2 h3 h4
  · unfold Oper.wp
    rw [hrun _ hr, Oper.upon_value]
    exact hK u w' g' h1 h2 h3 h4
theorem doesW_wp {o : Oper} {l : LOp} {V : Nat → Prop} {out : Out} (hc : compOp P o.op = some l) (hd : doesW P T M V l out) (hm : MemRel g M w) (hT : RelT g M w T a)
    (hslot : ∀ id, V id → ¬ g.L id) {K : Act → World → Prop} {Q : Exit → Act → World → Prop}
    (hK : ∀ u w' g', Rel g' (upd M out.eff) w' out.v u → MemRel g' (upd M out.eff) w' → Evo g M w g' (upd M out.eff) w' → (∀ id, g'.L id → g.L id ∨ V id) → K (a.put o.dst u) w') : o.wp P a w K Q := by
  have other : (∃ s, V s ∧ Go.Vm.step T M s l = some out) → o.wp P a w K Q := by
    rintro ⟨s, hV, hs⟩
    obtain ⟨u, w', g', hr, h1, h2, h3, h4⟩ := step_sound hm (hslot s hV) hT hc hs
    have := hK u w' g' h1 h2 h3 (fun i h => (h4 i h).imp (fun x => x) fun e => by rw [e]; exact hV)
    rcases hr with hr | ⟨hr, rfl⟩
    · unfold Oper.wp; rw [hr]; exact this
    · unfold Oper.wp; rw [hr]; exact this
  cases l with
  | call f args =>
    obtain ⟨c, e, h1, rfl⟩ := compOp_call hc
    obtain ⟨callee, cargs, tys⟩ := c
    simp only at h1
    subst h1
    have hd' : CallW P f (cargs.toList.map (ev T)) M V out := hd
    refine callX_wp (us := cargs.toList.map a.eval) ?_ hd' hm (relL_ev hT _) hslot hK
    intro r hr
    have : (cargs.toList.map a.eval).toArray = cargs.map a.eval := by cases cargs; simp
    rw [this] at hr
    simp [execOp, e, resolve, Deferred.ofValue, invoke, Act.eval, hr]
  | callv x args =>
    obtain ⟨c, e, h1, rfl⟩ := compOp_callv hc
    obtain ⟨callee, cargs, tys⟩ := c
    simp only at h1
    subst h1
    rcases hd with ⟨f, caps, hx, hd'⟩ | ⟨f, caps, hx, hd'⟩
    · have hxr := rel_ev hT x
      rw [hx] at hxr
      obtain ⟨vs, hu, hl⟩ := hxr
      refine callX_wp (us := cargs.toList.map a.eval ++ vs) ?_ hd' hm (relL_append (relL_ev hT _) hl) hslot hK
      intro r hr
      have : (cargs.toList.map a.eval ++ vs).toArray = cargs.map a.eval ++ vs.toArray := by cases cargs; simp
      rw [this] at hr
      simp [execOp, e, resolve, Deferred.ofValue, invoke, hu, hr]
    · have hxr := rel_ev hT x
      rw [hx] at hxr
      obtain ⟨vs, hu, hl⟩ := hxr
      refine callX_wp (us := vs ++ cargs.toList.map a.eval) ?_ hd' hm (relL_append hl (relL_ev hT _)) hslot hK
      intro r hr
      have : (vs ++ cargs.toList.map a.eval).toArray = vs.toArray ++ cargs.map a.eval := by cases cargs; simp
      rw [this] at hr
      simp [execOp, e, resolve, Deferred.ofValue, invoke, hu, hr]
  | _ => exact other hd
end

def mark1 (D : Nat) : Deferred := { target := .collected D, args := #[] }
/-- Marks, which hold no calls, in blocks that are new and kept. -/
def Harm (n0 : Nat) (g : Gh) (w : World) (ds : List Deferred) : Prop := n0 ≤ w.heap.size ∧ ∃ Ds : List Nat, ds = Ds.map mark1 ∧ Ds.Nodup ∧ ∀ D ∈ Ds, n0 ≤ D ∧ g.U D ∧ ¬ g.Z D ∧ w.heap[D]? = some (.deferred (some []))
theorem Harm.nil {n0 : Nat} {g : Gh} {w : World} (h : n0 ≤ w.heap.size) : Harm n0 g w [] := ⟨h, [], rfl, List.nodup_nil, by simp⟩
theorem Harm.evo {n0 : Nat} {g g' : Gh} {M M' : Mem} {w w' : World} {ds : List Deferred} (h : Harm n0 g w ds) (E : Evo g M w g' M' w') : Harm n0 g' w' ds := by
  obtain ⟨hle, Ds, e, hn, h⟩ := h
  refine ⟨Nat.le_trans hle E.size, Ds, e, hn, fun D hD => ?_⟩
  obtain ⟨h0, h1, h2, h3⟩ := h D hD
  refine ⟨h0, E.U D h1, fun hz => ?_, (E.keep D h1).trans h3⟩
  rcases E.Zn D hz with h | h
  · exact h2 h
  · exact h h1
/-! ### a state: the names of 'F' are free -/
structure StX (n n0 : Nat) (g : Gh) (T : Tm) (M : Mem) (F : Nat → Prop) (a : Act) (w : World) : Prop where
  mem : MemRel g M w
  tm : RelT g M w T a
  free : ∀ id, F id → ¬ g.L id
  size : a.tmps.size = n
  defers : Harm n0 g w a.defers
/-- New names are of what was free, and is not any more. -/
def Gr (g g' : Gh) (F F' : Nat → Prop) : Prop := (∀ id, F' id → F id) ∧ ∀ id, g'.L id → g.L id ∨ (F id ∧ ¬ F' id)
theorem Gr.refl {g : Gh} {F : Nat → Prop} : Gr g g F F := ⟨fun _ h => h, fun _ h => .inl h⟩
theorem Gr.trans {g g1 g2 : Gh} {F F1 F2 : Nat → Prop} (h : Gr g g1 F F1) (h2 : Gr g1 g2 F1 F2) : Gr g g2 F F2 := ⟨fun id k => h.1 id (h2.1 id k), fun id hid => by
  rcases h2.2 id hid with k | ⟨k1, k2⟩
  · rcases h.2 id k with k | ⟨k1, k2⟩
    · exact .inl k
    · exact .inr ⟨k1, fun k3 => k2 (h2.1 id k3)⟩
  · exact .inr ⟨h.1 id k1, k2⟩⟩
section
variable {n n0 : Nat} {g : Gh} {T : Tm} {M : Mem} {F : Nat → Prop} {a : Act} {w : World}
theorem put_tm {g' : Gh} {M' : Mem} {w' : World} (hm0 : MemRel g M w) (ht : RelT g M w T a) (hs : a.tmps.size = n) {dst : Option Nat} (hd : ∀ d, dst = some d → d < n) {v : AV} {u : Value}
    (hE : Evo g M w g' M' w') (hr : Rel g' M' w' v u) : RelT g' M' w' (put T dst v) (a.put dst u) := fun t => by
  cases dst with
  | none => exact Rel.evo hE hm0.zu _ _ (ht t)
  | some d =>
    have hd' : d < a.tmps.size := by rw [hs]; exact hd d rfl
    rw [put_getD hd']
    by_cases e : t = d
    · subst e; simp only [Go.Vm.put, if_true]; exact hr
    · simp only [Go.Vm.put, e, if_false]; exact Rel.evo hE hm0.zu _ _ (ht t)
theorem put_size {a : Act} {dst : Option Nat} {u : Value} : (a.put dst u).tmps.size = a.tmps.size := by cases dst <;> simp [Act.put]
theorem put_defers {a : Act} {dst : Option Nat} {u : Value} : (a.put dst u).defers = a.defers := by cases dst <;> simp [Act.put]
theorem StX.restrict (h : StX n n0 g T M F a w) (keep : List Nat) : StX n n0 g (Go.Vm.restrict keep T) M F a w := { h with tm := lkT_rel h.tm keep }
end

/-! ### what an operation of a region does, whatever the order -/
structure XI where
  v : AV
  eff : Mem → List (Nat × Option Row)
  rd : List Nat
structure It where
  i : Nat
  o : Oper
  lo : LOper
  x : Option XI
  V : Nat → Prop
def It.val (p : It) : AV := match p.x with | none => .k undef | some X => X.v
def It.nT (T : Tm) (p : It) : Tm := put T p.lo.dst p.val
def It.eff (M : Mem) (p : It) : List (Nat × Option Row) := match p.x with | none => [] | some X => X.eff M
def It.nM (M : Mem) (p : It) : Mem := upd M (p.eff M)
def okM (P : Program) (T : Tm) (M : Mem) (p : It) : Prop := ∀ X, p.x = some X → doesW P T M p.V p.lo.op ⟨X.v, X.eff M, X.rd⟩
def okAt (P : Program) (T : Tm) (M : Mem) (p : It) : Prop := guardOk T p.lo.guard = some p.x.isSome ∧ okM P T M p
/-- Two that change places in memory. -/
def MC (P : Program) (p q : It) : Prop := ∀ T T' M, okM P T M p → okM P T' (p.nM M) q → okM P T' M q ∧ okM P T (q.nM M) p ∧ q.nM (p.nM M) = p.nM (q.nM M)
structure Ind (P : Program) (p q : It) : Prop where
  pq : ∀ d, p.lo.dst = some d → d ∉ tmpsOf q.lo ∧ q.lo.dst ≠ some d
  qp : ∀ d, q.lo.dst = some d → d ∉ tmpsOf p.lo
  mc : MC P p q

section
variable {P : Program} {T : Tm} {M : Mem}
theorem doesW_congrT {T' : Tm} {V : Nat → Prop} {op : LOp} {out : Out} (h : doesW P T M V op out) (hT : ∀ t ∈ (opds op).flatMap opdTmps, T' t = T t) : doesW P T' M V op out := by
  have he : ∀ x ∈ opds op, ev T' x = ev T x := fun x hx => ev_congr fun t ht => hT t (List.mem_flatMap.2 ⟨x, hx, ht⟩)
  have other : (∃ s, V s ∧ Go.Vm.step T M s op = some out) → (∃ s, V s ∧ Go.Vm.step T' M s op = some out) := fun ⟨s, h1, h2⟩ => ⟨s, h1, by rw [step_congrT he]; exact h2⟩
  cases op with
  | call f args =>
    have h' : CallW P f (args.map (ev T)) M V out := h
    show CallW P f (args.map (ev T')) M V out
    rw [List.map_congr_left (show ∀ x ∈ args, ev T' x = ev T x from he)]
    exact h'
  | callv x args =>
    rcases h with ⟨f, caps, h1, h2⟩ | ⟨f, caps, h1, h2⟩
    · refine .inl ⟨f, caps, by rw [he x (by simp [opds])]; exact h1, ?_⟩
      rw [List.map_congr_left (show ∀ y ∈ args, ev T' y = ev T y from fun y hy => he y (by simp [opds, hy]))]
      exact h2
    · refine .inr ⟨f, caps, by rw [he x (by simp [opds])]; exact h1, ?_⟩
      rw [List.map_congr_left (show ∀ y ∈ args, ev T' y = ev T y from fun y hy => he y (by simp [opds, hy]))]
      exact h2
  | _ => exact other h
theorem doesW_congrM {M' : Mem} {V : Nat → Prop} {op : LOp} {out : Out} (h : doesW P T M V op out) (hr : ∀ id ∈ out.rd, M' id = M id) : doesW P T M' V op out := by
  have calls : ∀ {f : FuncId} {args : List AV}, CallW P f args M V out → CallW P f args M' V out := fun hc M2 h2 => hc M2 fun id hid => (h2 id hid).trans (hr id hid)
  cases op with
  | call f args => exact calls h
  | callv x args =>
    rcases h with ⟨f, caps, h1, h2⟩ | ⟨f, caps, h1, h2⟩
    · exact .inl ⟨f, caps, h1, calls h2⟩
    · exact .inr ⟨f, caps, h1, calls h2⟩
  | _ => exact let ⟨s, h1, h2⟩ := h; ⟨s, h1, step_congrM h2 hr⟩
theorem okM_congrT {T' : Tm} {p : It} (h : okM P T M p) (hT : ∀ t ∈ tmpsOf p.lo, T' t = T t) : okM P T' M p := fun X hX => doesW_congrT (h X hX) fun t ht => hT t (List.mem_append.2 (.inl ht))
theorem guard_congr {T' : Tm} {p : It} (hT : ∀ t ∈ tmpsOf p.lo, T' t = T t) : guardOk T' p.lo.guard = guardOk T p.lo.guard := by
  cases hg : p.lo.guard with
  | none => rfl
  | some x =>
    obtain ⟨t, want⟩ := x
    simp only [guardOk]
    rw [hT t (List.mem_append.2 (.inr (by rw [hg]; simp)))]
theorem commute {p q : It} (h : Ind P p q) (h1 : okAt P T M p) (h2 : okAt P (p.nT T) (p.nM M) q) :
    okAt P T M q ∧ okAt P (q.nT T) (q.nM M) p ∧ q.nT (p.nT T) = p.nT (q.nT T) ∧ q.nM (p.nM M) = p.nM (q.nM M) := by
  have e1 : ∀ t ∈ tmpsOf q.lo, T t = p.nT T t := fun t ht => (put_other (fun e => (h.pq t e).1 ht)).symm
  have e2 : ∀ t ∈ tmpsOf p.lo, q.nT T t = T t := fun t ht => put_other (fun e => h.qp t e ht)
  obtain ⟨m1, m2, m3⟩ := h.mc T (p.nT T) M h1.2 h2.2
  refine ⟨⟨by rw [guard_congr e1]; exact h2.1, okM_congrT m1 e1⟩, ⟨by rw [guard_congr e2]; exact h1.1, okM_congrT m2 e2⟩, ?_, m3⟩
  funext t
  unfold It.nT
  by_cases c1 : p.lo.dst = some t
  · have c2 := (h.pq t c1).2
    rw [put_other c2, c1]
    simp [put]
  · rw [put_other (d := p.lo.dst) c1]
    by_cases c2 : q.lo.dst = some t
    · rw [c2]; simp [put]
    · rw [put_other c2, put_other c1, put_other c2]
def Runs (P : Program) : List It → Tm → Mem → Tm → Mem → Prop
  | [], T, M, T', M' => T' = T ∧ M' = M
  | p :: r, T, M, T', M' => okAt P T M p ∧ Runs P r (p.nT T) (p.nM M) T' M'
theorem front {q : It} {post : List It} : ∀ (pre : List It) {T : Tm} {M : Mem} {T' : Tm} {M' : Mem}, (∀ p ∈ pre, Ind P p q) → Runs P (pre ++ q :: post) T M T' M' →
    okAt P T M q ∧ Runs P (pre ++ post) (q.nT T) (q.nM M) T' M'
  | [], T, M, T', M', _, h => h
  | p :: pre, T, M, T', M', hi, ⟨h1, h2⟩ => by
    obtain ⟨h3, h4⟩ := front pre (fun x hx => hi x (by simp [hx])) h2
    obtain ⟨c1, c2, c3, c4⟩ := commute (hi p (by simp)) h1 h3
    exact ⟨c1, c2, by rw [← c3, ← c4]; exact h4⟩
end

structure Inv (P : Program) (ops : Array Oper) (n : Nat) (bef : List Nat) (listed : Array Bool) (R : List It) : Prop where
  size : listed.size = ops.size
  mem : ∀ i, i < ops.size → listed.getD i true = false → ∃ p ∈ R, p.i = i
  un : ∀ p ∈ R, p.i < ops.size ∧ listed.getD p.i true = false
  cl : ∀ i, i < ops.size → listed.getD i true = true → ∀ j, j < ops.size → befOf bef i j = true → listed.getD j true = true
  it : ∀ p ∈ R, ops[p.i]? = some p.o ∧ Comped P n ops p.o p.lo
  pw : R.Pairwise fun p q => befOf bef q.i p.i = true ∨ Ind P p q
  so : R.Pairwise fun p q => p.i < q.i
  win : R.Pairwise fun p q => ∀ id, p.V id → ¬ q.V id

section
variable {P : Program} {F F' : Nat → Prop}
theorem any_runs {n n0 : Nat} {ops : Array Oper} {bef : List Nat} {Q : Exit → Act → World → Prop} {g0 : Gh} {M0 : Mem} {w0 : World} {T' : Tm} {M' : Mem}
    (hb : okBef ops.toList bef = true) (hback : okBack ops.toList = true)
    (hFF : ∀ id, F' id → F id) (hfree : ∀ id, F id → ¬ g0.L id) (hQ : ∀ g' a' w', StX n n0 g' T' M' F' a' w' → Evo g0 M0 w0 g' M' w' → Gr g0 g' F F' → Q .normal a' w') :
    ∀ (fuel : Nat) (listed : Array Bool) (R : List It) {g : Gh} {T : Tm} {M : Mem} {a : Act} {w : World}, R.length ≤ fuel → Inv P ops n bef listed R → Runs P R T M T' M' → (∀ p ∈ R, ∀ id, p.V id → F id ∧ ¬ F' id) →
      MemRel g M w → RelT g M w T a → a.tmps.size = n → Harm n0 g w a.defers → (∀ p ∈ R, ∀ id, p.V id → ¬ g.L id) → Gr g0 g F F' → Evo g0 M0 w0 g M w →
      wpAny P .any ops Q fuel listed a w := by
  have done : ∀ {g : Gh} {T : Tm} {M : Mem} {a : Act} {w : World}, Runs P [] T M T' M' →
      MemRel g M w → RelT g M w T a → a.tmps.size = n → Harm n0 g w a.defers → Gr g0 g F F' → Evo g0 M0 w0 g M w → Q .normal a w := by
    intro g T M a w hR hm hT hs hd hgr hw
    obtain ⟨rfl, rfl⟩ := hR
    refine hQ g a w ⟨hm, hT, fun id h1 h3 => ?_, hs, hd⟩ hw hgr
    rcases hgr.2 id h3 with h | h
    · exact hfree id (hFF id h1) h
    · exact h.2 h1
  have ready_nil : ∀ {listed : Array Bool} {R : List It}, Inv P ops n bef listed R → Region.ready .any ops listed = [] → R = [] := by
    intro listed R inv hr
    cases hR : R with
    | nil => rfl
    | cons p R' =>
      exfalso
      subst hR
      obtain ⟨h1, h2⟩ := inv.un p (by simp)
      obtain ⟨h3, _⟩ := inv.it p (by simp)
      have hmem : p.i ∈ Region.ready .any ops listed := by
        refine mem_ready.2 ⟨h2, p.o, h3, fun e he hbe => ?_⟩
        have h4 := List.all_eq_true.1 hback (p.o, p.i) (by rw [List.mem_iff_getElem?]; exact ⟨p.i, by rw [List.getElem?_zipIdx]; simp [h3]⟩)
        have h5 := List.all_eq_true.1 h4 e (by simpa using he)
        simp only [hbe, Bool.not_true, Bool.false_or, decide_eq_true_eq] at h5
        cases hl : listed.getD e.on true with
        | true =>
          have : e.on < listed.size := by rw [inv.size]; omega
          simp [this] at hl ⊢
          exact hl
        | false =>
          exfalso
          obtain ⟨q, hq, hqi⟩ := inv.mem e.on (by omega) hl
          rcases List.mem_cons.1 hq with rfl | hq
          · omega
          · have := List.rel_of_pairwise_cons inv.so hq
            omega
      rw [hr] at hmem
      cases hmem
  intro fuel
  induction fuel with
  | zero =>
    intro listed R g T M a w hlen inv hR htop hm hT hs hd hl hgr hw
    obtain rfl : R = [] := List.eq_nil_of_length_eq_zero (by omega)
    refine ⟨?_, done hR hm hT hs hd hgr hw⟩
    cases hr : Region.ready .any ops listed with
    | nil => rfl
    | cons i r =>
      exfalso
      have : i ∈ Region.ready .any ops listed := by rw [hr]; simp
      obtain ⟨h1, o, h2, _⟩ := mem_ready.1 this
      obtain ⟨p, hp, _⟩ := inv.mem i (Array.getElem?_eq_some_iff.1 h2).1 h1
      simp at hp
  | succ fuel ih =>
    intro listed R g T M a w hlen inv hR htop hm hT hs hd hl hgr hw
    refine ⟨fun hr => ?_, fun i hi => ?_⟩
    · have := ready_nil inv hr
      subst this
      exact done hR hm hT hs hd hgr hw
    · obtain ⟨h1, o, h2, hall⟩ := mem_ready.1 hi
      have hilt := (Array.getElem?_eq_some_iff.1 h2).1
      obtain ⟨q, hq, rfl⟩ := inv.mem i hilt h1
      obtain ⟨pre, post, rfl⟩ := List.append_of_mem hq
      obtain ⟨hqo, hqc⟩ := inv.it q (by simp)
      have ho : o = q.o := Option.some.inj (h2.symm.trans hqo)
      subst ho
      have hnb : ∀ j, j < ops.size → befOf bef q.i j = true → listed.getD j true = true := by
        intro j hj hbj
        have h3 := List.all_eq_true.1 hb (q.o, q.i) (by rw [List.mem_iff_getElem?]; exact ⟨q.i, by rw [List.getElem?_zipIdx]; simp [hqo]⟩)
        have h4 := List.all_eq_true.1 h3 j (by simpa using hj)
        simp only [hbj, Bool.not_true, Bool.false_or, List.any_eq_true, Bool.and_eq_true, Bool.or_eq_true, beq_iff_eq] at h4
        obtain ⟨e, he, hbe, h5⟩ := h4
        have hel := hall e (by simpa using he) hbe
        have helt : e.on < ops.size := by
          rcases Nat.lt_or_ge e.on listed.size with h | h
          · rw [← inv.size]; exact h
          · simp [Array.getElem?_eq_none h] at hel
        have hel' : listed.getD e.on true = true := by
          have : e.on < listed.size := by rw [inv.size]; exact helt
          simp [this] at hel ⊢
          exact hel
        rcases h5 with rfl | h5
        · exact hel'
        · exact inv.cl e.on helt hel' j hj h5
      have hind : ∀ p ∈ pre, Ind P p q := by
        intro p hp
        have hpw := inv.pw
        rw [List.pairwise_append] at hpw
        rcases hpw.2.2 p hp q (by simp) with h | h
        · have := inv.un p (by simp [hp])
          have := hnb p.i this.1 h
          rw [(inv.un p (by simp [hp])).2] at this
          cases this
        · exact h
      obtain ⟨hok, hrest⟩ := front pre hind hR
      have hsub : ∀ p ∈ pre ++ post, p ∈ pre ++ q :: post := fun p hp => by
        simp only [List.mem_append, List.mem_cons] at hp ⊢
        rcases hp with h | h
        · exact .inl h
        · exact .inr (.inr h)
      have hapart : ∀ p ∈ pre ++ post, ∀ id, p.V id → ¬ q.V id := by
        intro p hp
        have hso := inv.win
        rw [List.pairwise_append] at hso
        simp only [List.mem_append] at hp
        rcases hp with h | h
        · exact hso.2.2 p h q (by simp)
        · exact fun id h1 h2 => List.rel_of_pairwise_cons hso.2.1 h id h2 h1
      have inv' : Inv P ops n bef (listed.setIfInBounds q.i true) (pre ++ post) := by
        have hsz : q.i < listed.size := by rw [inv.size]; exact hilt
        have hne : ∀ p ∈ pre ++ post, p.i ≠ q.i := by
          intro p hp e
          have hso := inv.so
          rw [List.pairwise_append] at hso
          simp only [List.mem_append] at hp
          rcases hp with h | h
          · have := hso.2.2 p h q (by simp)
            omega
          · have := List.rel_of_pairwise_cons hso.2.1 h
            omega
        refine { size := by simp [inv.size], mem := fun j hj hjl => ?_, un := fun p hp => ?_, cl := fun j hj hjl k hk hbk => ?_, it := fun p hp => inv.it p (hsub p hp), pw := ?_, so := ?_, win := ?_ }
        · rw [getD_set' _ _ _ hsz] at hjl
          split at hjl
          · cases hjl
          · rename_i hji
            obtain ⟨p, hp, rfl⟩ := inv.mem j hj hjl
            refine ⟨p, ?_, rfl⟩
            simp only [List.mem_append, List.mem_cons] at hp ⊢
            rcases hp with h | rfl | h
            · exact .inl h
            · exact absurd rfl hji
            · exact .inr h
        · obtain ⟨k1, k2⟩ := inv.un p (hsub p hp)
          exact ⟨k1, by rw [getD_set' _ _ _ hsz, if_neg (hne p hp)]; exact k2⟩
        · rw [getD_set' _ _ _ hsz] at hjl ⊢
          split
          · rfl
          · split at hjl
            · rename_i hji
              subst hji
              exact hnb k hk hbk
            · exact inv.cl j hj hjl k hk hbk
        · exact inv.pw.sublist (by simp)
        · exact inv.so.sublist (by simp)
        · exact inv.win.sublist (by simp)
      have hlen' : (pre ++ post).length ≤ fuel := by simp at hlen ⊢; omega
      have htop' : ∀ p ∈ pre ++ post, ∀ id, p.V id → F id ∧ ¬ F' id := fun p hp => htop p (hsub p hp)
      have hqtop := htop q (by simp)
      unfold wpOp
      simp only [h2]
      have hwant := wanted_guard hT hqc.gd hok.1
      rw [hwant]
      have hnew : ∀ {g' : Gh}, (∀ id, g'.L id → g.L id ∨ q.V id) → (∀ p ∈ pre ++ post, ∀ id, p.V id → ¬ g'.L id) ∧ Gr g0 g' F F' := by
        intro g' hg'
        refine ⟨fun p hp id h1 h3 => ?_, hFF, fun id hid => ?_⟩
        · rcases hg' id h3 with h | h
          · exact hl p (hsub p hp) id h1 h
          · exact hapart p hp id h1 h
        · rcases hg' id hid with h | h
          · exact hgr.2 id h
          · exact .inr (hqtop id h)
      cases hx : q.x with
      | none =>
        simp only [hx, Option.isSome_none, Bool.false_eq_true, if_false]
        have e1 : q.nT T = put T q.lo.dst (.k undef) := by unfold It.nT It.val; rw [hx]
        have e2 : q.nM M = M := by unfold It.nM It.eff; rw [hx]; rfl
        rw [e1, e2] at hrest
        have hn := hnew (g' := g) fun id h => .inl h
        rw [← hqc.dst]
        exact ih _ _ hlen' inv' hrest htop' hm (put_tm hm hT hs hqc.lt (Evo.refl _ _ _) rfl) (by rw [put_size]; exact hs) (by rw [put_defers]; exact hd) hn.1 hn.2 hw
      | some X =>
        simp only [hx, Option.isSome_some, if_true]
        left
        have e1 : q.nT T = put T q.lo.dst X.v := by unfold It.nT It.val; rw [hx]
        have e2 : q.nM M = upd M (X.eff M) := by unfold It.nM It.eff; rw [hx]
        rw [e1, e2] at hrest
        have hdo := hok.2 X hx
        have hreal : compOp P q.o.op = some q.lo.op := by
          rcases hqc.op with h | h
          · exact h
          · rw [h] at hdo; exact absurd hdo (by simp [doesW, Go.Vm.step])
        refine doesW_wp hreal hdo hm hT (fun id k1 k3 => hl q (by simp) id k1 k3) (fun u w' g' k1 k2 k3 k4 => ?_)
        have hn := hnew k4
        rw [← hqc.dst]
        exact ih _ _ hlen' inv' hrest htop' k2 (put_tm hm hT hs hqc.lt k3 k1) (by rw [put_size]; exact hs) (by rw [put_defers]; exact hd.evo k3) hn.1 hn.2 (hw.trans k3)
end
end Go.Vx
