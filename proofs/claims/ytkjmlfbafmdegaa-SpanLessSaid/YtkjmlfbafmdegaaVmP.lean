import Derived.Test.YtkjmlfbafmdegaaVmO
namespace Go.Vm
set_option linter.unusedSectionVars false
set_option linter.unusedSimpArgs false
set_option linter.unusedVariables false
open Go
variable [Inhabited LayT]

/-! ### regions -/
abbrev Log := List (Nat × List Nat × List Nat)

def Callable (P : Program) (f : FuncId) : Prop := ∃ fn c, P.funcs[f]? = some fn ∧ (fn.name == "runtime.NumGoroutine") = false ∧ fn.body = some c

/-- What a call does, whatever the world: told at one memory, of which it looks at the rows 'rd' alone. -/
def CallOk (P : Program) (f : FuncId) (args : List AV) (M : Mem) (slot : Nat) (out : Out) : Prop :=
  Callable P f ∧ ∀ M', (∀ id ∈ out.rd, M' id = M id) → ∀ g w us, MemRel g M' w → RelL g M' w args us → (∀ id, slot ≤ id → id < slot + 8 → ¬ g.L id) →
    Calls P f us.toArray w fun e w' => ∃ u g', e = .returned u ∧ Rel g' (upd M' out.eff) w' out.v u ∧ MemRel g' (upd M' out.eff) w' ∧ Evo g M' w g' (upd M' out.eff) w' ∧
      ∀ id, g'.L id → g.L id ∨ (slot ≤ id ∧ id < slot + 8)

def guardOk (T : Tm) : Option (Nat × Bool) → Option Bool
  | none => some true
  | some (t, want) => match T t with
    | .b x => some (x == want)
    | .k (.tuple _) => some false
    | _ => none

/-- What an operation of the region does. -/
def does (P : Program) (T : Tm) (M : Mem) (slot : Nat) (op : LOp) (out : Out) : Prop :=
  match op with
  | .call f args => CallOk P f (args.map (ev T)) M slot out
  | .callv x args => ∃ f caps, ev T x = .fn f caps ∧ CallOk P f (args.map (ev T) ++ caps) M slot out
  | op => step T M slot op = some out

def rgnP (P : Program) (dr : Bool) (base : Nat) (K : Tm → Mem → Log → Prop) : List LOper → Nat → Tm → Mem → Log → Prop
  | [], _, T, M, log => K T M log
  | o :: os, i, T, M, log =>
    match guardOk T o.guard with
    | none => False
    | some t =>
      if t = true then
        match o.op with
        | .call f args => ∃ out, CallOk P f (args.map (ev T)) M (base + 8 * i) out ∧
            rgnP P dr base K os (i + 1) (put T o.dst out.v) (upd M out.eff) (if dr then (i, out.eff.map (·.1), out.rd) :: log else log)
        | .callv x args => ∃ out, (∃ f caps, ev T x = .fn f caps ∧ CallOk P f (args.map (ev T) ++ caps) M (base + 8 * i) out) ∧
            rgnP P dr base K os (i + 1) (put T o.dst out.v) (upd M out.eff) (if dr then (i, out.eff.map (·.1), out.rd) :: log else log)
        | op => match step T M (base + 8 * i) op with
          | none => False
          | some out => rgnP P dr base K os (i + 1) (put T o.dst out.v) (upd M out.eff) (if dr then (i, out.eff.map (·.1), out.rd) :: log else log)
      else rgnP P dr base K os (i + 1) (put T o.dst (.k undef)) M log

/-! ### a state, and what becomes of a world -/
/-- n: how many slots; k: how many rows came in, whose names are kept. -/
structure StR (n k : Nat) (g : Gh) (T : Tm) (M : Mem) (nb : Nat) (a : Act) (w : World) : Prop where
  mem : MemRel g M w
  tm : RelT g M w T a
  nb : ∀ id, g.L id → id < nb
  kn : ∀ id, id < k → g.L id
  size : a.tmps.size = n
  defers : a.defers = []

structure WEvo (k : Nat) (g : Gh) (M : Mem) (w : World) (g' : Gh) (M' : Mem) (w' : World) : Prop where
  Z : ∀ b, g.Z b → g'.Z b
  Zn : ∀ b, g'.Z b → g.Z b ∨ ¬ g.U b
  U : ∀ b, g.U b → g'.U b
  keep : ∀ b, g.U b → w'.heap[b]? = w.heap[b]?
  size : w.heap.size ≤ w'.heap.size
  os : w'.os = w.os
  tape : w'.tape = w.tape
  output : w'.output = w.output ∧ w.drawn ≤ w'.drawn
  ids : ∀ id, id < k → ∀ r', M' id = some r' → ∃ r, M id = some r ∧ g'.at_ id = g.at_ id ∧ r'.sz = r.sz ∧ r'.el.length = r.el.length
theorem WEvo.refl (k : Nat) (g : Gh) (M : Mem) (w : World) : WEvo k g M w g M w :=
  ⟨fun _ h => h, fun _ h => .inl h, fun _ h => h, fun _ _ => rfl, Nat.le_refl _, rfl, rfl, ⟨rfl, Nat.le_refl _⟩, fun _ _ r h => ⟨r, h, rfl, rfl, rfl⟩⟩
theorem WEvo.trans {k : Nat} {g g1 g2 : Gh} {M M1 M2 : Mem} {w w1 w2 : World} (h : WEvo k g M w g1 M1 w1) (h2 : WEvo k g1 M1 w1 g2 M2 w2) : WEvo k g M w g2 M2 w2 where
  Z b hb := h2.Z b (h.Z b hb)
  Zn b hb := by
    rcases h2.Zn b hb with h3 | h3
    · exact h.Zn b h3
    · exact .inr fun h4 => h3 (h.U b h4)
  U b hb := h2.U b (h.U b hb)
  keep b hb := (h2.keep b (h.U b hb)).trans (h.keep b hb)
  size := Nat.le_trans h.size h2.size
  os := h2.os.trans h.os
  tape := h2.tape.trans h.tape
  output := ⟨h2.output.1.trans h.output.1, Nat.le_trans h.output.2 h2.output.2⟩
  ids id hl r' hr := by
    obtain ⟨r1, e1, a1, s1, l1⟩ := h2.ids id hl r' hr
    obtain ⟨r, e, a, s, l⟩ := h.ids id hl r1 e1
    exact ⟨r, e, a1.trans a, s1.trans s, l1.trans l⟩
theorem Evo.wevo {k : Nat} {g g' : Gh} {M M' : Mem} {w w' : World} (h : Evo g M w g' M' w') (hk : ∀ id, id < k → g.L id) : WEvo k g M w g' M' w' :=
  ⟨h.Z, h.Zn, h.U, h.keep, h.size, h.os, h.tape, h.output, fun id hid => h.ids id (hk id hid)⟩

section
variable {P : Program} {n k : Nat} {g : Gh} {T : Tm} {M : Mem} {nb : Nat} {a : Act} {w : World}

theorem put_getD {a : Act} {d t : Nat} {v : Value} (hd : d < a.tmps.size) : (a.put (some d) v).tmps.getD t undef = if t = d then v else a.tmps.getD t undef := by
  simp only [Act.put, Array.getD_eq_getD_getElem?, Array.getElem?_setIfInBounds]
  by_cases h : d = t
  · subst h; simp [hd]
  · rw [if_neg h, if_neg (Ne.symm h)]

/-- One operation's result laid into its slot. -/
theorem StR.put {g' : Gh} {M' : Mem} {w' : World} (h : StR n k g T M nb a w) {dst : Option Nat} (hd : ∀ d, dst = some d → d < n) {v : AV} {u : Value} {nb' : Nat}
    (hm : MemRel g' M' w') (hE : Evo g M w g' M' w') (hr : Rel g' M' w' v u) (hnb : ∀ id, g'.L id → id < nb') :
    StR n k g' (put T dst v) M' nb' (a.put dst u) w' where
  mem := hm
  tm := fun t => by
    cases dst with
    | none => exact Rel.evo hE h.mem.zu _ _ (h.tm t)
    | some d =>
      have hd' : d < a.tmps.size := by rw [h.size]; exact hd d rfl
      rw [put_getD hd']
      by_cases e : t = d
      · subst e; simp only [Go.Vm.put, if_true]; exact hr
      · simp only [Go.Vm.put, e, if_false]; exact Rel.evo hE h.mem.zu _ _ (h.tm t)
  nb := hnb
  kn := fun id hid => hE.L id (h.kn id hid)
  size := by cases dst <;> simp [Act.put, h.size]
  defers := by cases dst <;> simp [Act.put, h.defers]

theorem wanted_guard (h : RelT g M w T a) {ops : Array Oper} {o : Oper} {gd : Option (Nat × Bool)} {t : Bool}
    (hg : (match o.guard with | none => some none | some (j, want) => ((ops[j]?).bind (·.dst)).map fun t => some (t, want)) = some gd) (hk : guardOk T gd = some t) :
    Region.wanted o (yielded ops a.tmps) = t := by
  unfold Region.wanted
  cases hgd : o.guard with
  | none =>
    rw [hgd] at hg
    cases hg
    simpa [guardOk] using hk
  | some jw =>
    obtain ⟨j, want⟩ := jw
    rw [hgd] at hg
    simp only [Option.map_eq_some_iff] at hg
    obtain ⟨d, hd, rfl⟩ := hg
    have hr := h d
    simp only [guardOk] at hk
    simp only [yielded, hd, Option.bind_some]
    rw [Array.getD_eq_getD_getElem?] at hr
    split at hk
    · rename_i x e
      rw [e] at hr
      cases hq : a.tmps[d]? with
      | none => rw [hq] at hr; exact absurd hr (by simp [Rel, undef])
      | some v =>
        rw [hq] at hr
        have hv : v = .bool x := hr
        subst hv
        cases hk
        simp
    · rename_i vs e
      rw [e] at hr
      cases hk
      cases hq : a.tmps[d]? with
      | none => simp
      | some v =>
        rw [hq] at hr
        have hv : v = .tuple vs := hr
        subst hv
        simp
    · cases hk

theorem does_of_step {op : LOp} {slot : Nat} {out : Out} (h : step T M slot op = some out) : does P T M slot op out := by
  cases op <;> first | exact h | (simp [step] at h)

def LOp.isCall : LOp → Bool
  | .call _ _ | .callv _ _ => true
  | _ => false
theorem compOp_noncall {op : Op} {l : LOp} (h : compOp P op = some l) (hop : ∀ c, op ≠ .call c) : l.isCall = false := by
  unfold compOp at h
  cases op <;> (try simp only at h) <;> (try (exact absurd rfl (hop _))) <;> (repeat' split at h) <;>
    first
    | contradiction
    | (cases h; rfl)
    | (cases h; done)
    | (obtain ⟨_, _, rfl⟩ := Option.map_eq_some_iff.1 h; rfl)
    | (obtain ⟨_, _, h⟩ := Option.bind_eq_some_iff.1 h; split at h <;> cases h; rfl)
theorem compOp_call {op : Op} {f : FuncId} {args : List Operand} (h : compOp P op = some (.call f args)) : ∃ c, op = .call c ∧ c.callee = .value (.func f) ∧ c.args.toList = args := by
  by_cases hop : ∀ c, op ≠ .call c
  · exact absurd (compOp_noncall h hop) (by simp [LOp.isCall])
  · simp only [ne_eq, Classical.not_forall, Classical.not_not] at hop
    obtain ⟨c, rfl⟩ := hop
    refine ⟨c, rfl, ?_⟩
    simp only [compOp] at h
    split at h
    · rename_i e
      cases h
      exact ⟨e, rfl⟩
    all_goals (repeat' split at h) <;> cases h
theorem compOp_callv {op : Op} {x : Operand} {args : List Operand} (h : compOp P op = some (.callv x args)) : ∃ c, op = .call c ∧ c.callee = .value x ∧ c.args.toList = args := by
  by_cases hop : ∀ c, op ≠ .call c
  · exact absurd (compOp_noncall h hop) (by simp [LOp.isCall])
  · simp only [ne_eq, Classical.not_forall, Classical.not_not] at hop
    obtain ⟨c, rfl⟩ := hop
    refine ⟨c, rfl, ?_⟩
    simp only [compOp] at h
    split at h
    · cases h
    · rename_i e
      cases h
      exact ⟨e, rfl⟩
    all_goals (repeat' split at h) <;> cases h

theorem run_callFunc {f : FuncId} (h : Callable P f) (args : Array Value) (w : World) : (callFunc f args).run P w = .ok (.enter f args) w := by
  obtain ⟨fn, c, h1, h2, h3⟩ := h
  unfold callFunc
  have h2' : ¬ fn.name = "runtime.NumGoroutine" := by simpa using h2
  simp [h1, h2', h3]

theorem call_wp {o : Oper} {f : FuncId} {args : List AV} {us : List Value} {slot : Nat} {out : Out} (hrun : (execOp a.eval o).run P w = .ok (.enter f us.toArray) w)
    (hc : CallOk P f args M slot out) (hm : MemRel g M w) (hus : RelL g M w args us) (hslot : ∀ id, slot ≤ id → id < slot + 8 → ¬ g.L id) {K : Act → World → Prop} {Q : Exit → Act → World → Prop}
    (hK : ∀ u w' g', Rel g' (upd M out.eff) w' out.v u → MemRel g' (upd M out.eff) w' → Evo g M w g' (upd M out.eff) w' → (∀ id, g'.L id → g.L id ∨ (slot ≤ id ∧ id < slot + 8)) → K (a.put o.dst u) w') : o.wp P a w K Q := by
  unfold Oper.wp
  rw [hrun, Oper.upon_enter]
  refine (hc.2 M (fun _ _ => rfl) g w us hm hus hslot).mono ?_
  rintro e w' ⟨u, g', rfl, h1, h2, h3, h4⟩
  exact hK u w' g' h1 h2 h3 h4

theorem does_wp {o : Oper} {l : LOp} {slot : Nat} {out : Out} (hc : compOp P o.op = some l) (hd : does P T M slot l out) (hm : MemRel g M w) (hT : RelT g M w T a)
    (hslot : ∀ id, slot ≤ id → id < slot + 8 → ¬ g.L id) {K : Act → World → Prop} {Q : Exit → Act → World → Prop}
    (hK : ∀ u w' g', Rel g' (upd M out.eff) w' out.v u → MemRel g' (upd M out.eff) w' → Evo g M w g' (upd M out.eff) w' → (∀ id, g'.L id → g.L id ∨ (slot ≤ id ∧ id < slot + 8)) → K (a.put o.dst u) w') : o.wp P a w K Q := by
  have other : l.isCall = false → step T M slot l = some out → o.wp P a w K Q := by
    intro _ hs
    obtain ⟨u, w', g', hr, h1, h2, h3, h4⟩ := step_sound hm (hslot slot (Nat.le_refl _) (by omega)) hT hc hs
    have := hK u w' g' h1 h2 h3 (fun i h => (h4 i h).imp (fun x => x) fun e => ⟨by omega, by omega⟩)
    rcases hr with hr | ⟨hr, rfl⟩
    · unfold Oper.wp; rw [hr]; exact this
    · unfold Oper.wp; rw [hr]; exact this
  cases l with
  | call f args =>
    obtain ⟨c, e, h1, rfl⟩ := compOp_call hc
    obtain ⟨callee, cargs, tys⟩ := c
    simp only at h1
    subst h1
    have hd' : CallOk P f (cargs.toList.map (ev T)) M slot out := hd
    refine call_wp (us := cargs.toList.map a.eval) ?_ hd' hm (relL_ev hT _) hslot hK
    have : (cargs.toList.map a.eval).toArray = cargs.map a.eval := by cases cargs; simp
    rw [this]
    simp [execOp, e, resolve, Deferred.ofValue, invoke, Act.eval, run_callFunc hd'.1]
  | callv x args =>
    obtain ⟨c, e, h1, rfl⟩ := compOp_callv hc
    obtain ⟨callee, cargs, tys⟩ := c
    simp only at h1
    subst h1
    obtain ⟨f, caps, hx, hd'⟩ := hd
    have hxr := rel_ev hT x
    rw [hx] at hxr
    obtain ⟨vs, hu, hl⟩ := hxr
    refine call_wp (us := cargs.toList.map a.eval ++ vs) ?_ hd' hm (relL_append (relL_ev hT _) hl) hslot hK
    have : (cargs.toList.map a.eval ++ vs).toArray = cargs.map a.eval ++ vs.toArray := by cases cargs; simp
    rw [this]
    simp [execOp, e, resolve, Deferred.ofValue, invoke, hu, run_callFunc hd'.1]
  | _ => exact other rfl hd
end
end Go.Vm
