import Derived.Test.YtkjmlfbafmdegaaVmV
namespace Go.Vm
set_option linter.unusedSectionVars false
set_option linter.unusedSimpArgs false
set_option linter.unusedVariables false
open Go
variable [Inhabited LayT]

/-! ### a call of a function whose code is told -/
def resV (rs : List Nat) (T : Tm) : AV :=
  match rs with
  | [t] => T t
  | ts => .tup (ts.map T)
/-- The rows that came in, and those that come out. -/
def back (σ new : List (Nat × Nat)) (slot : Nat) : List (Nat × Nat) := σ.map (fun x => (x.2, x.1)) ++ new.map fun x => (x.1, slot + x.2)
def okNew (k : Nat) (new : List (Nat × Nat)) : Bool :=
  (new.all fun x => decide (k ≤ x.1) && decide (x.2 < 8)) && decide ((new.map (·.1)).Nodup) && decide ((new.map (·.2)).Nodup)
def effOf (ρ : List (Nat × Nat)) (M : Mem) : List (Nat × Option Row) := ρ.map fun x => (x.2, (M x.1).map (subRow (ren (lkσ ρ))))
def argT (s : Sub) : Nat → List AV → List (Nat × AV)
  | _, [] => []
  | i, a :: l => (i, sub s a) :: argT s (i + 1) l

theorem upd_effOf {M : Mem} {ρ0 : List (Nat × Nat)} {M' : Mem} : ∀ {ρ : List (Nat × Nat)} {id : Nat}, (ρ.map (·.2)).Nodup →
    (∀ j, (j, id) ∈ ρ → upd M (ρ.map fun x => (x.2, (M' x.1).map (subRow (ren (lkσ ρ0))))) id = (M' j).map (subRow (ren (lkσ ρ0)))) ∧ ((∀ j, (j, id) ∉ ρ) → upd M (ρ.map fun x => (x.2, (M' x.1).map (subRow (ren (lkσ ρ0))))) id = M id)
  | [], id, _ => ⟨fun j h => absurd h (by simp), fun _ => rfl⟩
  | (a, b) :: ρ, id, hn => by
    rw [List.map_cons, List.nodup_cons] at hn
    obtain ⟨i1, i2⟩ := upd_effOf (M := M) (ρ0 := ρ0) (M' := M') (ρ := ρ) (id := id) hn.2
    constructor
    · intro j h
      simp only [List.map_cons, upd]
      rcases List.mem_cons.1 h with e | h'
      · cases e; simp
      · have : id ≠ b := by
          rintro rfl
          exact hn.1 (List.mem_map.2 ⟨(j, id), h', rfl⟩)
        rw [if_neg this]
        exact i1 j h'
    · intro h
      simp only [List.map_cons, upd]
      have : id ≠ b := by
        rintro rfl
        exact h a (List.mem_cons_self ..)
      rw [if_neg this]
      exact i2 fun j hj => h j (List.mem_cons_of_mem _ hj)

def resU (rs : List Nat) (tmps : Array Value) : Value :=
  match rs with
  | [t] => tmps.getD t undef
  | ts => .tuple (ts.map fun t => tmps.getD t undef).toArray
theorem run_results {P : Program} {fn : Func} {rs : List Nat} (hres : fn.results = (rs.map ResultVar.tmp).toArray) (tmps : Array Value) (w : World) :
    (results fn tmps).run P w = .ok (resU rs tmps) w := by
  have key : ∀ (F : ResultVar → Sem Value), (∀ t, F (.tmp t) = pure (tmps.getD t undef)) → ∀ l : List Nat, ((l.map ResultVar.tmp).mapM F).run P w = .ok (l.map fun t => tmps.getD t undef) w := by
    intro F hF l
    induction l with
    | nil => simp
    | cons x l ih =>
      rw [List.map_cons, List.mapM_cons]
      simp only [Sem.run_bind, ih, hF, Sem.run_pure, Result.andThen_ok, List.map_cons]
  unfold results
  rw [hres, Array.mapM_eq_mapM_toList]
  simp only [Sem.run_bind, Sem.run_map, List.toList_toArray]
  rw [key _ fun t => rfl]
  simp only [Result.andThen_ok, Sem.run_pure]
  match rs with
  | [] => simp [resU]
  | [t] => simp [resU]
  | t :: u :: l => simp [resU]
theorem resV_rel {g : Gh} {M : Mem} {w : World} {T : Tm} {a : Act} (h : RelT g M w T a) (rs : List Nat) : Rel g M w (resV rs T) (resU rs a.tmps) := by
  have key : ∀ l : List Nat, RelL g M w (l.map T) (l.map fun t => a.tmps.getD t undef) := by
    intro l
    induction l with
    | nil => rfl
    | cons x l ih => exact ⟨_, _, rfl, h x, ih⟩
  match rs with
  | [] => exact ⟨[], rfl, rfl⟩
  | [t] => exact h t
  | t :: u :: l => exact ⟨_, rfl, key (t :: u :: l)⟩

theorem argT_rel {g g' : Gh} {M M' : Mem} {w w' : World} {s : Sub} (E : SubOk s g M w g' M' w') (n : Nat) : ∀ (args : List AV) (us pre : List Value), RelL g M w args us → ∀ t,
    Rel g' M' w' (lkT (argT s pre.length args) t) (((pre ++ us).toArray ++ Array.replicate n undef).getD t undef)
  | [], us, pre, h, t => trivial
  | x :: xs, us, pre, ⟨u, r, e, h1, h2⟩, t => by
    subst e
    simp only [argT, lkT]
    split
    · rename_i e
      subst e
      have : (((pre ++ u :: r).toArray ++ Array.replicate n undef).getD pre.length undef) = u := by
        rw [Array.getD_eq_getD_getElem?]
        simp [Array.getElem?_append]
      rw [this]
      exact Rel.sub E _ _ h1
    · have := argT_rel E n xs r (pre ++ [u]) h2 t
      simpa using this

/-- A function's call, from what its code comes to. σ: whose rows it is given, (the caller's name, its own name); new: rows that it gives back, (its own name, place behind 'slot'); RS: what its results are, told by the state behind its code. -/
theorem callOk_of_runR {P : Program} {f : FuncId} {fn : Func} {c : Code} {lc : LCode} {ks : Nat → Bool × List Nat} {RS : Tm → Mem → AV → Prop} {args : List AV} {M : Mem} {slot : Nat} {out : Out} {σ : List (Nat × Nat)} {k : Nat}
    (hmix : P.follows .mixedOrders = true) (hf : P.funcs[f]? = some fn) (hb : fn.body = some c) (hname : (fn.name == "runtime.NumGoroutine") = false)
    (hR : ∀ g M w T nb a rv, StR fn.ntmps k g T M nb a w → RS T M rv → ∃ u, (results fn a.tmps).run P w = .ok u w ∧ Rel g M w rv u)
    (hcomp : compC P fn.ntmps ks c = some lc) (hlen : args.length ≤ fn.ntmps) (hσ1 : (σ.map (·.1)).Nodup) (hσ2 : σ.map (·.2) = List.range k) (hrd : ∀ x ∈ σ, x.1 ∈ out.rd) (hM : ∀ x ∈ σ, (M x.1).isSome = true)
    (hrun : run P fn.ntmps k lc (fun x T0 M0 nb0 => (x = .normal ∨ x = .ret) ∧ ∃ T' M' nb', Wk fn.ntmps k T0 M0 nb0 T' M' nb' ∧ ∃ new, okNew k new = true ∧ (∃ rv, RS T' M' rv ∧ out.v = sub (ren (lkσ (back σ new slot))) rv) ∧ out.eff = effOf (back σ new slot) M')
      (lkT (argT (ren (lkσ σ)) 0 args)) (lkM (renM M σ)) k) : CallOk P f args M slot out := by
  refine ⟨⟨fn, c, hf, hname, hb⟩, ?_⟩
  intro Mx hMx g w us hm hus hslot
  have hσn : (σ.map (·.2)).Nodup := by rw [hσ2]; exact List.nodup_range
  have hσk : ∀ {a j}, (a, j) ∈ σ → j < k := fun h => by
    have : _ ∈ σ.map (·.2) := List.mem_map.2 ⟨_, h, rfl⟩
    rw [hσ2] at this
    simpa using this
  have hkσ : ∀ j, j < k → ∃ a, (a, j) ∈ σ := fun j hj => by
    have : j ∈ σ.map (·.2) := by rw [hσ2]; simpa using hj
    obtain ⟨⟨a, j'⟩, h, rfl⟩ := List.mem_map.1 this
    exact ⟨a, h⟩
  have hMe : ∀ {a j}, (a, j) ∈ σ → Mx a = M a := fun h => hMx _ (hrd _ h)
  have hren : renM Mx σ = renM M σ := by
    unfold renM
    have : ∀ l : List (Nat × Nat), (∀ x ∈ l, Mx x.1 = M x.1) → (l.filterMap fun x => (Mx x.1).map fun r => (x.2, subRow (ren (lkσ σ)) r)) = l.filterMap fun x => (M x.1).map fun r => (x.2, subRow (ren (lkσ σ)) r) := by
      intro l
      induction l with
      | nil => intro _; rfl
      | cons x l ih =>
        intro h
        rw [List.filterMap_cons, List.filterMap_cons, h x (List.mem_cons_self ..), ih fun y hy => h y (List.mem_cons_of_mem _ hy)]
    exact this σ fun x hx => hMe hx
  have hgL : ∀ {a j}, (a, j) ∈ σ → g.L a := fun {a j} h => by
    have := hM _ h
    obtain ⟨r, hr⟩ := Option.isSome_iff_exists.1 this
    exact hm.known a r ((hMe h).trans hr)
  let gc : Gh := { at_ := fun j => (unlk σ j).bind g.at_, Z := g.Z, U := fun b => g.U b ∨ ∃ id r x, (∀ j, (id, j) ∉ σ) ∧ Mx id = some r ∧ g.at_ id = some x ∧ x.1 = b, L := fun j => j < k }
  have hat : ∀ {a j}, (a, j) ∈ σ → gc.at_ j = g.at_ a := fun h => by simp only [gc]; rw [unlk_of_mem hσn h]; rfl
  have E : SubOk (ren (lkσ σ)) g Mx w gc (lkM (renM M σ)) w := by
    rw [← hren]
    refine ren_ok ?_ ?_ (fun _ h => h) (fun _ _ => rfl)
    · intro id id' hs hl
      exact hσk (lkσ_mem hs)
    · intro id id' hs hl r' hr'
      obtain ⟨a', r, m1, m2, rfl⟩ := renM_get hr'
      obtain rfl := nodup_snd hσn m1 (lkσ_mem hs)
      exact ⟨r, m2, hat m1, rfl, subRow_len _ _⟩
  have hget : ∀ {j r'}, lkM (renM M σ) j = some r' → ∃ a r, (a, j) ∈ σ ∧ Mx a = some r ∧ r' = subRow (ren (lkσ σ)) r := by
    intro j r' h
    rw [← hren] at h
    exact renM_get h
  have hblock : ∀ id r x, Mx id = some r → g.at_ id = some x → ¬ g.U x.1 ∧ x.1 < w.heap.size := by
    intro id r x h1 h2
    rcases hm.row id r h1 with ⟨_, h⟩ | ⟨rb, ro, size, k1, k2, ⟨arr, ty, fz, k3, _⟩, _⟩
    · rw [h2] at h; cases h
    · rw [h2] at k1
      cases k1
      obtain ⟨h, _⟩ := Array.getElem?_eq_some_iff.1 k3
      exact ⟨k2, h⟩
  have hmc : MemRel gc (lkM (renM M σ)) w := by
    refine ⟨fun b h => .inl (hm.zu b h), ?_, ?_, ?_, hm.lay.st (fun _ h => .inl h) (fun _ _ => rfl), ?_⟩
    · rintro b (h | ⟨id, r, x, _, h2, h3, rfl⟩)
      · exact hm.ul b h
      · exact (hblock id r x h2 h3).2
    · intro j r' hr'
      obtain ⟨a, r, m1, m2, rfl⟩ := hget hr'
      exact hσk m1
    · intro j r' hr'
      obtain ⟨a, r, m1, m2, rfl⟩ := hget hr'
      refine rowAt_ren E (hm.row _ _ m2) (hat m1) ?_ (fun _ _ => rfl)
      rintro x hx hu (h | ⟨id, r2, x2, q1, q2, q3, q4⟩)
      · exact hu h
      · obtain rfl := hm.inj _ _ _ _ _ _ m2 q2 hx q3 q4.symm
        exact q1 _ m1
    · intro j j' r r' x x' e1 e2 e3 e4 e5
      obtain ⟨a1, r1, m1, m2, rfl⟩ := hget e1
      obtain ⟨a2, r2, m3, m4, rfl⟩ := hget e2
      rw [hat m1] at e3
      rw [hat m3] at e4
      obtain rfl := hm.inj _ _ _ _ _ _ m2 m4 e3 e4 e5
      exact nodup_fst hσ1 m1 m3
  have husl := relL_length hus
  have hst : StR fn.ntmps k gc (lkT (argT (ren (lkσ σ)) 0 args)) (lkM (renM M σ)) k { tmps := us.toArray ++ Array.replicate (fn.ntmps - us.toArray.size) undef, defers := [] } w := by
    refine ⟨hmc, ?_, fun id h => h, fun id h => h, ?_, rfl⟩
    · intro t
      exact argT_rel E _ args us [] hus t
    · simp
      omega
  refine calls_of_wp hf hb ?_
  refine wp_mono (compC_sound hmix c hcomp hrun gc _ w hst) ?_
  rintro ex a' w' ⟨T0, M0, nb0, g0, ⟨hx, T', M', nb', hwk, new, hnew, ⟨rv, hrv, hv⟩, heff⟩, st0, ev0⟩
  obtain ⟨g', st', ev1⟩ := hwk g0 a' w' st0
  have ev := ev0.trans ev1
  obtain ⟨u0, hu0, hrel0⟩ := hR _ _ _ _ _ _ _ st' hrv
  have hpost : ∃ u g2, u0 = u ∧ Rel g2 (upd Mx out.eff) w' out.v u ∧ MemRel g2 (upd Mx out.eff) w' ∧ Evo g Mx w g2 (upd Mx out.eff) w' ∧ ∀ id, g2.L id → g.L id ∨ (slot ≤ id ∧ id < slot + 8) := by
    refine ⟨u0, ?_⟩
    simp only [okNew, Bool.and_eq_true, List.all_eq_true, decide_eq_true_eq] at hnew
    obtain ⟨⟨n1, n2⟩, n3⟩ := hnew
    have hmemρ : ∀ {j id}, (j, id) ∈ back σ new slot → ((id, j) ∈ σ) ∨ ∃ i, (j, i) ∈ new ∧ id = slot + i := by
      intro j id h
      rcases List.mem_append.1 h with h | h
      · obtain ⟨⟨a, b⟩, h1, h2⟩ := List.mem_map.1 h
        cases h2
        exact .inl h1
      · obtain ⟨⟨a, b⟩, h1, h2⟩ := List.mem_map.1 h
        cases h2
        exact .inr ⟨b, h1, rfl⟩
    have hσρ : ∀ {a j}, (a, j) ∈ σ → (j, a) ∈ back σ new slot := fun h => List.mem_append_left _ (List.mem_map.2 ⟨_, h, rfl⟩)
    have hnot : ∀ i, i < 8 → ¬ g.L (slot + i) := fun i hi => hslot _ (by omega) (by omega)
    have hρ1 : ((back σ new slot).map (·.1)).Nodup := by
      unfold back
      rw [List.map_append, List.map_map, List.map_map, List.nodup_append]
      refine ⟨hσn, n2, ?_⟩
      rintro a h1 b h2 rfl
      obtain ⟨⟨x, y⟩, q1, rfl⟩ := List.mem_map.1 h1
      obtain ⟨z, q2, h3⟩ := List.mem_map.1 h2
      have := hσk q1
      have := (n1 z q2).1
      simp only [Function.comp] at h3
      omega
    have hρ2 : ((back σ new slot).map (·.2)).Nodup := by
      unfold back
      rw [List.map_append, List.map_map, List.map_map, List.nodup_append]
      refine ⟨hσ1, ?_, ?_⟩
      · have : (new.map ((fun (x : Nat × Nat) => x.2) ∘ fun x => (x.1, slot + x.2))) = (new.map (·.2)).map (slot + ·) := by simp [Function.comp_def]
        rw [this]
        rw [List.Nodup, List.pairwise_map]
        exact List.Pairwise.imp (fun h e => h (by omega)) n3
      · rintro a h1 b h2 rfl
        obtain ⟨⟨x, y⟩, q1, rfl⟩ := List.mem_map.1 h1
        obtain ⟨z, q2, h3⟩ := List.mem_map.1 h2
        have hz := (n1 z q2).2
        simp only [Function.comp] at h3
        have := hnot z.2 hz
        rw [h3] at this
        exact this (hgL q1)
    have hupd1 : ∀ {j id}, (j, id) ∈ back σ new slot → upd Mx out.eff id = (M' j).map (subRow (ren (lkσ (back σ new slot)))) := fun {j id} h => by
      rw [heff]; exact (upd_effOf hρ2).1 j h
    have hupd2 : ∀ {id}, (∀ j, (j, id) ∉ back σ new slot) → upd Mx out.eff id = Mx id := fun {id} h => by
      rw [heff]; exact (upd_effOf hρ2).2 h
    let g2 : Gh := { at_ := fun id => match unlk (back σ new slot) id with | some j => g'.at_ j | none => g.at_ id, Z := g'.Z, U := fun b => g.U b ∨ g'.Z b, L := fun id => g.L id ∨ ∃ j, (j, id) ∈ back σ new slot ∧ g'.L j }
    have hat1 : ∀ {j id}, (j, id) ∈ back σ new slot → g2.at_ id = g'.at_ j := fun h => by simp only [g2]; rw [unlk_of_mem hρ2 h]
    have hat2 : ∀ {id}, (∀ j, (j, id) ∉ back σ new slot) → g2.at_ id = g.at_ id := fun {id} h => by
      simp only [g2]
      split
      · rename_i j e; exact absurd (unlk_mem e) (h j)
      · rfl
    have hg2L : ∀ id, g2.L id → g.L id ∨ (slot ≤ id ∧ id < slot + 8) := by
      rintro id (h | ⟨j, h, _⟩)
      · exact .inl h
      · rcases hmemρ h with h | ⟨i, q, rfl⟩
        · exact .inl (hgL h)
        · have := (n1 _ q).2
          exact .inr ⟨by omega, by omega⟩
    have hUc : ∀ b, gc.U b → g'.U b := ev.U
    have hE : Evo g Mx w g2 (upd Mx out.eff) w' := by
      refine ⟨fun _ h => .inl h, ev.Z, ?_, fun _ h => .inl h, fun b hb => ev.keep b (.inl hb), ev.size, ev.os, ev.tape, ev.output, ?_⟩
      · intro b hb
        rcases ev.Zn b hb with h | h
        · exact .inl h
        · exact .inr fun h2 => h (.inl h2)
      · intro id hl r' hr'
        by_cases hin : ∃ j, (j, id) ∈ back σ new slot
        · obtain ⟨j, hj⟩ := hin
          rcases hmemρ hj with h | ⟨i, q, rfl⟩
          · rw [hupd1 hj, Option.map_eq_some_iff] at hr'
            obtain ⟨r1, e1, rfl⟩ := hr'
            obtain ⟨rc, q1, q2, q3, q4⟩ := ev.ids j (hσk h) r1 e1
            obtain ⟨a, r, m1, m2, rfl⟩ := hget q1
            obtain rfl := nodup_snd hσn m1 h
            exact ⟨r, m2, by rw [hat1 hj, q2, hat m1], by rw [subRow_sz, q3, subRow_sz], by rw [subRow_len, q4, subRow_len]⟩
          · exact absurd hl (hnot i (n1 _ q).2)
        · have hin' : ∀ j, (j, id) ∉ back σ new slot := fun j hj => hin ⟨j, hj⟩
          rw [hupd2 hin'] at hr'
          exact ⟨r', hr', hat2 hin', rfl, rfl⟩
    have E2 : SubOk (ren (lkσ (back σ new slot))) g' M' w' g2 (upd Mx out.eff) w' := by
      refine ren_ok ?_ ?_ (fun _ h => h) (fun _ _ => rfl)
      · intro j id hs hl
        exact .inr ⟨j, lkσ_mem hs, hl⟩
      · intro j id hs hl r' hr'
        have hj := lkσ_mem hs
        rw [hupd1 hj, Option.map_eq_some_iff] at hr'
        obtain ⟨r1, e1, rfl⟩ := hr'
        exact ⟨r1, e1, hat1 hj, rfl, subRow_len _ _⟩
    have hrowc : ∀ j r x, M' j = some r → g'.at_ j = some x → ¬ g'.U x.1 := by
      intro j r x h1 h2
      rcases st'.mem.row j r h1 with ⟨_, h⟩ | ⟨rb, ro, size, k1, k2, _⟩
      · rw [h2] at h; cases h
      · rw [h2] at k1; cases k1; exact k2
    have hoth : ∀ {id}, (∀ j, (j, id) ∉ back σ new slot) → ∀ j, (id, j) ∉ σ := fun h j hj => h j (hσρ hj)
    have hmem : MemRel g2 (upd Mx out.eff) w' := by
      refine ⟨fun b h => .inr h, ?_, ?_, ?_, hm.lay.evo hE, ?_⟩
      · rintro b (h | h)
        · exact Nat.lt_of_lt_of_le (hm.ul b h) ev.size
        · exact st'.mem.ul b (st'.mem.zu b h)
      · intro id r hr
        by_cases hin : ∃ j, (j, id) ∈ back σ new slot
        · obtain ⟨j, hj⟩ := hin
          rw [hupd1 hj, Option.map_eq_some_iff] at hr
          obtain ⟨r1, e1, rfl⟩ := hr
          exact .inr ⟨j, hj, st'.mem.known _ _ e1⟩
        · rw [hupd2 fun j hj => hin ⟨j, hj⟩] at hr
          exact .inl (hm.known _ _ hr)
      · intro id r hr
        by_cases hin : ∃ j, (j, id) ∈ back σ new slot
        · obtain ⟨j, hj⟩ := hin
          rw [hupd1 hj, Option.map_eq_some_iff] at hr
          obtain ⟨r1, e1, rfl⟩ := hr
          refine rowAt_ren E2 (st'.mem.row _ _ e1) (hat1 hj) ?_ (fun _ _ => rfl)
          rintro x hx hu (h | h)
          · exact hu (hUc _ (.inl h))
          · exact hu (st'.mem.zu _ h)
        · have hin' : ∀ j, (j, id) ∉ back σ new slot := fun j hj => hin ⟨j, hj⟩
          rw [hupd2 hin'] at hr
          rcases hm.row id r hr with ⟨k1, k2⟩ | ⟨rb, ro, size, k1, k2, k3, k4, k5⟩
          · exact .inl ⟨k1, (hat2 hin').trans k2⟩
          · have hUb : gc.U rb := .inr ⟨id, r, _, hoth hin', hr, k1, rfl⟩
            have hkeep := ev.keep rb hUb
            refine .inr ⟨rb, ro, size, (hat2 hin').trans k1, ?_, ?_, k4, RelD.evo hE hm.zu _ _ _ _ hkeep k5⟩
            · rintro (h | h)
              · exact k2 h
              · rcases ev.Zn rb h with h | h
                · exact k2 (hm.zu _ h)
                · exact h hUb
            · obtain ⟨arr, ty, fz, q1, q2, q3⟩ := k3
              exact ⟨arr, ty, fz, hkeep.trans q1, q2, q3⟩
      · intro id id' r r' x x' e1 e2 e3 e4 e5
        by_cases hin : ∃ j, (j, id) ∈ back σ new slot
        · obtain ⟨j, hj⟩ := hin
          rw [hupd1 hj, Option.map_eq_some_iff] at e1
          obtain ⟨r1, e1, rfl⟩ := e1
          rw [hat1 hj] at e3
          by_cases hin2 : ∃ j, (j, id') ∈ back σ new slot
          · obtain ⟨j2, hj2⟩ := hin2
            rw [hupd1 hj2, Option.map_eq_some_iff] at e2
            obtain ⟨r2, e2, rfl⟩ := e2
            rw [hat1 hj2] at e4
            obtain rfl := st'.mem.inj _ _ _ _ _ _ e1 e2 e3 e4 e5
            exact nodup_fst hρ1 hj hj2
          · have hin' : ∀ j, (j, id') ∉ back σ new slot := fun j hj => hin2 ⟨j, hj⟩
            rw [hupd2 hin'] at e2
            rw [hat2 hin'] at e4
            exact absurd (hUc _ (.inr ⟨id', r', x', hoth hin', e2, e4, e5.symm⟩)) (hrowc _ _ _ e1 e3)
        · have hin' : ∀ j, (j, id) ∉ back σ new slot := fun j hj => hin ⟨j, hj⟩
          rw [hupd2 hin'] at e1
          rw [hat2 hin'] at e3
          by_cases hin2 : ∃ j, (j, id') ∈ back σ new slot
          · obtain ⟨j2, hj2⟩ := hin2
            rw [hupd1 hj2, Option.map_eq_some_iff] at e2
            obtain ⟨r2, e2, rfl⟩ := e2
            rw [hat1 hj2] at e4
            exact absurd (hUc _ (.inr ⟨id, r, x, hoth hin', e1, e3, e5⟩)) (hrowc _ _ _ e2 e4)
          · have hin3 : ∀ j, (j, id') ∉ back σ new slot := fun j hj => hin2 ⟨j, hj⟩
            rw [hupd2 hin3] at e2
            rw [hat2 hin3] at e4
            exact hm.inj _ _ _ _ _ _ e1 e2 e3 e4 e5
    refine ⟨g2, rfl, ?_, hmem, hE, hg2L⟩
    rw [hv]
    exact Rel.sub E2 _ _ hrel0
  obtain ⟨u, g2, hu, h1, h2, h3, h4⟩ := hpost
  rcases hx with rfl | rfl
  · exact ⟨st'.defers, _, hu0, u, g2, by rw [hu], h1, h2, h3, h4⟩
  · exact ⟨st'.defers, _, hu0, u, g2, by rw [hu], h1, h2, h3, h4⟩

/-- As 'callOk_of_runR', where the results are slots. -/
theorem callOk_of_run {P : Program} {f : FuncId} {fn : Func} {c : Code} {lc : LCode} {ks : Nat → Bool × List Nat} {rs : List Nat} {args : List AV} {M : Mem} {slot : Nat} {out : Out} {σ : List (Nat × Nat)} {k : Nat}
    (hmix : P.follows .mixedOrders = true) (hf : P.funcs[f]? = some fn) (hb : fn.body = some c) (hname : (fn.name == "runtime.NumGoroutine") = false) (hres : fn.results = (rs.map ResultVar.tmp).toArray)
    (hcomp : compC P fn.ntmps ks c = some lc) (hlen : args.length ≤ fn.ntmps) (hσ1 : (σ.map (·.1)).Nodup) (hσ2 : σ.map (·.2) = List.range k) (hrd : ∀ x ∈ σ, x.1 ∈ out.rd) (hM : ∀ x ∈ σ, (M x.1).isSome = true)
    (hrun : run P fn.ntmps k lc (fun x T0 M0 nb0 => (x = .normal ∨ x = .ret) ∧ ∃ T' M' nb', Wk fn.ntmps k T0 M0 nb0 T' M' nb' ∧ ∃ new, okNew k new = true ∧ out.v = sub (ren (lkσ (back σ new slot))) (resV rs T') ∧ out.eff = effOf (back σ new slot) M')
      (lkT (argT (ren (lkσ σ)) 0 args)) (lkM (renM M σ)) k) : CallOk P f args M slot out := by
  refine callOk_of_runR (RS := fun T _ rv => rv = resV rs T) hmix hf hb hname ?_ hcomp hlen hσ1 hσ2 hrd hM ?_
  · rintro g M w T nb a rv st rfl
    exact ⟨_, run_results hres _ _, resV_rel st.tm rs⟩
  · exact run_imp lc (fun x T M nb ⟨h1, T', M', nb', hw, new, h2, h3, h4⟩ => ⟨h1, T', M', nb', hw, new, h2, ⟨_, rfl, h3⟩, h4⟩) _ _ _ hrun

/-- A function that is given no rows, and gives none back. -/
theorem callOk_pure {P : Program} {f : FuncId} {fn : Func} {c : Code} {lc : LCode} {ks : Nat → Bool × List Nat} {rs : List Nat} {args : List AV} {M : Mem} {slot : Nat} {v : AV}
    (hmix : P.follows .mixedOrders = true) (hf : P.funcs[f]? = some fn) (hb : fn.body = some c) (hname : (fn.name == "runtime.NumGoroutine") = false) (hres : fn.results = (rs.map ResultVar.tmp).toArray)
    (hcomp : compC P fn.ntmps ks c = some lc) (hlen : args.length ≤ fn.ntmps)
    (hrun : run P fn.ntmps 0 lc (fun x T0 M0 nb0 => (x = .normal ∨ x = .ret) ∧ ∃ T' M' nb', Wk fn.ntmps 0 T0 M0 nb0 T' M' nb' ∧ v = sub (ren (lkσ [])) (resV rs T')) (lkT (argT (ren (lkσ [])) 0 args)) (lkM []) 0) : CallOk P f args M slot { v } := by
  refine callOk_of_run (σ := []) (k := 0) hmix hf hb hname hres hcomp hlen (by simp) (by simp) (by simp) (by simp) ?_
  exact run_imp lc (fun x T M nb ⟨h1, T', M', nb', hw, h2⟩ => ⟨h1, T', M', nb', hw, [], rfl, h2, rfl⟩) _ _ _ hrun
end Go.Vm
