import Derived.Test.YtkjmlfbafmdegaaVmX
namespace Go.Vm
set_option linter.unusedSectionVars false
set_option linter.unusedSimpArgs false
set_option linter.unusedVariables false
open Go Go.RowKit Go.ChangeShapes Go.WideShapes Go.ChangeAt
variable [Inhabited LayT]

def TyV (P : Program) (f : Nat) (t : TypeId) (a : AV) : Prop :=
  match P.underlying t with
  | some (.struct _) | some (.array _ _) => ∃ cs, a = .agg cs ∧ TyC P f t cs
  | _ => TyC P f t [a]
def TyVs (P : Program) (f : Nat) : List TypeId → List AV → Prop
  | [], as => as = []
  | t :: ts, as => ∃ a r, as = a :: r ∧ TyV P f t a ∧ TyVs P f ts r

section
variable {H : Type} {enc : TypeId × Value → H} {P : Program} {W : World} {spare : Nat → Bool} {held : Bool}
theorem trod_readV {f : Nat} {t : TypeId} {v : Value} {d : DataW H} {ps : List MemPlace} {r : Reach} {b : Nat} (h : okTy P f t = true) (hok : Value.okWide P W r b t v) (hd : DataW.Trod enc P W 0 spare held t v d ps)
    (hw : ∀ m ∈ d.weights P t, m ≤ reachBytes) : ∃ a, Rel (gh0 W) mem0 W a v ∧ TyV P f t a := by
  obtain ⟨fuel, hd⟩ := hd
  obtain ⟨avs, h1, h2, h3⟩ := trod_read f h hd hw
  cases f with
  | zero => cases h
  | succ f =>
    have one : v.cells = #[v] → TyC P (f + 1) t avs → ∃ a, Rel (gh0 W) mem0 W a v ∧ avs = [a] := by
      intro hv _
      rw [hv] at h1
      match avs, h1 with
      | [a], ⟨u, r, e, q1, q2⟩ =>
        cases e
        exact ⟨a, q1, rfl⟩
      | a :: b :: l, ⟨u, r, e, q1, q2⟩ =>
        cases e
        obtain ⟨_, _, e, _⟩ := q2
        cases e
      | [], h => cases h
    have agg : (∃ cs, v = .agg cs) → ∃ a, Rel (gh0 W) mem0 W a v ∧ ∃ cs, a = .agg cs ∧ TyC P (f + 1) t cs := by
      rintro ⟨cs, rfl⟩
      exact ⟨.agg avs, ⟨cs.toList, rfl, h1⟩, avs, rfl, h2⟩
    unfold TyV
    cases hu : P.underlying t with
    | none => unfold okTy at h; rw [hu] at h; cases h
    | some D =>
      have plain : v.cells = #[v] → ∃ a, Rel (gh0 W) mem0 W a v ∧ TyC P (f + 1) t [a] := by
        intro hv
        obtain ⟨a, q1, rfl⟩ := one hv h2
        exact ⟨a, q1, h2⟩
      cases D <;> (try (unfold okTy at h; rw [hu] at h; cases h; done))
      · obtain ⟨x, rfl⟩ := okWide_bool hu hok; exact plain rfl
      · obtain ⟨x, rfl⟩ := okWide_int hu hok; exact plain rfl
      · obtain ⟨x, rfl⟩ := okWide_string hu hok; exact plain rfl
      · obtain ⟨x, y, z, rfl⟩ := okWide_slice hu hok; exact plain rfl
      all_goals
        refine agg ?_
        unfold Value.okWide at hok
        rw [hu] at hok
        obtain ⟨cs, h, _⟩ := hok
        exact ⟨cs, h⟩

theorem trodAll_readV {f : Nat} {r : Reach} {b : Nat} : ∀ {ts : List TypeId} {vs : List Value} {ds : List (DataW H)} {ps : List MemPlace}, ts.all (okTy P f) = true →
    (∀ (j : Nat) t v, ts[j]? = some t → vs[j]? = some v → Value.okWide P W r b t v) → DataW.TrodAll enc P W 0 spare held ts vs ds ps → (∀ m ∈ DataW.weightsEach P ts ds, m ≤ reachBytes) →
    ds.length = ts.length ∧ ∃ as, RelL (gh0 W) mem0 W as vs ∧ TyVs P f ts as
  | [], [], [], ps, _, _, _, _ => ⟨rfl, [], rfl, rfl⟩
  | t :: ts, v :: vs, d :: ds, ps, h, hok, ⟨p, q, h1, h2, _⟩, hw => by
    rw [List.all_cons, Bool.and_eq_true] at h
    obtain ⟨a, q1, q2⟩ := trod_readV h.1 (hok 0 t v rfl rfl) h1 fun m hm => hw m (List.mem_append_left _ hm)
    obtain ⟨hl, as, q3, q4⟩ := trodAll_readV h.2 (fun j t' v' e1 e2 => hok (j + 1) t' v' (by simpa using e1) (by simpa using e2)) h2 fun m hm => hw m (List.mem_append_right _ hm)
    exact ⟨by simp [hl], a :: as, ⟨_, _, rfl, q1, q3⟩, _, _, rfl, q2, q4⟩
  | [], _ :: _, _, _, _, _, h, _ => h.elim
  | [], [], _ :: _, _, _, _, h, _ => h.elim
  | _ :: _, [], _, _, _, _, h, _ => h.elim
  | _ :: _, _ :: _, [], _, _, _, h, _ => h.elim

theorem trodAll_below {W' : World} (hl : laidOutB P = true) (hb : Below W.heap.size W W') : ∀ {ts : List TypeId} {vs : List Value} {ds : List (DataW H)} {ps : List MemPlace}, ts.all (fun t => P.readableRec t && decide (t < P.types.size)) = true →
    DataW.TrodAll enc P W 0 (fun _ => true) true ts vs ds ps → (∀ x ∈ ps, x.block < W.heap.size) → DataW.TrodAll enc P W' 0 (fun b => decide (b < W.heap.size)) true ts vs ds ps
  | [], [], [], ps, _, h, _ => h
  | t :: ts, v :: vs, d :: ds, ps, h, ⟨p, q, h1, h2, e⟩, hlt => by
    subst e
    rw [List.all_cons, Bool.and_eq_true, Bool.and_eq_true, decide_eq_true_eq] at h
    exact ⟨p, q, Below.trod hl h.1.1 h.1.2 h1 hb fun x hx => hlt x (List.mem_append_left _ hx), trodAll_below hl hb h.2 h2 fun x hx => hlt x (List.mem_append_right _ hx), rfl⟩
  | [], _ :: _, _, _, _, h, _ => h.elim
  | [], [], _ :: _, _, _, h, _ => h.elim
  | _ :: _, [], _, _, _, h, _ => h.elim
  | _ :: _, _ :: _, [], _, _, h, _ => h.elim

theorem Evo.below {g g' : Gh} {M M' : Mem} {W W' : World} (h : Evo g M W g' M' W') (hU : ∀ b, b < W.heap.size → g.U b) : Below W.heap.size W W' :=
  ⟨h.os, h.tape, h.output.1, h.size, fun k hk => h.keep k (hU k hk)⟩
end

/-- What is said of a call of a law, in words of the VM, gives what the row says. -/
theorem lifted_true {C : Checked} {f : FuncId} {fn : Func} {s : ChangeSpec} {os : Os} (started : os.Started) {H : Type} {enc : TypeId × Value → H} {tb : TypeId}
    (own : ownKnob C.prog.godebug = none) (noInit : C.prog.inits.idxOf? f = none) (hfn : C.prog.funcs[f]? = some fn)
    (witness : ∃ (w : World) (tape : Tape) (i : Input), w.os = os ∧ (w.forCall tape i).Shaped C.prog ∧ i.vars = [] ∧ Input.okWide C.prog (w.forCall tape i) .any w.heap.size f i ∧
      s.pre6 enc C.prog fn [] false (w.forCall tape i).memory i.args ∧ ({} : Assume).holds C.prog (lone (Frame.enter C.prog f i.args .normal) [] (w.forCall tape i)))
    (hlaid : laidOutB C.prog = true) (hpar : fn.params.toList.all (okTy C.prog 9) = true) (hpar2 : fn.params.toList.all (fun t => C.prog.readableRec t && decide (t < C.prog.types.size)) = true)
    (hres : fn.resultTypes = #[tb]) (htb : C.prog.underlying tb = some .bool) (hvars : s.vars = []) (hplain : s.plain.varTypes C.prog = [])
    (hspec : ∀ ds : List (DataW H), ds.length = fn.params.toList.length → (s.fn H ds).results = [.lit (.bool true)] ∧ (s.fn H ds).args = ds ∧ (s.fn H ds).vars = [])
    (hlay : ∀ W : World, layOk (gh0 W) W)
    (hmain : ∀ avs, TyVs C.prog 9 fn.params.toList avs → CallOk C.prog f avs mem0 0 { v := .b true }) :
    ReturnsInHanded {} C os f .any (s.pre6 enc C.prog fn [] false) (s.post enc C.prog fn false true false false) := by
  refine returnsInHanded_of_change_sized own started noInit hfn witness ?_
  intro W base args ds gs before hval hW _ hsz _
  have hW' := hW
  obtain ⟨p, q, hA, hV, rfl, hfz, hnd⟩ := hW
  rw [hvars] at hV
  obtain ⟨rfl, rfl⟩ := trodVars_none hV
  rw [hplain, List.append_nil, List.append_nil, List.all_eq_true] at hsz
  obtain ⟨hdl, as, r1, r2⟩ := trodAll_readV (f := 9) hpar (fun j t v e1 e2 => hval j t v (by simpa using e1) (by simpa using e2)) hA (fun m hm => by simpa using hsz m hm)
  obtain ⟨s1, s2, s3⟩ := hspec ds hdl
  have hcall := (hmain as r2).2 mem0 (fun _ _ => rfl) (gh0 W) W args.toList (mem0_rel W (hlay W)) r1 (fun _ _ _ h => h)
  refine hcall.mono ?_
  rintro e W' ⟨u, g', rfl, hu, _, hE, _⟩
  have hu' : u = .bool true := hu
  subst hu'
  have hb := hE.below (fun b h => h)
  refine ⟨_, rfl, ds, [], p ++ [], [], p, [], hW', ?_, ?_, ?_, hb.frame _, fun h => by cases h⟩
  · rw [List.append_nil, s1, hres]
    exact trodAll_mk1 (shut_bool htb _)
  · rw [List.append_nil, s2]
    exact trodAll_below hlaid hb hpar2 hA fun x hx => hW'.lt x (by simpa using hx)
  · rw [List.append_nil, s3, hvars]
    rfl
end Go.Vm
