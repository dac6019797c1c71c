import Derived.Test.YtndaokjifafhkaaGreatDoorVxB
import Derived.LaidHandle
import Derived.JoinedOf
import Derived.LaidLaws
import Derived.Stop.Joined
import Derived.ChangeVars
import Derived.ChangeSame
/- From a call that returns true, by a contract told in some window of names, to what a row says, where the row lists package-level variables. -/
namespace Go.Vx
set_option linter.unusedSectionVars false
set_option linter.unusedSimpArgs false
set_option linter.unusedVariables false
open Go Go.Vm Go.RowKit Go.ChangeShapes Go.WideShapes Go.ChangeAt
variable [Inhabited LayT]
theorem params_all {ps : Array TypeId} {q : TypeId → Bool} (h : ps.toList.all (fun t => !q t) = true) : ∀ (j : Nat) (t : TypeId), ps[j]? = some t → q t = false := by
  intro j t ht
  have := List.all_eq_true.1 h t (by rw [← Array.getElem?_toList] at ht; exact List.mem_of_getElem? ht)
  simpa using this
theorem lifted_laidW {C : Checked} {f : FuncId} {fn : Func} {s : ChangeSpec} {os : Os} {laid : List (String × DataW Unit)} (started : os.Started) {H : Type} {enc : TypeId × Value → H} {tb : TypeId}
    (own : ownKnob C.prog.godebug = none) (noInit : C.prog.inits.idxOf? f = none) (hfn : C.prog.funcs[f]? = some fn)
    (witness : ∃ (w : World) (tape : Tape) (i : Input), w.os = os ∧ (w.forCall tape i).Shaped C.prog ∧ i.vars = [] ∧ Input.okWide C.prog (w.forCall tape i) .any w.heap.size f i ∧
      ((s.pre enc C.prog fn [] false (w.forCall tape i).memory i.args ∧ laidMetH C.prog laid (w.forCall tape i).memory) ∧ sizedMet enc C.prog fn (OpenSpec.ofChange s) false (w.forCall tape i).memory i.args) ∧ ({} : Assume).holds C.prog (lone (Frame.enter C.prog f i.args .normal) [] (w.forCall tape i)))
    (hlaid : laidOutB C.prog = true) (hpar : fn.params.toList.all (okTy C.prog 9) = true) (hpar2 : fn.params.toList.all (fun t => C.prog.readableRec t && decide (t < C.prog.types.size)) = true)
    (hres : fn.resultTypes = #[tb]) (htb : C.prog.underlying tb = some .bool) (hvars : s.vars = []) (hplain : s.plain.varTypes C.prog = [])
    (hspec : ∀ ds : List (DataW H), ds.length = fn.params.toList.length → (s.fn H ds).results = [.lit (.bool true)] ∧ (s.fn H ds).args = ds ∧ (s.fn H ds).vars = [])
    (hlay : ∀ W : World, laidMetH C.prog laid W → layOk (gh0 W) W) (hcal : Callable C.prog f)
    (hmain : ∀ avs, TyVs C.prog 9 fn.params.toList avs → ∃ V eff rd, CallW C.prog f avs mem0 V ⟨.b true, eff, rd⟩) :
    ReturnsInHanded {} C os f .any (fun w args => (s.pre enc C.prog fn [] false w args ∧ laidMetH C.prog laid w) ∧ sizedMet enc C.prog fn (OpenSpec.ofChange s) false w args) (s.post enc C.prog fn false true false false) := by
  refine returnsInHanded_of_change_and (C := C) (X := fun w _ => laidMetH C.prog laid w) (fun _ _ _ hh h => h.of_heap hh) own started noInit hfn witness ?_
  intro W base args ds gs before hval hW _ hsz hL _
  have hW' := hW
  obtain ⟨p, q, hA, hV, rfl, hfz, hnd⟩ := hW
  rw [hvars] at hV
  obtain ⟨rfl, rfl⟩ := trodVars_none hV
  rw [hplain, List.append_nil, List.append_nil, List.all_eq_true] at hsz
  obtain ⟨hdl, as1, r1, r2⟩ := trodAll_readV (f := 9) hpar (fun j t v e1 e2 => hval j t v (by simpa using e1) (by simpa using e2)) hA (fun m hm => by simpa using hsz m hm)
  obtain ⟨s1, s2, s3⟩ := hspec ds hdl
  obtain ⟨V, eff, rd, hm⟩ := hmain as1 r2
  have hcall : Calls C.prog f args W fun e W' => ∃ u, e = .returned u ∧ ∃ g', Rel g' (upd mem0 eff) W' (.b true) u ∧ MemRel g' (upd mem0 eff) W' ∧ Evo (gh0 W) mem0 W g' (upd mem0 eff) W' ∧ ∀ id, g'.L id → (gh0 W).L id ∨ V id := by
    rcases hm mem0 (fun _ _ => rfl) (gh0 W) W args.toList (mem0_rel W (hlay W hL)) r1 (fun _ _ h => h) with ⟨_, h⟩ | ⟨u, w', h, _⟩
    · exact h
    · rw [run_callFunc hcal] at h; cases h
  refine hcall.mono ?_
  rintro e W' ⟨u, rfl, g', hu, _, hE, _⟩
  have hu' : u = .bool true := hu
  subst hu'
  have hb := hE.below (fun b h => h)
  refine ⟨_, rfl, ds, [], p ++ [], [], p, [], hW', ?_, ?_, ?_, hb.frame _, fun h => by cases h⟩
  · rw [List.append_nil, s1, hres]
    exact trodAll_mk1 (shut_bool htb _)
  · rw [List.append_nil, s2]
    exact trodAll_below hlaid hb hpar2 hA fun x hx => hW'.lt x (by simpa using hx)
  · rw [List.append_nil, s3, hvars]
    rfl
end Go.Vx
