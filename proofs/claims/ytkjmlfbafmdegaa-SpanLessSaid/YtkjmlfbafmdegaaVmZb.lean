import Derived.Test.YtkjmlfbafmdegaaVmZa
import Derived.LaidHandle
import Derived.JoinedOf
import Derived.LaidLaws
import Derived.Stop.Joined
import Derived.ChangeVars
import Derived.ChangeSame
namespace Go.Vm
set_option linter.unusedSectionVars false
set_option linter.unusedSimpArgs false
set_option linter.unusedVariables false
open Go Go.RowKit Go.ChangeShapes Go.WideShapes Go.ChangeAt
variable [Inhabited LayT]

/-! ### a call that makes memory of its own and touches none that is there -/
theorem fresh_ok {g : Gh} {M : Mem} {w w' : World} (hm : MemRel g M w) (h1 : w'.os = w.os) (h2 : w'.tape = w.tape) (h3 : w'.output = w.output ∧ w.drawn ≤ w'.drawn) (h4 : w.heap.size ≤ w'.heap.size)
    (hk : ∀ b, b < w.heap.size → w'.heap[b]? = w.heap[b]?) : MemRel g M w' ∧ Evo g M w g M w' := by
  have hE : Evo g M w g M w' := ⟨fun _ h => h, fun _ h => h, fun _ h => .inl h, fun _ h => h, fun b hb => hk b (hm.ul b hb), h4, h1, h2, h3, fun _ _ r h => ⟨r, h, rfl, rfl, rfl⟩⟩
  refine ⟨⟨hm.zu, fun b hb => Nat.lt_of_lt_of_le (hm.ul b hb) h4, hm.known, ?_, hm.lay.evo hE, hm.inj⟩, hE⟩
  intro id r hr
  rcases hm.row id r hr with h | ⟨rb, ro, size, q1, q2, q3, q4, q5⟩
  · exact .inl h
  · obtain ⟨arr, ty, fz, p1, p2, p3⟩ := q3
    have hb := hk rb (Array.getElem?_eq_some_iff.1 p1).1
    exact .inr ⟨rb, ro, size, q1, q2, ⟨arr, ty, fz, hb.trans p1, p2, p3⟩, q4, RelD.evo hE hm.zu _ _ _ _ hb q5⟩
structure Fresh (w w' : World) : Prop where
  os : w'.os = w.os
  tape : w'.tape = w.tape
  output : w'.output = w.output ∧ w.drawn ≤ w'.drawn
  size : w.heap.size ≤ w'.heap.size
  keep : ∀ b, b < w.heap.size → w'.heap[b]? = w.heap[b]?
theorem Fresh.refl (w : World) : Fresh w w := ⟨rfl, rfl, ⟨rfl, Nat.le_refl _⟩, Nat.le_refl _, fun _ _ => rfl⟩
theorem Fresh.alloc {w w' : World} (h : Fresh w w') (o : Obj) : Fresh w (w'.alloc o) :=
  ⟨h.os, h.tape, h.output, by simp; have := h.size; omega, fun b hb => by
    rw [← h.keep b hb]
    have : b < w'.heap.size := Nat.lt_of_lt_of_le hb h.size
    simp only [World.alloc]
    rw [Array.getElem?_push_lt this]
    exact (Array.getElem?_eq_getElem this).symm⟩
theorem Fresh.set {w w' : World} (h : Fresh w w') {b o : Nat} {v : Value} (ha : w.heap.size ≤ b) : Fresh w (w'.setCell ⟨b, o, none⟩ v) := by
  have hs := setCells_rest (b := b) [v] o w'
  have hf := setCells_far (b := b) [v] o w'
  have e : w'.setCells b o [v] = w'.setCell ⟨b, o, none⟩ v := rfl
  rw [← e]
  exact ⟨hs.1.trans h.os, hs.2.1.trans h.tape, ⟨hs.2.2.1.1.trans h.output.1, Nat.le_trans h.output.2 hs.2.2.1.2⟩, by rw [hs.2.2.2]; exact h.size, fun c hb => by rw [hf c (by omega)]; exact h.keep c hb⟩
theorem callOk_fresh {P : Program} {f : FuncId} {args : List AV} {M : Mem} {slot : Nat} {v : AV} (hc : Callable P f)
    (h : ∀ g M w us, layOk g w → RelL g M w args us → Calls P f us.toArray w fun e w' => ∃ u, e = .returned u ∧ Fresh w w' ∧ ∀ g M, Rel g M w' v u) : CallOk P f args M slot { v := v } := by
  refine ⟨hc, ?_⟩
  intro Mx hMx g w us hm hus hslot
  refine (h g Mx w us hm.lay hus).mono ?_
  rintro e w' ⟨u, he, hf, hr⟩
  obtain ⟨h1, h2⟩ := fresh_ok hm hf.os hf.tape hf.output hf.size hf.keep
  exact ⟨u, g, he, hr _ _, h1, h2, fun _ h => .inl h⟩
theorem params_all {ps : Array TypeId} {q : TypeId → Bool} (h : ps.toList.all (fun t => !q t) = true) : ∀ (j : Nat) (t : TypeId), ps[j]? = some t → q t = false := by
  intro j t ht
  have := List.all_eq_true.1 h t (by rw [← Array.getElem?_toList] at ht; exact List.mem_of_getElem? ht)
  simpa using this
/-- As 'lifted_true', where the row lists package-level variables. -/
theorem lifted_laid {C : Checked} {f : FuncId} {fn : Func} {s : ChangeSpec} {os : Os} {laid : List (String × DataW Unit)} (started : os.Started) {H : Type} {enc : TypeId × Value → H} {tb : TypeId}
    (own : ownKnob C.prog.godebug = none) (noInit : C.prog.inits.idxOf? f = none) (hfn : C.prog.funcs[f]? = some fn)
    (witness : ∃ (w : World) (tape : Tape) (i : Input), w.os = os ∧ (w.forCall tape i).Shaped C.prog ∧ i.vars = [] ∧ Input.okWide C.prog (w.forCall tape i) .any w.heap.size f i ∧
      ((s.pre enc C.prog fn [] false (w.forCall tape i).memory i.args ∧ laidMetH C.prog laid (w.forCall tape i).memory) ∧ sizedMet enc C.prog fn (OpenSpec.ofChange s) false (w.forCall tape i).memory i.args) ∧ ({} : Assume).holds C.prog (lone (Frame.enter C.prog f i.args .normal) [] (w.forCall tape i)))
    (hlaid : laidOutB C.prog = true) (hpar : fn.params.toList.all (okTy C.prog 9) = true) (hpar2 : fn.params.toList.all (fun t => C.prog.readableRec t && decide (t < C.prog.types.size)) = true)
    (hres : fn.resultTypes = #[tb]) (htb : C.prog.underlying tb = some .bool) (hvars : s.vars = []) (hplain : s.plain.varTypes C.prog = [])
    (hspec : ∀ ds : List (DataW H), ds.length = fn.params.toList.length → (s.fn H ds).results = [.lit (.bool true)] ∧ (s.fn H ds).args = ds ∧ (s.fn H ds).vars = [])
    (hlay : ∀ W : World, laidMetH C.prog laid W → layOk (gh0 W) W)
    (hmain : ∀ avs, TyVs C.prog 9 fn.params.toList avs → CallOk C.prog f avs mem0 0 { v := .b true }) :
    ReturnsInHanded {} C os f .any (fun w args => (s.pre enc C.prog fn [] false w args ∧ laidMetH C.prog laid w) ∧ sizedMet enc C.prog fn (OpenSpec.ofChange s) false w args) (s.post enc C.prog fn false true false false) := by
  refine returnsInHanded_of_change_and (C := C) (X := fun w _ => laidMetH C.prog laid w) (fun _ _ _ hh h => h.of_heap hh) own started noInit hfn witness ?_
  intro W base args ds gs before hval hW _ hsz hL _
  have hW' := hW
  obtain ⟨p, q, hA, hV, rfl, hfz, hnd⟩ := hW
  rw [hvars] at hV
  obtain ⟨rfl, rfl⟩ := trodVars_none hV
  rw [hplain, List.append_nil, List.append_nil, List.all_eq_true] at hsz
  obtain ⟨hdl, as, r1, r2⟩ := trodAll_readV (f := 9) hpar (fun j t v e1 e2 => hval j t v (by simpa using e1) (by simpa using e2)) hA (fun m hm => by simpa using hsz m hm)
  obtain ⟨s1, s2, s3⟩ := hspec ds hdl
  have hcall := (hmain as r2).2 mem0 (fun _ _ => rfl) (gh0 W) W args.toList (mem0_rel W (hlay W hL)) r1 (fun _ _ _ h => h)
  refine hcall.mono ?_
  rintro e W' ⟨u, g', rfl, hu, _, hE, _⟩
  have hu' : u = .bool true := hu
  subst hu'
  have hb := hE.below (fun b h => h)
  refine ⟨_, rfl, ds, [], p ++ [], [], p, [], hW', ?_, ?_, ?_, hb.frame _, fun h => by cases h⟩
  · rw [List.append_nil, s1, hres]
    exact trodAll_mk1 (shut_bool htb _)
  · rw [List.append_nil, s2]
    exact trodAll_below hlaid hb hpar2 hA fun x hx => hW'.lt x (by simpa using hx)
  · rw [List.append_nil, s3, hvars]
    rfl
end Go.Vm
