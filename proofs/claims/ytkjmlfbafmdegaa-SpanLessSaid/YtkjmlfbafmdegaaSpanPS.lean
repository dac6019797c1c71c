/- What must come whatever the input is. -/
import Derived.Test.YtkjmlfbafmdegaaSpanP5
namespace Go.Proofs.Ytkjmlfbafmdegaa
open Go Go.Vm Go.UniteM Go.SpanM
open Go.PermM (nats nats_length nats_get nats_append get_some)
set_option linter.unusedSectionVars false
set_option linter.unusedSimpArgs false
variable [Inhabited LayT]
/-! ### plait/plaitlaw09.sure -/
def k_law_sure : Nat → Bool × List Nat := fun | 0 => (false, []) | 1 => (false, [1, 2, 3]) | 2 => (false, [0]) | _ => (false, [])
def lc_law_sure : LCode := (.seq (.rgn false false [] [] [⟨(some 0), (.mov (.const (.bool false))), none⟩]) (.seq (.rgn false false [] [1, 2, 3] [⟨(some 5), (.build [(.int .i64 0), (.int .i64 0), (.int .i32 0)] [(0, (1, (.const (.int .i64 0)))), (1, (1, (.const (.int .i64 1)))), (2, (1, (.const (.int .i32 1))))]), none⟩, ⟨(some 6), (.build [(.int .i64 0), (.int .i64 0), (.int .i32 0)] [(0, (1, (.const (.int .i64 1)))), (1, (1, (.const (.int .i64 2)))), (2, (1, (.const (.int .i32 2))))]), none⟩, ⟨(some 7), (.build [(.int .i64 0), (.int .i64 0), (.int .i32 0)] [(0, (1, (.const (.int .i64 2)))), (1, (1, (.const (.int .i64 0)))), (2, (1, (.const (.int .i32 3))))]), none⟩, ⟨(some 8), (.slit 3 [(.int .i64 0), (.int .i64 0), (.int .i32 0)] 3 [(0, (.tmp 5)), (1, (.tmp 6)), (2, (.tmp 7))]), none⟩, ⟨(some 9), (.call 7 [(.const (.int .i64 3)), (.tmp 8)]), none⟩, ⟨(some 4), (.mov (.tmp 9)), none⟩, ⟨(some 10), (.ext (.tmp 4) 0), none⟩, ⟨(some 11), (.ext (.tmp 4) 1), none⟩, ⟨(some 12), (.ext (.tmp 4) 2), none⟩, ⟨(some 1), (.mov (.tmp 10)), none⟩, ⟨(some 2), (.mov (.tmp 11)), none⟩, ⟨(some 3), (.mov (.tmp 12)), none⟩]) (.seq (.rgn false false [] [0] [⟨(some 13), (.mov (.tmp 3)), none⟩, ⟨(some 14), (.eqn false false (.tmp 13)), none⟩, ⟨(some 15), (.mov (.tmp 14)), none⟩, ⟨(some 16), (.mov (.tmp 2)), (some (15, true))⟩, ⟨(some 17), (.bin .eql (.tmp 16) (.const (.int .i64 3))), (some (15, true))⟩, ⟨(some 18), (.pick (.tmp 15) (.tmp 17) (.const (.bool false))), none⟩, ⟨(some 19), (.mov (.tmp 18)), none⟩, ⟨(some 20), (.mov (.tmp 1)), (some (19, true))⟩, ⟨(some 21), (.slit 1 [(.bool false)] 3 [(0, (.const (.bool true))), (1, (.const (.bool true))), (2, (.const (.bool false)))]), (some (19, true))⟩, ⟨(some 22), (.call 14 [(.tmp 20), (.tmp 21)]), (some (19, true))⟩, ⟨(some 23), (.pick (.tmp 19) (.tmp 22) (.const (.bool false))), none⟩, ⟨(some 0), (.mov (.tmp 23)), none⟩]) .ret)))
theorem comp_law_sure : compC Try.prog Try.f6.ntmps k_law_sure (Try.f6.body.getD .skip) = some lc_law_sure := by kernel_rfl
theorem body_law_sure : Try.f6.body = some (Try.f6.body.getD .skip) := by kernel_rfl
theorem pure_law_sure {args : List AV} {M : Mem} {slot : Nat} {v : AV} (hl : args.length ≤ Try.f6.ntmps) (h : run Try.prog Try.f6.ntmps 0 lc_law_sure (retP [0] v) (lkT (argT (ren (lkσ [])) 0 args)) (lkM []) 0) : CallOk Try.prog 6 args M slot { v } :=
  callOk_pure mix Try.func6 body_law_sure (by kernel_rfl) (by kernel_rfl) comp_law_sure hl (run_imp _ (fun _ _ _ _ h => retP_W h) _ _ _ h)
section
variable {M : Mem} {slot : Nat}
def tri : List E := [⟨0, 1, 1⟩, ⟨1, 2, 2⟩, ⟨2, 0, 3⟩]
theorem tri_steps : SpanM.Steps false tri 2 (s0 3 tri) ⟨[0, 0, 0], [true, true, false], 3⟩ :=
  .more (i := 0) (by decide) (.more (i := 1) (by decide) (.done (by decide)))
theorem steps_uniq {gr : Bool} {l : List E} : ∀ {k k' : Nat} {s t t' : St}, SpanM.Steps gr l k s t → SpanM.Steps gr l k' s t' → t = t'
  | _, _, _, _, _, .done _, .done _ => rfl
  | _, _, _, _, _, .done h, .more h2 _ => by rw [h] at h2; cases h2
  | _, _, _, _, _, .more h _, .done h2 => by rw [h] at h2; cases h2
  | _, _, _, _, _, .more h1 r1, .more h2 r2 => by
    rw [h1] at h2
    cases h2
    exact steps_uniq r1 r2
theorem tri_tree : tree 3 tri = ⟨[0, 0, 0], [true, true, false], 3⟩ := by
  obtain ⟨k, _, h⟩ := tree_steps (n := 3) (l := tri) (by decide)
  exact steps_uniq h tri_steps
theorem tri_ok : CallOk Try.prog 7 [.i .i64 3, dE tri] M slot { v := .tup [dB [true, true, false], .i .i64 3, .k .nilIface] } := by
  have := tree_ok (M := M) (slot := slot) (n := 3) (l := tri) (by decide) (by simp [In32, tri])
  rw [resT, if_pos (by decide), show (3 : Int).toNat = 3 from rfl, tri_tree] at this
  exact this
theorem sure_ok : CallOk Try.prog 6 [] M slot { v := .b true } := by
  refine pure_law_sure (Nat.le_of_ble_eq_true (by kernel_rfl)) ?_; unfold lc_law_sure
  simp only [vS, opP, Go.Vm.step, Go.Vm.ev, delM, setM, binL, binI, shI, binS, unL, cst, cst1, cells1, reduceIte, Nat.reduceAdd, Nat.reduceMul, Nat.reduceEqDiff, bound, refsC, AV.cells, AV.ref1, flatC, oneC, elems, okLog, disj, befOf, Int.reduceLT, Int.reduceLE, Int.reduceToNat, Int.reducePow, Nat.reduceLeDiff, IntKind.bits, argT, Int.reduceMul, Int.reduceAdd, Int.reduceNeg, Int.reduceSub, Int.reduceEq, Nat.reduceLT, Row.get1, Row.getN, Row.set1, Row.setN, fillE, fillL, over]
  refine callP_ok (callOk_fr' [(32, ⟨3, eE tri⟩)] (tri_ok (slot := 40)) ⟨rfl, trivial⟩ rfl rfl) ?_
  simp only [vS, opP, Go.Vm.step, Go.Vm.ev, delM, setM, binL, binI, shI, binS, unL, cst, cst1, cells1, reduceIte, Nat.reduceAdd, Nat.reduceMul, Nat.reduceEqDiff, bound, refsC, AV.cells, AV.ref1, flatC, oneC, elems, okLog, disj, befOf, Int.reduceLT, Int.reduceLE, Int.reduceToNat, Int.reducePow, Nat.reduceLeDiff, IntKind.bits, argT, Int.reduceMul, Int.reduceAdd, Int.reduceNeg, Int.reduceSub, Int.reduceEq, Nat.reduceLT, Row.get1, Row.getN, Row.set1, Row.setN, fillE, frOut, fillL, over]
  refine callP_ok (callOk_fr' [(168, ⟨1, enc .b [true, true, false]⟩)] (marks_ok (a := [true, true, false]) (b := [true, true, false]) (by decide)) ⟨rfl, trivial⟩ rfl rfl) ?_
  simp only [vS, opP, Go.Vm.step, Go.Vm.ev, delM, setM, binL, binI, shI, binS, unL, cst, cst1, cells1, reduceIte, Nat.reduceAdd, Nat.reduceMul, Nat.reduceEqDiff, bound, refsC, AV.cells, AV.ref1, flatC, oneC, elems, okLog, disj, befOf, Int.reduceLT, Int.reduceLE, Int.reduceToNat, Int.reducePow, Nat.reduceLeDiff, IntKind.bits, argT, Int.reduceMul, Int.reduceAdd, Int.reduceNeg, Int.reduceSub, Int.reduceEq, Nat.reduceLT, Row.get1, Row.getN, Row.set1, Row.setN, fillE, frOut]
end
end Go.Proofs.Ytkjmlfbafmdegaa
