/- Package cmd: forms, and whether a command may be. -/
import Derived.Test.YtopjkgappjgjnaaDoorCmdD2
import Derived.Test.YtopjkgappjgjnaaDoorCmdM
namespace Go.Proofs.YtopjkgappjgjnaaDoor
open Go Go.Vm Go.CmdM
set_option linter.unusedSectionVars false
set_option linter.unusedSimpArgs false
/-! ### plait/cmd.formOf -/
def k_cmd_formOf : Nat → Bool × List Nat := fun | 0 => (false, [0, 2]) | 1 => (false, [2, 4]) | 2 => (false, [2, 4, 5]) | 3 => (false, [2, 4, 5]) | 4 => (false, [2, 4, 5]) | 5 => (false, [2, 4, 5]) | 6 => (false, [2, 3]) | 7 => (false, [2, 4, 11]) | 8 => (false, [2, 4, 11]) | 9 => (false, [2, 4, 11]) | 10 => (false, [2, 4, 11]) | 11 => (false, [2, 4, 11]) | 12 => (false, [2, 3]) | 13 => (false, [2, 4, 18]) | 14 => (false, [2, 3]) | 15 => (false, [2, 4, 21]) | 16 => (false, [2, 3]) | 17 => (false, [2, 4, 24]) | 18 => (false, [2, 4, 24]) | 19 => (false, [2, 4, 24]) | 20 => (false, [2, 3]) | 21 => (false, [2, 4, 29]) | 22 => (false, [2, 3]) | 23 => (false, [2, 4, 32]) | 24 => (false, [2, 3]) | 25 => (false, [2, 35]) | 26 => (false, [2, 3]) | 27 => (false, [2, 3]) | _ => (false, [])
def lc_cmd_formOf : LCode := (.seq (.rgn false false [] [0, 2] [⟨(some 2), (.alloc [(.int .i64 0), (.int .i64 0), (.bool false), (.bool false)]), none⟩, ⟨(some 3), (.mov (.const (.bool false))), none⟩]) (.seq (.seq (.rgn false false [] [2, 4] [⟨(some 4), (.mov (.tmp 0)), none⟩]) (.block 0 (.seq (.seq (.rgn false false [] [2, 4, 5] [⟨(some 6), (.bin .eql (.tmp 4) (.const (.int .i64 1))), none⟩, ⟨(some 5), (.mov (.tmp 6)), none⟩]) (.cond (.tmp 5) .skip (.seq (.rgn false false [] [2, 4, 5] [⟨(some 7), (.bin .eql (.tmp 4) (.const (.int .i64 11))), none⟩, ⟨(some 5), (.mov (.tmp 7)), none⟩]) (.cond (.tmp 5) .skip (.seq (.rgn false false [] [2, 4, 5] [⟨(some 8), (.bin .eql (.tmp 4) (.const (.int .i64 13))), none⟩, ⟨(some 5), (.mov (.tmp 8)), none⟩]) (.cond (.tmp 5) .skip (.rgn false false [] [2, 4, 5] [⟨(some 9), (.bin .eql (.tmp 4) (.const (.int .i64 14))), none⟩, ⟨(some 5), (.mov (.tmp 9)), none⟩]))))))) (.cond (.tmp 5) (.seq (.rgn false false [] [2, 3] [⟨(some 10), (.build [(.int .i64 0), (.int .i64 0), (.bool false), (.bool false)] []), none⟩, ⟨none, (.store 4 (.tmp 2) (.tmp 10)), none⟩, ⟨(some 3), (.mov (.const (.bool true))), none⟩]) .ret) (.seq (.seq (.rgn false false [] [2, 4, 11] [⟨(some 12), (.bin .eql (.tmp 4) (.const (.int .i64 2))), none⟩, ⟨(some 11), (.mov (.tmp 12)), none⟩]) (.cond (.tmp 11) .skip (.seq (.rgn false false [] [2, 4, 11] [⟨(some 13), (.bin .eql (.tmp 4) (.const (.int .i64 4))), none⟩, ⟨(some 11), (.mov (.tmp 13)), none⟩]) (.cond (.tmp 11) .skip (.seq (.rgn false false [] [2, 4, 11] [⟨(some 14), (.bin .eql (.tmp 4) (.const (.int .i64 8))), none⟩, ⟨(some 11), (.mov (.tmp 14)), none⟩]) (.cond (.tmp 11) .skip (.seq (.rgn false false [] [2, 4, 11] [⟨(some 15), (.bin .eql (.tmp 4) (.const (.int .i64 12))), none⟩, ⟨(some 11), (.mov (.tmp 15)), none⟩]) (.cond (.tmp 11) .skip (.rgn false false [] [2, 4, 11] [⟨(some 16), (.bin .eql (.tmp 4) (.const (.int .i64 16))), none⟩, ⟨(some 11), (.mov (.tmp 16)), none⟩]))))))))) (.cond (.tmp 11) (.seq (.rgn false false [] [2, 3] [⟨(some 17), (.build [(.int .i64 0), (.int .i64 0), (.bool false), (.bool false)] [(0, (1, (.const (.int .i64 1))))]), none⟩, ⟨none, (.store 4 (.tmp 2) (.tmp 17)), none⟩, ⟨(some 3), (.mov (.const (.bool true))), none⟩]) .ret) (.seq (.rgn false false [] [2, 4, 18] [⟨(some 19), (.bin .eql (.tmp 4) (.const (.int .i64 6))), none⟩, ⟨(some 18), (.mov (.tmp 19)), none⟩]) (.cond (.tmp 18) (.seq (.rgn false false [] [2, 3] [⟨(some 20), (.build [(.int .i64 0), (.int .i64 0), (.bool false), (.bool false)] [(0, (1, (.const (.int .i64 2))))]), none⟩, ⟨none, (.store 4 (.tmp 2) (.tmp 20)), none⟩, ⟨(some 3), (.mov (.const (.bool true))), none⟩]) .ret) (.seq (.rgn false false [] [2, 4, 21] [⟨(some 22), (.bin .eql (.tmp 4) (.const (.int .i64 5))), none⟩, ⟨(some 21), (.mov (.tmp 22)), none⟩]) (.cond (.tmp 21) (.seq (.rgn false false [] [2, 3] [⟨(some 23), (.build [(.int .i64 0), (.int .i64 0), (.bool false), (.bool false)] [(0, (1, (.const (.int .i64 1)))), (2, (1, (.const (.bool true))))]), none⟩, ⟨none, (.store 4 (.tmp 2) (.tmp 23)), none⟩, ⟨(some 3), (.mov (.const (.bool true))), none⟩]) .ret) (.seq (.seq (.rgn false false [] [2, 4, 24] [⟨(some 25), (.bin .eql (.tmp 4) (.const (.int .i64 9))), none⟩, ⟨(some 24), (.mov (.tmp 25)), none⟩]) (.cond (.tmp 24) .skip (.seq (.rgn false false [] [2, 4, 24] [⟨(some 26), (.bin .eql (.tmp 4) (.const (.int .i64 10))), none⟩, ⟨(some 24), (.mov (.tmp 26)), none⟩]) (.cond (.tmp 24) .skip (.rgn false false [] [2, 4, 24] [⟨(some 27), (.bin .eql (.tmp 4) (.const (.int .i64 17))), none⟩, ⟨(some 24), (.mov (.tmp 27)), none⟩]))))) (.cond (.tmp 24) (.seq (.rgn false false [] [2, 3] [⟨(some 28), (.build [(.int .i64 0), (.int .i64 0), (.bool false), (.bool false)] [(0, (1, (.const (.int .i64 1)))), (1, (1, (.const (.int .i64 1))))]), none⟩, ⟨none, (.store 4 (.tmp 2) (.tmp 28)), none⟩, ⟨(some 3), (.mov (.const (.bool true))), none⟩]) .ret) (.seq (.rgn false false [] [2, 4, 29] [⟨(some 30), (.bin .eql (.tmp 4) (.const (.int .i64 7))), none⟩, ⟨(some 29), (.mov (.tmp 30)), none⟩]) (.cond (.tmp 29) (.seq (.rgn false false [] [2, 3] [⟨(some 31), (.build [(.int .i64 0), (.int .i64 0), (.bool false), (.bool false)] [(0, (1, (.const (.int .i64 2)))), (1, (1, (.const (.int .i64 1))))]), none⟩, ⟨none, (.store 4 (.tmp 2) (.tmp 31)), none⟩, ⟨(some 3), (.mov (.const (.bool true))), none⟩]) .ret) (.seq (.rgn false false [] [2, 4, 32] [⟨(some 33), (.bin .eql (.tmp 4) (.const (.int .i64 3))), none⟩, ⟨(some 32), (.mov (.tmp 33)), none⟩]) (.cond (.tmp 32) (.seq (.rgn false false [] [2, 3] [⟨(some 34), (.build [(.int .i64 0), (.int .i64 0), (.bool false), (.bool false)] [(0, (1, (.const (.int .i64 2)))), (1, (1, (.const (.int .i64 2)))), (2, (1, (.const (.bool true))))]), none⟩, ⟨none, (.store 4 (.tmp 2) (.tmp 34)), none⟩, ⟨(some 3), (.mov (.const (.bool true))), none⟩]) .ret) (.seq (.rgn false false [] [2, 35] [⟨(some 36), (.bin .eql (.tmp 4) (.const (.int .i64 15))), none⟩, ⟨(some 35), (.mov (.tmp 36)), none⟩]) (.cond (.tmp 35) (.seq (.rgn false false [] [2, 3] [⟨(some 37), (.build [(.int .i64 0), (.int .i64 0), (.bool false), (.bool false)] [(3, (1, (.const (.bool true))))]), none⟩, ⟨none, (.store 4 (.tmp 2) (.tmp 37)), none⟩, ⟨(some 3), (.mov (.const (.bool true))), none⟩]) .ret) .skip)))))))))))))))))) (.seq (.rgn false false [] [2, 3] [⟨(some 38), (.build [(.int .i64 0), (.int .i64 0), (.bool false), (.bool false)] []), none⟩, ⟨none, (.store 4 (.tmp 2) (.tmp 38)), none⟩, ⟨(some 3), (.mov (.const (.bool false))), none⟩]) .ret)))
theorem comp_cmd_formOf : compC Tryd.prog Tryd.f18.ntmps k_cmd_formOf (Tryd.f18.body.getD .skip) = some lc_cmd_formOf := by kernel_rfl
theorem body_cmd_formOf : Tryd.f18.body = some (Tryd.f18.body.getD .skip) := by kernel_rfl
theorem pure_cmd_formOf {args : List AV} {M : Mem} {slot : Nat} {v : AV} (hl : args.length ≤ Tryd.f18.ntmps) (h : run Tryd.prog Tryd.f18.ntmps 0 lc_cmd_formOf (retPV [.c 2 4 true, .t 3] v) (lkT (argT (ren (lkσ [])) 0 args)) (lkM []) 0) : CallOk Tryd.prog 18 args M slot { v } :=
  callOk_pureV mix Tryd.func18 body_cmd_formOf (by kernel_rfl) (by kernel_rfl) comp_cmd_formOf hl (run_imp _ (fun _ _ _ _ h => retPV_W h) _ _ _ h)
section
variable {M : Mem} {slot : Nat}
abbrev fV (f : Fm) : AV := .agg [.i .i64 f.h, .i .i64 f.s, .b f.w, .b f.d]
def cC (c : Cm) : List AV := [.i .i64 c.co, .i .u32 c.a0, .i .u32 c.t0, .i .u32 c.a1, .i .u32 c.t1, .i .i64 c.s0, .i .i64 c.s1, .i .i32 c.w, bI c.d]
theorem cC_eq (c : Cm) : cC c = [.i .i64 c.co, .i .u32 c.a0, .i .u32 c.t0, .i .u32 c.a1, .i .u32 c.t1, .i .i64 c.s0, .i .i64 c.s1, .i .i32 c.w, bI c.d] := rfl
/-- An error's value. -/
def eV (n : Int) : AV := if n = 0 then .k .nilIface else .ifc 63 (.i .i64 n)
theorem eV_0 : eV 0 = .k .nilIface := rfl
theorem codes {P : Int → Prop} (h1 : ∀ c : Int, 1 ≤ c → c ≤ 17 → P c) (h2 : ∀ c : Int, isC c = false → P c) (c : Int) : P c := by
  by_cases h : 1 ≤ c ∧ c ≤ 17
  · exact h1 c h.1 h.2
  · exact h2 c (by simp [isC]; omega)
theorem codes17 {P : Int → Prop} (h : P 1 ∧ P 2 ∧ P 3 ∧ P 4 ∧ P 5 ∧ P 6 ∧ P 7 ∧ P 8 ∧ P 9 ∧ P 10 ∧ P 11 ∧ P 12 ∧ P 13 ∧ P 14 ∧ P 15 ∧ P 16 ∧ P 17) : ∀ c : Int, 1 ≤ c → c ≤ 17 → P c := by
  intro c h1 h2
  have : c = 1 ∨ c = 2 ∨ c = 3 ∨ c = 4 ∨ c = 5 ∨ c = 6 ∨ c = 7 ∨ c = 8 ∨ c = 9 ∨ c = 10 ∨ c = 11 ∨ c = 12 ∨ c = 13 ∨ c = 14 ∨ c = 15 ∨ c = 16 ∨ c = 17 := by omega
  obtain ⟨g1, g2, g3, g4, g5, g6, g7, g8, g9, g10, g11, g12, g13, g14, g15, g16, g17⟩ := h
  rcases this with rfl | rfl | rfl | rfl | rfl | rfl | rfl | rfl | rfl | rfl | rfl | rfl | rfl | rfl | rfl | rfl | rfl <;> assumption
theorem fm_no {c : Int} (h : isC c = false) : fm c = ⟨0, 0, false, false⟩ := by
  simp [isC] at h
  have e1 : hs c = 0 := by unfold hs; rw [if_neg (by omega), if_neg (by omega)]
  have e2 : sd c = 0 := by unfold sd; rw [if_neg (by omega), if_neg (by omega)]
  have e3 : wt c = false := by simp [wt]; omega
  have e4 : da c = false := by simp [da]; omega
  simp [fm, e1, e2, e3, e4]
set_option maxHeartbeats 4000000 in
theorem formOf_ok (c : Int) : CallOk Tryd.prog 18 [.i .i64 c] M slot { v := .tup [fV (fm c), .b (isC c)] } := by
  revert c
  refine codes (codes17 ?_) (fun c h => ?_)
  · refine ⟨?_, ?_, ?_, ?_, ?_, ?_, ?_, ?_, ?_, ?_, ?_, ?_, ?_, ?_, ?_, ?_, ?_⟩
    all_goals
      refine pure_cmd_formOf (Nat.le_of_ble_eq_true (by kernel_rfl)) ?_; unfold lc_cmd_formOf
      simp only [vV, reduceCtorEq, fillL, over, eqCells, vS, opP, Go.Vm.step, Go.Vm.ev, delM, setM, binL, binI, shI, binS, unL, cst, cst1, cells1, reduceIte, Nat.reduceAdd, Nat.reduceMul, Nat.reduceEqDiff, bound, refsC, AV.cells, AV.ref1, flatC, oneC, elems, okLog, disj, befOf, Int.reduceLT, Int.reduceLE, Int.reduceToNat, Int.reducePow, Nat.reduceLeDiff, IntKind.bits, argT, Int.reduceMul, Int.reduceAdd, Int.reduceNeg, Int.reduceSub, Int.reduceEq, Nat.reduceLT, Row.get1, Row.getN, Row.set1, Row.setN, fillE, fillL, over]
      rfl
  · have e : fm c = ⟨0, 0, false, false⟩ := fm_no h
    rw [e, h]
    simp [isC] at h
    have n1 : ¬ c = 1 := by omega
    have n2 : ¬ c = 2 := by omega
    have n3 : ¬ c = 3 := by omega
    have n4 : ¬ c = 4 := by omega
    have n5 : ¬ c = 5 := by omega
    have n6 : ¬ c = 6 := by omega
    have n7 : ¬ c = 7 := by omega
    have n8 : ¬ c = 8 := by omega
    have n9 : ¬ c = 9 := by omega
    have n10 : ¬ c = 10 := by omega
    have n11 : ¬ c = 11 := by omega
    have n12 : ¬ c = 12 := by omega
    have n13 : ¬ c = 13 := by omega
    have n14 : ¬ c = 14 := by omega
    have n15 : ¬ c = 15 := by omega
    have n16 : ¬ c = 16 := by omega
    have n17 : ¬ c = 17 := by omega
    refine pure_cmd_formOf (Nat.le_of_ble_eq_true (by kernel_rfl)) ?_; unfold lc_cmd_formOf
    simp only [vV, reduceCtorEq, fillL, over, eqCells, vS, opP, Go.Vm.step, Go.Vm.ev, delM, setM, binL, binI, shI, binS, unL, cst, cst1, cells1, reduceIte, Nat.reduceAdd, Nat.reduceMul, Nat.reduceEqDiff, bound, refsC, AV.cells, AV.ref1, flatC, oneC, elems, okLog, disj, befOf, Int.reduceLT, Int.reduceLE, Int.reduceToNat, Int.reducePow, Nat.reduceLeDiff, IntKind.bits, argT, Int.reduceMul, Int.reduceAdd, Int.reduceNeg, Int.reduceSub, Int.reduceEq, Nat.reduceLT, Row.get1, Row.getN, Row.set1, Row.setN, fillE, fillL, over, n1, n2, n3, n4, n5, n6, n7, n8, n9, n10, n11, n12, n13, n14, n15, n16, n17]
    rfl
end
end Go.Proofs.YtopjkgappjgjnaaDoor
