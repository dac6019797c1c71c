/- What both seats share: the small thing that every law does. -/
import Derived.Test.YtflnpnpbcdmphaaDoorUniteD2
namespace Go.Proofs.YtflnpnpbcdmphaaDoor
open Go Go.Vm Go.UniteM
open Go.PermM (nats nats_length nats_get nats_append get_some)
set_option linter.unusedSectionVars false
set_option linter.unusedSimpArgs false
/-! ### plait/plaitlaw07.sure -/
def k_law_sure : Nat → Bool × List Nat := fun | 0 => (false, []) | 1 => (false, [1, 2]) | 2 => (false, [1, 19]) | 3 => (false, [0]) | 4 => (false, [1, 3]) | 5 => (false, [1, 3, 5]) | 6 => (false, [1, 3, 5, 7]) | 7 => (false, [1, 3, 5, 7, 8, 9]) | 8 => (false, [0]) | _ => (false, [])
def lc_law_sure : LCode := (.seq (.rgn false false [] [] [⟨(some 0), (.mov (.const (.bool false))), none⟩]) (.seq (.rgn false false [] [1, 2] [⟨(some 11), (.call 5 [(.const (.int .i64 3))]), none⟩, ⟨(some 10), (.mov (.tmp 11)), none⟩, ⟨(some 12), (.ext (.tmp 10) 0), none⟩, ⟨(some 13), (.ext (.tmp 10) 1), none⟩, ⟨(some 1), (.mov (.tmp 12)), none⟩, ⟨(some 2), (.mov (.tmp 13)), none⟩]) (.seq (.seq (.rgn false false [] [1, 19] [⟨(some 14), (.mov (.tmp 2)), none⟩, ⟨(some 15), (.eqn true false (.tmp 14)), none⟩, ⟨(some 16), (.mov (.tmp 15)), none⟩, ⟨(some 17), (.mov (.tmp 1)), (some (16, false))⟩, ⟨(some 18), (.eqn false true (.tmp 17)), (some (16, false))⟩, ⟨(some 19), (.pick (.tmp 16) (.const (.bool true)) (.tmp 18)), none⟩]) (.cond (.tmp 19) (.seq (.rgn false false [] [0] [⟨(some 0), (.mov (.const (.bool false))), none⟩]) .ret) .skip)) (.seq (.rgn false false [] [1, 3] [⟨(some 21), (.mov (.tmp 1)), none⟩, ⟨(some 22), (.call 9 [(.tmp 21), (.const (.int .i64 0)), (.const (.int .i64 1))]), none⟩, ⟨(some 20), (.mov (.tmp 22)), none⟩, ⟨(some 23), (.ext (.tmp 20) 0), none⟩, ⟨(some 24), (.ext (.tmp 20) 1), none⟩, ⟨(some 3), (.mov (.tmp 23)), none⟩, ⟨(some 4), (.mov (.tmp 24)), none⟩]) (.seq (.rgn false false [] [1, 3, 5] [⟨(some 26), (.mov (.tmp 1)), none⟩, ⟨(some 27), (.call 9 [(.tmp 26), (.const (.int .i64 1)), (.const (.int .i64 2))]), none⟩, ⟨(some 25), (.mov (.tmp 27)), none⟩, ⟨(some 28), (.ext (.tmp 25) 0), none⟩, ⟨(some 29), (.ext (.tmp 25) 1), none⟩, ⟨(some 5), (.mov (.tmp 28)), none⟩, ⟨(some 6), (.mov (.tmp 29)), none⟩]) (.seq (.rgn false false [] [1, 3, 5, 7] [⟨(some 30), (.mov (.tmp 1)), none⟩, ⟨(some 31), (.call 7 [(.tmp 30), (.const (.int .i64 1))]), none⟩, ⟨(some 7), (.mov (.tmp 31)), none⟩]) (.seq (.rgn false false [] [1, 3, 5, 7, 8, 9] [⟨(some 33), (.mov (.tmp 1)), none⟩, ⟨(some 34), (.call 12 [(.tmp 33), (.const (.int .i64 2))]), none⟩, ⟨(some 32), (.mov (.tmp 34)), none⟩, ⟨(some 35), (.ext (.tmp 32) 0), none⟩, ⟨(some 36), (.ext (.tmp 32) 1), none⟩, ⟨(some 8), (.mov (.tmp 35)), none⟩, ⟨(some 9), (.mov (.tmp 36)), none⟩]) (.seq (.rgn false false [] [0] [⟨(some 37), (.mov (.tmp 3)), none⟩, ⟨(some 38), (.mov (.tmp 37)), none⟩, ⟨(some 39), (.mov (.tmp 5)), (some (38, true))⟩, ⟨(some 40), (.pick (.tmp 38) (.tmp 39) (.const (.bool false))), none⟩, ⟨(some 41), (.mov (.tmp 40)), none⟩, ⟨(some 42), (.mov (.tmp 7)), (some (41, true))⟩, ⟨(some 43), (.eqn false false (.tmp 42)), (some (41, true))⟩, ⟨(some 44), (.pick (.tmp 41) (.tmp 43) (.const (.bool false))), none⟩, ⟨(some 45), (.mov (.tmp 44)), none⟩, ⟨(some 46), (.mov (.tmp 9)), (some (45, true))⟩, ⟨(some 47), (.eqn false false (.tmp 46)), (some (45, true))⟩, ⟨(some 48), (.pick (.tmp 45) (.tmp 47) (.const (.bool false))), none⟩, ⟨(some 49), (.mov (.tmp 48)), none⟩, ⟨(some 50), (.mov (.tmp 8)), (some (49, true))⟩, ⟨(some 51), (.bin .eql (.tmp 50) (.const (.int .i64 1))), (some (49, true))⟩, ⟨(some 52), (.pick (.tmp 49) (.tmp 51) (.const (.bool false))), none⟩, ⟨(some 53), (.mov (.tmp 52)), none⟩, ⟨(some 54), (.mov (.tmp 1)), (some (53, true))⟩, ⟨(some 55), (.call 15 [(.tmp 54)]), (some (53, true))⟩, ⟨(some 56), (.bin .eql (.tmp 55) (.const (.int .i64 2))), (some (53, true))⟩, ⟨(some 57), (.pick (.tmp 53) (.tmp 56) (.const (.bool false))), none⟩, ⟨(some 0), (.mov (.tmp 57)), none⟩]) .ret))))))))
theorem comp_law_sure : compC Tryd.prog Tryd.f18.ntmps k_law_sure (Tryd.f18.body.getD .skip) = some lc_law_sure := by kernel_rfl
theorem body_law_sure : Tryd.f18.body = some (Tryd.f18.body.getD .skip) := by kernel_rfl
theorem pure_law_sure {args : List AV} {M : Mem} {slot : Nat} {v : AV} (hl : args.length ≤ Tryd.f18.ntmps) (h : run Tryd.prog Tryd.f18.ntmps 0 lc_law_sure (retP [0] v) (lkT (argT (ren (lkσ [])) 0 args)) (lkM []) 0) : CallOk Tryd.prog 18 args M slot { v } :=
  callOk_pure mix Tryd.func18 body_law_sure (by kernel_rfl) (by kernel_rfl) comp_law_sure hl (run_imp _ (fun _ _ _ _ h => retP_W h) _ _ _ h)
section
variable {M : Mem} {slot : Nat} {G A B C D n : Nat} {u : U} {j : List (Nat × Nat × Nat)}
theorem lay_of {m : List (Nat × Row)} (h1 : lkM m G = some ⟨1, gEl (.own A 0 n 1) (.own B 0 n 1) (.own C 0 n 1) (.own D 0 u.st.length 1)⟩) (h2 : lkM m A = some ⟨1, nE u.ab⟩) (h3 : lkM m B = some ⟨1, nE u.sz⟩) (h4 : lkM m C = some ⟨1, nE u.le⟩) (h5 : lkM m D = some ⟨3, stE (u.st ++ j)⟩) : Lay (lkM m) G A B C D n u j := by
  intro x hx
  simp only [rws, List.mem_cons, List.not_mem_nil, or_false] at hx
  rcases hx with rfl | rfl | rfl | rfl | rfl <;> assumption
theorem lay_n {m : List (Nat × Row)} (h1 : lkM m G = some ⟨1, gEl (.own A 0 n 1) (.own B 0 n 1) (.own C 0 n 1) (.own D 0 u.st.length 1)⟩) (h2 : lkM m A = some ⟨1, nE u.ab⟩) (h3 : lkM m B = some ⟨1, nE u.sz⟩) (h4 : lkM m C = some ⟨1, nE u.le⟩) (h5 : lkM m D = some ⟨3, stE u.st⟩) : Lay (lkM m) G A B C D n u [] :=
  lay_of h1 h2 h3 h4 (by rw [List.append_nil]; exact h5)
set_option maxRecDepth 20000 in
theorem sure_ok : CallOk Tryd.prog 18 [] M slot { v := .b true } := by
  refine pure_law_sure (Nat.le_of_ble_eq_true (by kernel_rfl)) ?_; unfold lc_law_sure
  have o0 := new_ok 3
  have H0 := Hist.new 3
  obtain ⟨r1, d1, o1, _⟩ := jn_ok o0 (a := 0) (b := 1) (by decide) (by decide) (by decide)
  have H1 := H0.jn o0 (a := 0) (b := 1) (by decide) (by decide) (by decide)
  obtain ⟨r2, d2, o2, _⟩ := jn_ok o1 (a := 1) (b := 2) (by decide) (by decide) (by decide)
  have H2 := H1.jn o1 (a := 1) (b := 2) (by decide) (by decide) (by decide)
  have hr1 : r1 1 ≠ r1 2 := fun e => absurd ((o1.same 1 2 (by decide) (by decide)).1 e) (by decide)
  simp only [vS, opP, Go.Vm.step, Go.Vm.ev, delM, setM, binL, binI, shI, binS, unL, cst, cst1, cells1, reduceIte, Nat.reduceAdd, Nat.reduceMul, Nat.reduceEqDiff, bound, refsC, AV.cells, AV.ref1, flatC, oneC, elems, okLog, disj, befOf, Int.reduceLT, Int.reduceLE, Int.reduceToNat, Int.reducePow, Nat.reduceLeDiff, IntKind.bits, argT, Int.reduceMul, Int.reduceAdd, Int.reduceNeg, Int.reduceSub, Int.reduceEq, Nat.reduceLT, Row.get1, Row.getN, Row.set1, Row.setN, fillE]
  refine callP_ok (New_ok (n := 3) (by decide) (by decide)) ?_
  simp only [vS, opP, Go.Vm.step, Go.Vm.ev, delM, setM, binL, binI, shI, binS, unL, cst, cst1, cells1, reduceIte, Nat.reduceAdd, Nat.reduceMul, Nat.reduceEqDiff, bound, refsC, AV.cells, AV.ref1, flatC, oneC, elems, okLog, disj, befOf, Int.reduceLT, Int.reduceLE, Int.reduceToNat, Int.reducePow, Nat.reduceLeDiff, IntKind.bits, argT, Int.reduceMul, Int.reduceAdd, Int.reduceNeg, Int.reduceSub, Int.reduceEq, Nat.reduceLT, Row.get1, Row.getN, Row.set1, Row.setN, fillE, effs, rws, List.map_cons, List.map_nil]
  refine callP_ok (Join_ok o0 (by decide) (by decide) (lay_n rfl rfl rfl rfl rfl) (x := 0) (y := 1) (by decide) (by decide) (by decide)) ?_
  simp only [vS, opP, Go.Vm.step, Go.Vm.ev, delM, setM, binL, binI, shI, binS, unL, cst, cst1, cells1, reduceIte, Nat.reduceAdd, Nat.reduceMul, Nat.reduceEqDiff, bound, refsC, AV.cells, AV.ref1, flatC, oneC, elems, okLog, disj, befOf, Int.reduceLT, Int.reduceLE, Int.reduceToNat, Int.reducePow, Nat.reduceLeDiff, IntKind.bits, argT, Int.reduceMul, Int.reduceAdd, Int.reduceNeg, Int.reduceSub, Int.reduceEq, Nat.reduceLT, Row.get1, Row.getN, Row.set1, Row.setN, fillE, effsJ]
  refine callP_ok (Join_ok o1 (by decide) (by decide) (lay_n rfl rfl rfl rfl rfl) (x := 1) (y := 2) (by decide) (by decide) hr1) ?_
  simp only [vS, opP, Go.Vm.step, Go.Vm.ev, delM, setM, binL, binI, shI, binS, unL, cst, cst1, cells1, reduceIte, Nat.reduceAdd, Nat.reduceMul, Nat.reduceEqDiff, bound, refsC, AV.cells, AV.ref1, flatC, oneC, elems, okLog, disj, befOf, Int.reduceLT, Int.reduceLE, Int.reduceToNat, Int.reducePow, Nat.reduceLeDiff, IntKind.bits, argT, Int.reduceMul, Int.reduceAdd, Int.reduceNeg, Int.reduceSub, Int.reduceEq, Nat.reduceLT, Row.get1, Row.getN, Row.set1, Row.setN, fillE, effsJ]
  have hl1 := jn_len (newU 3) (fun x => x) 0 1
  have hl2 := jn_len (jn (newU 3) (fun x => x) 0 1) r1 1 2
  have hl0 : (newU 3).st.length = 0 := rfl
  have hk : 1 ≤ (jn (jn (newU 3) (fun x => x) 0 1) r1 1 2).st.length := by omega
  have hB := fun (M : Mem) (slot : Nat) (G A B C D : Nat) (nd : [G, A, B, C, D].Nodup) (hM : Lay M G A B C D 3 (jn (jn (newU 3) (fun x => x) 0 1) r1 1 2) []) => Back_ok (slot := slot) H2 (by decide) nd hM hk
  simp only [hl1, hl0, if_neg (show ¬ 1 = 0 + 1 + 1 by decide), if_pos (show 1 = 0 + 1 by decide)] at hB
  generalize hj : ((jn (jn (newU 3) (fun x => x) 0 1) r1 1 2).st ++ []).drop 1 = j at hB
  refine callP_ok (hB _ _ _ _ _ _ _ (by decide) (lay_n rfl rfl rfl rfl rfl)) ?_
  simp only [vS, opP, Go.Vm.step, Go.Vm.ev, delM, setM, binL, binI, shI, binS, unL, cst, cst1, cells1, reduceIte, Nat.reduceAdd, Nat.reduceMul, Nat.reduceEqDiff, bound, refsC, AV.cells, AV.ref1, flatC, oneC, elems, okLog, disj, befOf, Int.reduceLT, Int.reduceLE, Int.reduceToNat, Int.reducePow, Nat.reduceLeDiff, IntKind.bits, argT, Int.reduceMul, Int.reduceAdd, Int.reduceNeg, Int.reduceSub, Int.reduceEq, Nat.reduceLT, Row.get1, Row.getN, Row.set1, Row.setN, fillE, effs, rws, List.map_cons, List.map_nil]
  refine callP_ok (Size_ok o1 (by decide) (by decide) (lay_of rfl rfl rfl rfl rfl) (x := 2) (by decide)) ?_
  have hc : (((joinL (List.range 3) (g (List.range 3) 0) (g (List.range 3) 1)).count (g (joinL (List.range 3) (g (List.range 3) 0) (g (List.range 3) 1)) 2) : Nat) : Int) = 1 := by decide
  have hf : ((fx (joinL (List.range 3) (g (List.range 3) 0) (g (List.range 3) 1)) 3 : Nat) : Int) = 2 := by decide
  simp only [vS, opP, Go.Vm.step, Go.Vm.ev, delM, setM, binL, binI, shI, binS, unL, cst, cst1, cells1, reduceIte, Nat.reduceAdd, Nat.reduceMul, Nat.reduceEqDiff, bound, refsC, AV.cells, AV.ref1, flatC, oneC, elems, okLog, disj, befOf, Int.reduceLT, Int.reduceLE, Int.reduceToNat, Int.reducePow, Nat.reduceLeDiff, IntKind.bits, argT, Int.reduceMul, Int.reduceAdd, Int.reduceNeg, Int.reduceSub, Int.reduceEq, Nat.reduceLT, Row.get1, Row.getN, Row.set1, Row.setN, fillE, hc]
  refine callP_ok (Count_ok o1 (by decide) (by decide) (lay_of rfl rfl rfl rfl rfl)) ?_
  simp only [vS, opP, Go.Vm.step, Go.Vm.ev, delM, setM, binL, binI, shI, binS, unL, cst, cst1, cells1, reduceIte, Nat.reduceAdd, Nat.reduceMul, Nat.reduceEqDiff, bound, refsC, AV.cells, AV.ref1, flatC, oneC, elems, okLog, disj, befOf, Int.reduceLT, Int.reduceLE, Int.reduceToNat, Int.reducePow, Nat.reduceLeDiff, IntKind.bits, argT, Int.reduceMul, Int.reduceAdd, Int.reduceNeg, Int.reduceSub, Int.reduceEq, Nat.reduceLT, Row.get1, Row.getN, Row.set1, Row.setN, fillE, hf]
end
end Go.Proofs.YtflnpnpbcdmphaaDoor
