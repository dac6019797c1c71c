/- The reference's ways with numbers. -/
import Derived.Test.YtopjkgappjgjnaaDoorCmdDM
namespace Go.Proofs.YtopjkgappjgjnaaDoor
open Go Go.Vm
set_option linter.unusedSectionVars false
set_option linter.unusedSimpArgs false
/-! ### plait/plaitref01.Take -/
def k_ref_Take : Nat → Bool × List Nat := fun | 0 => (false, [0, 1]) | 1 => (false, [0, 1, 14]) | 2 => (false, [4, 5, 6]) | 3 => (false, [0, 1, 18]) | 4 => (false, [4, 5, 6]) | 5 => (false, [0, 1, 7]) | 6 => (false, [0, 1, 7, 8]) | 7 => (false, [0, 1, 7, 8, 21]) | 8 => (false, [0, 1, 7, 8]) | 9 => (false, [0, 1, 7, 8]) | 10 => (false, [4, 5, 6]) | _ => (false, [])
def lc_ref_Take : LCode := (.seq (.rgn false false [] [0, 1] [⟨(some 4), (.mov (.const (.int .u64 0))), none⟩, ⟨(some 5), (.mov (.const (.slice none 0 0))), none⟩, ⟨(some 6), (.mov (.const (.int .i64 0))), none⟩]) (.seq (.seq (.rgn false false [] [0, 1, 14] [⟨(some 9), (.mov (.tmp 1)), none⟩, ⟨(some 10), (.bin .lss (.tmp 9) (.const (.int .i64 1))), none⟩, ⟨(some 11), (.mov (.tmp 10)), none⟩, ⟨(some 12), (.mov (.tmp 1)), (some (11, false))⟩, ⟨(some 13), (.bin .gtr (.tmp 12) (.const (.int .i64 8))), (some (11, false))⟩, ⟨(some 14), (.pick (.tmp 11) (.const (.bool true)) (.tmp 13)), none⟩]) (.cond (.tmp 14) (.seq (.rgn false false [] [4, 5, 6] [⟨(some 4), (.mov (.const (.int .u64 0))), none⟩, ⟨(some 5), (.mov (.const (.slice none 0 0))), none⟩, ⟨(some 6), (.mov (.const (.int .i64 1))), none⟩]) .ret) .skip)) (.seq (.seq (.rgn false false [] [0, 1, 18] [⟨(some 15), (.mov (.tmp 0)), none⟩, ⟨(some 16), (.lenL (.tmp 15)), none⟩, ⟨(some 17), (.mov (.tmp 1)), none⟩, ⟨(some 18), (.bin .lss (.tmp 16) (.tmp 17)), none⟩]) (.cond (.tmp 18) (.seq (.rgn false false [] [4, 5, 6] [⟨(some 4), (.mov (.const (.int .u64 0))), none⟩, ⟨(some 5), (.mov (.const (.slice none 0 0))), none⟩, ⟨(some 6), (.mov (.const (.int .i64 4))), none⟩]) .ret) .skip)) (.seq (.rgn false false [] [0, 1, 7] [⟨(some 7), (.mov (.const (.int .u64 0))), none⟩]) (.seq (.seq (.rgn false false [] [0, 1, 7, 8] [⟨(some 8), (.mov (.const (.int .i64 0))), none⟩]) (.block 0 (.loop (.seq (.seq (.rgn false false [] [0, 1, 7, 8, 21] [⟨(some 19), (.mov (.tmp 8)), none⟩, ⟨(some 20), (.mov (.tmp 1)), none⟩, ⟨(some 21), (.bin .lss (.tmp 19) (.tmp 20)), none⟩]) (.cond (.tmp 21) .skip (.exit 0))) (.seq (.block 1 (.rgn false false [] [0, 1, 7, 8] [⟨(some 24), (.mov (.tmp 7)), none⟩, ⟨(some 25), (.bin .mul (.const (.int .u64 256)) (.tmp 24)), none⟩, ⟨(some 26), (.mov (.tmp 0)), none⟩, ⟨(some 27), (.mov (.tmp 8)), none⟩, ⟨(some 28), (.idxA 1 (.tmp 26) (.tmp 27)), none⟩, ⟨(some 29), (.load 1 false (.tmp 28)), none⟩, ⟨(some 30), (.convI .u64 (.tmp 29)), none⟩, ⟨(some 31), (.bin .add (.tmp 25) (.tmp 30)), none⟩, ⟨(some 7), (.mov (.tmp 31)), none⟩])) (.rgn false false [] [0, 1, 7, 8] [⟨(some 22), (.mov (.tmp 8)), none⟩, ⟨(some 23), (.bin .add (.tmp 22) (.const (.int .i64 1))), none⟩, ⟨(some 8), (.mov (.tmp 23)), none⟩])))))) (.seq (.rgn false true [0, 0, 0, 6, 1, 31, 63] [4, 5, 6] [⟨(some 32), (.mov (.tmp 7)), none⟩, ⟨(some 33), (.mov (.tmp 0)), none⟩, ⟨(some 34), (.mov (.tmp 1)), none⟩, ⟨(some 35), (.slc 1 (.tmp 33) (some (.tmp 34)) none), none⟩, ⟨(some 4), (.mov (.tmp 32)), none⟩, ⟨(some 5), (.mov (.tmp 35)), none⟩, ⟨(some 6), (.mov (.const (.int .i64 0))), none⟩]) .ret))))))
theorem comp_ref_Take : compC Tryd.prog Tryd.f38.ntmps k_ref_Take (Tryd.f38.body.getD .skip) = some lc_ref_Take := by kernel_rfl
theorem body_ref_Take : Tryd.f38.body = some (Tryd.f38.body.getD .skip) := by kernel_rfl
theorem pure_ref_Take {args : List AV} {M : Mem} {slot : Nat} {v : AV} (hl : args.length ≤ Tryd.f38.ntmps) (h : run Tryd.prog Tryd.f38.ntmps 0 lc_ref_Take (retP [4, 5, 6] v) (lkT (argT (ren (lkσ [])) 0 args)) (lkM []) 0) : CallOk Tryd.prog 38 args M slot { v } :=
  callOk_pure mix Tryd.func38 body_ref_Take (by kernel_rfl) (by kernel_rfl) comp_ref_Take hl (run_imp _ (fun _ _ _ _ h => retP_W h) _ _ _ h)
/-! ### plait/plaitref01.Put -/
def k_ref_Put : Nat → Bool × List Nat := fun | 0 => (false, [0, 1, 2]) | 1 => (false, [0, 1, 2, 7]) | 2 => (false, [0, 1, 2, 7, 15]) | 3 => (false, [0, 1, 2, 7, 8]) | 4 => (false, [0, 1, 2, 7, 8, 18]) | 5 => (false, [0, 1, 2, 7, 8]) | 6 => (false, [0, 1, 2, 7, 8]) | 7 => (false, [0, 1, 2, 7, 8]) | 8 => (false, [0, 7, 9]) | 9 => (false, [6]) | _ => (false, [])
def lc_ref_Put : LCode := (.seq (.rgn false false [] [0, 1, 2] [⟨(some 6), (.mov (.const (.slice none 0 0))), none⟩]) (.seq (.rgn false false [] [0, 1, 2, 7] [⟨(some 7), (.mov (.const (.slice none 0 0))), none⟩]) (.seq (.seq (.rgn false false [] [0, 1, 2, 7, 15] [⟨(some 10), (.mov (.tmp 2)), none⟩, ⟨(some 11), (.bin .geq (.tmp 10) (.const (.int .i64 1))), none⟩, ⟨(some 12), (.mov (.tmp 11)), none⟩, ⟨(some 13), (.mov (.tmp 2)), (some (12, true))⟩, ⟨(some 14), (.bin .leq (.tmp 13) (.const (.int .i64 8))), (some (12, true))⟩, ⟨(some 15), (.pick (.tmp 12) (.tmp 14) (.const (.bool false))), none⟩]) (.cond (.tmp 15) (.seq (.rgn false false [] [0, 1, 2, 7, 8] [⟨(some 8), (.mov (.const (.int .i64 0))), none⟩]) (.block 0 (.loop (.seq (.seq (.rgn false false [] [0, 1, 2, 7, 8, 18] [⟨(some 16), (.mov (.tmp 8)), none⟩, ⟨(some 17), (.mov (.tmp 2)), none⟩, ⟨(some 18), (.bin .lss (.tmp 16) (.tmp 17)), none⟩]) (.cond (.tmp 18) .skip (.exit 0))) (.seq (.block 1 (.seq (.rgn false false [] [0, 1, 2, 7, 8] [⟨(some 21), (.mov (.tmp 1)), none⟩, ⟨(some 22), (.bin .rem (.tmp 21) (.const (.int .u64 256))), none⟩, ⟨(some 23), (.convI .u8 (.tmp 22)), none⟩, ⟨(some 24), (.slit 1 [(.int .u8 0)] 1 [(0, (.tmp 23))]), none⟩, ⟨(some 25), (.mov (.tmp 7)), none⟩, ⟨(some 26), (.app 1 1 (.tmp 24) (.tmp 25)), none⟩, ⟨(some 7), (.mov (.tmp 26)), none⟩]) (.rgn false false [] [0, 1, 2, 7, 8] [⟨(some 27), (.mov (.tmp 1)), none⟩, ⟨(some 28), (.bin .quo (.tmp 27) (.const (.int .u64 256))), none⟩, ⟨(some 1), (.mov (.tmp 28)), none⟩]))) (.rgn false false [] [0, 1, 2, 7, 8] [⟨(some 19), (.mov (.tmp 8)), none⟩, ⟨(some 20), (.bin .add (.tmp 19) (.const (.int .i64 1))), none⟩, ⟨(some 8), (.mov (.tmp 20)), none⟩])))))) .skip)) (.seq (.rgn false false [] [0, 7, 9] [⟨(some 9), (.mov (.const (.slice none 0 0))), none⟩]) (.seq (.rgn false false [] [6] [⟨(some 29), (.mov (.tmp 9)), none⟩, ⟨(some 30), (.mov (.tmp 0)), none⟩, ⟨(some 31), (.app 1 1 (.tmp 29) (.tmp 30)), none⟩, ⟨(some 32), (.mov (.tmp 7)), none⟩, ⟨(some 33), (.app 1 1 (.tmp 31) (.tmp 32)), none⟩, ⟨(some 6), (.mov (.tmp 33)), none⟩]) .ret)))))
theorem comp_ref_Put : compC Tryd.prog Tryd.f24.ntmps k_ref_Put (Tryd.f24.body.getD .skip) = some lc_ref_Put := by kernel_rfl
theorem body_ref_Put : Tryd.f24.body = some (Tryd.f24.body.getD .skip) := by kernel_rfl
theorem pure_ref_Put {args : List AV} {M : Mem} {slot : Nat} {v : AV} (hl : args.length ≤ Tryd.f24.ntmps) (h : run Tryd.prog Tryd.f24.ntmps 0 lc_ref_Put (retP [6] v) (lkT (argT (ren (lkσ [])) 0 args)) (lkM []) 0) : CallOk Tryd.prog 24 args M slot { v } :=
  callOk_pure mix Tryd.func24 body_ref_Put (by kernel_rfl) (by kernel_rfl) comp_ref_Put hl (run_imp _ (fun _ _ _ _ h => retP_W h) _ _ _ h)
theorem purew_ref_Put {args : List AV} {M : Mem} {slot : Nat} {v : AV} (hl : args.length ≤ Tryd.f24.ntmps) (h : run Tryd.prog Tryd.f24.ntmps 0 lc_ref_Put (retW Tryd.f24.ntmps [6] v) (lkT (argT (ren (lkσ [])) 0 args)) (lkM []) 0) : CallOk Tryd.prog 24 args M slot { v } :=
  callOk_pure mix Tryd.func24 body_ref_Put (by kernel_rfl) (by kernel_rfl) comp_ref_Put hl h
theorem full_ref_Put {args : List AV} {M : Mem} {slot : Nat} {out : Out} {σ : List (Nat × Nat)} {k : Nat} (hl : args.length ≤ Tryd.f24.ntmps) (hσ1 : (σ.map (·.1)).Nodup) (hσ2 : σ.map (·.2) = List.range k) (hrd : ∀ x ∈ σ, x.1 ∈ out.rd) (hM : ∀ x ∈ σ, (M x.1).isSome = true) (h : run Tryd.prog Tryd.f24.ntmps k lc_ref_Put (retC Tryd.f24.ntmps k σ slot [6] out) (lkT (argT (ren (lkσ σ)) 0 args)) (lkM (renM M σ)) k) : CallOk Tryd.prog 24 args M slot out :=
  callOk_of_run mix Tryd.func24 body_ref_Put (by kernel_rfl) (by kernel_rfl) comp_ref_Put hl hσ1 hσ2 hrd hM h
/-! ### plait/plaitref01.Signed -/
def k_ref_Signed : Nat → Bool × List Nat := fun | 0 => (false, [0]) | 1 => (false, [3]) | 2 => (false, [3, 8]) | 3 => (false, [3]) | 4 => (false, [2]) | _ => (false, [])
def lc_ref_Signed : LCode := (.seq (.rgn false false [] [0] [⟨(some 2), (.mov (.const (.int .i32 0))), none⟩]) (.seq (.rgn false false [] [3] [⟨(some 4), (.mov (.tmp 0)), none⟩, ⟨(some 5), (.bin .rem (.tmp 4) (.const (.int .u64 4294967296))), none⟩, ⟨(some 6), (.convI .i64 (.tmp 5)), none⟩, ⟨(some 3), (.mov (.tmp 6)), none⟩]) (.seq (.seq (.rgn false false [] [3, 8] [⟨(some 7), (.mov (.tmp 3)), none⟩, ⟨(some 8), (.bin .geq (.tmp 7) (.const (.int .i64 2147483648))), none⟩]) (.cond (.tmp 8) (.rgn false false [] [3] [⟨(some 9), (.mov (.tmp 3)), none⟩, ⟨(some 10), (.bin .sub (.tmp 9) (.const (.int .i64 4294967296))), none⟩, ⟨(some 3), (.mov (.tmp 10)), none⟩]) .skip)) (.seq (.rgn false false [] [2] [⟨(some 11), (.mov (.tmp 3)), none⟩, ⟨(some 12), (.convI .i32 (.tmp 11)), none⟩, ⟨(some 2), (.mov (.tmp 12)), none⟩]) .ret))))
theorem comp_ref_Signed : compC Tryd.prog Tryd.f30.ntmps k_ref_Signed (Tryd.f30.body.getD .skip) = some lc_ref_Signed := by kernel_rfl
theorem body_ref_Signed : Tryd.f30.body = some (Tryd.f30.body.getD .skip) := by kernel_rfl
theorem pure_ref_Signed {args : List AV} {M : Mem} {slot : Nat} {v : AV} (hl : args.length ≤ Tryd.f30.ntmps) (h : run Tryd.prog Tryd.f30.ntmps 0 lc_ref_Signed (retP [2] v) (lkT (argT (ren (lkσ [])) 0 args)) (lkM []) 0) : CallOk Tryd.prog 30 args M slot { v } :=
  callOk_pure mix Tryd.func30 body_ref_Signed (by kernel_rfl) (by kernel_rfl) comp_ref_Signed hl (run_imp _ (fun _ _ _ _ h => retP_W h) _ _ _ h)
section
variable {M : Mem} {slot : Nat}
theorem str_nil : str [] = [] := rfl
theorem winc {i n : Nat} (hi : i < n) (hn : n ≤ 100000000000) : IntKind.i64.wrap ((i : Int) + 1) = ((i + 1 : Nat) : Int) := by
  rw [IntKind.wrap_i64]
  omega
theorem num_step {l : List Int} {c : Int} (hl : l.length ≤ 7) (hb : Byt l) (h0 : 0 ≤ c) (h1 : c ≤ 255) : IntKind.u64.wrap (IntKind.u64.wrap (numB l * 256) + c) = numB l * 256 + c ∧ IntKind.u64.wrap (IntKind.u64.wrap (256 * numB l) + c) = numB l * 256 + c := by
  have h := numB_bound 7 l hl hb
  have hp : (256 : Int) ^ 7 = 72057594037927936 := rfl
  rw [hp] at h
  constructor
  · simp [IntKind.wrap, IntKind.bits, IntKind.signed]
    omega
  · simp [IntKind.wrap, IntKind.bits, IntKind.signed]
    omega
theorem refTake_arg {nb : List Int} {n : Int} (h : n < 1 ∨ 8 < n) : CallOk Tryd.prog 38 [bI nb, .i .i64 n] M slot { v := .tup [.i .u64 0, .k (.slice none 0 0), .i .i64 1] } := by
  refine pure_ref_Take (Nat.le_of_ble_eq_true (by kernel_rfl)) ?_; unfold lc_ref_Take
  by_cases h1 : n < 1
  · simp only [vS, opP, Go.Vm.step, Go.Vm.ev, delM, setM, binL, binI, shI, binS, unL, cst, cst1, cells1, reduceIte, Nat.reduceAdd, Nat.reduceMul, Nat.reduceEqDiff, bound, refsC, AV.cells, AV.ref1, flatC, oneC, elems, okLog, disj, befOf, Int.reduceLT, Int.reduceLE, Int.reduceToNat, Int.reducePow, Nat.reduceLeDiff, IntKind.bits, argT, Int.reduceMul, Int.reduceAdd, Int.reduceNeg, Int.reduceSub, Int.reduceEq, Nat.reduceLT, Row.get1, Row.getN, Row.set1, Row.setN, fillE, h1]
  · have h2 : 8 < n := by omega
    simp only [vS, opP, Go.Vm.step, Go.Vm.ev, delM, setM, binL, binI, shI, binS, unL, cst, cst1, cells1, reduceIte, Nat.reduceAdd, Nat.reduceMul, Nat.reduceEqDiff, bound, refsC, AV.cells, AV.ref1, flatC, oneC, elems, okLog, disj, befOf, Int.reduceLT, Int.reduceLE, Int.reduceToNat, Int.reducePow, Nat.reduceLeDiff, IntKind.bits, argT, Int.reduceMul, Int.reduceAdd, Int.reduceNeg, Int.reduceSub, Int.reduceEq, Nat.reduceLT, Row.get1, Row.getN, Row.set1, Row.setN, fillE, h1, h2]
theorem refTake_end {nb : List Int} {n : Nat} (h1 : 0 < n) (h8 : n ≤ 8) (h : nb.length < n) : CallOk Tryd.prog 38 [bI nb, .i .i64 n] M slot { v := .tup [.i .u64 0, .k (.slice none 0 0), .i .i64 4] } := by
  refine pure_ref_Take (Nat.le_of_ble_eq_true (by kernel_rfl)) ?_; unfold lc_ref_Take
  have e1 : ¬ (n : Int) < 1 := by omega
  have e2 : ¬ (8 : Int) < n := by omega
  simp only [vS, opP, Go.Vm.step, Go.Vm.ev, delM, setM, binL, binI, shI, binS, unL, cst, cst1, cells1, reduceIte, Nat.reduceAdd, Nat.reduceMul, Nat.reduceEqDiff, bound, refsC, AV.cells, AV.ref1, flatC, oneC, elems, okLog, disj, befOf, Int.reduceLT, Int.reduceLE, Int.reduceToNat, Int.reducePow, Nat.reduceLeDiff, IntKind.bits, argT, Int.reduceMul, Int.reduceAdd, Int.reduceNeg, Int.reduceSub, Int.reduceEq, Nat.reduceLT, Row.get1, Row.getN, Row.set1, Row.setN, fillE, e1, e2, h]
theorem refTake_ok {nb : List Int} {n : Nat} (h1 : 0 < n) (h8 : n ≤ 8) (h : n ≤ nb.length) (hb : Byt nb) : CallOk Tryd.prog 38 [bI nb, .i .i64 n] M slot { v := .tup [.i .u64 (numB (nb.take n)), bI (nb.drop n), .i .i64 0] } := by
  refine pure_ref_Take (Nat.le_of_ble_eq_true (by kernel_rfl)) ?_; unfold lc_ref_Take
  have e1 : ¬ (n : Int) < 1 := by omega
  have e2 : ¬ (8 : Int) < n := by omega
  have e3 : ¬ nb.length < n := by omega
  have e4 : (nb.drop n).take (nb.length - n) = nb.drop n := List.take_of_length_le (by simp)
  simp only [vS, opP, Go.Vm.step, Go.Vm.ev, delM, setM, binL, binI, shI, binS, unL, cst, cst1, cells1, reduceIte, Nat.reduceAdd, Nat.reduceMul, Nat.reduceEqDiff, bound, refsC, AV.cells, AV.ref1, flatC, oneC, elems, okLog, disj, befOf, Int.reduceLT, Int.reduceLE, Int.reduceToNat, Int.reducePow, Nat.reduceLeDiff, IntKind.bits, argT, Int.reduceMul, Int.reduceAdd, Int.reduceNeg, Int.reduceSub, Int.reduceEq, Nat.reduceLT, Row.get1, Row.getN, Row.set1, Row.setN, fillE, e1, e2, e3]
  refine loop_by (fun i => i ≤ n) (fun i => n - i)
    (fun i => [(0, bI nb), (1, .i .i64 n), (7, .i .u64 (numB (nb.take i))), (8, .i .i64 i)]) (fun _ => []) 8 ?_ 0 (Nat.zero_le _) (Wk.norm [] (by decide) ?_ ?_)
  · intro i hi0
    by_cases hi : i < n
    · have hi2 : i < nb.length := by omega
      obtain ⟨c, hc⟩ : ∃ c, nb[i]? = some c := ⟨nb[i], List.getElem?_eq_getElem hi2⟩
      have hcb := hb c (List.mem_of_getElem? hc)
      have e5 : IntKind.u64.wrap c = c := by
        simp [IntKind.wrap, IntKind.bits, IntKind.signed]
        omega
      have e6 : numB (nb.take (i + 1)) = numB (nb.take i) * 256 + c := by rw [List.take_add_one, hc]; exact numB_snoc _ _
      have e7 := (num_step (l := nb.take i) (by simp; omega) (hb.take i) hcb.1 hcb.2).2
      simp only [vS, opP, Go.Vm.step, Go.Vm.ev, delM, setM, binL, binI, shI, binS, unL, cst, cst1, cells1, reduceIte, Nat.reduceAdd, Nat.reduceMul, Nat.reduceEqDiff, bound, refsC, AV.cells, AV.ref1, flatC, oneC, elems, okLog, disj, befOf, Int.reduceLT, Int.reduceLE, Int.reduceToNat, Int.reducePow, Nat.reduceLeDiff, IntKind.bits, argT, Int.reduceMul, Int.reduceAdd, Int.reduceNeg, Int.reduceSub, Int.reduceEq, Nat.reduceLT, Row.get1, Row.getN, Row.set1, Row.setN, fillE, hi, hi2, hc, e5, e7, winc hi (by omega)]
      refine ⟨i + 1, hi, by omega, Wk.norm [] (by decide) ?_ ?_⟩
      · simp only [vS, opP, Go.Vm.step, Go.Vm.ev, delM, setM, binL, binI, shI, binS, unL, cst, cst1, cells1, reduceIte, Nat.reduceAdd, Nat.reduceMul, Nat.reduceEqDiff, bound, refsC, AV.cells, AV.ref1, flatC, oneC, elems, okLog, disj, befOf, Int.reduceLT, Int.reduceLE, Int.reduceToNat, Int.reducePow, Nat.reduceLeDiff, IntKind.bits, argT, Int.reduceMul, Int.reduceAdd, Int.reduceNeg, Int.reduceSub, Int.reduceEq, Nat.reduceLT, Row.get1, Row.getN, Row.set1, Row.setN, fillE, vW, renM, frM, subRow, Nat.reduceBNe, frs, frOk, frOut, e6]
      · simp only [vS, opP, Go.Vm.step, Go.Vm.ev, delM, setM, binL, binI, shI, binS, unL, cst, cst1, cells1, reduceIte, Nat.reduceAdd, Nat.reduceMul, Nat.reduceEqDiff, bound, refsC, AV.cells, AV.ref1, flatC, oneC, elems, okLog, disj, befOf, Int.reduceLT, Int.reduceLE, Int.reduceToNat, Int.reducePow, Nat.reduceLeDiff, IntKind.bits, argT, Int.reduceMul, Int.reduceAdd, Int.reduceNeg, Int.reduceSub, Int.reduceEq, Nat.reduceLT, Row.get1, Row.getN, Row.set1, Row.setN, fillE, vW, renM, frM, subRow, Nat.reduceBNe, frs, frOk, frOut]
    · obtain rfl : i = n := by omega
      simp only [vS, opP, Go.Vm.step, Go.Vm.ev, delM, setM, binL, binI, shI, binS, unL, cst, cst1, cells1, reduceIte, Nat.reduceAdd, Nat.reduceMul, Nat.reduceEqDiff, bound, refsC, AV.cells, AV.ref1, flatC, oneC, elems, okLog, disj, befOf, Int.reduceLT, Int.reduceLE, Int.reduceToNat, Int.reducePow, Nat.reduceLeDiff, IntKind.bits, argT, Int.reduceMul, Int.reduceAdd, Int.reduceNeg, Int.reduceSub, Int.reduceEq, Nat.reduceLT, Row.get1, Row.getN, Row.set1, Row.setN, fillE, hi, h, e4]
  · simp only [vS, opP, Go.Vm.step, Go.Vm.ev, delM, setM, binL, binI, shI, binS, unL, cst, cst1, cells1, reduceIte, Nat.reduceAdd, Nat.reduceMul, Nat.reduceEqDiff, bound, refsC, AV.cells, AV.ref1, flatC, oneC, elems, okLog, disj, befOf, Int.reduceLT, Int.reduceLE, Int.reduceToNat, Int.reducePow, Nat.reduceLeDiff, IntKind.bits, argT, Int.reduceMul, Int.reduceAdd, Int.reduceNeg, Int.reduceSub, Int.reduceEq, Nat.reduceLT, Row.get1, Row.getN, Row.set1, Row.setN, fillE, vW, renM, frM, subRow, Nat.reduceBNe, frs, frOk, frOut]
    rfl
  · simp only [vS, opP, Go.Vm.step, Go.Vm.ev, delM, setM, binL, binI, shI, binS, unL, cst, cst1, cells1, reduceIte, Nat.reduceAdd, Nat.reduceMul, Nat.reduceEqDiff, bound, refsC, AV.cells, AV.ref1, flatC, oneC, elems, okLog, disj, befOf, Int.reduceLT, Int.reduceLE, Int.reduceToNat, Int.reducePow, Nat.reduceLeDiff, IntKind.bits, argT, Int.reduceMul, Int.reduceAdd, Int.reduceNeg, Int.reduceSub, Int.reduceEq, Nat.reduceLT, Row.get1, Row.getN, Row.set1, Row.setN, fillE, vW, renM, frM, subRow, Nat.reduceBNe, frs, frOk, frOut]
theorem putL_front (v : Int) (j : Nat) : putL v (j + 1) (j + 1) = (v / 256 ^ j % 256) :: putL v j j := by
  simp only [putL, List.range_succ_eq_map, List.map_cons, List.map_map]
  congr 1
  refine List.map_congr_left fun t ht => ?_
  simp only [Function.comp]
  congr 3
  omega
theorem castq (V j : Nat) : ((V / 256 ^ j : Nat) : Int) = (V : Int) / 256 ^ j := by
  rw [Int.natCast_ediv, ← pow256]
theorem wq (w : Nat) (h : w < 2 ^ 64) : IntKind.u64.wrap ((w : Int).tdiv 256) = ((w / 256 : Nat) : Int) := by
  rw [Int.tdiv_eq_ediv_of_nonneg (by omega)]
  simp only [IntKind.wrap, IntKind.bits, IntKind.signed]
  simp
  omega
theorem wr (w : Nat) : IntKind.u8.wrap ((w : Int).tmod 256) = (w : Int) % 256 := by
  rw [Int.tmod_eq_emod_of_nonneg (by omega)]
  simp [IntKind.wrap, IntKind.bits, IntKind.signed]
theorem refPut_gen {x : AV} {nb : List Int} (hs : ∀ s, sub s x = x) (hx : x = bI nb ∨ (x = .k (.slice none 0 0) ∧ nb = [])) (hn : nb.length ≤ 10000000000) {V : Nat} (hV : V < 2 ^ 64) {n : Nat} (h1 : 0 < n) (h8 : n ≤ 8) :
    CallOk Tryd.prog 24 [x, .i .u64 V, .i .i64 n] M slot { v := bI (nb ++ putL V n n) } := by
  refine purew_ref_Put (Nat.le_of_ble_eq_true (by kernel_rfl)) ?_; unfold lc_ref_Put
  have e1 : (1 : Int) ≤ n := by omega
  have e2 : (n : Int) ≤ 8 := by omega
  simp only [vS, opP, Go.Vm.step, Go.Vm.ev, delM, setM, binL, binI, shI, binS, unL, cst, cst1, cells1, reduceIte, Nat.reduceAdd, Nat.reduceMul, Nat.reduceEqDiff, bound, refsC, AV.cells, AV.ref1, flatC, oneC, elems, okLog, disj, befOf, Int.reduceLT, Int.reduceLE, Int.reduceToNat, Int.reducePow, Nat.reduceLeDiff, IntKind.bits, argT, Int.reduceMul, Int.reduceAdd, Int.reduceNeg, Int.reduceSub, Int.reduceEq, Nat.reduceLT, Row.get1, Row.getN, Row.set1, Row.setN, fillE, hs, e1, e2]
  refine loop_by (fun j => j ≤ n) (fun j => n - j)
    (fun j => [(0, x), (1, .i .u64 ((V : Int) / 256 ^ j)), (2, .i .i64 n), (7, .own 0 0 j 1), (8, .i .i64 j)]) (fun j => [(0, ⟨1, enc (.i .u8) (putL V j j)⟩)]) 8 ?_ 0 (Nat.zero_le _)
    ((Wk.nil' 7 1000 1 rfl (by decide) (by decide)).trans (Wk.norm [(1000, 0)] (by decide) ?_ ?_))
  · intro j hj0
    by_cases hj : j < n
    · have hq : V / 256 ^ j < 2 ^ 64 := Nat.lt_of_le_of_lt (Nat.div_le_self _ _) hV
      have hp := castq V j
      have e4 : IntKind.u64.wrap (((V / 256 ^ j : Nat) : Int).tdiv 256) = ((V / 256 ^ (j + 1) : Nat) : Int) := by
        rw [Nat.pow_succ, ← Nat.div_div_eq_div_mul]
        exact wq (V / 256 ^ j) hq
      have e3 : IntKind.u8.wrap (((V / 256 ^ j : Nat) : Int).tmod 256) = (V : Int) / 256 ^ j % 256 := by
        rw [← hp]
        exact wr (V / 256 ^ j)
      rw [hp] at e3 e4
      rw [castq V (j + 1)] at e4
      have e5 : (putL V j j).take j = putL V j j := List.take_of_length_le (by rw [putL_length]; exact Nat.le_refl _)
      have e6 : j ≤ (putL V j j).length := by rw [putL_length]; exact Nat.le_refl _
      have e7 : 1 + j ≤ 140737488355328 := by omega
      have e8 : 1 + j ≤ 4611686018427387904 := by omega
      have e9 := putL_length V j j
      simp only [vS, opP, Go.Vm.step, Go.Vm.ev, delM, setM, binL, binI, shI, binS, unL, cst, cst1, cells1, reduceIte, Nat.reduceAdd, Nat.reduceMul, Nat.reduceEqDiff, bound, refsC, AV.cells, AV.ref1, flatC, oneC, elems, okLog, disj, befOf, Int.reduceLT, Int.reduceLE, Int.reduceToNat, Int.reducePow, Nat.reduceLeDiff, IntKind.bits, argT, Int.reduceMul, Int.reduceAdd, Int.reduceNeg, Int.reduceSub, Int.reduceEq, Nat.reduceLT, Row.get1, Row.getN, Row.set1, Row.setN, fillE, hj, e3, e4, e5, e7, e8, e9, hs, List.cons_append, winc hj (by omega)]
      refine ⟨j + 1, hj, by omega, Wk.norm [(72, 0)] (by decide) ?_ ?_⟩
      · simp only [vS, opP, Go.Vm.step, Go.Vm.ev, delM, setM, binL, binI, shI, binS, unL, cst, cst1, cells1, reduceIte, Nat.reduceAdd, Nat.reduceMul, Nat.reduceEqDiff, bound, refsC, AV.cells, AV.ref1, flatC, oneC, elems, okLog, disj, befOf, Int.reduceLT, Int.reduceLE, Int.reduceToNat, Int.reducePow, Nat.reduceLeDiff, IntKind.bits, argT, Int.reduceMul, Int.reduceAdd, Int.reduceNeg, Int.reduceSub, Int.reduceEq, Nat.reduceLT, Row.get1, Row.getN, Row.set1, Row.setN, fillE, vW, renM, frM, subRow, Nat.reduceBNe, frs, frOk, frOut, hs, Nat.add_comm 1 j]
      · simp only [vS, opP, Go.Vm.step, Go.Vm.ev, delM, setM, binL, binI, shI, binS, unL, cst, cst1, cells1, reduceIte, Nat.reduceAdd, Nat.reduceMul, Nat.reduceEqDiff, bound, refsC, AV.cells, AV.ref1, flatC, oneC, elems, okLog, disj, befOf, Int.reduceLT, Int.reduceLE, Int.reduceToNat, Int.reducePow, Nat.reduceLeDiff, IntKind.bits, argT, Int.reduceMul, Int.reduceAdd, Int.reduceNeg, Int.reduceSub, Int.reduceEq, Nat.reduceLT, Row.get1, Row.getN, Row.set1, Row.setN, fillE, vW, renM, frM, subRow, Nat.reduceBNe, frs, frOk, frOut, putL_front]
    · obtain rfl : j = n := by omega
      have e5 : (putL V j j).take j = putL V j j := List.take_of_length_le (by rw [putL_length]; exact Nat.le_refl _)
      have e9 := putL_length V j j
      have e10 : nb.length ≤ 140737488355328 := by omega
      have e11 : nb.length ≤ 4611686018427387904 := by omega
      have e12 : nb.length + j ≤ 140737488355328 := by omega
      have e13 : nb.length + j ≤ 4611686018427387904 := by omega
      have e14 : nb.take nb.length = nb := List.take_length
      have e15 : (nb ++ putL V j j).take (nb.length + j) = nb ++ putL V j j := List.take_of_length_le (by simp [e9])
      have e16 : (nb ++ putL V j j).length = nb.length + j := by simp [e9]
      rcases hx with rfl | ⟨rfl, rfl⟩
      · simp only [vS, opP, Go.Vm.step, Go.Vm.ev, delM, setM, binL, binI, shI, binS, unL, cst, cst1, cells1, reduceIte, Nat.reduceAdd, Nat.reduceMul, Nat.reduceEqDiff, bound, refsC, AV.cells, AV.ref1, flatC, oneC, elems, okLog, disj, befOf, Int.reduceLT, Int.reduceLE, Int.reduceToNat, Int.reducePow, Nat.reduceLeDiff, IntKind.bits, argT, Int.reduceMul, Int.reduceAdd, Int.reduceNeg, Int.reduceSub, Int.reduceEq, Nat.reduceLT, Row.get1, Row.getN, Row.set1, Row.setN, fillE, hj, e5, e9, e10, e11, e12, e13, e14]
        refine retW_i (Wk.fr 72 (l2 := [(6, bI (nb ++ putL V j j))]) (m2 := [(0, ⟨1, enc (.i .u8) (putL V j j)⟩)]) (nb2 := 0) rfl ?_ ?_) ?_
        · simp only [vS, opP, Go.Vm.step, Go.Vm.ev, delM, setM, binL, binI, shI, binS, unL, cst, cst1, cells1, reduceIte, Nat.reduceAdd, Nat.reduceMul, Nat.reduceEqDiff, bound, refsC, AV.cells, AV.ref1, flatC, oneC, elems, okLog, disj, befOf, Int.reduceLT, Int.reduceLE, Int.reduceToNat, Int.reducePow, Nat.reduceLeDiff, IntKind.bits, argT, Int.reduceMul, Int.reduceAdd, Int.reduceNeg, Int.reduceSub, Int.reduceEq, Nat.reduceLT, Row.get1, Row.getN, Row.set1, Row.setN, fillE, vW, renM, frM, subRow, Nat.reduceBNe, frs, frOk, frOut, e15, e16]
        · simp only [vS, opP, Go.Vm.step, Go.Vm.ev, delM, setM, binL, binI, shI, binS, unL, cst, cst1, cells1, reduceIte, Nat.reduceAdd, Nat.reduceMul, Nat.reduceEqDiff, bound, refsC, AV.cells, AV.ref1, flatC, oneC, elems, okLog, disj, befOf, Int.reduceLT, Int.reduceLE, Int.reduceToNat, Int.reducePow, Nat.reduceLeDiff, IntKind.bits, argT, Int.reduceMul, Int.reduceAdd, Int.reduceNeg, Int.reduceSub, Int.reduceEq, Nat.reduceLT, Row.get1, Row.getN, Row.set1, Row.setN, fillE, vW, renM, frM, subRow, Nat.reduceBNe, frs, frOk, frOut]
        · simp only [vS, opP, Go.Vm.step, Go.Vm.ev, delM, setM, binL, binI, shI, binS, unL, cst, cst1, cells1, reduceIte, Nat.reduceAdd, Nat.reduceMul, Nat.reduceEqDiff, bound, refsC, AV.cells, AV.ref1, flatC, oneC, elems, okLog, disj, befOf, Int.reduceLT, Int.reduceLE, Int.reduceToNat, Int.reducePow, Nat.reduceLeDiff, IntKind.bits, argT, Int.reduceMul, Int.reduceAdd, Int.reduceNeg, Int.reduceSub, Int.reduceEq, Nat.reduceLT, Row.get1, Row.getN, Row.set1, Row.setN, fillE]
      · have e17 : j ≤ 140737488355328 := by omega
        have e18 : j ≤ 4611686018427387904 := by omega
        simp only [vS, opP, Go.Vm.step, Go.Vm.ev, delM, setM, binL, binI, shI, binS, unL, cst, cst1, cells1, reduceIte, Nat.reduceAdd, Nat.reduceMul, Nat.reduceEqDiff, bound, refsC, AV.cells, AV.ref1, flatC, oneC, elems, okLog, disj, befOf, Int.reduceLT, Int.reduceLE, Int.reduceToNat, Int.reducePow, Nat.reduceLeDiff, IntKind.bits, argT, Int.reduceMul, Int.reduceAdd, Int.reduceNeg, Int.reduceSub, Int.reduceEq, Nat.reduceLT, Row.get1, Row.getN, Row.set1, Row.setN, fillE, hj, e5, e9, e12, e13, e17, e18]
        refine retW_i (Wk.fr 72 (l2 := [(6, bI (putL V j j))]) (m2 := [(0, ⟨1, enc (.i .u8) (putL V j j)⟩)]) (nb2 := 0) rfl ?_ ?_) ?_
        · simp only [vS, opP, Go.Vm.step, Go.Vm.ev, delM, setM, binL, binI, shI, binS, unL, cst, cst1, cells1, reduceIte, Nat.reduceAdd, Nat.reduceMul, Nat.reduceEqDiff, bound, refsC, AV.cells, AV.ref1, flatC, oneC, elems, okLog, disj, befOf, Int.reduceLT, Int.reduceLE, Int.reduceToNat, Int.reducePow, Nat.reduceLeDiff, IntKind.bits, argT, Int.reduceMul, Int.reduceAdd, Int.reduceNeg, Int.reduceSub, Int.reduceEq, Nat.reduceLT, Row.get1, Row.getN, Row.set1, Row.setN, fillE, vW, renM, frM, subRow, Nat.reduceBNe, frs, frOk, frOut, e5, e9]
        · simp only [vS, opP, Go.Vm.step, Go.Vm.ev, delM, setM, binL, binI, shI, binS, unL, cst, cst1, cells1, reduceIte, Nat.reduceAdd, Nat.reduceMul, Nat.reduceEqDiff, bound, refsC, AV.cells, AV.ref1, flatC, oneC, elems, okLog, disj, befOf, Int.reduceLT, Int.reduceLE, Int.reduceToNat, Int.reducePow, Nat.reduceLeDiff, IntKind.bits, argT, Int.reduceMul, Int.reduceAdd, Int.reduceNeg, Int.reduceSub, Int.reduceEq, Nat.reduceLT, Row.get1, Row.getN, Row.set1, Row.setN, fillE, vW, renM, frM, subRow, Nat.reduceBNe, frs, frOk, frOut]
        · simp only [vS, opP, Go.Vm.step, Go.Vm.ev, delM, setM, binL, binI, shI, binS, unL, cst, cst1, cells1, reduceIte, Nat.reduceAdd, Nat.reduceMul, Nat.reduceEqDiff, bound, refsC, AV.cells, AV.ref1, flatC, oneC, elems, okLog, disj, befOf, Int.reduceLT, Int.reduceLE, Int.reduceToNat, Int.reducePow, Nat.reduceLeDiff, IntKind.bits, argT, Int.reduceMul, Int.reduceAdd, Int.reduceNeg, Int.reduceSub, Int.reduceEq, Nat.reduceLT, Row.get1, Row.getN, Row.set1, Row.setN, fillE]
  · simp only [vS, opP, Go.Vm.step, Go.Vm.ev, delM, setM, binL, binI, shI, binS, unL, cst, cst1, cells1, reduceIte, Nat.reduceAdd, Nat.reduceMul, Nat.reduceEqDiff, bound, refsC, AV.cells, AV.ref1, flatC, oneC, elems, okLog, disj, befOf, Int.reduceLT, Int.reduceLE, Int.reduceToNat, Int.reducePow, Nat.reduceLeDiff, IntKind.bits, argT, Int.reduceMul, Int.reduceAdd, Int.reduceNeg, Int.reduceSub, Int.reduceEq, Nat.reduceLT, Row.get1, Row.getN, Row.set1, Row.setN, fillE, vW, renM, frM, subRow, Nat.reduceBNe, frs, frOk, frOut, hs, Int.pow_zero, Int.ediv_one]
  · simp only [vS, opP, Go.Vm.step, Go.Vm.ev, delM, setM, binL, binI, shI, binS, unL, cst, cst1, cells1, reduceIte, Nat.reduceAdd, Nat.reduceMul, Nat.reduceEqDiff, bound, refsC, AV.cells, AV.ref1, flatC, oneC, elems, okLog, disj, befOf, Int.reduceLT, Int.reduceLE, Int.reduceToNat, Int.reducePow, Nat.reduceLeDiff, IntKind.bits, argT, Int.reduceMul, Int.reduceAdd, Int.reduceNeg, Int.reduceSub, Int.reduceEq, Nat.reduceLT, Row.get1, Row.getN, Row.set1, Row.setN, fillE, vW, renM, frM, subRow, Nat.reduceBNe, frs, frOk, frOut]
    rfl
theorem refPut_own {V : Nat} (hV : V < 2 ^ 64) {n : Nat} (h1 : 0 < n) (h8 : n ≤ 8) :
    CallOk Tryd.prog 24 [.k (.slice none 0 0), .i .u64 V, .i .i64 n] M slot { v := .own slot 0 n 1, eff := [(slot, some ⟨1, enc (.i .u8) (putL V n n)⟩)] } := by
  refine full_ref_Put (σ := []) (k := 0) (Nat.le_of_ble_eq_true (by kernel_rfl)) (by simp) (by simp) (by simp) (by simp) ?_
  unfold lc_ref_Put
  have e1 : (1 : Int) ≤ n := by omega
  have e2 : (n : Int) ≤ 8 := by omega
  have hs : ∀ s, sub s (AV.k (.slice none 0 0)) = .k (.slice none 0 0) := fun _ => rfl
  simp only [vS, opP, Go.Vm.step, Go.Vm.ev, delM, setM, binL, binI, shI, binS, unL, cst, cst1, cells1, reduceIte, Nat.reduceAdd, Nat.reduceMul, Nat.reduceEqDiff, bound, refsC, AV.cells, AV.ref1, flatC, oneC, elems, okLog, disj, befOf, Int.reduceLT, Int.reduceLE, Int.reduceToNat, Int.reducePow, Nat.reduceLeDiff, IntKind.bits, argT, Int.reduceMul, Int.reduceAdd, Int.reduceNeg, Int.reduceSub, Int.reduceEq, Nat.reduceLT, Row.get1, Row.getN, Row.set1, Row.setN, fillE, e1, e2, renM, List.filterMap_nil]
  refine loop_by (fun j => j ≤ n) (fun j => n - j)
    (fun j => [(0, .k (.slice none 0 0)), (1, .i .u64 ((V : Int) / 256 ^ j)), (2, .i .i64 n), (7, .own 0 0 j 1), (8, .i .i64 j)]) (fun j => [(0, ⟨1, enc (.i .u8) (putL V j j)⟩)]) 8 ?_ 0 (Nat.zero_le _)
    ((Wk.nil' 7 1000 1 rfl (by decide) (by decide)).trans (Wk.norm [(1000, 0)] (by decide) ?_ ?_))
  · intro j hj0
    by_cases hj : j < n
    · have hq : V / 256 ^ j < 2 ^ 64 := Nat.lt_of_le_of_lt (Nat.div_le_self _ _) hV
      have hp := castq V j
      have e4 : IntKind.u64.wrap (((V / 256 ^ j : Nat) : Int).tdiv 256) = ((V / 256 ^ (j + 1) : Nat) : Int) := by
        rw [Nat.pow_succ, ← Nat.div_div_eq_div_mul]
        exact wq (V / 256 ^ j) hq
      have e3 : IntKind.u8.wrap (((V / 256 ^ j : Nat) : Int).tmod 256) = (V : Int) / 256 ^ j % 256 := by
        rw [← hp]
        exact wr (V / 256 ^ j)
      rw [hp] at e3 e4
      rw [castq V (j + 1)] at e4
      have e5 : (putL V j j).take j = putL V j j := List.take_of_length_le (by rw [putL_length]; exact Nat.le_refl _)
      have e6 : j ≤ (putL V j j).length := by rw [putL_length]; exact Nat.le_refl _
      have e7 : 1 + j ≤ 140737488355328 := by omega
      have e8 : 1 + j ≤ 4611686018427387904 := by omega
      have e9 := putL_length V j j
      simp only [vS, opP, Go.Vm.step, Go.Vm.ev, delM, setM, binL, binI, shI, binS, unL, cst, cst1, cells1, reduceIte, Nat.reduceAdd, Nat.reduceMul, Nat.reduceEqDiff, bound, refsC, AV.cells, AV.ref1, flatC, oneC, elems, okLog, disj, befOf, Int.reduceLT, Int.reduceLE, Int.reduceToNat, Int.reducePow, Nat.reduceLeDiff, IntKind.bits, argT, Int.reduceMul, Int.reduceAdd, Int.reduceNeg, Int.reduceSub, Int.reduceEq, Nat.reduceLT, Row.get1, Row.getN, Row.set1, Row.setN, fillE, hj, e3, e4, e5, e7, e8, e9, hs, List.cons_append, winc hj (by omega)]
      refine ⟨j + 1, hj, by omega, Wk.norm [(72, 0)] (by decide) ?_ ?_⟩
      · simp only [vS, opP, Go.Vm.step, Go.Vm.ev, delM, setM, binL, binI, shI, binS, unL, cst, cst1, cells1, reduceIte, Nat.reduceAdd, Nat.reduceMul, Nat.reduceEqDiff, bound, refsC, AV.cells, AV.ref1, flatC, oneC, elems, okLog, disj, befOf, Int.reduceLT, Int.reduceLE, Int.reduceToNat, Int.reducePow, Nat.reduceLeDiff, IntKind.bits, argT, Int.reduceMul, Int.reduceAdd, Int.reduceNeg, Int.reduceSub, Int.reduceEq, Nat.reduceLT, Row.get1, Row.getN, Row.set1, Row.setN, fillE, vW, renM, frM, subRow, Nat.reduceBNe, frs, frOk, frOut, hs, Nat.add_comm 1 j]
      · simp only [vS, opP, Go.Vm.step, Go.Vm.ev, delM, setM, binL, binI, shI, binS, unL, cst, cst1, cells1, reduceIte, Nat.reduceAdd, Nat.reduceMul, Nat.reduceEqDiff, bound, refsC, AV.cells, AV.ref1, flatC, oneC, elems, okLog, disj, befOf, Int.reduceLT, Int.reduceLE, Int.reduceToNat, Int.reducePow, Nat.reduceLeDiff, IntKind.bits, argT, Int.reduceMul, Int.reduceAdd, Int.reduceNeg, Int.reduceSub, Int.reduceEq, Nat.reduceLT, Row.get1, Row.getN, Row.set1, Row.setN, fillE, vW, renM, frM, subRow, Nat.reduceBNe, frs, frOk, frOut, putL_front]
    · obtain rfl : j = n := by omega
      have e5 : (putL V j j).take j = putL V j j := List.take_of_length_le (by rw [putL_length]; exact Nat.le_refl _)
      have e9 := putL_length V j j
      have e12 : j ≤ 140737488355328 := by omega
      have e13 : j ≤ 4611686018427387904 := by omega
      simp only [vS, opP, Go.Vm.step, Go.Vm.ev, delM, setM, binL, binI, shI, binS, unL, cst, cst1, cells1, reduceIte, Nat.reduceAdd, Nat.reduceMul, Nat.reduceEqDiff, bound, refsC, AV.cells, AV.ref1, flatC, oneC, elems, okLog, disj, befOf, Int.reduceLT, Int.reduceLE, Int.reduceToNat, Int.reducePow, Nat.reduceLeDiff, IntKind.bits, argT, Int.reduceMul, Int.reduceAdd, Int.reduceNeg, Int.reduceSub, Int.reduceEq, Nat.reduceLT, Row.get1, Row.getN, Row.set1, Row.setN, fillE, hj, e5, e9, e12, e13]
      refine retC_i (Wk.norm [(72, 0)] (by decide) (l2 := [(6, .own 0 0 j 1)]) (m2 := [(0, ⟨1, enc (.i .u8) (putL V j j)⟩)]) (nb2 := 8) ?_ ?_) [(0, 0)] rfl ?_ ?_
      · simp only [vS, opP, Go.Vm.step, Go.Vm.ev, delM, setM, binL, binI, shI, binS, unL, cst, cst1, cells1, reduceIte, Nat.reduceAdd, Nat.reduceMul, Nat.reduceEqDiff, bound, refsC, AV.cells, AV.ref1, flatC, oneC, elems, okLog, disj, befOf, Int.reduceLT, Int.reduceLE, Int.reduceToNat, Int.reducePow, Nat.reduceLeDiff, IntKind.bits, argT, Int.reduceMul, Int.reduceAdd, Int.reduceNeg, Int.reduceSub, Int.reduceEq, Nat.reduceLT, Row.get1, Row.getN, Row.set1, Row.setN, fillE, vW, renM, frM, subRow, Nat.reduceBNe, frs, frOk, frOut]
      · simp only [vS, opP, Go.Vm.step, Go.Vm.ev, delM, setM, binL, binI, shI, binS, unL, cst, cst1, cells1, reduceIte, Nat.reduceAdd, Nat.reduceMul, Nat.reduceEqDiff, bound, refsC, AV.cells, AV.ref1, flatC, oneC, elems, okLog, disj, befOf, Int.reduceLT, Int.reduceLE, Int.reduceToNat, Int.reducePow, Nat.reduceLeDiff, IntKind.bits, argT, Int.reduceMul, Int.reduceAdd, Int.reduceNeg, Int.reduceSub, Int.reduceEq, Nat.reduceLT, Row.get1, Row.getN, Row.set1, Row.setN, fillE, vW, renM, frM, subRow, Nat.reduceBNe, frs, frOk, frOut]
      · simp only [vS, opP, Go.Vm.step, Go.Vm.ev, delM, setM, binL, binI, shI, binS, unL, cst, cst1, cells1, reduceIte, Nat.reduceAdd, Nat.reduceMul, Nat.reduceEqDiff, bound, refsC, AV.cells, AV.ref1, flatC, oneC, elems, okLog, disj, befOf, Int.reduceLT, Int.reduceLE, Int.reduceToNat, Int.reducePow, Nat.reduceLeDiff, IntKind.bits, argT, Int.reduceMul, Int.reduceAdd, Int.reduceNeg, Int.reduceSub, Int.reduceEq, Nat.reduceLT, Row.get1, Row.getN, Row.set1, Row.setN, fillE, vW, renM, frM, subRow, Nat.reduceBNe, frs, frOk, frOut, back, List.nil_append]
      · simp only [vS, opP, Go.Vm.step, Go.Vm.ev, delM, setM, binL, binI, shI, binS, unL, cst, cst1, cells1, reduceIte, Nat.reduceAdd, Nat.reduceMul, Nat.reduceEqDiff, bound, refsC, AV.cells, AV.ref1, flatC, oneC, elems, okLog, disj, befOf, Int.reduceLT, Int.reduceLE, Int.reduceToNat, Int.reducePow, Nat.reduceLeDiff, IntKind.bits, argT, Int.reduceMul, Int.reduceAdd, Int.reduceNeg, Int.reduceSub, Int.reduceEq, Nat.reduceLT, Row.get1, Row.getN, Row.set1, Row.setN, fillE, vW, renM, frM, subRow, Nat.reduceBNe, frs, frOk, frOut, back, effOf, List.nil_append]
  · simp only [vS, opP, Go.Vm.step, Go.Vm.ev, delM, setM, binL, binI, shI, binS, unL, cst, cst1, cells1, reduceIte, Nat.reduceAdd, Nat.reduceMul, Nat.reduceEqDiff, bound, refsC, AV.cells, AV.ref1, flatC, oneC, elems, okLog, disj, befOf, Int.reduceLT, Int.reduceLE, Int.reduceToNat, Int.reducePow, Nat.reduceLeDiff, IntKind.bits, argT, Int.reduceMul, Int.reduceAdd, Int.reduceNeg, Int.reduceSub, Int.reduceEq, Nat.reduceLT, Row.get1, Row.getN, Row.set1, Row.setN, fillE, vW, renM, frM, subRow, Nat.reduceBNe, frs, frOk, frOut, hs, Int.pow_zero, Int.ediv_one]
  · simp only [vS, opP, Go.Vm.step, Go.Vm.ev, delM, setM, binL, binI, shI, binS, unL, cst, cst1, cells1, reduceIte, Nat.reduceAdd, Nat.reduceMul, Nat.reduceEqDiff, bound, refsC, AV.cells, AV.ref1, flatC, oneC, elems, okLog, disj, befOf, Int.reduceLT, Int.reduceLE, Int.reduceToNat, Int.reducePow, Nat.reduceLeDiff, IntKind.bits, argT, Int.reduceMul, Int.reduceAdd, Int.reduceNeg, Int.reduceSub, Int.reduceEq, Nat.reduceLT, Row.get1, Row.getN, Row.set1, Row.setN, fillE, vW, renM, frM, subRow, Nat.reduceBNe, frs, frOk, frOut]
    rfl
theorem refPut_bad {nb : List Int} (hn : nb.length ≤ 10000000000) {v n : Int} (h : n < 1 ∨ 8 < n) : CallOk Tryd.prog 24 [bI nb, .i .u64 v, .i .i64 n] M slot { v := bI nb } := by
  refine purew_ref_Put (Nat.le_of_ble_eq_true (by kernel_rfl)) ?_; unfold lc_ref_Put
  have e10 : nb.length ≤ 140737488355328 := by omega
  have e11 : nb.length ≤ 4611686018427387904 := by omega
  have e14 : nb.take nb.length = nb := List.take_length
  have hc : ¬ 1 ≤ n ∨ (1 ≤ n ∧ ¬ n ≤ 8) := by omega
  rcases hc with h1 | ⟨h1, h2⟩
  · simp only [vS, opP, Go.Vm.step, Go.Vm.ev, delM, setM, binL, binI, shI, binS, unL, cst, cst1, cells1, reduceIte, Nat.reduceAdd, Nat.reduceMul, Nat.reduceEqDiff, bound, refsC, AV.cells, AV.ref1, flatC, oneC, elems, okLog, disj, befOf, Int.reduceLT, Int.reduceLE, Int.reduceToNat, Int.reducePow, Nat.reduceLeDiff, IntKind.bits, argT, Int.reduceMul, Int.reduceAdd, Int.reduceNeg, Int.reduceSub, Int.reduceEq, Nat.reduceLT, Row.get1, Row.getN, Row.set1, Row.setN, fillE, h1, e10, e11, e14]
    refine retW_i (Wk.fr 104 (l2 := [(6, bI nb)]) (m2 := []) (nb2 := 0) rfl ?_ ?_) ?_
    · simp only [vS, opP, Go.Vm.step, Go.Vm.ev, delM, setM, binL, binI, shI, binS, unL, cst, cst1, cells1, reduceIte, Nat.reduceAdd, Nat.reduceMul, Nat.reduceEqDiff, bound, refsC, AV.cells, AV.ref1, flatC, oneC, elems, okLog, disj, befOf, Int.reduceLT, Int.reduceLE, Int.reduceToNat, Int.reducePow, Nat.reduceLeDiff, IntKind.bits, argT, Int.reduceMul, Int.reduceAdd, Int.reduceNeg, Int.reduceSub, Int.reduceEq, Nat.reduceLT, Row.get1, Row.getN, Row.set1, Row.setN, fillE, vW, renM, frM, subRow, Nat.reduceBNe, frs, frOk, frOut, e14]
    · simp only [vS, opP, Go.Vm.step, Go.Vm.ev, delM, setM, binL, binI, shI, binS, unL, cst, cst1, cells1, reduceIte, Nat.reduceAdd, Nat.reduceMul, Nat.reduceEqDiff, bound, refsC, AV.cells, AV.ref1, flatC, oneC, elems, okLog, disj, befOf, Int.reduceLT, Int.reduceLE, Int.reduceToNat, Int.reducePow, Nat.reduceLeDiff, IntKind.bits, argT, Int.reduceMul, Int.reduceAdd, Int.reduceNeg, Int.reduceSub, Int.reduceEq, Nat.reduceLT, Row.get1, Row.getN, Row.set1, Row.setN, fillE, vW, renM, frM, subRow, Nat.reduceBNe, frs, frOk, frOut]
    · simp only [vS, opP, Go.Vm.step, Go.Vm.ev, delM, setM, binL, binI, shI, binS, unL, cst, cst1, cells1, reduceIte, Nat.reduceAdd, Nat.reduceMul, Nat.reduceEqDiff, bound, refsC, AV.cells, AV.ref1, flatC, oneC, elems, okLog, disj, befOf, Int.reduceLT, Int.reduceLE, Int.reduceToNat, Int.reducePow, Nat.reduceLeDiff, IntKind.bits, argT, Int.reduceMul, Int.reduceAdd, Int.reduceNeg, Int.reduceSub, Int.reduceEq, Nat.reduceLT, Row.get1, Row.getN, Row.set1, Row.setN, fillE]
  · simp only [vS, opP, Go.Vm.step, Go.Vm.ev, delM, setM, binL, binI, shI, binS, unL, cst, cst1, cells1, reduceIte, Nat.reduceAdd, Nat.reduceMul, Nat.reduceEqDiff, bound, refsC, AV.cells, AV.ref1, flatC, oneC, elems, okLog, disj, befOf, Int.reduceLT, Int.reduceLE, Int.reduceToNat, Int.reducePow, Nat.reduceLeDiff, IntKind.bits, argT, Int.reduceMul, Int.reduceAdd, Int.reduceNeg, Int.reduceSub, Int.reduceEq, Nat.reduceLT, Row.get1, Row.getN, Row.set1, Row.setN, fillE, h1, h2, e10, e11, e14]
    refine retW_i (Wk.fr 104 (l2 := [(6, bI nb)]) (m2 := []) (nb2 := 0) rfl ?_ ?_) ?_
    · simp only [vS, opP, Go.Vm.step, Go.Vm.ev, delM, setM, binL, binI, shI, binS, unL, cst, cst1, cells1, reduceIte, Nat.reduceAdd, Nat.reduceMul, Nat.reduceEqDiff, bound, refsC, AV.cells, AV.ref1, flatC, oneC, elems, okLog, disj, befOf, Int.reduceLT, Int.reduceLE, Int.reduceToNat, Int.reducePow, Nat.reduceLeDiff, IntKind.bits, argT, Int.reduceMul, Int.reduceAdd, Int.reduceNeg, Int.reduceSub, Int.reduceEq, Nat.reduceLT, Row.get1, Row.getN, Row.set1, Row.setN, fillE, vW, renM, frM, subRow, Nat.reduceBNe, frs, frOk, frOut, e14]
    · simp only [vS, opP, Go.Vm.step, Go.Vm.ev, delM, setM, binL, binI, shI, binS, unL, cst, cst1, cells1, reduceIte, Nat.reduceAdd, Nat.reduceMul, Nat.reduceEqDiff, bound, refsC, AV.cells, AV.ref1, flatC, oneC, elems, okLog, disj, befOf, Int.reduceLT, Int.reduceLE, Int.reduceToNat, Int.reducePow, Nat.reduceLeDiff, IntKind.bits, argT, Int.reduceMul, Int.reduceAdd, Int.reduceNeg, Int.reduceSub, Int.reduceEq, Nat.reduceLT, Row.get1, Row.getN, Row.set1, Row.setN, fillE, vW, renM, frM, subRow, Nat.reduceBNe, frs, frOk, frOut]
    · simp only [vS, opP, Go.Vm.step, Go.Vm.ev, delM, setM, binL, binI, shI, binS, unL, cst, cst1, cells1, reduceIte, Nat.reduceAdd, Nat.reduceMul, Nat.reduceEqDiff, bound, refsC, AV.cells, AV.ref1, flatC, oneC, elems, okLog, disj, befOf, Int.reduceLT, Int.reduceLE, Int.reduceToNat, Int.reducePow, Nat.reduceLeDiff, IntKind.bits, argT, Int.reduceMul, Int.reduceAdd, Int.reduceNeg, Int.reduceSub, Int.reduceEq, Nat.reduceLT, Row.get1, Row.getN, Row.set1, Row.setN, fillE]
theorem refSigned_ok {v : Int} (h0 : 0 ≤ v) : CallOk Tryd.prog 30 [.i .u64 v] M slot { v := .i .i32 (IntKind.i32.wrap (IntKind.u32.wrap v)) } := by
  refine pure_ref_Signed (Nat.le_of_ble_eq_true (by kernel_rfl)) ?_; unfold lc_ref_Signed
  have e0 : IntKind.i64.wrap (v.tmod 4294967296) = v % 4294967296 := by
    rw [Int.tmod_eq_emod_of_nonneg h0, IntKind.wrap_i64]
    omega
  by_cases h : 2147483648 ≤ v % 4294967296
  · have e1 : IntKind.i32.wrap (IntKind.i64.wrap (v % 4294967296 - 4294967296)) = IntKind.i32.wrap (IntKind.u32.wrap v) := by
      rw [IntKind.wrap_i64, IntKind.wrap_i32, IntKind.wrap_i32]
      simp [IntKind.wrap, IntKind.bits, IntKind.signed]
      omega
    simp only [vS, opP, Go.Vm.step, Go.Vm.ev, delM, setM, binL, binI, shI, binS, unL, cst, cst1, cells1, reduceIte, Nat.reduceAdd, Nat.reduceMul, Nat.reduceEqDiff, bound, refsC, AV.cells, AV.ref1, flatC, oneC, elems, okLog, disj, befOf, Int.reduceLT, Int.reduceLE, Int.reduceToNat, Int.reducePow, Nat.reduceLeDiff, IntKind.bits, argT, Int.reduceMul, Int.reduceAdd, Int.reduceNeg, Int.reduceSub, Int.reduceEq, Nat.reduceLT, Row.get1, Row.getN, Row.set1, Row.setN, fillE, e0, h, e1]
  · have e1 : IntKind.i32.wrap (v % 4294967296) = IntKind.i32.wrap (IntKind.u32.wrap v) := by
      rw [IntKind.wrap_i32, IntKind.wrap_i32]
      simp [IntKind.wrap, IntKind.bits, IntKind.signed]
    simp only [vS, opP, Go.Vm.step, Go.Vm.ev, delM, setM, binL, binI, shI, binS, unL, cst, cst1, cells1, reduceIte, Nat.reduceAdd, Nat.reduceMul, Nat.reduceEqDiff, bound, refsC, AV.cells, AV.ref1, flatC, oneC, elems, okLog, disj, befOf, Int.reduceLT, Int.reduceLE, Int.reduceToNat, Int.reducePow, Nat.reduceLeDiff, IntKind.bits, argT, Int.reduceMul, Int.reduceAdd, Int.reduceNeg, Int.reduceSub, Int.reduceEq, Nat.reduceLT, Row.get1, Row.getN, Row.set1, Row.setN, fillE, e0, h, e1]
end
end Go.Proofs.YtopjkgappjgjnaaDoor
