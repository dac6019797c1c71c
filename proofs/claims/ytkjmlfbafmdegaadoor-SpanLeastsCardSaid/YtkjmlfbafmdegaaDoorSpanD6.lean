/- The reference's tree. -/
import Derived.Test.YtkjmlfbafmdegaaDoorSpanD5
namespace Go.Proofs.YtkjmlfbafmdegaaDoor
open Go Go.Vm Go.UniteM Go.SpanM
open Go.PermM (nats nats_length nats_get nats_append get_some)
set_option linter.unusedSectionVars false
set_option linter.unusedSimpArgs false
/-! ### plait/plaitref09.Tree -/
def k_ref_Tree : Nat → Bool × List Nat := fun | 0 => (false, [0, 1, 2]) | 1 => (false, [0, 1, 2, 8]) | 2 => (false, [1, 2, 8, 9]) | 3 => (false, [1, 2, 8, 9, 10]) | 4 => (false, [1, 2, 8, 9, 10, 11]) | 5 => (false, [1, 2, 8, 9, 10, 11, 12]) | 6 => (false, [1, 2, 8, 9, 10, 11, 12, 21]) | 7 => (false, [1, 2, 8, 9, 10, 11, 12]) | 8 => (false, [1, 2, 8, 9, 10, 11, 12, 52]) | 9 => (false, [1, 2, 8, 9, 10, 11, 12]) | 10 => (false, [1, 2, 8, 9, 10, 11, 55]) | 11 => (true, [6, 7]) | 12 => (false, [1, 2, 8, 9, 10, 11]) | 13 => (false, [1, 2, 8, 9, 10, 11]) | 14 => (false, [1, 2, 8, 9, 10]) | _ => (false, [])
def lc_ref_Tree : LCode := (.seq (.rgn false false [] [0, 1, 2] [⟨(some 6), (.mov (.const (.slice none 0 0))), none⟩, ⟨(some 7), (.mov (.const (.int .i64 0))), none⟩]) (.seq (.rgn false false [] [0, 1, 2, 8] [⟨(some 13), (.mov (.tmp 1)), none⟩, ⟨(some 14), (.lenL (.tmp 13)), none⟩, ⟨(some 15), (.mkSl 1 1 [(.bool false)] (.tmp 14) (.tmp 14)), none⟩, ⟨(some 8), (.mov (.tmp 15)), none⟩]) (.seq (.rgn false false [] [1, 2, 8, 9] [⟨(some 16), (.mov (.tmp 0)), none⟩, ⟨(some 17), (.call 19 [(.tmp 16)]), none⟩, ⟨(some 9), (.mov (.tmp 17)), none⟩]) (.seq (.rgn false false [] [1, 2, 8, 9, 10] [⟨(some 10), (.mov (.const (.int .i64 0))), none⟩]) (.block 0 (.loop (.block 1 (.seq (.rgn false false [] [1, 2, 8, 9, 10, 11] [⟨(some 11), (.mov (.const (.int .i64 (-1)))), none⟩]) (.seq (.seq (.rgn false false [] [1, 2, 8, 9, 10, 11, 12] [⟨(some 12), (.mov (.const (.int .i64 0))), none⟩]) (.block 2 (.loop (.seq (.seq (.rgn false false [] [1, 2, 8, 9, 10, 11, 12, 21] [⟨(some 18), (.mov (.tmp 12)), none⟩, ⟨(some 19), (.mov (.tmp 1)), none⟩, ⟨(some 20), (.lenL (.tmp 19)), none⟩, ⟨(some 21), (.bin .lss (.tmp 18) (.tmp 20)), none⟩]) (.cond (.tmp 21) .skip (.exit 2))) (.seq (.block 3 (.seq (.rgn false true [0, 0, 0, 6, 14, 30, 63, 127, 0, 0, 0, 1536, 3584, 7680, 16128, 32512, 65535, 131071, 262143, 524287, 1048575, 2097151, 2097151, 2097151, 16777215, 2097151, 67108863, 134217727, 268435455] [1, 2, 8, 9, 10, 11, 12, 52] [⟨(some 24), (.mov (.tmp 9)), none⟩, ⟨(some 25), (.mov (.tmp 1)), none⟩, ⟨(some 26), (.mov (.tmp 12)), none⟩, ⟨(some 27), (.idxA 3 (.tmp 25) (.tmp 26)), none⟩, ⟨(some 28), (.fldA 0 (.tmp 27)), none⟩, ⟨(some 29), (.load 1 false (.tmp 28)), none⟩, ⟨(some 30), (.idxA 1 (.tmp 24) (.tmp 29)), none⟩, ⟨(some 31), (.load 1 false (.tmp 30)), none⟩, ⟨(some 32), (.mov (.tmp 9)), none⟩, ⟨(some 33), (.mov (.tmp 1)), none⟩, ⟨(some 34), (.mov (.tmp 12)), none⟩, ⟨(some 35), (.idxA 3 (.tmp 33) (.tmp 34)), none⟩, ⟨(some 36), (.fldA 1 (.tmp 35)), none⟩, ⟨(some 37), (.load 1 false (.tmp 36)), none⟩, ⟨(some 38), (.idxA 1 (.tmp 32) (.tmp 37)), none⟩, ⟨(some 39), (.load 1 false (.tmp 38)), none⟩, ⟨(some 40), (.bin .neq (.tmp 31) (.tmp 39)), none⟩, ⟨(some 41), (.mov (.tmp 40)), none⟩, ⟨(some 42), (.mov (.tmp 11)), (some (41, true))⟩, ⟨(some 43), (.bin .lss (.tmp 42) (.const (.int .i64 0))), (some (41, true))⟩, ⟨(some 44), (.mov (.tmp 43)), (some (41, true))⟩, ⟨(some 45), (.mov (.tmp 1)), (some (44, false))⟩, ⟨(some 46), (.mov (.tmp 12)), (some (44, false))⟩, ⟨(some 47), (.mov (.tmp 11)), (some (44, false))⟩, ⟨(some 48), (.call 20 [(.tmp 45), (.tmp 46), (.tmp 47)]), (some (44, false))⟩, ⟨(some 49), (.mov (.tmp 2)), (some (44, false))⟩, ⟨(some 50), (.eqB true (.tmp 48) (.tmp 49)), (some (44, false))⟩, ⟨(some 51), (.pick (.tmp 44) (.const (.bool true)) (.tmp 50)), (some (41, true))⟩, ⟨(some 52), (.pick (.tmp 41) (.tmp 51) (.const (.bool false))), none⟩]) (.cond (.tmp 52) (.rgn false false [] [1, 2, 8, 9, 10, 11, 12] [⟨(some 53), (.mov (.tmp 12)), none⟩, ⟨(some 11), (.mov (.tmp 53)), none⟩]) .skip))) (.rgn false false [] [1, 2, 8, 9, 10, 11, 12] [⟨(some 22), (.mov (.tmp 12)), none⟩, ⟨(some 23), (.bin .add (.tmp 22) (.const (.int .i64 1))), none⟩, ⟨(some 12), (.mov (.tmp 23)), none⟩])))))) (.seq (.seq (.rgn false false [] [1, 2, 8, 9, 10, 11, 55] [⟨(some 54), (.mov (.tmp 11)), none⟩, ⟨(some 55), (.bin .lss (.tmp 54) (.const (.int .i64 0))), none⟩]) (.cond (.tmp 55) (.seq (.rgn true false [] [6, 7] [⟨(some 56), (.mov (.tmp 8)), none⟩, ⟨(some 57), (.mov (.tmp 10)), none⟩, ⟨(some 6), (.mov (.tmp 56)), none⟩, ⟨(some 7), (.mov (.tmp 57)), none⟩]) .ret) .skip)) (.seq (.rgn false false [] [1, 2, 8, 9, 10, 11] [⟨(some 58), (.mov (.tmp 8)), none⟩, ⟨(some 59), (.mov (.tmp 11)), none⟩, ⟨(some 60), (.idxA 1 (.tmp 58) (.tmp 59)), none⟩, ⟨none, (.store 1 (.tmp 60) (.const (.bool true))), none⟩]) (.seq (.rgn false false [] [1, 2, 8, 9, 10, 11] [⟨(some 61), (.mov (.tmp 10)), none⟩, ⟨(some 62), (.mov (.tmp 1)), none⟩, ⟨(some 63), (.mov (.tmp 11)), none⟩, ⟨(some 64), (.idxA 3 (.tmp 62) (.tmp 63)), none⟩, ⟨(some 65), (.fldA 2 (.tmp 64)), none⟩, ⟨(some 66), (.load 1 false (.tmp 65)), none⟩, ⟨(some 67), (.convI .i64 (.tmp 66)), none⟩, ⟨(some 68), (.bin .add (.tmp 61) (.tmp 67)), none⟩, ⟨(some 10), (.mov (.tmp 68)), none⟩]) (.rgn false true [0, 0, 0, 6, 14, 30, 0, 0, 192, 448, 960, 2047, 4095, 8191, 8191, 16383] [1, 2, 8, 9, 10] [⟨(some 70), (.mov (.tmp 9)), none⟩, ⟨(some 71), (.mov (.tmp 1)), none⟩, ⟨(some 72), (.mov (.tmp 11)), none⟩, ⟨(some 73), (.idxA 3 (.tmp 71) (.tmp 72)), none⟩, ⟨(some 74), (.fldA 0 (.tmp 73)), none⟩, ⟨(some 75), (.load 1 false (.tmp 74)), none⟩, ⟨(some 76), (.mov (.tmp 1)), none⟩, ⟨(some 77), (.mov (.tmp 11)), none⟩, ⟨(some 78), (.idxA 3 (.tmp 76) (.tmp 77)), none⟩, ⟨(some 79), (.fldA 1 (.tmp 78)), none⟩, ⟨(some 80), (.load 1 false (.tmp 79)), none⟩, ⟨(some 81), (.call 21 [(.tmp 70), (.tmp 75), (.tmp 80)]), none⟩, ⟨(some 69), (.mov (.tmp 81)), none⟩, ⟨(some 82), (.ext (.tmp 69) 0), none⟩, ⟨(some 83), (.ext (.tmp 69) 1), none⟩, ⟨(some 9), (.mov (.tmp 82)), none⟩])))))))))))))
theorem comp_ref_Tree : compC Tryd.prog Tryd.f11.ntmps k_ref_Tree (Tryd.f11.body.getD .skip) = some lc_ref_Tree := by kernel_rfl
theorem body_ref_Tree : Tryd.f11.body = some (Tryd.f11.body.getD .skip) := by kernel_rfl
theorem pure_ref_Tree {args : List AV} {M : Mem} {slot : Nat} {v : AV} (hl : args.length ≤ Tryd.f11.ntmps) (h : run Tryd.prog Tryd.f11.ntmps 0 lc_ref_Tree (retP [6, 7] v) (lkT (argT (ren (lkσ [])) 0 args)) (lkM []) 0) : CallOk Tryd.prog 11 args M slot { v } :=
  callOk_pure mix Tryd.func11 body_ref_Tree (by kernel_rfl) (by kernel_rfl) comp_ref_Tree hl (run_imp _ (fun _ _ _ _ h => retP_W h) _ _ _ h)
section
variable {M : Mem} {slot : Nat}
def atI : Option Nat → Int
  | none => -1
  | some j => j
theorem atI_none : atI none = -1 := (rfl)
theorem atI_some {j : Nat} : atI (some j) = (j : Int) := (rfl)
structure RS where
  k : Nat
  s : St
set_option maxHeartbeats 2000000 in
theorem refTree_ok {n : Nat} {l : List E} {gr : Bool} {k0 : Nat} {T : St} (hn : n ≤ 100000) (hl : l.length ≤ 60) (hw : In32 l) (hc : chk n l = 0) (hk0 : k0 ≤ 60) (hT : SpanM.Steps gr l k0 (s0 n l) T) :
    CallOk Tryd.prog 11 [.i .i64 n, dE l, .b gr] M slot { v := .tup [dB T.mks, .i .i64 T.sum] } := by
  have hn1 : (l.length : Int) ≤ 9223372036854775807 := by omega
  have hn2 : l.length ≤ 281474976710656 := by omega
  refine pure_ref_Tree (Nat.le_of_ble_eq_true (by kernel_rfl)) ?_; unfold lc_ref_Tree
  simp only [vS, opP, Go.Vm.step, Go.Vm.ev, delM, setM, binL, binI, shI, binS, unL, cst, cst1, cells1, reduceIte, Nat.reduceAdd, Nat.reduceMul, Nat.reduceEqDiff, bound, refsC, AV.cells, AV.ref1, flatC, oneC, elems, okLog, disj, befOf, Int.reduceLT, Int.reduceLE, Int.reduceToNat, Int.reducePow, Nat.reduceLeDiff, IntKind.bits, argT, Int.reduceMul, Int.reduceAdd, Int.reduceNeg, Int.reduceSub, Int.reduceEq, Nat.reduceLT, Row.get1, Row.getN, Row.set1, Row.setN, fillE, subLL_eE, eE_length, hn1, hn2]
  refine callP_ok (refNew_ok hn) ?_
  simp only [vS, opP, Go.Vm.step, Go.Vm.ev, delM, setM, binL, binI, shI, binS, unL, cst, cst1, cells1, reduceIte, Nat.reduceAdd, Nat.reduceMul, Nat.reduceEqDiff, bound, refsC, AV.cells, AV.ref1, flatC, oneC, elems, okLog, disj, befOf, Int.reduceLT, Int.reduceLE, Int.reduceToNat, Int.reducePow, Nat.reduceLeDiff, IntKind.bits, argT, Int.reduceMul, Int.reduceAdd, Int.reduceNeg, Int.reduceSub, Int.reduceEq, Nat.reduceLT, Row.get1, Row.getN, Row.set1, Row.setN, fillE]
  refine loop_by (α := RS) (fun x => x.k ≤ 60 ∧ SpanM.Steps gr l x.k x.s T ∧ Wide l x.s.L ∧ x.s.L.length ≤ 100000 ∧ x.s.mks.length = l.length ∧ -((60 - x.k) * 2147483648 : Int) ≤ x.s.sum ∧ x.s.sum ≤ ((60 - x.k) * 2147483648 : Int)) (fun x => x.k)
    (fun x => [(1, dE l), (2, .b gr), (8, .own 0 0 l.length 1), (9, dN x.s.L), (10, .i .i64 x.s.sum)])
    (fun x => [(0, ⟨1, enc .b x.s.mks⟩)]) 8 ?_ ⟨k0, s0 n l⟩ ⟨hk0, hT, wide0 hc, ?_, ?_, ?_, ?_⟩ (Wk.norm [(32, 0)] (by decide) ?_ ?_)
  · rintro ⟨k, s⟩ ⟨hk, hS, hW, hL, hm, hs1, hs2⟩
    simp only at hk hS hW hL hm hs1 hs2
    have hnl := nats_length s.L
    simp only [vS, opP, Go.Vm.step, Go.Vm.ev, delM, setM, binL, binI, shI, binS, unL, cst, cst1, cells1, reduceIte, Nat.reduceAdd, Nat.reduceMul, Nat.reduceEqDiff, bound, refsC, AV.cells, AV.ref1, flatC, oneC, elems, okLog, disj, befOf, Int.reduceLT, Int.reduceLE, Int.reduceToNat, Int.reducePow, Nat.reduceLeDiff, IntKind.bits, argT, Int.reduceMul, Int.reduceAdd, Int.reduceNeg, Int.reduceSub, Int.reduceEq, Nat.reduceLT, Row.get1, Row.getN, Row.set1, Row.setN, fillE]
    refine loop_by (fun i => i ≤ l.length) (fun i => l.length - i)
      (fun i => [(1, dE l), (2, .b gr), (8, .own 0 0 l.length 1), (9, dN s.L), (10, .i .i64 s.sum), (11, .i .i64 (atI (pick gr l s.L i))), (12, .i .i64 i)])
      (fun _ => [(0, ⟨1, enc .b s.mks⟩)]) 8 ?_ 0 (Nat.zero_le _) (Wk.norm [(0, 0)] (by decide) ?_ ?_)
    · intro i hi0
      by_cases hi : i < l.length
      · have hg := eE_get hi
        rw [ea_eq hc hi, eb_eq hc hi] at hg
        obtain ⟨w1, w2⟩ := hW i hi
        have g1 : (nats s.L)[ea l i]? = some ((g s.L (ea l i) : Nat) : Int) := by rw [nats_get, g_get w1]; rfl
        have g2 : (nats s.L)[eb l i]? = some ((g s.L (eb l i) : Nat) : Int) := by rw [nats_get, g_get w2]; rfl
        by_cases hcd : g s.L (ea l i) = g s.L (eb l i)
        · have e : pick gr l s.L (i + 1) = pick gr l s.L i := pick_skip (cand_f.2 hcd)
          simp only [vS, opP, Go.Vm.step, Go.Vm.ev, delM, setM, binL, binI, shI, binS, unL, cst, cst1, cells1, reduceIte, Nat.reduceAdd, Nat.reduceMul, Nat.reduceEqDiff, bound, refsC, AV.cells, AV.ref1, flatC, oneC, elems, okLog, disj, befOf, Int.reduceLT, Int.reduceLE, Int.reduceToNat, Int.reducePow, Nat.reduceLeDiff, IntKind.bits, argT, Int.reduceMul, Int.reduceAdd, Int.reduceNeg, Int.reduceSub, Int.reduceEq, Nat.reduceLT, Row.get1, Row.getN, Row.set1, Row.setN, fillE, Go.undef, hi, hg, eE_length, subLL_eE, List.drop_succ_cons, w1, w2, g1, g2, hcd, hnl, winc hi (by omega)]
          refine ⟨i + 1, hi, by omega, Wk.norm [(0, 0)] (by decide) ?_ ?_⟩
          · simp only [vS, opP, Go.Vm.step, Go.Vm.ev, delM, setM, binL, binI, shI, binS, unL, cst, cst1, cells1, reduceIte, Nat.reduceAdd, Nat.reduceMul, Nat.reduceEqDiff, bound, refsC, AV.cells, AV.ref1, flatC, oneC, elems, okLog, disj, befOf, Int.reduceLT, Int.reduceLE, Int.reduceToNat, Int.reducePow, Nat.reduceLeDiff, IntKind.bits, argT, Int.reduceMul, Int.reduceAdd, Int.reduceNeg, Int.reduceSub, Int.reduceEq, Nat.reduceLT, Row.get1, Row.getN, Row.set1, Row.setN, fillE, vW, renM, frM, subRow, Nat.reduceBNe, frs, frOk, frOut, subLL_eE, e]
          · simp only [vS, opP, Go.Vm.step, Go.Vm.ev, delM, setM, binL, binI, shI, binS, unL, cst, cst1, cells1, reduceIte, Nat.reduceAdd, Nat.reduceMul, Nat.reduceEqDiff, bound, refsC, AV.cells, AV.ref1, flatC, oneC, elems, okLog, disj, befOf, Int.reduceLT, Int.reduceLE, Int.reduceToNat, Int.reducePow, Nat.reduceLeDiff, IntKind.bits, argT, Int.reduceMul, Int.reduceAdd, Int.reduceNeg, Int.reduceSub, Int.reduceEq, Nat.reduceLT, Row.get1, Row.getN, Row.set1, Row.setN, fillE, vW, renM, frM, subRow, Nat.reduceBNe, frs, frOk, frOut]
        · cases hp : pick gr l s.L i with
          | none =>
            have e : pick gr l s.L (i + 1) = some i := pick_new (cand_t.2 hcd) hp
            simp only [vS, opP, Go.Vm.step, Go.Vm.ev, delM, setM, binL, binI, shI, binS, unL, cst, cst1, cells1, reduceIte, Nat.reduceAdd, Nat.reduceMul, Nat.reduceEqDiff, bound, refsC, AV.cells, AV.ref1, flatC, oneC, elems, okLog, disj, befOf, Int.reduceLT, Int.reduceLE, Int.reduceToNat, Int.reducePow, Nat.reduceLeDiff, IntKind.bits, argT, Int.reduceMul, Int.reduceAdd, Int.reduceNeg, Int.reduceSub, Int.reduceEq, Nat.reduceLT, Row.get1, Row.getN, Row.set1, Row.setN, fillE, Go.undef, hi, hg, eE_length, subLL_eE, List.drop_succ_cons, w1, w2, g1, g2, hcd, hnl, atI_none, hp, winc hi (by omega)]
            refine ⟨i + 1, hi, by omega, Wk.norm [(0, 0)] (by decide) ?_ ?_⟩
            · simp only [vS, opP, Go.Vm.step, Go.Vm.ev, delM, setM, binL, binI, shI, binS, unL, cst, cst1, cells1, reduceIte, Nat.reduceAdd, Nat.reduceMul, Nat.reduceEqDiff, bound, refsC, AV.cells, AV.ref1, flatC, oneC, elems, okLog, disj, befOf, Int.reduceLT, Int.reduceLE, Int.reduceToNat, Int.reducePow, Nat.reduceLeDiff, IntKind.bits, argT, Int.reduceMul, Int.reduceAdd, Int.reduceNeg, Int.reduceSub, Int.reduceEq, Nat.reduceLT, Row.get1, Row.getN, Row.set1, Row.setN, fillE, vW, renM, frM, subRow, Nat.reduceBNe, frs, frOk, frOut, subLL_eE, e]
              rfl
            · simp only [vS, opP, Go.Vm.step, Go.Vm.ev, delM, setM, binL, binI, shI, binS, unL, cst, cst1, cells1, reduceIte, Nat.reduceAdd, Nat.reduceMul, Nat.reduceEqDiff, bound, refsC, AV.cells, AV.ref1, flatC, oneC, elems, okLog, disj, befOf, Int.reduceLT, Int.reduceLE, Int.reduceToNat, Int.reducePow, Nat.reduceLeDiff, IntKind.bits, argT, Int.reduceMul, Int.reduceAdd, Int.reduceNeg, Int.reduceSub, Int.reduceEq, Nat.reduceLT, Row.get1, Row.getN, Row.set1, Row.setN, fillE, vW, renM, frM, subRow, Nat.reduceBNe, frs, frOk, frOut]
          | some j =>
            have hji : j < l.length := by
              have := pick_best gr l s.L i
              rw [hp] at this
              have := this.1
              omega
            have hjn : ¬ (j : Int) < 0 := by omega
            simp only [vS, opP, Go.Vm.step, Go.Vm.ev, delM, setM, binL, binI, shI, binS, unL, cst, cst1, cells1, reduceIte, Nat.reduceAdd, Nat.reduceMul, Nat.reduceEqDiff, bound, refsC, AV.cells, AV.ref1, flatC, oneC, elems, okLog, disj, befOf, Int.reduceLT, Int.reduceLE, Int.reduceToNat, Int.reducePow, Nat.reduceLeDiff, IntKind.bits, argT, Int.reduceMul, Int.reduceAdd, Int.reduceNeg, Int.reduceSub, Int.reduceEq, Nat.reduceLT, Row.get1, Row.getN, Row.set1, Row.setN, fillE, Go.undef, hi, hg, eE_length, subLL_eE, List.drop_succ_cons, w1, w2, g1, g2, hcd, hnl, atI_some, hp, hjn]
            refine callP_ok (refLess_ok hi hji) ?_
            by_cases hb : bt gr l i j = true
            · have e : pick gr l s.L (i + 1) = some i := pick_bet (cand_t.2 hcd) hp hb
              have hb' : (lessB l i j != gr) = true := hb
              simp only [vS, opP, Go.Vm.step, Go.Vm.ev, delM, setM, binL, binI, shI, binS, unL, cst, cst1, cells1, reduceIte, Nat.reduceAdd, Nat.reduceMul, Nat.reduceEqDiff, bound, refsC, AV.cells, AV.ref1, flatC, oneC, elems, okLog, disj, befOf, Int.reduceLT, Int.reduceLE, Int.reduceToNat, Int.reducePow, Nat.reduceLeDiff, IntKind.bits, argT, Int.reduceMul, Int.reduceAdd, Int.reduceNeg, Int.reduceSub, Int.reduceEq, Nat.reduceLT, Row.get1, Row.getN, Row.set1, Row.setN, fillE, Go.undef, hb', winc hi (by omega)]
              refine ⟨i + 1, hi, by omega, Wk.norm [(0, 0)] (by decide) ?_ ?_⟩
              · simp only [vS, opP, Go.Vm.step, Go.Vm.ev, delM, setM, binL, binI, shI, binS, unL, cst, cst1, cells1, reduceIte, Nat.reduceAdd, Nat.reduceMul, Nat.reduceEqDiff, bound, refsC, AV.cells, AV.ref1, flatC, oneC, elems, okLog, disj, befOf, Int.reduceLT, Int.reduceLE, Int.reduceToNat, Int.reducePow, Nat.reduceLeDiff, IntKind.bits, argT, Int.reduceMul, Int.reduceAdd, Int.reduceNeg, Int.reduceSub, Int.reduceEq, Nat.reduceLT, Row.get1, Row.getN, Row.set1, Row.setN, fillE, vW, renM, frM, subRow, Nat.reduceBNe, frs, frOk, frOut, subLL_eE, e]
                rfl
              · simp only [vS, opP, Go.Vm.step, Go.Vm.ev, delM, setM, binL, binI, shI, binS, unL, cst, cst1, cells1, reduceIte, Nat.reduceAdd, Nat.reduceMul, Nat.reduceEqDiff, bound, refsC, AV.cells, AV.ref1, flatC, oneC, elems, okLog, disj, befOf, Int.reduceLT, Int.reduceLE, Int.reduceToNat, Int.reducePow, Nat.reduceLeDiff, IntKind.bits, argT, Int.reduceMul, Int.reduceAdd, Int.reduceNeg, Int.reduceSub, Int.reduceEq, Nat.reduceLT, Row.get1, Row.getN, Row.set1, Row.setN, fillE, vW, renM, frM, subRow, Nat.reduceBNe, frs, frOk, frOut]
            · have e : pick gr l s.L (i + 1) = some j := pick_stay (cand_t.2 hcd) hp hb
              have hb' : (lessB l i j != gr) = false := by simpa [bt] using hb
              simp only [vS, opP, Go.Vm.step, Go.Vm.ev, delM, setM, binL, binI, shI, binS, unL, cst, cst1, cells1, reduceIte, Nat.reduceAdd, Nat.reduceMul, Nat.reduceEqDiff, bound, refsC, AV.cells, AV.ref1, flatC, oneC, elems, okLog, disj, befOf, Int.reduceLT, Int.reduceLE, Int.reduceToNat, Int.reducePow, Nat.reduceLeDiff, IntKind.bits, argT, Int.reduceMul, Int.reduceAdd, Int.reduceNeg, Int.reduceSub, Int.reduceEq, Nat.reduceLT, Row.get1, Row.getN, Row.set1, Row.setN, fillE, Go.undef, hb', winc hi (by omega)]
              refine ⟨i + 1, hi, by omega, Wk.norm [(0, 0)] (by decide) ?_ ?_⟩
              · simp only [vS, opP, Go.Vm.step, Go.Vm.ev, delM, setM, binL, binI, shI, binS, unL, cst, cst1, cells1, reduceIte, Nat.reduceAdd, Nat.reduceMul, Nat.reduceEqDiff, bound, refsC, AV.cells, AV.ref1, flatC, oneC, elems, okLog, disj, befOf, Int.reduceLT, Int.reduceLE, Int.reduceToNat, Int.reducePow, Nat.reduceLeDiff, IntKind.bits, argT, Int.reduceMul, Int.reduceAdd, Int.reduceNeg, Int.reduceSub, Int.reduceEq, Nat.reduceLT, Row.get1, Row.getN, Row.set1, Row.setN, fillE, vW, renM, frM, subRow, Nat.reduceBNe, frs, frOk, frOut, subLL_eE, e]
                rfl
              · simp only [vS, opP, Go.Vm.step, Go.Vm.ev, delM, setM, binL, binI, shI, binS, unL, cst, cst1, cells1, reduceIte, Nat.reduceAdd, Nat.reduceMul, Nat.reduceEqDiff, bound, refsC, AV.cells, AV.ref1, flatC, oneC, elems, okLog, disj, befOf, Int.reduceLT, Int.reduceLE, Int.reduceToNat, Int.reducePow, Nat.reduceLeDiff, IntKind.bits, argT, Int.reduceMul, Int.reduceAdd, Int.reduceNeg, Int.reduceSub, Int.reduceEq, Nat.reduceLT, Row.get1, Row.getN, Row.set1, Row.setN, fillE, vW, renM, frM, subRow, Nat.reduceBNe, frs, frOk, frOut]
      · obtain rfl : i = l.length := by omega
        cases hS with
        | done hp =>
          simp only [vS, opP, Go.Vm.step, Go.Vm.ev, delM, setM, binL, binI, shI, binS, unL, cst, cst1, cells1, reduceIte, Nat.reduceAdd, Nat.reduceMul, Nat.reduceEqDiff, bound, refsC, AV.cells, AV.ref1, flatC, oneC, elems, okLog, disj, befOf, Int.reduceLT, Int.reduceLE, Int.reduceToNat, Int.reducePow, Nat.reduceLeDiff, IntKind.bits, argT, Int.reduceMul, Int.reduceAdd, Int.reduceNeg, Int.reduceSub, Int.reduceEq, Nat.reduceLT, Row.get1, Row.getN, Row.set1, Row.setN, fillE, hi, eE_length, hp, atI_none]
          refine run_rgnW (Wk.fr 0 (l2 := [(8, dB T.mks), (10, .i .i64 T.sum)]) (m2 := []) (nb2 := 0) rfl ?_ ?_) ?_
          · have ht : T.mks.take l.length = T.mks := List.take_of_length_le (by omega)
            have ht2 : l.length ≤ T.mks.length := by omega
            simp only [vS, opP, Go.Vm.step, Go.Vm.ev, delM, setM, binL, binI, shI, binS, unL, cst, cst1, cells1, reduceIte, Nat.reduceAdd, Nat.reduceMul, Nat.reduceEqDiff, bound, refsC, AV.cells, AV.ref1, flatC, oneC, elems, okLog, disj, befOf, Int.reduceLT, Int.reduceLE, Int.reduceToNat, Int.reducePow, Nat.reduceLeDiff, IntKind.bits, argT, Int.reduceMul, Int.reduceAdd, Int.reduceNeg, Int.reduceSub, Int.reduceEq, Nat.reduceLT, Row.get1, Row.getN, Row.set1, Row.setN, fillE, vW, renM, frM, subRow, Nat.reduceBNe, frs, frOk, frOut, ht, ht2]
          · simp only [vS, opP, Go.Vm.step, Go.Vm.ev, delM, setM, binL, binI, shI, binS, unL, cst, cst1, cells1, reduceIte, Nat.reduceAdd, Nat.reduceMul, Nat.reduceEqDiff, bound, refsC, AV.cells, AV.ref1, flatC, oneC, elems, okLog, disj, befOf, Int.reduceLT, Int.reduceLE, Int.reduceToNat, Int.reducePow, Nat.reduceLeDiff, IntKind.bits, argT, Int.reduceMul, Int.reduceAdd, Int.reduceNeg, Int.reduceSub, Int.reduceEq, Nat.reduceLT, Row.get1, Row.getN, Row.set1, Row.setN, fillE, vW, renM, frM, subRow, Nat.reduceBNe, frs, frOk, frOut]
          · simp only [vS, opP, Go.Vm.step, Go.Vm.ev, delM, setM, binL, binI, shI, binS, unL, cst, cst1, cells1, reduceIte, Nat.reduceAdd, Nat.reduceMul, Nat.reduceEqDiff, bound, refsC, AV.cells, AV.ref1, flatC, oneC, elems, okLog, disj, befOf, Int.reduceLT, Int.reduceLE, Int.reduceToNat, Int.reducePow, Nat.reduceLeDiff, IntKind.bits, argT, Int.reduceMul, Int.reduceAdd, Int.reduceNeg, Int.reduceSub, Int.reduceEq, Nat.reduceLT, Row.get1, Row.getN, Row.set1, Row.setN, fillE]
        | more hp hS2 =>
          rename_i k j
          have hb := pick_best gr l s.L l.length
          rw [hp] at hb
          obtain ⟨b1, b2, _⟩ := hb
          have hg := eE_get b1
          rw [ea_eq hc b1, eb_eq hc b1] at hg
          obtain ⟨w1, w2⟩ := hW j b1
          have hww := hw _ (getD_mem b1)
          have wc : IntKind.i64.wrap (l.getD j default).w = ew l j := by rw [IntKind.wrap_i64]; unfold ew; omega
          have hew : -2147483648 ≤ ew l j ∧ ew l j ≤ 2147483647 := hww
          have ws : IntKind.i64.wrap (s.sum + ew l j) = s.sum + ew l j := by
            rw [IntKind.wrap_i64]
            omega
          have e2 := takeE_ne (l := l) (s := s) (i := j) (cand_t.1 b2)
          have hjn : ¬ (j : Int) < 0 := by omega
          simp only [vS, opP, Go.Vm.step, Go.Vm.ev, delM, setM, binL, binI, shI, binS, unL, cst, cst1, cells1, reduceIte, Nat.reduceAdd, Nat.reduceMul, Nat.reduceEqDiff, bound, refsC, AV.cells, AV.ref1, flatC, oneC, elems, okLog, disj, befOf, Int.reduceLT, Int.reduceLE, Int.reduceToNat, Int.reducePow, Nat.reduceLeDiff, IntKind.bits, argT, Int.reduceMul, Int.reduceAdd, Int.reduceNeg, Int.reduceSub, Int.reduceEq, Nat.reduceLT, Row.get1, Row.getN, Row.set1, Row.setN, fillE, hi, eE_length, hp, atI_some, hm, b1, hjn, hg, subLL_eE, List.drop_succ_cons, wc, ws]
          refine callP_ok (refJoin_ok w1 w2 hL (cand_t.1 b2)) ?_
          simp only [vS, opP, Go.Vm.step, Go.Vm.ev, delM, setM, binL, binI, shI, binS, unL, cst, cst1, cells1, reduceIte, Nat.reduceAdd, Nat.reduceMul, Nat.reduceEqDiff, bound, refsC, AV.cells, AV.ref1, flatC, oneC, elems, okLog, disj, befOf, Int.reduceLT, Int.reduceLE, Int.reduceToNat, Int.reducePow, Nat.reduceLeDiff, IntKind.bits, argT, Int.reduceMul, Int.reduceAdd, Int.reduceNeg, Int.reduceSub, Int.reduceEq, Nat.reduceLT, Row.get1, Row.getN, Row.set1, Row.setN, fillE]
          refine ⟨⟨k, takeE l s j⟩, ⟨by show k ≤ 60; omega, hS2, ?_, ?_, ?_, ?_, ?_⟩, by simp only; omega, Wk.norm [(0, 0)] (by decide) ?_ ?_⟩
          · simp only [e2]
            intro i hi; rw [joinL_len]; exact hW i hi
          · simp only [e2, joinL_len]; exact hL
          · simp only [e2, List.length_set]; exact hm
          · simp only [e2]; omega
          · simp only [e2]; omega
          · simp only [vS, opP, Go.Vm.step, Go.Vm.ev, delM, setM, binL, binI, shI, binS, unL, cst, cst1, cells1, reduceIte, Nat.reduceAdd, Nat.reduceMul, Nat.reduceEqDiff, bound, refsC, AV.cells, AV.ref1, flatC, oneC, elems, okLog, disj, befOf, Int.reduceLT, Int.reduceLE, Int.reduceToNat, Int.reducePow, Nat.reduceLeDiff, IntKind.bits, argT, Int.reduceMul, Int.reduceAdd, Int.reduceNeg, Int.reduceSub, Int.reduceEq, Nat.reduceLT, Row.get1, Row.getN, Row.set1, Row.setN, fillE, vW, renM, frM, subRow, Nat.reduceBNe, frs, frOk, frOut, subLL_eE, e2]
          · simp only [vS, opP, Go.Vm.step, Go.Vm.ev, delM, setM, binL, binI, shI, binS, unL, cst, cst1, cells1, reduceIte, Nat.reduceAdd, Nat.reduceMul, Nat.reduceEqDiff, bound, refsC, AV.cells, AV.ref1, flatC, oneC, elems, okLog, disj, befOf, Int.reduceLT, Int.reduceLE, Int.reduceToNat, Int.reducePow, Nat.reduceLeDiff, IntKind.bits, argT, Int.reduceMul, Int.reduceAdd, Int.reduceNeg, Int.reduceSub, Int.reduceEq, Nat.reduceLT, Row.get1, Row.getN, Row.set1, Row.setN, fillE, vW, renM, frM, subRow, Nat.reduceBNe, frs, frOk, frOut, e2]
    · simp only [vS, opP, Go.Vm.step, Go.Vm.ev, delM, setM, binL, binI, shI, binS, unL, cst, cst1, cells1, reduceIte, Nat.reduceAdd, Nat.reduceMul, Nat.reduceEqDiff, bound, refsC, AV.cells, AV.ref1, flatC, oneC, elems, okLog, disj, befOf, Int.reduceLT, Int.reduceLE, Int.reduceToNat, Int.reducePow, Nat.reduceLeDiff, IntKind.bits, argT, Int.reduceMul, Int.reduceAdd, Int.reduceNeg, Int.reduceSub, Int.reduceEq, Nat.reduceLT, Row.get1, Row.getN, Row.set1, Row.setN, fillE, vW, renM, frM, subRow, Nat.reduceBNe, frs, frOk, frOut, subLL_eE]
      rfl
    · simp only [vS, opP, Go.Vm.step, Go.Vm.ev, delM, setM, binL, binI, shI, binS, unL, cst, cst1, cells1, reduceIte, Nat.reduceAdd, Nat.reduceMul, Nat.reduceEqDiff, bound, refsC, AV.cells, AV.ref1, flatC, oneC, elems, okLog, disj, befOf, Int.reduceLT, Int.reduceLE, Int.reduceToNat, Int.reducePow, Nat.reduceLeDiff, IntKind.bits, argT, Int.reduceMul, Int.reduceAdd, Int.reduceNeg, Int.reduceSub, Int.reduceEq, Nat.reduceLT, Row.get1, Row.getN, Row.set1, Row.setN, fillE, vW, renM, frM, subRow, Nat.reduceBNe, frs, frOk, frOut]
  · show (List.range n).length ≤ 100000
    rw [List.length_range]
    exact hn
  · show (List.replicate l.length false).length = l.length
    simp
  · show -((60 - k0) * 2147483648 : Int) ≤ 0
    omega
  · show 0 ≤ ((60 - k0) * 2147483648 : Int)
    omega
  · simp only [vS, opP, Go.Vm.step, Go.Vm.ev, delM, setM, binL, binI, shI, binS, unL, cst, cst1, cells1, reduceIte, Nat.reduceAdd, Nat.reduceMul, Nat.reduceEqDiff, bound, refsC, AV.cells, AV.ref1, flatC, oneC, elems, okLog, disj, befOf, Int.reduceLT, Int.reduceLE, Int.reduceToNat, Int.reducePow, Nat.reduceLeDiff, IntKind.bits, argT, Int.reduceMul, Int.reduceAdd, Int.reduceNeg, Int.reduceSub, Int.reduceEq, Nat.reduceLT, Row.get1, Row.getN, Row.set1, Row.setN, fillE, vW, renM, frM, subRow, Nat.reduceBNe, frs, frOk, frOut, subLL_eE]
    rfl
  · simp only [vS, opP, Go.Vm.step, Go.Vm.ev, delM, setM, binL, binI, shI, binS, unL, cst, cst1, cells1, reduceIte, Nat.reduceAdd, Nat.reduceMul, Nat.reduceEqDiff, bound, refsC, AV.cells, AV.ref1, flatC, oneC, elems, okLog, disj, befOf, Int.reduceLT, Int.reduceLE, Int.reduceToNat, Int.reducePow, Nat.reduceLeDiff, IntKind.bits, argT, Int.reduceMul, Int.reduceAdd, Int.reduceNeg, Int.reduceSub, Int.reduceEq, Nat.reduceLT, Row.get1, Row.getN, Row.set1, Row.setN, fillE, vW, renM, frM, subRow, Nat.reduceBNe, frs, frOk, frOut]
    rfl
end
end Go.Proofs.YtkjmlfbafmdegaaDoor
