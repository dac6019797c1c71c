/- Package span: marking. -/
import Derived.Test.YtkjmlfbafmdegaaSpanP2
namespace Go.Proofs.Ytkjmlfbafmdegaa
open Go Go.Vm Go.UniteM Go.SpanM
open Go.PermM (nats nats_length nats_get nats_append get_some)
set_option linter.unusedSectionVars false
set_option linter.unusedSimpArgs false
variable [Inhabited LayT]
/-! ### plait/span.marked -/
def k_span_marked : Nat → Bool × List Nat := fun | 0 => (false, [0, 1, 2]) | 1 => (false, [0, 1, 2, 9]) | 2 => (false, [0, 1, 2, 9, 22]) | 3 => (true, [6, 7, 8]) | 4 => (false, [1, 2, 9, 10, 11]) | 5 => (false, [1, 2, 9, 10, 11, 30]) | 6 => (false, [6, 7, 8]) | 7 => (false, [1, 2, 9, 10, 12]) | 8 => (false, [1, 9, 10, 12, 32, 33, 34]) | 9 => (false, [1, 9, 10, 12, 32, 33, 34, 35]) | 10 => (false, [1, 9, 10, 12, 14, 32, 33, 34]) | 11 => (false, [1, 9, 10, 12, 14, 15, 16, 32, 33, 34]) | 12 => (false, [1, 9, 10, 12, 14, 15, 16, 32, 33, 34, 54]) | 13 => (false, [6, 7, 8]) | 14 => (false, [1, 9, 10, 12, 14, 32, 33, 34, 56]) | 15 => (false, [1, 9, 10, 12, 14, 32, 33, 34]) | 16 => (false, [1, 9, 10, 12, 32, 33, 34]) | 17 => (false, [1, 9, 10, 12, 32, 33, 34]) | 18 => (true, [6, 7, 8]) | _ => (false, [])
def lc_span_marked : LCode := (.seq (.rgn false false [] [0, 1, 2] [⟨(some 6), (.mov (.const (.slice none 0 0))), none⟩, ⟨(some 7), (.mov (.const (.int .i64 0))), none⟩, ⟨(some 8), (.mov (.const .nilIface)), none⟩]) (.seq (.rgn false false [] [0, 1, 2, 9] [⟨(some 17), (.mov (.tmp 1)), none⟩, ⟨(some 18), (.lenL (.tmp 17)), none⟩, ⟨(some 19), (.mkSl 1 1 [(.bool false)] (.tmp 18) (.tmp 18)), none⟩, ⟨(some 9), (.mov (.tmp 19)), none⟩]) (.seq (.seq (.rgn false false [] [0, 1, 2, 9, 22] [⟨(some 20), (.mov (.tmp 1)), none⟩, ⟨(some 21), (.lenL (.tmp 20)), none⟩, ⟨(some 22), (.bin .eql (.tmp 21) (.const (.int .i64 0))), none⟩]) (.cond (.tmp 22) (.seq (.rgn true false [] [6, 7, 8] [⟨(some 23), (.mov (.tmp 9)), none⟩, ⟨(some 6), (.mov (.tmp 23)), none⟩, ⟨(some 7), (.mov (.const (.int .i64 0))), none⟩, ⟨(some 8), (.mov (.const .nilIface)), none⟩]) .ret) .skip)) (.seq (.rgn false false [] [1, 2, 9, 10, 11] [⟨(some 25), (.mov (.tmp 0)), none⟩, ⟨(some 26), (.call 22 [(.tmp 25)]), none⟩, ⟨(some 24), (.mov (.tmp 26)), none⟩, ⟨(some 27), (.ext (.tmp 24) 0), none⟩, ⟨(some 28), (.ext (.tmp 24) 1), none⟩, ⟨(some 10), (.mov (.tmp 27)), none⟩, ⟨(some 11), (.mov (.tmp 28)), none⟩]) (.seq (.seq (.rgn false false [] [1, 2, 9, 10, 11, 30] [⟨(some 29), (.mov (.tmp 11)), none⟩, ⟨(some 30), (.eqn true false (.tmp 29)), none⟩]) (.cond (.tmp 30) (.seq (.rgn false false [] [6, 7, 8] [⟨(some 31), (.mov (.tmp 11)), none⟩, ⟨(some 6), (.mov (.const (.slice none 0 0))), none⟩, ⟨(some 7), (.mov (.const (.int .i64 0))), none⟩, ⟨(some 8), (.mov (.tmp 31)), none⟩]) .ret) .skip)) (.seq (.rgn false false [] [1, 2, 9, 10, 12] [⟨(some 12), (.mov (.const (.int .i64 0))), none⟩]) (.seq (.seq (.rgn false false [] [1, 9, 10, 12, 32, 33, 34] [⟨(some 32), (.mov (.tmp 2)), none⟩, ⟨(some 33), (.lenL (.tmp 32)), none⟩, ⟨(some 34), (.mov (.const (.int .i64 0))), none⟩]) (.block 0 (.loop (.seq (.rgn false false [] [1, 9, 10, 12, 32, 33, 34, 35] [⟨(some 35), (.bin .lss (.tmp 34) (.tmp 33)), none⟩]) (.seq (.cond (.tmp 35) .skip (.exit 0)) (.seq (.block 1 (.seq (.rgn false false [] [1, 9, 10, 12, 14, 32, 33, 34] [⟨(some 36), (.idxA 1 (.tmp 32) (.tmp 34)), none⟩, ⟨(some 37), (.load 1 false (.tmp 36)), none⟩, ⟨(some 14), (.mov (.tmp 37)), none⟩]) (.seq (.rgn false true [0, 0, 0, 6, 14, 30, 0, 0, 192, 448, 960, 2047, 4095, 8191, 8191, 16383, 65535] [1, 9, 10, 12, 14, 15, 16, 32, 33, 34] [⟨(some 39), (.mov (.tmp 10)), none⟩, ⟨(some 40), (.mov (.tmp 1)), none⟩, ⟨(some 41), (.mov (.tmp 14)), none⟩, ⟨(some 42), (.idxA 3 (.tmp 40) (.tmp 41)), none⟩, ⟨(some 43), (.fldA 0 (.tmp 42)), none⟩, ⟨(some 44), (.load 1 false (.tmp 43)), none⟩, ⟨(some 45), (.mov (.tmp 1)), none⟩, ⟨(some 46), (.mov (.tmp 14)), none⟩, ⟨(some 47), (.idxA 3 (.tmp 45) (.tmp 46)), none⟩, ⟨(some 48), (.fldA 1 (.tmp 47)), none⟩, ⟨(some 49), (.load 1 false (.tmp 48)), none⟩, ⟨(some 50), (.call 23 [(.tmp 39), (.tmp 44), (.tmp 49)]), none⟩, ⟨(some 38), (.mov (.tmp 50)), none⟩, ⟨(some 51), (.ext (.tmp 38) 0), none⟩, ⟨(some 52), (.ext (.tmp 38) 1), none⟩, ⟨(some 15), (.mov (.tmp 51)), none⟩, ⟨(some 16), (.mov (.tmp 52)), none⟩]) (.seq (.seq (.rgn false false [] [1, 9, 10, 12, 14, 15, 16, 32, 33, 34, 54] [⟨(some 53), (.mov (.tmp 16)), none⟩, ⟨(some 54), (.eqn true false (.tmp 53)), none⟩]) (.cond (.tmp 54) (.seq (.rgn false false [] [6, 7, 8] [⟨(some 55), (.mov (.tmp 16)), none⟩, ⟨(some 6), (.mov (.const (.slice none 0 0))), none⟩, ⟨(some 7), (.mov (.const (.int .i64 0))), none⟩, ⟨(some 8), (.mov (.tmp 55)), none⟩]) .ret) .skip)) (.seq (.rgn false false [] [1, 9, 10, 12, 14, 32, 33, 34, 56] [⟨(some 56), (.mov (.tmp 15)), none⟩]) (.cond (.tmp 56) (.seq (.rgn false false [] [1, 9, 10, 12, 14, 32, 33, 34] [⟨(some 57), (.mov (.tmp 9)), none⟩, ⟨(some 58), (.mov (.tmp 14)), none⟩, ⟨(some 59), (.idxA 1 (.tmp 57) (.tmp 58)), none⟩, ⟨none, (.store 1 (.tmp 59) (.const (.bool true))), none⟩]) (.rgn false false [] [1, 9, 10, 12, 32, 33, 34] [⟨(some 60), (.mov (.tmp 12)), none⟩, ⟨(some 61), (.mov (.tmp 1)), none⟩, ⟨(some 62), (.mov (.tmp 14)), none⟩, ⟨(some 63), (.idxA 3 (.tmp 61) (.tmp 62)), none⟩, ⟨(some 64), (.fldA 2 (.tmp 63)), none⟩, ⟨(some 65), (.load 1 false (.tmp 64)), none⟩, ⟨(some 66), (.convI .i64 (.tmp 65)), none⟩, ⟨(some 67), (.bin .add (.tmp 60) (.tmp 66)), none⟩, ⟨(some 12), (.mov (.tmp 67)), none⟩])) .skip)))))) (.rgn false false [] [1, 9, 10, 12, 32, 33, 34] [⟨(some 68), (.bin .add (.tmp 34) (.const (.int .i64 1))), none⟩, ⟨(some 34), (.mov (.tmp 68)), none⟩]))))))) (.seq (.rgn true false [] [6, 7, 8] [⟨(some 69), (.mov (.tmp 9)), none⟩, ⟨(some 70), (.mov (.tmp 12)), none⟩, ⟨(some 6), (.mov (.tmp 69)), none⟩, ⟨(some 7), (.mov (.tmp 70)), none⟩, ⟨(some 8), (.mov (.const .nilIface)), none⟩]) .ret))))))))
theorem comp_span_marked : compC Try.prog Try.f17.ntmps k_span_marked (Try.f17.body.getD .skip) = some lc_span_marked := by kernel_rfl
theorem body_span_marked : Try.f17.body = some (Try.f17.body.getD .skip) := by kernel_rfl
theorem pure_span_marked {args : List AV} {M : Mem} {slot : Nat} {v : AV} (hl : args.length ≤ Try.f17.ntmps) (h : run Try.prog Try.f17.ntmps 0 lc_span_marked (retP [6, 7, 8] v) (lkT (argT (ren (lkσ [])) 0 args)) (lkM []) 0) : CallOk Try.prog 17 args M slot { v } :=
  callOk_pure mix Try.func17 body_span_marked (by kernel_rfl) (by kernel_rfl) comp_span_marked hl (run_imp _ (fun _ _ _ _ h => retP_W h) _ _ _ h)
theorem purew_span_marked {args : List AV} {M : Mem} {slot : Nat} {v : AV} (hl : args.length ≤ Try.f17.ntmps) (h : run Try.prog Try.f17.ntmps 0 lc_span_marked (retW Try.f17.ntmps [6, 7, 8] v) (lkT (argT (ren (lkσ [])) 0 args)) (lkM []) 0) : CallOk Try.prog 17 args M slot { v } :=
  callOk_pure mix Try.func17 body_span_marked (by kernel_rfl) (by kernel_rfl) comp_span_marked hl h
section
variable {M : Mem} {slot : Nat}
theorem lay6 {n : Nat} {u : U} {j : List (Nat × Nat × Nat)} {r : Row} : Lay (lkM ((0, r) :: rws 1 2 3 4 5 n u j)) 1 2 3 4 5 n u j := by
  intro x hx
  simp only [rws, List.mem_cons, List.not_mem_nil, or_false] at hx
  rcases hx with rfl | rfl | rfl | rfl | rfl <;> simp [rws, lkM]
structure LS where
  k : Nat
  u : U
theorem marked_ok {n : Nat} {l : List E} {o : List Nat} (h0 : l.length ≠ 0 → 0 < n) (hn : n ≤ 4194304) (hl : l.length ≤ 60) (hw : In32 l) (hc : chk n l = 0) (ho : ∀ i ∈ o, i < l.length) (hol : o.length ≤ 60) : CallOk Try.prog 17 [.i .i64 n, dE l, .deep 1 (nE64 o)] M slot { v := .tup [.deep 1 (enc .b (run l (s0 n l) o).mks), .i .i64 (run l (s0 n l) o).sum, .k .nilIface] } := by
  refine purew_span_marked (Nat.le_of_ble_eq_true (by kernel_rfl)) ?_; unfold lc_span_marked
  have hn1 : (l.length : Int) ≤ 9223372036854775807 := by omega
  have hn2 : l.length ≤ 281474976710656 := by omega
  by_cases hz : l.length = 0
  · have e0 : run l (s0 n l) o = s0 n l := by
      have : o = [] := List.eq_nil_iff_forall_not_mem.2 fun i hi => by have := ho i hi; omega
      subst this
      rfl
    rw [e0]
    simp only [vS, opP, Go.Vm.step, Go.Vm.ev, delM, setM, binL, binI, shI, binS, unL, cst, cst1, cells1, reduceIte, Nat.reduceAdd, Nat.reduceMul, Nat.reduceEqDiff, bound, refsC, AV.cells, AV.ref1, flatC, oneC, elems, okLog, disj, befOf, Int.reduceLT, Int.reduceLE, Int.reduceToNat, Int.reducePow, Nat.reduceLeDiff, IntKind.bits, argT, Int.reduceMul, Int.reduceAdd, Int.reduceNeg, Int.reduceSub, Int.reduceEq, Nat.reduceLT, Row.get1, Row.getN, Row.set1, Row.setN, fillE, subLL_eE, eE_length, subLL_n64, hz]
    refine run_rgnW (Wk.fr 40 (l2 := [(9, .deep 1 (enc .b (s0 n l).mks))]) (m2 := []) (nb2 := 0) rfl ?_ ?_) ?_
    · simp only [vS, opP, Go.Vm.step, Go.Vm.ev, delM, setM, binL, binI, shI, binS, unL, cst, cst1, cells1, reduceIte, Nat.reduceAdd, Nat.reduceMul, Nat.reduceEqDiff, bound, refsC, AV.cells, AV.ref1, flatC, oneC, elems, okLog, disj, befOf, Int.reduceLT, Int.reduceLE, Int.reduceToNat, Int.reducePow, Nat.reduceLeDiff, IntKind.bits, argT, Int.reduceMul, Int.reduceAdd, Int.reduceNeg, Int.reduceSub, Int.reduceEq, Nat.reduceLT, Row.get1, Row.getN, Row.set1, Row.setN, fillE, vW, renM, frM, subRow, Nat.reduceBNe, frs, frOk, frOut, s0, hz]
    · simp only [vS, opP, Go.Vm.step, Go.Vm.ev, delM, setM, binL, binI, shI, binS, unL, cst, cst1, cells1, reduceIte, Nat.reduceAdd, Nat.reduceMul, Nat.reduceEqDiff, bound, refsC, AV.cells, AV.ref1, flatC, oneC, elems, okLog, disj, befOf, Int.reduceLT, Int.reduceLE, Int.reduceToNat, Int.reducePow, Nat.reduceLeDiff, IntKind.bits, argT, Int.reduceMul, Int.reduceAdd, Int.reduceNeg, Int.reduceSub, Int.reduceEq, Nat.reduceLT, Row.get1, Row.getN, Row.set1, Row.setN, fillE, vW, renM, frM, subRow, Nat.reduceBNe, frs, frOk, frOut]
    · simp only [vS, opP, Go.Vm.step, Go.Vm.ev, delM, setM, binL, binI, shI, binS, unL, cst, cst1, cells1, reduceIte, Nat.reduceAdd, Nat.reduceMul, Nat.reduceEqDiff, bound, refsC, AV.cells, AV.ref1, flatC, oneC, elems, okLog, disj, befOf, Int.reduceLT, Int.reduceLE, Int.reduceToNat, Int.reducePow, Nat.reduceLeDiff, IntKind.bits, argT, Int.reduceMul, Int.reduceAdd, Int.reduceNeg, Int.reduceSub, Int.reduceEq, Nat.reduceLT, Row.get1, Row.getN, Row.set1, Row.setN, fillE]
      refine retW_i (Wk.refl _ _ _ _ _) ?_
      simp only [vS, opP, Go.Vm.step, Go.Vm.ev, delM, setM, binL, binI, shI, binS, unL, cst, cst1, cells1, reduceIte, Nat.reduceAdd, Nat.reduceMul, Nat.reduceEqDiff, bound, refsC, AV.cells, AV.ref1, flatC, oneC, elems, okLog, disj, befOf, Int.reduceLT, Int.reduceLE, Int.reduceToNat, Int.reducePow, Nat.reduceLeDiff, IntKind.bits, argT, Int.reduceMul, Int.reduceAdd, Int.reduceNeg, Int.reduceSub, Int.reduceEq, Nat.reduceLT, Row.get1, Row.getN, Row.set1, Row.setN, fillE, vW, renM, frM, subRow, Nat.reduceBNe, frs, frOk, frOut, resV]
      rfl
  · have hz' : ¬ (l.length : Int) = 0 := by omega
    simp only [vS, opP, Go.Vm.step, Go.Vm.ev, delM, setM, binL, binI, shI, binS, unL, cst, cst1, cells1, reduceIte, Nat.reduceAdd, Nat.reduceMul, Nat.reduceEqDiff, bound, refsC, AV.cells, AV.ref1, flatC, oneC, elems, okLog, disj, befOf, Int.reduceLT, Int.reduceLE, Int.reduceToNat, Int.reducePow, Nat.reduceLeDiff, IntKind.bits, argT, Int.reduceMul, Int.reduceAdd, Int.reduceNeg, Int.reduceSub, Int.reduceEq, Nat.reduceLT, Row.get1, Row.getN, Row.set1, Row.setN, fillE, subLL_eE, eE_length, subLL_n64, hn1, hn2, hz']
    refine callP_ok (New_ok (h0 hz) hn) ?_
    simp only [vS, opP, Go.Vm.step, Go.Vm.ev, delM, setM, binL, binI, shI, binS, unL, cst, cst1, cells1, reduceIte, Nat.reduceAdd, Nat.reduceMul, Nat.reduceEqDiff, bound, refsC, AV.cells, AV.ref1, flatC, oneC, elems, okLog, disj, befOf, Int.reduceLT, Int.reduceLE, Int.reduceToNat, Int.reducePow, Nat.reduceLeDiff, IntKind.bits, argT, Int.reduceMul, Int.reduceAdd, Int.reduceNeg, Int.reduceSub, Int.reduceEq, Nat.reduceLT, Row.get1, Row.getN, Row.set1, Row.setN, fillE, effs, rws, List.map_cons, List.map_nil]
    refine loop_by (α := LS) (fun x => x.k ≤ o.length ∧ (∃ r d, Ok n x.u (run l (s0 n l) (o.take x.k)).L r d) ∧ (run l (s0 n l) (o.take x.k)).mks.length = l.length ∧ -(x.k * 2147483648 : Int) ≤ (run l (s0 n l) (o.take x.k)).sum ∧ (run l (s0 n l) (o.take x.k)).sum ≤ (x.k * 2147483648 : Int)) (fun x => o.length - x.k)
      (fun x => [(1, dE l), (9, .own 0 0 l.length 1), (10, .ptr 1 0 0), (12, .i .i64 (run l (s0 n l) (o.take x.k)).sum), (32, .deep 1 (nE64 o)), (33, .i .i64 o.length), (34, .i .i64 x.k)])
      (fun x => (0, ⟨1, enc .b (run l (s0 n l) (o.take x.k)).mks⟩) :: rws 1 2 3 4 5 n x.u []) 8 ?_ ⟨0, newU n⟩ ⟨Nat.zero_le _, ?_, ?_, ?_, ?_⟩ ?_
    · rintro ⟨k, u⟩ ⟨hk0, ⟨r, d, ok⟩, hml, hs1, hs2⟩
      simp only at hk0 ok hml hs1 hs2
      generalize hst : run l (s0 n l) (o.take k) = st at *
      by_cases hk : k < o.length
      · have hi := ho _ (g_mem hk)
        have hrs := run_step (l := l) (s := s0 n l) hk
        rw [hst] at hrs
        have hgo : (nats o)[k]? = some ((g o k : Nat) : Int) := by rw [nats_get, g_get hk]; rfl
        generalize hii : g o k = i at *
        have hol2 := nats_length o
        have hge := eE_get hi
        rw [ea_eq hc hi, eb_eq hc hi] at hge
        have ha := ea_lt hc hi
        have hb := eb_lt hc hi
        have hsame := ok.same _ _ ha hb
        simp only [vS, opP, Go.Vm.step, Go.Vm.ev, delM, setM, binL, binI, shI, binS, unL, cst, cst1, cells1, reduceIte, Nat.reduceAdd, Nat.reduceMul, Nat.reduceEqDiff, bound, refsC, AV.cells, AV.ref1, flatC, oneC, elems, okLog, disj, befOf, Int.reduceLT, Int.reduceLE, Int.reduceToNat, Int.reducePow, Nat.reduceLeDiff, IntKind.bits, argT, Int.reduceMul, Int.reduceAdd, Int.reduceNeg, Int.reduceSub, Int.reduceEq, Nat.reduceLT, Row.get1, Row.getN, Row.set1, Row.setN, fillE, hk, hol2, hgo, hi, hge, eE_length, subLL_eE, List.drop_succ_cons]
        have hww := hw _ (getD_mem hi)
        have wc : IntKind.i64.wrap (l.getD i default).w = ew l i := by rw [IntKind.wrap_i64]; unfold ew; omega
        have ws : IntKind.i64.wrap (st.sum + ew l i) = st.sum + ew l i := by
          rw [IntKind.wrap_i64]
          unfold ew
          have : (k : Int) ≤ 60 := by omega
          omega
        have hew : -2147483648 ≤ ew l i ∧ ew l i ≤ 2147483647 := hww
        by_cases e : r (ea l i) = r (eb l i)
        · have e2 : takeE l st i = st := by rw [takeE, if_pos (hsame.1 e)]
          refine callP_ok (Join_same ok hn (by decide) lay6 ha hb e) ?_
          simp only [vS, opP, Go.Vm.step, Go.Vm.ev, delM, setM, binL, binI, shI, binS, unL, cst, cst1, cells1, reduceIte, Nat.reduceAdd, Nat.reduceMul, Nat.reduceEqDiff, bound, refsC, AV.cells, AV.ref1, flatC, oneC, elems, okLog, disj, befOf, Int.reduceLT, Int.reduceLE, Int.reduceToNat, Int.reducePow, Nat.reduceLeDiff, IntKind.bits, argT, Int.reduceMul, Int.reduceAdd, Int.reduceNeg, Int.reduceSub, Int.reduceEq, Nat.reduceLT, Row.get1, Row.getN, Row.set1, Row.setN, fillE, winc hk (by omega)]
          refine ⟨⟨k + 1, u⟩, ⟨hk, ?_, ?_, ?_, ?_⟩, by simp only; omega, Wk.norm [(0, 0), (1, 1), (2, 2), (3, 3), (4, 4), (5, 5)] (by decide) ?_ ?_⟩
          · simp only [hrs, e2]; exact ⟨r, d, ok⟩
          · simp only [hrs, e2]; exact hml
          · simp only [hrs, e2]; omega
          · simp only [hrs, e2]; omega
          · simp only [vS, opP, Go.Vm.step, Go.Vm.ev, delM, setM, binL, binI, shI, binS, unL, cst, cst1, cells1, reduceIte, Nat.reduceAdd, Nat.reduceMul, Nat.reduceEqDiff, bound, refsC, AV.cells, AV.ref1, flatC, oneC, elems, okLog, disj, befOf, Int.reduceLT, Int.reduceLE, Int.reduceToNat, Int.reducePow, Nat.reduceLeDiff, IntKind.bits, argT, Int.reduceMul, Int.reduceAdd, Int.reduceNeg, Int.reduceSub, Int.reduceEq, Nat.reduceLT, Row.get1, Row.getN, Row.set1, Row.setN, fillE, vW, renM, frM, subRow, Nat.reduceBNe, frs, frOk, frOut, subLL_eE, subLL_n64, hrs, e2]
          · simp only [vS, opP, Go.Vm.step, Go.Vm.ev, delM, setM, binL, binI, shI, binS, unL, cst, cst1, cells1, reduceIte, Nat.reduceAdd, Nat.reduceMul, Nat.reduceEqDiff, bound, refsC, AV.cells, AV.ref1, flatC, oneC, elems, okLog, disj, befOf, Int.reduceLT, Int.reduceLE, Int.reduceToNat, Int.reducePow, Nat.reduceLeDiff, IntKind.bits, argT, Int.reduceMul, Int.reduceAdd, Int.reduceNeg, Int.reduceSub, Int.reduceEq, Nat.reduceLT, Row.get1, Row.getN, Row.set1, Row.setN, fillE, vW, renM, frM, subRow, Nat.reduceBNe, frs, frOk, frOut, rws, subLL_nE, subLL_stE, subLL_row, hrs, e2]
        · have e2 := takeE_ne (l := l) (s := st) (i := i) fun h => e (hsame.2 h)
          refine callP_ok (Join_ok ok hn (by decide) lay6 ha hb e) ?_
          simp only [vS, opP, Go.Vm.step, Go.Vm.ev, delM, setM, binL, binI, shI, binS, unL, cst, cst1, cells1, reduceIte, Nat.reduceAdd, Nat.reduceMul, Nat.reduceEqDiff, bound, refsC, AV.cells, AV.ref1, flatC, oneC, elems, okLog, disj, befOf, Int.reduceLT, Int.reduceLE, Int.reduceToNat, Int.reducePow, Nat.reduceLeDiff, IntKind.bits, argT, Int.reduceMul, Int.reduceAdd, Int.reduceNeg, Int.reduceSub, Int.reduceEq, Nat.reduceLT, Row.get1, Row.getN, Row.set1, Row.setN, fillE, effsJ]
          refine ⟨by decide, ?_⟩
          simp only [vS, opP, Go.Vm.step, Go.Vm.ev, delM, setM, binL, binI, shI, binS, unL, cst, cst1, cells1, reduceIte, Nat.reduceAdd, Nat.reduceMul, Nat.reduceEqDiff, bound, refsC, AV.cells, AV.ref1, flatC, oneC, elems, okLog, disj, befOf, Int.reduceLT, Int.reduceLE, Int.reduceToNat, Int.reducePow, Nat.reduceLeDiff, IntKind.bits, argT, Int.reduceMul, Int.reduceAdd, Int.reduceNeg, Int.reduceSub, Int.reduceEq, Nat.reduceLT, Row.get1, Row.getN, Row.set1, Row.setN, fillE, hml, hi, hge, eE_length, subLL_eE, List.drop_succ_cons, wc, ws, rws, winc hk (by omega)]
          obtain ⟨r', d', ok', _⟩ := jn_ok ok ha hb fun h => e (hsame.2 h)
          refine ⟨⟨k + 1, jn u r (ea l i) (eb l i)⟩, ⟨hk, ?_, ?_, ?_, ?_⟩, by simp only; omega, Wk.norm [(0, 0), (1, 1), (2, 2), (3, 3), (4, 4), (128, 5)] (by decide) ?_ ?_⟩
          · simp only [hrs, e2]; exact ⟨r', d', ok'⟩
          · simp only [hrs, e2, List.length_set]; exact hml
          · simp only [hrs, e2]; omega
          · simp only [hrs, e2]; omega
          · simp only [vS, opP, Go.Vm.step, Go.Vm.ev, delM, setM, binL, binI, shI, binS, unL, cst, cst1, cells1, reduceIte, Nat.reduceAdd, Nat.reduceMul, Nat.reduceEqDiff, bound, refsC, AV.cells, AV.ref1, flatC, oneC, elems, okLog, disj, befOf, Int.reduceLT, Int.reduceLE, Int.reduceToNat, Int.reducePow, Nat.reduceLeDiff, IntKind.bits, argT, Int.reduceMul, Int.reduceAdd, Int.reduceNeg, Int.reduceSub, Int.reduceEq, Nat.reduceLT, Row.get1, Row.getN, Row.set1, Row.setN, fillE, vW, renM, frM, subRow, Nat.reduceBNe, frs, frOk, frOut, subLL_eE, subLL_n64, hrs, e2]
          · simp only [vS, opP, Go.Vm.step, Go.Vm.ev, delM, setM, binL, binI, shI, binS, unL, cst, cst1, cells1, reduceIte, Nat.reduceAdd, Nat.reduceMul, Nat.reduceEqDiff, bound, refsC, AV.cells, AV.ref1, flatC, oneC, elems, okLog, disj, befOf, Int.reduceLT, Int.reduceLE, Int.reduceToNat, Int.reducePow, Nat.reduceLeDiff, IntKind.bits, argT, Int.reduceMul, Int.reduceAdd, Int.reduceNeg, Int.reduceSub, Int.reduceEq, Nat.reduceLT, Row.get1, Row.getN, Row.set1, Row.setN, fillE, vW, renM, frM, subRow, Nat.reduceBNe, frs, frOk, frOut, rws, subLL_nE, subLL_stE, subLL_row, hrs, e2, List.append_nil]
      · obtain rfl : k = o.length := by omega
        have eo : o.take o.length = o := List.take_of_length_le (Nat.le_refl _)
        rw [eo] at hst
        have hol2 := nats_length o
        simp only [vS, opP, Go.Vm.step, Go.Vm.ev, delM, setM, binL, binI, shI, binS, unL, cst, cst1, cells1, reduceIte, Nat.reduceAdd, Nat.reduceMul, Nat.reduceEqDiff, bound, refsC, AV.cells, AV.ref1, flatC, oneC, elems, okLog, disj, befOf, Int.reduceLT, Int.reduceLE, Int.reduceToNat, Int.reducePow, Nat.reduceLeDiff, IntKind.bits, argT, Int.reduceMul, Int.reduceAdd, Int.reduceNeg, Int.reduceSub, Int.reduceEq, Nat.reduceLT, Row.get1, Row.getN, Row.set1, Row.setN, fillE, hk, hol2]
        refine run_rgnW (Wk.fr 0 (l2 := [(9, .deep 1 (enc .b st.mks)), (12, .i .i64 st.sum)]) (m2 := rws 1 2 3 4 5 n u []) (nb2 := 8) rfl ?_ ?_) ?_
        · have ht : st.mks.take l.length = st.mks := List.take_of_length_le (by omega)
          have ht2 : l.length ≤ st.mks.length := by omega
          simp only [vS, opP, Go.Vm.step, Go.Vm.ev, delM, setM, binL, binI, shI, binS, unL, cst, cst1, cells1, reduceIte, Nat.reduceAdd, Nat.reduceMul, Nat.reduceEqDiff, bound, refsC, AV.cells, AV.ref1, flatC, oneC, elems, okLog, disj, befOf, Int.reduceLT, Int.reduceLE, Int.reduceToNat, Int.reducePow, Nat.reduceLeDiff, IntKind.bits, argT, Int.reduceMul, Int.reduceAdd, Int.reduceNeg, Int.reduceSub, Int.reduceEq, Nat.reduceLT, Row.get1, Row.getN, Row.set1, Row.setN, fillE, vW, renM, frM, subRow, Nat.reduceBNe, frs, frOk, frOut, ht, ht2]
        · simp only [vS, opP, Go.Vm.step, Go.Vm.ev, delM, setM, binL, binI, shI, binS, unL, cst, cst1, cells1, reduceIte, Nat.reduceAdd, Nat.reduceMul, Nat.reduceEqDiff, bound, refsC, AV.cells, AV.ref1, flatC, oneC, elems, okLog, disj, befOf, Int.reduceLT, Int.reduceLE, Int.reduceToNat, Int.reducePow, Nat.reduceLeDiff, IntKind.bits, argT, Int.reduceMul, Int.reduceAdd, Int.reduceNeg, Int.reduceSub, Int.reduceEq, Nat.reduceLT, Row.get1, Row.getN, Row.set1, Row.setN, fillE, vW, renM, frM, subRow, Nat.reduceBNe, frs, frOk, frOut, rws, subLL_nE, subLL_stE, subLL_row]
        · simp only [vS, opP, Go.Vm.step, Go.Vm.ev, delM, setM, binL, binI, shI, binS, unL, cst, cst1, cells1, reduceIte, Nat.reduceAdd, Nat.reduceMul, Nat.reduceEqDiff, bound, refsC, AV.cells, AV.ref1, flatC, oneC, elems, okLog, disj, befOf, Int.reduceLT, Int.reduceLE, Int.reduceToNat, Int.reducePow, Nat.reduceLeDiff, IntKind.bits, argT, Int.reduceMul, Int.reduceAdd, Int.reduceNeg, Int.reduceSub, Int.reduceEq, Nat.reduceLT, Row.get1, Row.getN, Row.set1, Row.setN, fillE]
          refine retW_i (Wk.refl _ _ _ _ _) ?_
          simp only [vS, opP, Go.Vm.step, Go.Vm.ev, delM, setM, binL, binI, shI, binS, unL, cst, cst1, cells1, reduceIte, Nat.reduceAdd, Nat.reduceMul, Nat.reduceEqDiff, bound, refsC, AV.cells, AV.ref1, flatC, oneC, elems, okLog, disj, befOf, Int.reduceLT, Int.reduceLE, Int.reduceToNat, Int.reducePow, Nat.reduceLeDiff, IntKind.bits, argT, Int.reduceMul, Int.reduceAdd, Int.reduceNeg, Int.reduceSub, Int.reduceEq, Nat.reduceLT, Row.get1, Row.getN, Row.set1, Row.setN, fillE, vW, renM, frM, subRow, Nat.reduceBNe, frs, frOk, frOut, resV, hst]
    · exact ⟨_, _, new_ok n⟩
    · simp [SpanM.run, s0]
    · simp [SpanM.run, s0]
    · simp [SpanM.run, s0]
    · refine Wk.norm [(40, 0), (88, 1), (89, 2), (90, 3), (91, 4), (92, 5)] (by decide) ?_ ?_
      · have hol2 := nats_length o
        simp only [vS, opP, Go.Vm.step, Go.Vm.ev, delM, setM, binL, binI, shI, binS, unL, cst, cst1, cells1, reduceIte, Nat.reduceAdd, Nat.reduceMul, Nat.reduceEqDiff, bound, refsC, AV.cells, AV.ref1, flatC, oneC, elems, okLog, disj, befOf, Int.reduceLT, Int.reduceLE, Int.reduceToNat, Int.reducePow, Nat.reduceLeDiff, IntKind.bits, argT, Int.reduceMul, Int.reduceAdd, Int.reduceNeg, Int.reduceSub, Int.reduceEq, Nat.reduceLT, Row.get1, Row.getN, Row.set1, Row.setN, fillE, vW, renM, frM, subRow, Nat.reduceBNe, frs, frOk, frOut, subLL_eE, hol2]
        rfl
      · simp only [vS, opP, Go.Vm.step, Go.Vm.ev, delM, setM, binL, binI, shI, binS, unL, cst, cst1, cells1, reduceIte, Nat.reduceAdd, Nat.reduceMul, Nat.reduceEqDiff, bound, refsC, AV.cells, AV.ref1, flatC, oneC, elems, okLog, disj, befOf, Int.reduceLT, Int.reduceLE, Int.reduceToNat, Int.reducePow, Nat.reduceLeDiff, IntKind.bits, argT, Int.reduceMul, Int.reduceAdd, Int.reduceNeg, Int.reduceSub, Int.reduceEq, Nat.reduceLT, Row.get1, Row.getN, Row.set1, Row.setN, fillE, vW, renM, frM, subRow, Nat.reduceBNe, frs, frOk, frOut, rws, subLL_nE, subLL_stE, subLL_row, List.append_nil]
        rfl
end
end Go.Proofs.Ytkjmlfbafmdegaa
