/- SpanMany: its walk. -/
import Derived.Test.YtkjmlfbafmdegaaSpanPS
import Derived.Test.YtkjmlfbafmdegaaSpanM4
namespace Go.Proofs.Ytkjmlfbafmdegaa
open Go Go.Vm Go.UniteM Go.SpanM
open Go.PermM (nats nats_length nats_get nats_append get_some)
set_option linter.unusedSectionVars false
set_option linter.unusedSimpArgs false
variable [Inhabited LayT]
/-! ### plait/plaitlaw09.SpanMany -/
def k_law_SpanMany : Nat → Bool × List Nat := fun | 0 => (false, [0, 1]) | 1 => (false, [0, 1, 34]) | 2 => (false, [4]) | 3 => (false, [0, 1, 5, 6, 7]) | 4 => (false, [0, 1, 5, 6, 7, 8, 9, 10]) | 5 => (false, [0, 1, 5, 6, 8, 9, 71]) | 6 => (false, [4]) | 7 => (false, [1, 5, 6, 8, 9, 11]) | 8 => (false, [1, 5, 6, 8, 9, 11, 12, 13, 14]) | 9 => (false, [1, 5, 6, 8, 9, 11, 12, 13, 14, 15]) | 10 => (false, [1, 5, 6, 8, 9, 11, 12, 13, 14, 15, 77]) | 11 => (false, [1, 5, 6, 8, 9, 11, 12, 13, 14, 15]) | 12 => (false, [1, 5, 6, 8, 9, 12, 13, 14, 15, 16, 17]) | 13 => (false, [1, 5, 6, 8, 9, 11, 12, 13, 14, 15, 17]) | 14 => (false, [1, 5, 6, 8, 9, 11, 12, 13, 14, 15, 96]) | 15 => (false, [1, 5, 6, 8, 9, 11, 12, 13, 14, 15]) | 16 => (false, [1, 5, 6, 8, 9, 11, 12, 13, 14, 15, 102]) | 17 => (false, [1, 5, 6, 8, 9, 11, 12, 13, 14, 15]) | 18 => (false, [1, 5, 6, 8, 9, 11, 12, 13, 14, 15, 108]) | 19 => (false, [1, 5, 6, 8, 9, 11, 12, 13, 14, 15]) | 20 => (false, [1, 5, 6, 8, 9, 11, 12, 13, 14, 15, 133]) | 21 => (false, [4]) | 22 => (false, [4]) | _ => (false, [])
def lc_law_SpanMany : LCode := (.seq (.rgn false false [] [0, 1] [⟨(some 4), (.mov (.const (.bool false))), none⟩]) (.seq (.seq (.rgn false false [] [0, 1, 34] [⟨(some 18), (.mov (.tmp 0)), none⟩, ⟨(some 19), (.bin .lss (.tmp 18) (.const (.int .i64 1))), none⟩, ⟨(some 20), (.mov (.tmp 19)), none⟩, ⟨(some 21), (.mov (.tmp 0)), (some (20, false))⟩, ⟨(some 22), (.bin .gtr (.tmp 21) (.const (.int .i64 60))), (some (20, false))⟩, ⟨(some 23), (.pick (.tmp 20) (.const (.bool true)) (.tmp 22)), none⟩, ⟨(some 24), (.mov (.tmp 23)), none⟩, ⟨(some 25), (.mov (.tmp 1)), (some (24, false))⟩, ⟨(some 26), (.lenL (.tmp 25)), (some (24, false))⟩, ⟨(some 27), (.bin .gtr (.tmp 26) (.const (.int .i64 60))), (some (24, false))⟩, ⟨(some 28), (.pick (.tmp 24) (.const (.bool true)) (.tmp 27)), none⟩, ⟨(some 29), (.mov (.tmp 28)), none⟩, ⟨(some 30), (.mov (.tmp 0)), (some (29, false))⟩, ⟨(some 31), (.mov (.tmp 1)), (some (29, false))⟩, ⟨(some 32), (.call 13 [(.tmp 30), (.tmp 31)]), (some (29, false))⟩, ⟨(some 33), (.bin .neq (.tmp 32) (.const (.int .i64 0))), (some (29, false))⟩, ⟨(some 34), (.pick (.tmp 29) (.const (.bool true)) (.tmp 33)), none⟩]) (.cond (.tmp 34) (.seq (.rgn false false [] [4] [⟨(some 35), (.call 6 []), none⟩, ⟨(some 4), (.mov (.tmp 35)), none⟩]) .ret) .skip)) (.seq (.rgn false false [] [0, 1, 5, 6, 7] [⟨(some 37), (.mov (.tmp 0)), none⟩, ⟨(some 38), (.mov (.tmp 1)), none⟩, ⟨(some 39), (.call 8 [(.tmp 38)]), none⟩, ⟨(some 40), (.call 7 [(.tmp 37), (.tmp 39)]), none⟩, ⟨(some 36), (.mov (.tmp 40)), none⟩, ⟨(some 41), (.ext (.tmp 36) 0), none⟩, ⟨(some 42), (.ext (.tmp 36) 1), none⟩, ⟨(some 43), (.ext (.tmp 36) 2), none⟩, ⟨(some 5), (.mov (.tmp 41)), none⟩, ⟨(some 6), (.mov (.tmp 42)), none⟩, ⟨(some 7), (.mov (.tmp 43)), none⟩]) (.seq (.rgn false false [] [0, 1, 5, 6, 7, 8, 9, 10] [⟨(some 45), (.mov (.tmp 0)), none⟩, ⟨(some 46), (.mov (.tmp 1)), none⟩, ⟨(some 47), (.call 8 [(.tmp 46)]), none⟩, ⟨(some 48), (.call 15 [(.tmp 45), (.tmp 47)]), none⟩, ⟨(some 44), (.mov (.tmp 48)), none⟩, ⟨(some 49), (.ext (.tmp 44) 0), none⟩, ⟨(some 50), (.ext (.tmp 44) 1), none⟩, ⟨(some 51), (.ext (.tmp 44) 2), none⟩, ⟨(some 8), (.mov (.tmp 49)), none⟩, ⟨(some 9), (.mov (.tmp 50)), none⟩, ⟨(some 10), (.mov (.tmp 51)), none⟩]) (.seq (.seq (.rgn false false [] [0, 1, 5, 6, 8, 9, 71] [⟨(some 52), (.mov (.tmp 7)), none⟩, ⟨(some 53), (.eqn true false (.tmp 52)), none⟩, ⟨(some 54), (.mov (.tmp 53)), none⟩, ⟨(some 55), (.mov (.tmp 10)), (some (54, false))⟩, ⟨(some 56), (.eqn true false (.tmp 55)), (some (54, false))⟩, ⟨(some 57), (.pick (.tmp 54) (.const (.bool true)) (.tmp 56)), none⟩, ⟨(some 58), (.mov (.tmp 57)), none⟩, ⟨(some 59), (.mov (.tmp 5)), (some (58, false))⟩, ⟨(some 60), (.lenL (.tmp 59)), (some (58, false))⟩, ⟨(some 61), (.mov (.tmp 1)), (some (58, false))⟩, ⟨(some 62), (.lenL (.tmp 61)), (some (58, false))⟩, ⟨(some 63), (.bin .neq (.tmp 60) (.tmp 62)), (some (58, false))⟩, ⟨(some 64), (.pick (.tmp 58) (.const (.bool true)) (.tmp 63)), none⟩, ⟨(some 65), (.mov (.tmp 64)), none⟩, ⟨(some 66), (.mov (.tmp 8)), (some (65, false))⟩, ⟨(some 67), (.lenL (.tmp 66)), (some (65, false))⟩, ⟨(some 68), (.mov (.tmp 1)), (some (65, false))⟩, ⟨(some 69), (.lenL (.tmp 68)), (some (65, false))⟩, ⟨(some 70), (.bin .neq (.tmp 67) (.tmp 69)), (some (65, false))⟩, ⟨(some 71), (.pick (.tmp 65) (.const (.bool true)) (.tmp 70)), none⟩]) (.cond (.tmp 71) (.seq (.rgn false false [] [4] [⟨(some 4), (.mov (.const (.bool false))), none⟩]) .ret) .skip)) (.seq (.rgn false false [] [1, 5, 6, 8, 9, 11] [⟨(some 72), (.mov (.tmp 0)), none⟩, ⟨(some 73), (.call 9 [(.tmp 72)]), none⟩, ⟨(some 11), (.mov (.tmp 73)), none⟩]) (.seq (.rgn false false [] [1, 5, 6, 8, 9, 11, 12, 13, 14] [⟨(some 12), (.mov (.const (.int .i64 0))), none⟩, ⟨(some 13), (.mov (.const (.int .i64 0))), none⟩, ⟨(some 14), (.mov (.const (.int .i64 0))), none⟩]) (.seq (.seq (.rgn false false [] [1, 5, 6, 8, 9, 11, 12, 13, 14, 15] [⟨(some 15), (.mov (.const (.int .i64 0))), none⟩]) (.block 0 (.loop (.seq (.seq (.rgn false false [] [1, 5, 6, 8, 9, 11, 12, 13, 14, 15, 77] [⟨(some 74), (.mov (.tmp 15)), none⟩, ⟨(some 75), (.mov (.tmp 1)), none⟩, ⟨(some 76), (.lenL (.tmp 75)), none⟩, ⟨(some 77), (.bin .lss (.tmp 74) (.tmp 76)), none⟩]) (.cond (.tmp 77) .skip (.exit 0))) (.seq (.block 1 (.seq (.rgn false true [0, 0, 0, 6, 14, 30, 0, 0, 192, 448, 960, 2047, 4095, 8191, 8191, 16383, 65535] [1, 5, 6, 8, 9, 12, 13, 14, 15, 16, 17] [⟨(some 81), (.mov (.tmp 11)), none⟩, ⟨(some 82), (.mov (.tmp 1)), none⟩, ⟨(some 83), (.mov (.tmp 15)), none⟩, ⟨(some 84), (.idxA 3 (.tmp 82) (.tmp 83)), none⟩, ⟨(some 85), (.fldA 0 (.tmp 84)), none⟩, ⟨(some 86), (.load 1 false (.tmp 85)), none⟩, ⟨(some 87), (.mov (.tmp 1)), none⟩, ⟨(some 88), (.mov (.tmp 15)), none⟩, ⟨(some 89), (.idxA 3 (.tmp 87) (.tmp 88)), none⟩, ⟨(some 90), (.fldA 1 (.tmp 89)), none⟩, ⟨(some 91), (.load 1 false (.tmp 90)), none⟩, ⟨(some 92), (.call 10 [(.tmp 81), (.tmp 86), (.tmp 91)]), none⟩, ⟨(some 80), (.mov (.tmp 92)), none⟩, ⟨(some 93), (.ext (.tmp 80) 0), none⟩, ⟨(some 94), (.ext (.tmp 80) 1), none⟩, ⟨(some 16), (.mov (.tmp 93)), none⟩, ⟨(some 17), (.mov (.tmp 94)), none⟩]) (.seq (.rgn false false [] [1, 5, 6, 8, 9, 11, 12, 13, 14, 15, 17] [⟨(some 95), (.mov (.tmp 16)), none⟩, ⟨(some 11), (.mov (.tmp 95)), none⟩]) (.seq (.seq (.rgn false false [] [1, 5, 6, 8, 9, 11, 12, 13, 14, 15, 96] [⟨(some 96), (.mov (.tmp 17)), none⟩]) (.cond (.tmp 96) (.rgn false false [] [1, 5, 6, 8, 9, 11, 12, 13, 14, 15] [⟨(some 97), (.mov (.tmp 12)), none⟩, ⟨(some 98), (.bin .add (.tmp 97) (.const (.int .i64 1))), none⟩, ⟨(some 12), (.mov (.tmp 98)), none⟩]) .skip)) (.seq (.seq (.rgn false false [] [1, 5, 6, 8, 9, 11, 12, 13, 14, 15, 102] [⟨(some 99), (.mov (.tmp 5)), none⟩, ⟨(some 100), (.mov (.tmp 15)), none⟩, ⟨(some 101), (.idxA 1 (.tmp 99) (.tmp 100)), none⟩, ⟨(some 102), (.load 1 false (.tmp 101)), none⟩]) (.cond (.tmp 102) (.rgn false false [] [1, 5, 6, 8, 9, 11, 12, 13, 14, 15] [⟨(some 103), (.mov (.tmp 13)), none⟩, ⟨(some 104), (.bin .add (.tmp 103) (.const (.int .i64 1))), none⟩, ⟨(some 13), (.mov (.tmp 104)), none⟩]) .skip)) (.seq (.seq (.rgn false false [] [1, 5, 6, 8, 9, 11, 12, 13, 14, 15, 108] [⟨(some 105), (.mov (.tmp 8)), none⟩, ⟨(some 106), (.mov (.tmp 15)), none⟩, ⟨(some 107), (.idxA 1 (.tmp 105) (.tmp 106)), none⟩, ⟨(some 108), (.load 1 false (.tmp 107)), none⟩]) (.cond (.tmp 108) (.rgn false false [] [1, 5, 6, 8, 9, 11, 12, 13, 14, 15] [⟨(some 109), (.mov (.tmp 14)), none⟩, ⟨(some 110), (.bin .add (.tmp 109) (.const (.int .i64 1))), none⟩, ⟨(some 14), (.mov (.tmp 110)), none⟩]) .skip)) (.seq (.rgn false true [0, 0, 3, 7, 15, 0, 0, 96, 224, 480, 1023, 2047, 4095, 4095, 16383, 32767, 65535, 131071, 131071, 524287, 1048575, 2097151, 4194303] [1, 5, 6, 8, 9, 11, 12, 13, 14, 15, 133] [⟨(some 111), (.mov (.tmp 1)), none⟩, ⟨(some 112), (.mov (.tmp 15)), none⟩, ⟨(some 113), (.idxA 3 (.tmp 111) (.tmp 112)), none⟩, ⟨(some 114), (.fldA 0 (.tmp 113)), none⟩, ⟨(some 115), (.load 1 false (.tmp 114)), none⟩, ⟨(some 116), (.mov (.tmp 1)), none⟩, ⟨(some 117), (.mov (.tmp 15)), none⟩, ⟨(some 118), (.idxA 3 (.tmp 116) (.tmp 117)), none⟩, ⟨(some 119), (.fldA 1 (.tmp 118)), none⟩, ⟨(some 120), (.load 1 false (.tmp 119)), none⟩, ⟨(some 121), (.bin .eql (.tmp 115) (.tmp 120)), none⟩, ⟨(some 122), (.mov (.tmp 121)), none⟩, ⟨(some 123), (.mov (.tmp 5)), (some (122, true))⟩, ⟨(some 124), (.mov (.tmp 15)), (some (122, true))⟩, ⟨(some 125), (.idxA 1 (.tmp 123) (.tmp 124)), (some (122, true))⟩, ⟨(some 126), (.load 1 false (.tmp 125)), (some (122, true))⟩, ⟨(some 127), (.mov (.tmp 126)), (some (122, true))⟩, ⟨(some 128), (.mov (.tmp 8)), (some (127, false))⟩, ⟨(some 129), (.mov (.tmp 15)), (some (127, false))⟩, ⟨(some 130), (.idxA 1 (.tmp 128) (.tmp 129)), (some (127, false))⟩, ⟨(some 131), (.load 1 false (.tmp 130)), (some (127, false))⟩, ⟨(some 132), (.pick (.tmp 127) (.const (.bool true)) (.tmp 131)), (some (122, true))⟩, ⟨(some 133), (.pick (.tmp 122) (.tmp 132) (.const (.bool false))), none⟩]) (.cond (.tmp 133) (.seq (.rgn false false [] [4] [⟨(some 4), (.mov (.const (.bool false))), none⟩]) .ret) .skip)))))))) (.rgn false false [] [1, 5, 6, 8, 9, 11, 12, 13, 14, 15] [⟨(some 78), (.mov (.tmp 15)), none⟩, ⟨(some 79), (.bin .add (.tmp 78) (.const (.int .i64 1))), none⟩, ⟨(some 15), (.mov (.tmp 79)), none⟩])))))) (.seq (.rgn false false [] [4] [⟨(some 134), (.mov (.tmp 13)), none⟩, ⟨(some 135), (.mov (.tmp 12)), none⟩, ⟨(some 136), (.bin .eql (.tmp 134) (.tmp 135)), none⟩, ⟨(some 137), (.mov (.tmp 136)), none⟩, ⟨(some 138), (.mov (.tmp 14)), (some (137, true))⟩, ⟨(some 139), (.mov (.tmp 12)), (some (137, true))⟩, ⟨(some 140), (.bin .eql (.tmp 138) (.tmp 139)), (some (137, true))⟩, ⟨(some 141), (.pick (.tmp 137) (.tmp 140) (.const (.bool false))), none⟩, ⟨(some 142), (.mov (.tmp 141)), none⟩, ⟨(some 143), (.mov (.tmp 6)), (some (142, true))⟩, ⟨(some 144), (.mov (.tmp 9)), (some (142, true))⟩, ⟨(some 145), (.bin .leq (.tmp 143) (.tmp 144)), (some (142, true))⟩, ⟨(some 146), (.pick (.tmp 142) (.tmp 145) (.const (.bool false))), none⟩, ⟨(some 147), (.mov (.tmp 146)), none⟩, ⟨(some 148), (.call 6 []), (some (147, true))⟩, ⟨(some 149), (.pick (.tmp 147) (.tmp 148) (.const (.bool false))), none⟩, ⟨(some 4), (.mov (.tmp 149)), none⟩]) .ret)))))))))
theorem comp_law_SpanMany : compC Try.prog Try.f5.ntmps k_law_SpanMany (Try.f5.body.getD .skip) = some lc_law_SpanMany := by kernel_rfl
theorem body_law_SpanMany : Try.f5.body = some (Try.f5.body.getD .skip) := by kernel_rfl
theorem pure_law_SpanMany {args : List AV} {M : Mem} {slot : Nat} {v : AV} (hl : args.length ≤ Try.f5.ntmps) (h : run Try.prog Try.f5.ntmps 0 lc_law_SpanMany (retP [4] v) (lkT (argT (ren (lkσ [])) 0 args)) (lkM []) 0) : CallOk Try.prog 5 args M slot { v } :=
  callOk_pure mix Try.func5 body_law_SpanMany (by kernel_rfl) (by kernel_rfl) comp_law_SpanMany hl (run_imp _ (fun _ _ _ _ h => retP_W h) _ _ _ h)
section
variable {M : Mem} {slot : Nat}
theorem refJoin_any {l : List E} {L : List Nat} {i : Nat} (ha : ea l i < L.length) (hb : eb l i < L.length) (hn : L.length ≤ 100000) : CallOk Try.prog 10 [dN L, .i .i64 (ea l i : Nat), .i .i64 (eb l i : Nat)] M slot { v := .tup [dN (jl l L i), .b (cand l L i)] } := by
  by_cases e : g L (ea l i) = g L (eb l i)
  · rw [jl_no (cand_f.2 e), cand_f.2 e]
    exact refJoin_same ha hb e
  · rw [cand_t.2 e]
    exact refJoin_ok ha hb hn e
theorem bget {m : List Bool} {i : Nat} (h : i < m.length) : m[i]? = some (m.getD i false) := by simp [List.getD_eq_getElem?_getD, h]
def bn (b : Bool) : Nat := if b = true then 1 else 0
theorem bn_t : bn true = 1 := rfl
theorem bn_f : bn false = 0 := rfl
theorem count_step {m : List Bool} {i : Nat} (h : i < m.length) : (m.take (i + 1)).count true = (m.take i).count true + bn (m.getD i false) := by
  rw [List.take_add_one, bget h, List.count_append]
  cases m.getD i false <;> simp [bn]
def LI (l : List E) (n i : Nat) : List Nat := (List.range i).foldl (jl l) (List.range n)
theorem LI_succ (l : List E) (n i : Nat) : LI l n (i + 1) = jl l (LI l n i) i := by simp [LI, List.range_succ]
theorem LI_len (l : List E) (n : Nat) : ∀ i, (LI l n i).length = n
  | 0 => by simp [LI]
  | i + 1 => by rw [LI_succ, jl_len, LI_len l n i]
theorem taken_app (l : List E) : ∀ (o o2 L : List Nat), taken l L (o ++ o2) = taken l L o ++ taken l (o.foldl (jl l) L) o2
  | [], _, _ => rfl
  | i :: o, o2, L => by
    show taken l L (i :: (o ++ o2)) = _
    rw [taken, taken, taken_app l o o2]
    split <;> rfl
theorem taken_step (l : List E) (n i : Nat) : (taken l (List.range n) (List.range (i + 1))).length = (taken l (List.range n) (List.range i)).length + bn (cand l (LI l n i) i) := by
  rw [List.range_succ, taken_app, List.length_append]
  congr 1
  show (taken l (LI l n i) [i]).length = _
  cases h : cand l (LI l n i) i <;> simp [taken, h, bn]
theorem count_le60 {m : List Bool} {k : Nat} (h : m.length ≤ 60) : (m.take k).count true ≤ 60 := by
  have := List.count_le_length (a := true) (l := m.take k)
  rw [List.length_take] at this
  omega
theorem taken_le (l : List E) : ∀ (o L : List Nat), (taken l L o).length ≤ o.length
  | [], _ => by simp [taken]
  | i :: o, L => by
    rw [taken]
    have := taken_le l o (jl l L i)
    split <;> simp <;> omega
set_option maxHeartbeats 4000000 in
theorem spanMany_ok {n : Int} {l : List E} (hl : l.length ≤ 4611686018427387904) (hw : In32 l) : CallOk Try.prog 5 [.i .i64 n, dE l] M slot { v := .b true } := by
  refine pure_law_SpanMany (Nat.le_of_ble_eq_true (by kernel_rfl)) ?_; unfold lc_law_SpanMany
  by_cases h1 : n < 1
  · simp only [vS, opP, Go.Vm.step, Go.Vm.ev, delM, setM, binL, binI, shI, binS, unL, cst, cst1, cells1, reduceIte, Nat.reduceAdd, Nat.reduceMul, Nat.reduceEqDiff, bound, refsC, AV.cells, AV.ref1, flatC, oneC, elems, okLog, disj, befOf, Int.reduceLT, Int.reduceLE, Int.reduceToNat, Int.reducePow, Nat.reduceLeDiff, IntKind.bits, argT, Int.reduceMul, Int.reduceAdd, Int.reduceNeg, Int.reduceSub, Int.reduceEq, Nat.reduceLT, Row.get1, Row.getN, Row.set1, Row.setN, fillE, Go.undef, h1]
    refine callP_ok (sure_ok) ?_
    simp only [vS, opP, Go.Vm.step, Go.Vm.ev, delM, setM, binL, binI, shI, binS, unL, cst, cst1, cells1, reduceIte, Nat.reduceAdd, Nat.reduceMul, Nat.reduceEqDiff, bound, refsC, AV.cells, AV.ref1, flatC, oneC, elems, okLog, disj, befOf, Int.reduceLT, Int.reduceLE, Int.reduceToNat, Int.reducePow, Nat.reduceLeDiff, IntKind.bits, argT, Int.reduceMul, Int.reduceAdd, Int.reduceNeg, Int.reduceSub, Int.reduceEq, Nat.reduceLT, Row.get1, Row.getN, Row.set1, Row.setN, fillE]
  by_cases h2 : 60 < n
  · simp only [vS, opP, Go.Vm.step, Go.Vm.ev, delM, setM, binL, binI, shI, binS, unL, cst, cst1, cells1, reduceIte, Nat.reduceAdd, Nat.reduceMul, Nat.reduceEqDiff, bound, refsC, AV.cells, AV.ref1, flatC, oneC, elems, okLog, disj, befOf, Int.reduceLT, Int.reduceLE, Int.reduceToNat, Int.reducePow, Nat.reduceLeDiff, IntKind.bits, argT, Int.reduceMul, Int.reduceAdd, Int.reduceNeg, Int.reduceSub, Int.reduceEq, Nat.reduceLT, Row.get1, Row.getN, Row.set1, Row.setN, fillE, Go.undef, h1, h2]
    refine callP_ok (sure_ok) ?_
    simp only [vS, opP, Go.Vm.step, Go.Vm.ev, delM, setM, binL, binI, shI, binS, unL, cst, cst1, cells1, reduceIte, Nat.reduceAdd, Nat.reduceMul, Nat.reduceEqDiff, bound, refsC, AV.cells, AV.ref1, flatC, oneC, elems, okLog, disj, befOf, Int.reduceLT, Int.reduceLE, Int.reduceToNat, Int.reducePow, Nat.reduceLeDiff, IntKind.bits, argT, Int.reduceMul, Int.reduceAdd, Int.reduceNeg, Int.reduceSub, Int.reduceEq, Nat.reduceLT, Row.get1, Row.getN, Row.set1, Row.setN, fillE]
  by_cases h3' : 60 < l.length
  · have h3 : (60 : Int) < (l.length : Int) := by omega
    simp only [vS, opP, Go.Vm.step, Go.Vm.ev, delM, setM, binL, binI, shI, binS, unL, cst, cst1, cells1, reduceIte, Nat.reduceAdd, Nat.reduceMul, Nat.reduceEqDiff, bound, refsC, AV.cells, AV.ref1, flatC, oneC, elems, okLog, disj, befOf, Int.reduceLT, Int.reduceLE, Int.reduceToNat, Int.reducePow, Nat.reduceLeDiff, IntKind.bits, argT, Int.reduceMul, Int.reduceAdd, Int.reduceNeg, Int.reduceSub, Int.reduceEq, Nat.reduceLT, Row.get1, Row.getN, Row.set1, Row.setN, fillE, Go.undef, h1, h2, h3, subLL_eE, eE_length]
    refine callP_ok (sure_ok) ?_
    simp only [vS, opP, Go.Vm.step, Go.Vm.ev, delM, setM, binL, binI, shI, binS, unL, cst, cst1, cells1, reduceIte, Nat.reduceAdd, Nat.reduceMul, Nat.reduceEqDiff, bound, refsC, AV.cells, AV.ref1, flatC, oneC, elems, okLog, disj, befOf, Int.reduceLT, Int.reduceLE, Int.reduceToNat, Int.reducePow, Nat.reduceLeDiff, IntKind.bits, argT, Int.reduceMul, Int.reduceAdd, Int.reduceNeg, Int.reduceSub, Int.reduceEq, Nat.reduceLT, Row.get1, Row.getN, Row.set1, Row.setN, fillE]
  have h3 : l.length ≤ 60 := by omega
  have h4 : ¬ (60 : Int) < (l.length : Int) := by omega
  simp only [vS, opP, Go.Vm.step, Go.Vm.ev, delM, setM, binL, binI, shI, binS, unL, cst, cst1, cells1, reduceIte, Nat.reduceAdd, Nat.reduceMul, Nat.reduceEqDiff, bound, refsC, AV.cells, AV.ref1, flatC, oneC, elems, okLog, disj, befOf, Int.reduceLT, Int.reduceLE, Int.reduceToNat, Int.reducePow, Nat.reduceLeDiff, IntKind.bits, argT, Int.reduceMul, Int.reduceAdd, Int.reduceNeg, Int.reduceSub, Int.reduceEq, Nat.reduceLT, Row.get1, Row.getN, Row.set1, Row.setN, fillE, Go.undef, h1, h2, h4, subLL_eE, eE_length]
  refine callP_ok (refCheck_ok (by omega)) ?_
  by_cases hc : chk n l = 0
  · obtain ⟨x, rfl⟩ : ∃ x : Nat, n = x := ⟨n.toNat, by omega⟩
    have t1 := tree_mks x l
    have t2 := most_mks x l
    simp only [vS, opP, Go.Vm.step, Go.Vm.ev, delM, setM, binL, binI, shI, binS, unL, cst, cst1, cells1, reduceIte, Nat.reduceAdd, Nat.reduceMul, Nat.reduceEqDiff, bound, refsC, AV.cells, AV.ref1, flatC, oneC, elems, okLog, disj, befOf, Int.reduceLT, Int.reduceLE, Int.reduceToNat, Int.reducePow, Nat.reduceLeDiff, IntKind.bits, argT, Int.reduceMul, Int.reduceAdd, Int.reduceNeg, Int.reduceSub, Int.reduceEq, Nat.reduceLT, Row.get1, Row.getN, Row.set1, Row.setN, fillE, Go.undef, hc]
    refine callP_ok (give_ok (by omega)) ?_
    simp only [vS, opP, Go.Vm.step, Go.Vm.ev, delM, setM, binL, binI, shI, binS, unL, cst, cst1, cells1, reduceIte, Nat.reduceAdd, Nat.reduceMul, Nat.reduceEqDiff, bound, refsC, AV.cells, AV.ref1, flatC, oneC, elems, okLog, disj, befOf, Int.reduceLT, Int.reduceLE, Int.reduceToNat, Int.reducePow, Nat.reduceLeDiff, IntKind.bits, argT, Int.reduceMul, Int.reduceAdd, Int.reduceNeg, Int.reduceSub, Int.reduceEq, Nat.reduceLT, Row.get1, Row.getN, Row.set1, Row.setN, fillE]
    refine callP_ok (tree_ok h3 hw) ?_
    simp only [vS, opP, Go.Vm.step, Go.Vm.ev, delM, setM, binL, binI, shI, binS, unL, cst, cst1, cells1, reduceIte, Nat.reduceAdd, Nat.reduceMul, Nat.reduceEqDiff, bound, refsC, AV.cells, AV.ref1, flatC, oneC, elems, okLog, disj, befOf, Int.reduceLT, Int.reduceLE, Int.reduceToNat, Int.reducePow, Nat.reduceLeDiff, IntKind.bits, argT, Int.reduceMul, Int.reduceAdd, Int.reduceNeg, Int.reduceSub, Int.reduceEq, Nat.reduceLT, Row.get1, Row.getN, Row.set1, Row.setN, fillE, resT, hc, Int.toNat_natCast]
    refine callP_ok (give_ok (by omega)) ?_
    simp only [vS, opP, Go.Vm.step, Go.Vm.ev, delM, setM, binL, binI, shI, binS, unL, cst, cst1, cells1, reduceIte, Nat.reduceAdd, Nat.reduceMul, Nat.reduceEqDiff, bound, refsC, AV.cells, AV.ref1, flatC, oneC, elems, okLog, disj, befOf, Int.reduceLT, Int.reduceLE, Int.reduceToNat, Int.reducePow, Nat.reduceLeDiff, IntKind.bits, argT, Int.reduceMul, Int.reduceAdd, Int.reduceNeg, Int.reduceSub, Int.reduceEq, Nat.reduceLT, Row.get1, Row.getN, Row.set1, Row.setN, fillE]
    refine callP_ok (most_ok h3 hw) ?_
    simp only [vS, opP, Go.Vm.step, Go.Vm.ev, delM, setM, binL, binI, shI, binS, unL, cst, cst1, cells1, reduceIte, Nat.reduceAdd, Nat.reduceMul, Nat.reduceEqDiff, bound, refsC, AV.cells, AV.ref1, flatC, oneC, elems, okLog, disj, befOf, Int.reduceLT, Int.reduceLE, Int.reduceToNat, Int.reducePow, Nat.reduceLeDiff, IntKind.bits, argT, Int.reduceMul, Int.reduceAdd, Int.reduceNeg, Int.reduceSub, Int.reduceEq, Nat.reduceLT, Row.get1, Row.getN, Row.set1, Row.setN, fillE, Go.undef, resT, hc, Int.toNat_natCast, t1, t2, eE_length]
    refine callP_ok (refNew_ok (by omega)) ?_
    simp only [vS, opP, Go.Vm.step, Go.Vm.ev, delM, setM, binL, binI, shI, binS, unL, cst, cst1, cells1, reduceIte, Nat.reduceAdd, Nat.reduceMul, Nat.reduceEqDiff, bound, refsC, AV.cells, AV.ref1, flatC, oneC, elems, okLog, disj, befOf, Int.reduceLT, Int.reduceLE, Int.reduceToNat, Int.reducePow, Nat.reduceLeDiff, IntKind.bits, argT, Int.reduceMul, Int.reduceAdd, Int.reduceNeg, Int.reduceSub, Int.reduceEq, Nat.reduceLT, Row.get1, Row.getN, Row.set1, Row.setN, fillE]
    refine loop_by (fun i => i ≤ l.length) (fun i => l.length - i)
      (fun i => [(1, dE l), (5, dB (tree x l).mks), (6, .i .i64 (tree x l).sum), (8, dB (most x l).mks), (9, .i .i64 (most x l).sum), (11, dN (LI l x i)), (12, .i .i64 (taken l (List.range x) (List.range i)).length), (13, .i .i64 (((tree x l).mks.take i).count true)), (14, .i .i64 (((most x l).mks.take i).count true)), (15, .i .i64 i)])
      (fun _ => []) 8 ?_ 0 (Nat.zero_le _) (Wk.norm [] (by decide) ?_ ?_)
    · intro i hi0
      by_cases hi : i < l.length
      · have hg := eE_get hi
        rw [ea_eq hc hi, eb_eq hc hi] at hg
        have hLl := LI_len l x i
        have g1 := bget (m := (tree x l).mks) (i := i) (by omega)
        have g2 := bget (m := (most x l).mks) (i := i) (by omega)
        have c1 := count_step (m := (tree x l).mks) (i := i) (by omega)
        have c2 := count_step (m := (most x l).mks) (i := i) (by omega)
        have c3 := taken_step l x i
        have b1 := count_le60 (m := (tree x l).mks) (k := i) (by omega)
        have b2 := count_le60 (m := (most x l).mks) (k := i) (by omega)
        have b3 := taken_le l (List.range i) (List.range x)
        rw [List.length_range] at b3
        have w1 : IntKind.i64.wrap ((((tree x l).mks.take i).count true : Nat) + 1 : Int) = ((((tree x l).mks.take i).count true + 1 : Nat) : Int) := by rw [IntKind.wrap_i64]; omega
        have w2 : IntKind.i64.wrap ((((most x l).mks.take i).count true : Nat) + 1 : Int) = ((((most x l).mks.take i).count true + 1 : Nat) : Int) := by rw [IntKind.wrap_i64]; omega
        have w3 : IntKind.i64.wrap (((taken l (List.range x) (List.range i)).length : Nat) + 1 : Int) = (((taken l (List.range x) (List.range i)).length + 1 : Nat) : Int) := by rw [IntKind.wrap_i64]; omega
        have n1 : ea l i = eb l i → (tree x l).mks.getD i false = false := fun h => mk_ne hi h
        have n2 : ea l i = eb l i → (most x l).mks.getD i false = false := fun h => mk_ne hi h
        have d1 : i < (tree x l).mks.length := by omega
        have d2 : i < (most x l).mks.length := by omega
        have e4 := LI_succ l x i
        simp only [vS, opP, Go.Vm.step, Go.Vm.ev, delM, setM, binL, binI, shI, binS, unL, cst, cst1, cells1, reduceIte, Nat.reduceAdd, Nat.reduceMul, Nat.reduceEqDiff, bound, refsC, AV.cells, AV.ref1, flatC, oneC, elems, okLog, disj, befOf, Int.reduceLT, Int.reduceLE, Int.reduceToNat, Int.reducePow, Nat.reduceLeDiff, IntKind.bits, argT, Int.reduceMul, Int.reduceAdd, Int.reduceNeg, Int.reduceSub, Int.reduceEq, Nat.reduceLT, Row.get1, Row.getN, Row.set1, Row.setN, fillE, Go.undef, hi, hg, eE_length, subLL_eE, List.drop_succ_cons]
        refine callP_ok (refJoin_any (by rw [hLl]; exact ea_lt hc hi) (by rw [hLl]; exact eb_lt hc hi) (by omega)) ?_
        generalize hX : (tree x l).mks.getD i false = X at *
        generalize hY : (most x l).mks.getD i false = Y at *
        generalize hZ : cand l (LI l x i) i = Z at *
        by_cases hab : ea l i = eb l i
        · have n1 := n1 hab
          have n2 := n2 hab
          subst n1 n2
          cases Z
          all_goals
            simp only [vS, opP, Go.Vm.step, Go.Vm.ev, delM, setM, binL, binI, shI, binS, unL, cst, cst1, cells1, reduceIte, Nat.reduceAdd, Nat.reduceMul, Nat.reduceEqDiff, bound, refsC, AV.cells, AV.ref1, flatC, oneC, elems, okLog, disj, befOf, Int.reduceLT, Int.reduceLE, Int.reduceToNat, Int.reducePow, Nat.reduceLeDiff, IntKind.bits, argT, Int.reduceMul, Int.reduceAdd, Int.reduceNeg, Int.reduceSub, Int.reduceEq, Nat.reduceLT, Row.get1, Row.getN, Row.set1, Row.setN, fillE, Go.undef, hi, hg, eE_length, subLL_eE, List.drop_succ_cons, g1, g2, d1, d2, hab, w1, w2, w3, winc hi (by omega)]
            refine ⟨i + 1, hi, by omega, Wk.norm [] (by decide) ?_ ?_⟩
            · simp only [vS, opP, Go.Vm.step, Go.Vm.ev, delM, setM, binL, binI, shI, binS, unL, cst, cst1, cells1, reduceIte, Nat.reduceAdd, Nat.reduceMul, Nat.reduceEqDiff, bound, refsC, AV.cells, AV.ref1, flatC, oneC, elems, okLog, disj, befOf, Int.reduceLT, Int.reduceLE, Int.reduceToNat, Int.reducePow, Nat.reduceLeDiff, IntKind.bits, argT, Int.reduceMul, Int.reduceAdd, Int.reduceNeg, Int.reduceSub, Int.reduceEq, Nat.reduceLT, Row.get1, Row.getN, Row.set1, Row.setN, fillE, vW, renM, frM, subRow, Nat.reduceBNe, frs, frOk, frOut, subLL_eE, e4, c1, c2, c3, bn_f, bn_t, Nat.add_zero]
            · simp only [vS, opP, Go.Vm.step, Go.Vm.ev, delM, setM, binL, binI, shI, binS, unL, cst, cst1, cells1, reduceIte, Nat.reduceAdd, Nat.reduceMul, Nat.reduceEqDiff, bound, refsC, AV.cells, AV.ref1, flatC, oneC, elems, okLog, disj, befOf, Int.reduceLT, Int.reduceLE, Int.reduceToNat, Int.reducePow, Nat.reduceLeDiff, IntKind.bits, argT, Int.reduceMul, Int.reduceAdd, Int.reduceNeg, Int.reduceSub, Int.reduceEq, Nat.reduceLT, Row.get1, Row.getN, Row.set1, Row.setN, fillE, vW, renM, frM, subRow, Nat.reduceBNe, frs, frOk, frOut]
        · cases X
          all_goals cases Y
          all_goals cases Z
          all_goals
            simp only [vS, opP, Go.Vm.step, Go.Vm.ev, delM, setM, binL, binI, shI, binS, unL, cst, cst1, cells1, reduceIte, Nat.reduceAdd, Nat.reduceMul, Nat.reduceEqDiff, bound, refsC, AV.cells, AV.ref1, flatC, oneC, elems, okLog, disj, befOf, Int.reduceLT, Int.reduceLE, Int.reduceToNat, Int.reducePow, Nat.reduceLeDiff, IntKind.bits, argT, Int.reduceMul, Int.reduceAdd, Int.reduceNeg, Int.reduceSub, Int.reduceEq, Nat.reduceLT, Row.get1, Row.getN, Row.set1, Row.setN, fillE, Go.undef, hi, hg, eE_length, subLL_eE, List.drop_succ_cons, g1, g2, d1, d2, hab, w1, w2, w3, winc hi (by omega)]
            refine ⟨i + 1, hi, by omega, Wk.norm [] (by decide) ?_ ?_⟩
            · simp only [vS, opP, Go.Vm.step, Go.Vm.ev, delM, setM, binL, binI, shI, binS, unL, cst, cst1, cells1, reduceIte, Nat.reduceAdd, Nat.reduceMul, Nat.reduceEqDiff, bound, refsC, AV.cells, AV.ref1, flatC, oneC, elems, okLog, disj, befOf, Int.reduceLT, Int.reduceLE, Int.reduceToNat, Int.reducePow, Nat.reduceLeDiff, IntKind.bits, argT, Int.reduceMul, Int.reduceAdd, Int.reduceNeg, Int.reduceSub, Int.reduceEq, Nat.reduceLT, Row.get1, Row.getN, Row.set1, Row.setN, fillE, vW, renM, frM, subRow, Nat.reduceBNe, frs, frOk, frOut, subLL_eE, e4, c1, c2, c3, bn_f, bn_t, Nat.add_zero]
            · simp only [vS, opP, Go.Vm.step, Go.Vm.ev, delM, setM, binL, binI, shI, binS, unL, cst, cst1, cells1, reduceIte, Nat.reduceAdd, Nat.reduceMul, Nat.reduceEqDiff, bound, refsC, AV.cells, AV.ref1, flatC, oneC, elems, okLog, disj, befOf, Int.reduceLT, Int.reduceLE, Int.reduceToNat, Int.reducePow, Nat.reduceLeDiff, IntKind.bits, argT, Int.reduceMul, Int.reduceAdd, Int.reduceNeg, Int.reduceSub, Int.reduceEq, Nat.reduceLT, Row.get1, Row.getN, Row.set1, Row.setN, fillE, vW, renM, frM, subRow, Nat.reduceBNe, frs, frOk, frOut]
      · obtain rfl : i = l.length := by omega
        have k1 : ((tree x l).mks.take l.length).count true = (taken l (List.range x) (List.range l.length)).length := by
          rw [List.take_of_length_le (by omega), tree_count hc]
        have k2 : ((most x l).mks.take l.length).count true = (taken l (List.range x) (List.range l.length)).length := by
          rw [List.take_of_length_le (by omega), most_count hc]
        have k3 := tree_most hc
        simp only [vS, opP, Go.Vm.step, Go.Vm.ev, delM, setM, binL, binI, shI, binS, unL, cst, cst1, cells1, reduceIte, Nat.reduceAdd, Nat.reduceMul, Nat.reduceEqDiff, bound, refsC, AV.cells, AV.ref1, flatC, oneC, elems, okLog, disj, befOf, Int.reduceLT, Int.reduceLE, Int.reduceToNat, Int.reducePow, Nat.reduceLeDiff, IntKind.bits, argT, Int.reduceMul, Int.reduceAdd, Int.reduceNeg, Int.reduceSub, Int.reduceEq, Nat.reduceLT, Row.get1, Row.getN, Row.set1, Row.setN, fillE, Go.undef, hi, eE_length, k1, k2, k3]
        refine callP_ok (sure_ok) ?_
        simp only [vS, opP, Go.Vm.step, Go.Vm.ev, delM, setM, binL, binI, shI, binS, unL, cst, cst1, cells1, reduceIte, Nat.reduceAdd, Nat.reduceMul, Nat.reduceEqDiff, bound, refsC, AV.cells, AV.ref1, flatC, oneC, elems, okLog, disj, befOf, Int.reduceLT, Int.reduceLE, Int.reduceToNat, Int.reducePow, Nat.reduceLeDiff, IntKind.bits, argT, Int.reduceMul, Int.reduceAdd, Int.reduceNeg, Int.reduceSub, Int.reduceEq, Nat.reduceLT, Row.get1, Row.getN, Row.set1, Row.setN, fillE]
    · simp only [vS, opP, Go.Vm.step, Go.Vm.ev, delM, setM, binL, binI, shI, binS, unL, cst, cst1, cells1, reduceIte, Nat.reduceAdd, Nat.reduceMul, Nat.reduceEqDiff, bound, refsC, AV.cells, AV.ref1, flatC, oneC, elems, okLog, disj, befOf, Int.reduceLT, Int.reduceLE, Int.reduceToNat, Int.reducePow, Nat.reduceLeDiff, IntKind.bits, argT, Int.reduceMul, Int.reduceAdd, Int.reduceNeg, Int.reduceSub, Int.reduceEq, Nat.reduceLT, Row.get1, Row.getN, Row.set1, Row.setN, fillE, vW, renM, frM, subRow, Nat.reduceBNe, frs, frOk, frOut, subLL_eE]
      rfl
    · simp only [vS, opP, Go.Vm.step, Go.Vm.ev, delM, setM, binL, binI, shI, binS, unL, cst, cst1, cells1, reduceIte, Nat.reduceAdd, Nat.reduceMul, Nat.reduceEqDiff, bound, refsC, AV.cells, AV.ref1, flatC, oneC, elems, okLog, disj, befOf, Int.reduceLT, Int.reduceLE, Int.reduceToNat, Int.reducePow, Nat.reduceLeDiff, IntKind.bits, argT, Int.reduceMul, Int.reduceAdd, Int.reduceNeg, Int.reduceSub, Int.reduceEq, Nat.reduceLT, Row.get1, Row.getN, Row.set1, Row.setN, fillE, vW, renM, frM, subRow, Nat.reduceBNe, frs, frOk, frOut]
  · have hc' : ¬ ((chk n l : Nat) : Int) = 0 := by omega
    simp only [vS, opP, Go.Vm.step, Go.Vm.ev, delM, setM, binL, binI, shI, binS, unL, cst, cst1, cells1, reduceIte, Nat.reduceAdd, Nat.reduceMul, Nat.reduceEqDiff, bound, refsC, AV.cells, AV.ref1, flatC, oneC, elems, okLog, disj, befOf, Int.reduceLT, Int.reduceLE, Int.reduceToNat, Int.reducePow, Nat.reduceLeDiff, IntKind.bits, argT, Int.reduceMul, Int.reduceAdd, Int.reduceNeg, Int.reduceSub, Int.reduceEq, Nat.reduceLT, Row.get1, Row.getN, Row.set1, Row.setN, fillE, Go.undef, hc']
    refine callP_ok (sure_ok) ?_
    simp only [vS, opP, Go.Vm.step, Go.Vm.ev, delM, setM, binL, binI, shI, binS, unL, cst, cst1, cells1, reduceIte, Nat.reduceAdd, Nat.reduceMul, Nat.reduceEqDiff, bound, refsC, AV.cells, AV.ref1, flatC, oneC, elems, okLog, disj, befOf, Int.reduceLT, Int.reduceLE, Int.reduceToNat, Int.reducePow, Nat.reduceLeDiff, IntKind.bits, argT, Int.reduceMul, Int.reduceAdd, Int.reduceNeg, Int.reduceSub, Int.reduceEq, Nat.reduceLT, Row.get1, Row.getN, Row.set1, Row.setN, fillE]
end
end Go.Proofs.Ytkjmlfbafmdegaa
