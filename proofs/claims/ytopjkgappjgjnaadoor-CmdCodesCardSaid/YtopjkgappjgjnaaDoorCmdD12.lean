/- The reference's command of bytes that is none. -/
import Derived.Test.YtopjkgappjgjnaaDoorCmdD11
namespace Go.Proofs.YtopjkgappjgjnaaDoor
open Go Go.Vm Go.CmdM
set_option linter.unusedSectionVars false
set_option linter.unusedSimpArgs false
section
variable {M : Mem} {slot : Nat}
theorem sAt_nn {f : Fm} {x : List Int} (hx : Byt x) : 0 ≤ sAt f x := by
  unfold sAt
  split
  · have h := numB_bound 1 (x.take 1) (List.length_take_le _ _) (hx.take 1)
    rw [IntKind.wrap_i64]
    omega
  · exact Int.le_refl _
theorem prs_rest {h s : Nat} {w : Bool} (hh : h ≤ 2) {co : Int} {x : List Int} : rest ⟨h, s, w, false⟩ (prs ⟨h, s, w, false⟩ co x) = 0 := by
  have h0' : h = 0 ∨ h = 1 ∨ h = 2 := by omega
  have hz : s = 0 ∨ 0 < s := by omega
  have hd : (prs ⟨h, s, w, false⟩ co x).d = [] := by unfold prs; split <;> (try split) <;> rfl
  have hb : bad1 ⟨h, s, w, false⟩ (prs ⟨h, s, w, false⟩ co x) = false := by
    rcases hz with rfl | hs
    · rcases h0' with rfl | rfl | rfl <;> cases w <;> simp [bad1, prs, sAt, wAt]
    · have hs2 : s ≠ 0 := by omega
      rcases h0' with rfl | rfl | rfl <;> cases w <;> simp [bad1, prs, sAt, wAt, hs, hs2]
  simp [rest, hb, hd]
theorem prs_chk {co : Int} {x : List Int} (hc : isC co = true) (hd : da co = false) : chk (prs (fm co) co x) = if bad3 (fm co) (prs (fm co) co x) = true then 3 else 0 := by
  have hh := fm_h co
  have hfd : (fm co).d = false := hd
  unfold chk
  rw [prs_co, hc]
  simp only [Bool.true_eq_false, if_false]
  generalize fm co = f at *
  obtain ⟨h, s, w, d⟩ := f
  simp only at hfd hh
  subst hfd
  rw [prs_rest hh]
set_option maxRecDepth 20000 in
set_option maxHeartbeats 8000000 in
theorem refDecode_bad {co : Int} {r : List Int} (hc : isC co = true) (hd : da co = false) (hb : Byt r) (hr : r.length = szF (fm co)) (hk : chk (prs (fm co) co r) ≠ 0) : CallOk Tryd.prog 17 [bI (co :: r)] M slot { v := .tup [.agg (cC cZ), .i .i64 3] } := by
  refine callOk_imp ?_ (cN_imp rfl)
  have hq := prs_chk (x := r) hc hd
  simp [isC] at hc
  have hh : hs co ≤ 2 := fm_h co
  have e1 : IntKind.i64.wrap co = co := by rw [IntKind.wrap_i64]; omega
  have e2 : ¬ ((r.length + 1 : Nat) : Int) = 0 := by omega
  have h1 : ¬ co < 1 := by omega
  have h2 : ¬ 17 < co := by omega
  refine pure_ref_Decode (Nat.le_of_ble_eq_true (by kernel_rfl)) ?_; unfold lc_ref_Decode
  simp only [vV, reduceCtorEq, fillL, over, eqCells, Go.undef, vS, opP, Go.Vm.step, Go.Vm.ev, delM, setM, binL, binI, shI, binS, unL, cst, cst1, cells1, reduceIte, Nat.reduceAdd, Nat.reduceMul, Nat.reduceEqDiff, bound, refsC, AV.cells, AV.ref1, flatC, oneC, elems, okLog, disj, befOf, Int.reduceLT, Int.reduceLE, Int.reduceToNat, Int.reducePow, Nat.reduceLeDiff, IntKind.bits, argT, Int.reduceMul, Int.reduceAdd, Int.reduceNeg, Int.reduceSub, Int.reduceEq, Nat.reduceLT, Row.get1, Row.getN, Row.set1, Row.setN, fillE, e1, e2, h1, h2]
  refine callP_ok (has_ok co hc.1 hc.2) ?_
  have hf : fm co = ⟨hs co, sd co, wt co, da co⟩ := rfl
  rw [hf] at hr hk hq
  have hsr : sR co = if sd co = 0 then -1 else (sd co : Int) := rfl
  rw [hd] at *
  generalize hs co = h0 at *
  generalize sd co = s at *
  generalize wt co = w at *
  generalize sR co = sr at *
  have h0' : h0 = 0 ∨ h0 = 1 ∨ h0 = 2 := by omega
  have hsn : ∀ x : List Int, Byt x → 0 ≤ sAt ⟨h0, s, w, false⟩ x := fun x hx => sAt_nn hx
  have hq2 : 0 < s ∧ ((0 < h0 ∧ (s : Int) < (prs ⟨h0, s, w, false⟩ co r).s0) ∨ (1 < h0 ∧ (s : Int) < (prs ⟨h0, s, w, false⟩ co r).s1)) := by
    have n0 : 0 ≤ (prs ⟨h0, s, w, false⟩ co r).s0 := by
      unfold prs
      split
      · exact Int.le_refl _
      · split <;> exact hsn _ hb
    have n1 : 0 ≤ (prs ⟨h0, s, w, false⟩ co r).s1 := by
      unfold prs
      split
      · exact Int.le_refl _
      · split
        · exact Int.le_refl _
        · refine hsn _ ?_
          unfold more hAt
          split <;> (repeat (first | exact hb | apply Byt.drop))
    rw [hq] at hk
    simp only [bad3, decide_eq_true_eq, ne_eq, ite_eq_right_iff, Classical.not_imp] at hk
    omega
  have hz : s = 0 ∨ 0 < s := by omega
  rcases hz with rfl | hs
  · exact absurd hq2.1 (by decide)
  · rw [if_neg (by omega)] at hsr
    subst hsr
    have hs' : (0 : Int) ≤ s := by omega
    have hs3 : ¬ (s : Int) < 0 := by omega
    rcases h0' with rfl | rfl | rfl <;> cases w
    all_goals
      simp [szF, hs] at hr
      (try rw [← List.length_eq_zero_iff] at hr)
      have hlen : ((r.length + 1 : Nat) : Int) = (r.length : Int) + 1 := rfl
      rw [hr] at hlen
      simp only [prs, wAt, aAt, tAt, sAt, hAt, more, ↓reduceIte, Nat.lt_irrefl, Nat.reduceEqDiff, reduceCtorEq, Bool.false_eq_true, Nat.one_ne_zero, List.drop_drop, Nat.reduceAdd, hs] at hq2
      have hg0 : 0 < r.length → r[0]? = some (numB (r.take 1)) := fun h => by simpa using get_num (k := 0) h
      have hg9 : 9 < r.length → r[9]? = some (numB ((r.drop 9).take 1)) := fun h => get_num h
      have hbc : Byt (co :: r) := by
        intro n hn
        rcases List.mem_cons.1 hn with rfl | hn
        · omega
        · exact hb n hn
      simp only [vV, reduceCtorEq, fillL, over, eqCells, Go.undef, vS, opP, Go.Vm.step, Go.Vm.ev, delM, setM, binL, binI, shI, binS, unL, cst, cst1, cells1, reduceIte, Nat.reduceAdd, Nat.reduceMul, Nat.reduceEqDiff, bound, refsC, AV.cells, AV.ref1, flatC, oneC, elems, okLog, disj, befOf, Int.reduceLT, Int.reduceLE, Int.reduceToNat, Int.reducePow, Nat.reduceLeDiff, IntKind.bits, argT, Int.reduceMul, Int.reduceAdd, Int.reduceNeg, Int.reduceSub, Int.reduceEq, Nat.reduceLT, Row.get1, Row.getN, Row.set1, Row.setN, fillE, w64c, hlen, hr, encA_cons, encA_nil, hs', hs3, hs]
      repeat' (first
        | (refine callP_ok (rnumber_ok (a := 1) (by simp only [List.length_cons]; omega) hbc (by simp only [List.length_cons]; omega)) ?_; simp only [vV, reduceCtorEq, fillL, over, eqCells, Go.undef, vS, opP, Go.Vm.step, Go.Vm.ev, delM, setM, binL, binI, shI, binS, unL, cst, cst1, cells1, reduceIte, Nat.reduceAdd, Nat.reduceMul, Nat.reduceEqDiff, bound, refsC, AV.cells, AV.ref1, flatC, oneC, elems, okLog, disj, befOf, Int.reduceLT, Int.reduceLE, Int.reduceToNat, Int.reducePow, Nat.reduceLeDiff, IntKind.bits, argT, Int.reduceMul, Int.reduceAdd, Int.reduceNeg, Int.reduceSub, Int.reduceEq, Nat.reduceLT, Row.get1, Row.getN, Row.set1, Row.setN, fillE, w64c, encA_cons, encA_nil, e2, hg0, hg9, hlen, hr, hs', hs3, hs])
        | (refine callP_ok (rnumber_ok (a := 5) (by simp only [List.length_cons]; omega) hbc (by simp only [List.length_cons]; omega)) ?_; simp only [vV, reduceCtorEq, fillL, over, eqCells, Go.undef, vS, opP, Go.Vm.step, Go.Vm.ev, delM, setM, binL, binI, shI, binS, unL, cst, cst1, cells1, reduceIte, Nat.reduceAdd, Nat.reduceMul, Nat.reduceEqDiff, bound, refsC, AV.cells, AV.ref1, flatC, oneC, elems, okLog, disj, befOf, Int.reduceLT, Int.reduceLE, Int.reduceToNat, Int.reducePow, Nat.reduceLeDiff, IntKind.bits, argT, Int.reduceMul, Int.reduceAdd, Int.reduceNeg, Int.reduceSub, Int.reduceEq, Nat.reduceLT, Row.get1, Row.getN, Row.set1, Row.setN, fillE, w64c, encA_cons, encA_nil, e2, hg0, hg9, hlen, hr, hs', hs3, hs])
        | (refine callP_ok (rnumber_ok (a := 9) (by simp only [List.length_cons]; omega) hbc (by simp only [List.length_cons]; omega)) ?_; simp only [vV, reduceCtorEq, fillL, over, eqCells, Go.undef, vS, opP, Go.Vm.step, Go.Vm.ev, delM, setM, binL, binI, shI, binS, unL, cst, cst1, cells1, reduceIte, Nat.reduceAdd, Nat.reduceMul, Nat.reduceEqDiff, bound, refsC, AV.cells, AV.ref1, flatC, oneC, elems, okLog, disj, befOf, Int.reduceLT, Int.reduceLE, Int.reduceToNat, Int.reducePow, Nat.reduceLeDiff, IntKind.bits, argT, Int.reduceMul, Int.reduceAdd, Int.reduceNeg, Int.reduceSub, Int.reduceEq, Nat.reduceLT, Row.get1, Row.getN, Row.set1, Row.setN, fillE, w64c, encA_cons, encA_nil, e2, hg0, hg9, hlen, hr, hs', hs3, hs])
        | (refine callP_ok (rnumber_ok (a := 13) (by simp only [List.length_cons]; omega) hbc (by simp only [List.length_cons]; omega)) ?_; simp only [vV, reduceCtorEq, fillL, over, eqCells, Go.undef, vS, opP, Go.Vm.step, Go.Vm.ev, delM, setM, binL, binI, shI, binS, unL, cst, cst1, cells1, reduceIte, Nat.reduceAdd, Nat.reduceMul, Nat.reduceEqDiff, bound, refsC, AV.cells, AV.ref1, flatC, oneC, elems, okLog, disj, befOf, Int.reduceLT, Int.reduceLE, Int.reduceToNat, Int.reducePow, Nat.reduceLeDiff, IntKind.bits, argT, Int.reduceMul, Int.reduceAdd, Int.reduceNeg, Int.reduceSub, Int.reduceEq, Nat.reduceLT, Row.get1, Row.getN, Row.set1, Row.setN, fillE, w64c, encA_cons, encA_nil, e2, hg0, hg9, hlen, hr, hs', hs3, hs])
        | (refine callP_ok (rnumber_ok (a := 17) (by simp only [List.length_cons]; omega) hbc (by simp only [List.length_cons]; omega)) ?_; simp only [vV, reduceCtorEq, fillL, over, eqCells, Go.undef, vS, opP, Go.Vm.step, Go.Vm.ev, delM, setM, binL, binI, shI, binS, unL, cst, cst1, cells1, reduceIte, Nat.reduceAdd, Nat.reduceMul, Nat.reduceEqDiff, bound, refsC, AV.cells, AV.ref1, flatC, oneC, elems, okLog, disj, befOf, Int.reduceLT, Int.reduceLE, Int.reduceToNat, Int.reducePow, Nat.reduceLeDiff, IntKind.bits, argT, Int.reduceMul, Int.reduceAdd, Int.reduceNeg, Int.reduceSub, Int.reduceEq, Nat.reduceLT, Row.get1, Row.getN, Row.set1, Row.setN, fillE, w64c, encA_cons, encA_nil, e2, hg0, hg9, hlen, hr, hs', hs3, hs])
        | (refine callP_ok (rnumber_ok (a := 2) (by simp only [List.length_cons]; omega) hbc (by simp only [List.length_cons]; omega)) ?_; simp only [vV, reduceCtorEq, fillL, over, eqCells, Go.undef, vS, opP, Go.Vm.step, Go.Vm.ev, delM, setM, binL, binI, shI, binS, unL, cst, cst1, cells1, reduceIte, Nat.reduceAdd, Nat.reduceMul, Nat.reduceEqDiff, bound, refsC, AV.cells, AV.ref1, flatC, oneC, elems, okLog, disj, befOf, Int.reduceLT, Int.reduceLE, Int.reduceToNat, Int.reducePow, Nat.reduceLeDiff, IntKind.bits, argT, Int.reduceMul, Int.reduceAdd, Int.reduceNeg, Int.reduceSub, Int.reduceEq, Nat.reduceLT, Row.get1, Row.getN, Row.set1, Row.setN, fillE, w64c, encA_cons, encA_nil, e2, hg0, hg9, hlen, hr, hs', hs3, hs])
        | (refine callP_ok (rnumber_ok (a := 6) (by simp only [List.length_cons]; omega) hbc (by simp only [List.length_cons]; omega)) ?_; simp only [vV, reduceCtorEq, fillL, over, eqCells, Go.undef, vS, opP, Go.Vm.step, Go.Vm.ev, delM, setM, binL, binI, shI, binS, unL, cst, cst1, cells1, reduceIte, Nat.reduceAdd, Nat.reduceMul, Nat.reduceEqDiff, bound, refsC, AV.cells, AV.ref1, flatC, oneC, elems, okLog, disj, befOf, Int.reduceLT, Int.reduceLE, Int.reduceToNat, Int.reducePow, Nat.reduceLeDiff, IntKind.bits, argT, Int.reduceMul, Int.reduceAdd, Int.reduceNeg, Int.reduceSub, Int.reduceEq, Nat.reduceLT, Row.get1, Row.getN, Row.set1, Row.setN, fillE, w64c, encA_cons, encA_nil, e2, hg0, hg9, hlen, hr, hs', hs3, hs])
        | (refine callP_ok (rnumber_ok (a := 10) (by simp only [List.length_cons]; omega) hbc (by simp only [List.length_cons]; omega)) ?_; simp only [vV, reduceCtorEq, fillL, over, eqCells, Go.undef, vS, opP, Go.Vm.step, Go.Vm.ev, delM, setM, binL, binI, shI, binS, unL, cst, cst1, cells1, reduceIte, Nat.reduceAdd, Nat.reduceMul, Nat.reduceEqDiff, bound, refsC, AV.cells, AV.ref1, flatC, oneC, elems, okLog, disj, befOf, Int.reduceLT, Int.reduceLE, Int.reduceToNat, Int.reducePow, Nat.reduceLeDiff, IntKind.bits, argT, Int.reduceMul, Int.reduceAdd, Int.reduceNeg, Int.reduceSub, Int.reduceEq, Nat.reduceLT, Row.get1, Row.getN, Row.set1, Row.setN, fillE, w64c, encA_cons, encA_nil, e2, hg0, hg9, hlen, hr, hs', hs3, hs])
        | (refine callP_ok (rnumber_ok (a := 11) (by simp only [List.length_cons]; omega) hbc (by simp only [List.length_cons]; omega)) ?_; simp only [vV, reduceCtorEq, fillL, over, eqCells, Go.undef, vS, opP, Go.Vm.step, Go.Vm.ev, delM, setM, binL, binI, shI, binS, unL, cst, cst1, cells1, reduceIte, Nat.reduceAdd, Nat.reduceMul, Nat.reduceEqDiff, bound, refsC, AV.cells, AV.ref1, flatC, oneC, elems, okLog, disj, befOf, Int.reduceLT, Int.reduceLE, Int.reduceToNat, Int.reducePow, Nat.reduceLeDiff, IntKind.bits, argT, Int.reduceMul, Int.reduceAdd, Int.reduceNeg, Int.reduceSub, Int.reduceEq, Nat.reduceLT, Row.get1, Row.getN, Row.set1, Row.setN, fillE, w64c, encA_cons, encA_nil, e2, hg0, hg9, hlen, hr, hs', hs3, hs])
        | (refine callP_ok (rnumber_ok (a := 15) (by simp only [List.length_cons]; omega) hbc (by simp only [List.length_cons]; omega)) ?_; simp only [vV, reduceCtorEq, fillL, over, eqCells, Go.undef, vS, opP, Go.Vm.step, Go.Vm.ev, delM, setM, binL, binI, shI, binS, unL, cst, cst1, cells1, reduceIte, Nat.reduceAdd, Nat.reduceMul, Nat.reduceEqDiff, bound, refsC, AV.cells, AV.ref1, flatC, oneC, elems, okLog, disj, befOf, Int.reduceLT, Int.reduceLE, Int.reduceToNat, Int.reducePow, Nat.reduceLeDiff, IntKind.bits, argT, Int.reduceMul, Int.reduceAdd, Int.reduceNeg, Int.reduceSub, Int.reduceEq, Nat.reduceLT, Row.get1, Row.getN, Row.set1, Row.setN, fillE, w64c, encA_cons, encA_nil, e2, hg0, hg9, hlen, hr, hs', hs3, hs])
        | (refine callP_ok (rnumber_ok (a := 19) (by simp only [List.length_cons]; omega) hbc (by simp only [List.length_cons]; omega)) ?_; simp only [vV, reduceCtorEq, fillL, over, eqCells, Go.undef, vS, opP, Go.Vm.step, Go.Vm.ev, delM, setM, binL, binI, shI, binS, unL, cst, cst1, cells1, reduceIte, Nat.reduceAdd, Nat.reduceMul, Nat.reduceEqDiff, bound, refsC, AV.cells, AV.ref1, flatC, oneC, elems, okLog, disj, befOf, Int.reduceLT, Int.reduceLE, Int.reduceToNat, Int.reducePow, Nat.reduceLeDiff, IntKind.bits, argT, Int.reduceMul, Int.reduceAdd, Int.reduceNeg, Int.reduceSub, Int.reduceEq, Nat.reduceLT, Row.get1, Row.getN, Row.set1, Row.setN, fillE, w64c, encA_cons, encA_nil, e2, hg0, hg9, hlen, hr, hs', hs3, hs])
        | (refine callP_ok (refSigned_ok (by simp only [w64w]; exact u32b.1)) ?_; simp only [vV, reduceCtorEq, fillL, over, eqCells, Go.undef, vS, opP, Go.Vm.step, Go.Vm.ev, delM, setM, binL, binI, shI, binS, unL, cst, cst1, cells1, reduceIte, Nat.reduceAdd, Nat.reduceMul, Nat.reduceEqDiff, bound, refsC, AV.cells, AV.ref1, flatC, oneC, elems, okLog, disj, befOf, Int.reduceLT, Int.reduceLE, Int.reduceToNat, Int.reducePow, Nat.reduceLeDiff, IntKind.bits, argT, Int.reduceMul, Int.reduceAdd, Int.reduceNeg, Int.reduceSub, Int.reduceEq, Nat.reduceLT, Row.get1, Row.getN, Row.set1, Row.setN, fillE, w64c, encA_cons, encA_nil, e2, hg0, hg9, hlen, hr, hs', hs3, w64w])
        | (with_reducible refine guardP_nd (fun hb => ?_) (fun hb => ?_) <;> try (simp only [vV, reduceCtorEq, fillL, over, eqCells, Go.undef, vS, opP, Go.Vm.step, Go.Vm.ev, delM, setM, binL, binI, shI, binS, unL, cst, cst1, cells1, reduceIte, Nat.reduceAdd, Nat.reduceMul, Nat.reduceEqDiff, bound, refsC, AV.cells, AV.ref1, flatC, oneC, elems, okLog, disj, befOf, Int.reduceLT, Int.reduceLE, Int.reduceToNat, Int.reducePow, Nat.reduceLeDiff, IntKind.bits, argT, Int.reduceMul, Int.reduceAdd, Int.reduceNeg, Int.reduceSub, Int.reduceEq, Nat.reduceLT, Row.get1, Row.getN, Row.set1, Row.setN, fillE, hb, w64c, encA_cons, encA_nil, e2, hg0, hg9, hlen, hr, hs', hs3, hs]))
        | (with_reducible refine guardP_d (fun hb => ?_) (fun hb => ?_) <;> try (simp only [vV, reduceCtorEq, fillL, over, eqCells, Go.undef, vS, opP, Go.Vm.step, Go.Vm.ev, delM, setM, binL, binI, shI, binS, unL, cst, cst1, cells1, reduceIte, Nat.reduceAdd, Nat.reduceMul, Nat.reduceEqDiff, bound, refsC, AV.cells, AV.ref1, flatC, oneC, elems, okLog, disj, befOf, Int.reduceLT, Int.reduceLE, Int.reduceToNat, Int.reducePow, Nat.reduceLeDiff, IntKind.bits, argT, Int.reduceMul, Int.reduceAdd, Int.reduceNeg, Int.reduceSub, Int.reduceEq, Nat.reduceLT, Row.get1, Row.getN, Row.set1, Row.setN, fillE, hb, w64c, encA_cons, encA_nil, e2, hg0, hg9, hlen, hr, hs', hs3, hs]))
        | (with_reducible refine guardP_nn (fun hb => ?_) (fun hb => ?_) <;> try (simp only [vV, reduceCtorEq, fillL, over, eqCells, Go.undef, vS, opP, Go.Vm.step, Go.Vm.ev, delM, setM, binL, binI, shI, binS, unL, cst, cst1, cells1, reduceIte, Nat.reduceAdd, Nat.reduceMul, Nat.reduceEqDiff, bound, refsC, AV.cells, AV.ref1, flatC, oneC, elems, okLog, disj, befOf, Int.reduceLT, Int.reduceLE, Int.reduceToNat, Int.reducePow, Nat.reduceLeDiff, IntKind.bits, argT, Int.reduceMul, Int.reduceAdd, Int.reduceNeg, Int.reduceSub, Int.reduceEq, Nat.reduceLT, Row.get1, Row.getN, Row.set1, Row.setN, fillE, hb, w64c, encA_cons, encA_nil, e2, hg0, hg9, hlen, hr, hs', hs3, hs]))
        | (with_reducible refine guardP_n (fun hb => ?_) (fun hb => ?_) <;> try (simp only [vV, reduceCtorEq, fillL, over, eqCells, Go.undef, vS, opP, Go.Vm.step, Go.Vm.ev, delM, setM, binL, binI, shI, binS, unL, cst, cst1, cells1, reduceIte, Nat.reduceAdd, Nat.reduceMul, Nat.reduceEqDiff, bound, refsC, AV.cells, AV.ref1, flatC, oneC, elems, okLog, disj, befOf, Int.reduceLT, Int.reduceLE, Int.reduceToNat, Int.reducePow, Nat.reduceLeDiff, IntKind.bits, argT, Int.reduceMul, Int.reduceAdd, Int.reduceNeg, Int.reduceSub, Int.reduceEq, Nat.reduceLT, Row.get1, Row.getN, Row.set1, Row.setN, fillE, hb, w64c, encA_cons, encA_nil, e2, hg0, hg9, hlen, hr, hs', hs3, hs]))
        | (with_reducible refine guardP_by (fun hb => ?_) (fun hb => ?_) <;> try (simp only [vV, reduceCtorEq, fillL, over, eqCells, Go.undef, vS, opP, Go.Vm.step, Go.Vm.ev, delM, setM, binL, binI, shI, binS, unL, cst, cst1, cells1, reduceIte, Nat.reduceAdd, Nat.reduceMul, Nat.reduceEqDiff, bound, refsC, AV.cells, AV.ref1, flatC, oneC, elems, okLog, disj, befOf, Int.reduceLT, Int.reduceLE, Int.reduceToNat, Int.reducePow, Nat.reduceLeDiff, IntKind.bits, argT, Int.reduceMul, Int.reduceAdd, Int.reduceNeg, Int.reduceSub, Int.reduceEq, Nat.reduceLT, Row.get1, Row.getN, Row.set1, Row.setN, fillE, hb, w64c, encA_cons, encA_nil, e2, hg0, hg9, hlen, hr, hs', hs3, hs]))
        | (with_reducible refine condP_nd (fun hb => ?_) (fun hb => ?_) <;> try (simp only [vV, reduceCtorEq, fillL, over, eqCells, Go.undef, vS, opP, Go.Vm.step, Go.Vm.ev, delM, setM, binL, binI, shI, binS, unL, cst, cst1, cells1, reduceIte, Nat.reduceAdd, Nat.reduceMul, Nat.reduceEqDiff, bound, refsC, AV.cells, AV.ref1, flatC, oneC, elems, okLog, disj, befOf, Int.reduceLT, Int.reduceLE, Int.reduceToNat, Int.reducePow, Nat.reduceLeDiff, IntKind.bits, argT, Int.reduceMul, Int.reduceAdd, Int.reduceNeg, Int.reduceSub, Int.reduceEq, Nat.reduceLT, Row.get1, Row.getN, Row.set1, Row.setN, fillE, hb, w64c, encA_cons, encA_nil, e2, hg0, hg9, hlen, hr, hs', hs3, hs]))
        | (with_reducible refine condP_d (fun hb => ?_) (fun hb => ?_) <;> try (simp only [vV, reduceCtorEq, fillL, over, eqCells, Go.undef, vS, opP, Go.Vm.step, Go.Vm.ev, delM, setM, binL, binI, shI, binS, unL, cst, cst1, cells1, reduceIte, Nat.reduceAdd, Nat.reduceMul, Nat.reduceEqDiff, bound, refsC, AV.cells, AV.ref1, flatC, oneC, elems, okLog, disj, befOf, Int.reduceLT, Int.reduceLE, Int.reduceToNat, Int.reducePow, Nat.reduceLeDiff, IntKind.bits, argT, Int.reduceMul, Int.reduceAdd, Int.reduceNeg, Int.reduceSub, Int.reduceEq, Nat.reduceLT, Row.get1, Row.getN, Row.set1, Row.setN, fillE, hb, w64c, encA_cons, encA_nil, e2, hg0, hg9, hlen, hr, hs', hs3, hs]))
        | (with_reducible refine condP_nn (fun hb => ?_) (fun hb => ?_) <;> try (simp only [vV, reduceCtorEq, fillL, over, eqCells, Go.undef, vS, opP, Go.Vm.step, Go.Vm.ev, delM, setM, binL, binI, shI, binS, unL, cst, cst1, cells1, reduceIte, Nat.reduceAdd, Nat.reduceMul, Nat.reduceEqDiff, bound, refsC, AV.cells, AV.ref1, flatC, oneC, elems, okLog, disj, befOf, Int.reduceLT, Int.reduceLE, Int.reduceToNat, Int.reducePow, Nat.reduceLeDiff, IntKind.bits, argT, Int.reduceMul, Int.reduceAdd, Int.reduceNeg, Int.reduceSub, Int.reduceEq, Nat.reduceLT, Row.get1, Row.getN, Row.set1, Row.setN, fillE, hb, w64c, encA_cons, encA_nil, e2, hg0, hg9, hlen, hr, hs', hs3, hs]))
        | (with_reducible refine condP_n (fun hb => ?_) (fun hb => ?_) <;> try (simp only [vV, reduceCtorEq, fillL, over, eqCells, Go.undef, vS, opP, Go.Vm.step, Go.Vm.ev, delM, setM, binL, binI, shI, binS, unL, cst, cst1, cells1, reduceIte, Nat.reduceAdd, Nat.reduceMul, Nat.reduceEqDiff, bound, refsC, AV.cells, AV.ref1, flatC, oneC, elems, okLog, disj, befOf, Int.reduceLT, Int.reduceLE, Int.reduceToNat, Int.reducePow, Nat.reduceLeDiff, IntKind.bits, argT, Int.reduceMul, Int.reduceAdd, Int.reduceNeg, Int.reduceSub, Int.reduceEq, Nat.reduceLT, Row.get1, Row.getN, Row.set1, Row.setN, fillE, hb, w64c, encA_cons, encA_nil, e2, hg0, hg9, hlen, hr, hs', hs3, hs]))
        | (with_reducible refine condP_by (fun hb => ?_) (fun hb => ?_) <;> try (simp only [vV, reduceCtorEq, fillL, over, eqCells, Go.undef, vS, opP, Go.Vm.step, Go.Vm.ev, delM, setM, binL, binI, shI, binS, unL, cst, cst1, cells1, reduceIte, Nat.reduceAdd, Nat.reduceMul, Nat.reduceEqDiff, bound, refsC, AV.cells, AV.ref1, flatC, oneC, elems, okLog, disj, befOf, Int.reduceLT, Int.reduceLE, Int.reduceToNat, Int.reducePow, Nat.reduceLeDiff, IntKind.bits, argT, Int.reduceMul, Int.reduceAdd, Int.reduceNeg, Int.reduceSub, Int.reduceEq, Nat.reduceLT, Row.get1, Row.getN, Row.set1, Row.setN, fillE, hb, w64c, encA_cons, encA_nil, e2, hg0, hg9, hlen, hr, hs', hs3, hs]))
        | (refine ⟨by decide, ?_⟩)
        | (refine loop_step (Wk.refl _ _ _ _ _) ?_; simp only [vV, reduceCtorEq, fillL, over, eqCells, Go.undef, vS, opP, Go.Vm.step, Go.Vm.ev, delM, setM, binL, binI, shI, binS, unL, cst, cst1, cells1, reduceIte, Nat.reduceAdd, Nat.reduceMul, Nat.reduceEqDiff, bound, refsC, AV.cells, AV.ref1, flatC, oneC, elems, okLog, disj, befOf, Int.reduceLT, Int.reduceLE, Int.reduceToNat, Int.reducePow, Nat.reduceLeDiff, IntKind.bits, argT, Int.reduceMul, Int.reduceAdd, Int.reduceNeg, Int.reduceSub, Int.reduceEq, Nat.reduceLT, Row.get1, Row.getN, Row.set1, Row.setN, fillE, w64c, encA_cons, encA_nil, e2, hg0, hg9, hlen, hr, hs', hs3, hs]))
    all_goals (first | rfl | (exfalso; simp [hs] at hq2; try omega))
end
end Go.Proofs.YtopjkgappjgjnaaDoor
