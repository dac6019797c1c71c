/- Package span: sorting. -/
import Derived.Test.YtkjmlfbafmdegaaSpanP1
namespace Go.Proofs.Ytkjmlfbafmdegaa
open Go Go.Vm Go.UniteM Go.SpanM Go.Sort Go.Shelf
open Go.PermM (nats nats_length nats_get nats_append get_some)
set_option linter.unusedSectionVars false
set_option linter.unusedSimpArgs false
variable [Inhabited LayT]
/-! ### plait/span.sorted -/
def k_span_sorted : Nat → Bool × List Nat := fun | 0 => (false, [1]) | 1 => (false, [1, 3]) | 2 => (false, [1, 3, 9, 10]) | 3 => (false, [1, 3, 9, 10, 11]) | 4 => (false, [1, 3, 4, 9, 10]) | 5 => (false, [1, 3, 9, 10]) | 6 => (false, [1, 3, 9, 10]) | 7 => (true, [3]) | 8 => (false, [2]) | _ => (false, [])
def lc_span_sorted : LCode := (.seq (.rgn false false [] [1] [⟨(some 1), (.box 1 (.tmp 0)), none⟩, ⟨(some 2), (.mov (.const (.slice none 0 0))), none⟩]) (.seq (.rgn false false [] [1, 3] [⟨(some 5), (.load 1 false (.tmp 1)), none⟩, ⟨(some 6), (.lenL (.tmp 5)), none⟩, ⟨(some 7), (.mkSl 1 8 [(.int .i64 0)] (.tmp 6) (.tmp 6)), none⟩, ⟨(some 3), (.mov (.tmp 7)), none⟩]) (.seq (.seq (.rgn false false [] [1, 3, 9, 10] [⟨(some 8), (.mov (.tmp 3)), none⟩, ⟨(some 9), (.lenL (.tmp 8)), none⟩, ⟨(some 10), (.mov (.const (.int .i64 0))), none⟩]) (.block 0 (.loop (.seq (.rgn false false [] [1, 3, 9, 10, 11] [⟨(some 11), (.bin .lss (.tmp 10) (.tmp 9)), none⟩]) (.seq (.cond (.tmp 11) .skip (.exit 0)) (.seq (.block 1 (.seq (.rgn false false [] [1, 3, 4, 9, 10] [⟨(some 12), (.mov (.tmp 10)), none⟩, ⟨(some 4), (.mov (.tmp 12)), none⟩]) (.rgn false false [] [1, 3, 9, 10] [⟨(some 13), (.mov (.tmp 3)), none⟩, ⟨(some 14), (.mov (.tmp 4)), none⟩, ⟨(some 15), (.mov (.tmp 4)), none⟩, ⟨(some 16), (.idxA 1 (.tmp 13) (.tmp 14)), none⟩, ⟨none, (.store 1 (.tmp 16) (.tmp 15)), none⟩]))) (.rgn false false [] [1, 3, 9, 10] [⟨(some 17), (.bin .add (.tmp 10) (.const (.int .i64 1))), none⟩, ⟨(some 10), (.mov (.tmp 17)), none⟩]))))))) (.seq (.rgn true false [] [3] [⟨(some 18), (.mov (.tmp 3)), none⟩, ⟨(some 19), (.mkF 25 [(.tmp 1)]), none⟩, ⟨(some 20), (.call 24 [(.tmp 18), (.tmp 19)]), none⟩]) (.seq (.rgn false false [] [2] [⟨(some 21), (.mov (.tmp 3)), none⟩, ⟨(some 2), (.mov (.tmp 21)), none⟩]) .ret)))))
theorem comp_span_sorted : compC Try.prog Try.f18.ntmps k_span_sorted (Try.f18.body.getD .skip) = some lc_span_sorted := by kernel_rfl
theorem body_span_sorted : Try.f18.body = some (Try.f18.body.getD .skip) := by kernel_rfl
theorem pure_span_sorted {args : List AV} {M : Mem} {slot : Nat} {v : AV} (hl : args.length ≤ Try.f18.ntmps) (h : run Try.prog Try.f18.ntmps 0 lc_span_sorted (retP [2] v) (lkT (argT (ren (lkσ [])) 0 args)) (lkM []) 0) : CallOk Try.prog 18 args M slot { v } :=
  callOk_pure mix Try.func18 body_span_sorted (by kernel_rfl) (by kernel_rfl) comp_span_sorted hl (run_imp _ (fun _ _ _ _ h => retP_W h) _ _ _ h)
theorem full_span_sorted {args : List AV} {M : Mem} {slot : Nat} {out : Out} {σ : List (Nat × Nat)} {k : Nat} (hl : args.length ≤ Try.f18.ntmps) (hσ1 : (σ.map (·.1)).Nodup) (hσ2 : σ.map (·.2) = List.range k) (hrd : ∀ x ∈ σ, x.1 ∈ out.rd) (hM : ∀ x ∈ σ, (M x.1).isSome = true) (h : run Try.prog Try.f18.ntmps k lc_span_sorted (retC Try.f18.ntmps k σ slot [2] out) (lkT (argT (ren (lkσ σ)) 0 args)) (lkM (renM M σ)) k) : CallOk Try.prog 18 args M slot out :=
  callOk_of_run mix Try.func18 body_span_sorted (by kernel_rfl) (by kernel_rfl) comp_span_sorted hl hσ1 hσ2 hrd hM h
/-! ### slices.Reverse[[]int,int] -/
def k_slices_Reverse_int_int : Nat → Bool × List Nat := fun | 0 => (false, [0, 2, 3]) | 1 => (false, [0, 2, 3, 9]) | 2 => (false, [0, 2, 3]) | 3 => (false, [0, 2, 3]) | _ => (false, [])
def lc_slices_Reverse_int_int : LCode := (.seq (.rgn false false [] [0, 2, 3] [⟨(some 4), (.mov (.tmp 0)), none⟩, ⟨(some 5), (.lenL (.tmp 4)), none⟩, ⟨(some 6), (.bin .sub (.tmp 5) (.const (.int .i64 1))), none⟩, ⟨(some 2), (.mov (.const (.int .i64 0))), none⟩, ⟨(some 3), (.mov (.tmp 6)), none⟩]) (.block 0 (.loop (.seq (.seq (.rgn false false [] [0, 2, 3, 9] [⟨(some 7), (.mov (.tmp 2)), none⟩, ⟨(some 8), (.mov (.tmp 3)), none⟩, ⟨(some 9), (.bin .lss (.tmp 7) (.tmp 8)), none⟩]) (.cond (.tmp 9) .skip (.exit 0))) (.seq (.block 1 (.rgn false true [0, 0, 0, 0, 0, 0, 48, 112, 0, 0, 768, 1792, 4083, 8179, 16383, 32767] [0, 2, 3] [⟨(some 14), (.mov (.tmp 0)), none⟩, ⟨(some 15), (.mov (.tmp 2)), none⟩, ⟨(some 16), (.mov (.tmp 0)), none⟩, ⟨(some 17), (.mov (.tmp 3)), none⟩, ⟨(some 18), (.mov (.tmp 0)), none⟩, ⟨(some 19), (.mov (.tmp 3)), none⟩, ⟨(some 20), (.idxA 1 (.tmp 18) (.tmp 19)), none⟩, ⟨(some 21), (.load 1 false (.tmp 20)), none⟩, ⟨(some 22), (.mov (.tmp 0)), none⟩, ⟨(some 23), (.mov (.tmp 2)), none⟩, ⟨(some 24), (.idxA 1 (.tmp 22) (.tmp 23)), none⟩, ⟨(some 25), (.load 1 false (.tmp 24)), none⟩, ⟨(some 26), (.idxA 1 (.tmp 14) (.tmp 15)), none⟩, ⟨none, (.store 1 (.tmp 26) (.tmp 21)), none⟩, ⟨(some 27), (.idxA 1 (.tmp 16) (.tmp 17)), none⟩, ⟨none, (.store 1 (.tmp 27) (.tmp 25)), none⟩])) (.rgn false false [] [0, 2, 3] [⟨(some 10), (.mov (.tmp 2)), none⟩, ⟨(some 11), (.bin .add (.tmp 10) (.const (.int .i64 1))), none⟩, ⟨(some 12), (.mov (.tmp 3)), none⟩, ⟨(some 13), (.bin .sub (.tmp 12) (.const (.int .i64 1))), none⟩, ⟨(some 2), (.mov (.tmp 11)), none⟩, ⟨(some 3), (.mov (.tmp 13)), none⟩]))))))
theorem comp_slices_Reverse_int_int : compC Try.prog Try.f19.ntmps k_slices_Reverse_int_int (Try.f19.body.getD .skip) = some lc_slices_Reverse_int_int := by kernel_rfl
theorem body_slices_Reverse_int_int : Try.f19.body = some (Try.f19.body.getD .skip) := by kernel_rfl
theorem pure_slices_Reverse_int_int {args : List AV} {M : Mem} {slot : Nat} {v : AV} (hl : args.length ≤ Try.f19.ntmps) (h : run Try.prog Try.f19.ntmps 0 lc_slices_Reverse_int_int (retP [] v) (lkT (argT (ren (lkσ [])) 0 args)) (lkM []) 0) : CallOk Try.prog 19 args M slot { v } :=
  callOk_pure mix Try.func19 body_slices_Reverse_int_int (by kernel_rfl) (by kernel_rfl) comp_slices_Reverse_int_int hl (run_imp _ (fun _ _ _ _ h => retP_W h) _ _ _ h)
theorem full_slices_Reverse_int_int {args : List AV} {M : Mem} {slot : Nat} {out : Out} {σ : List (Nat × Nat)} {k : Nat} (hl : args.length ≤ Try.f19.ntmps) (hσ1 : (σ.map (·.1)).Nodup) (hσ2 : σ.map (·.2) = List.range k) (hrd : ∀ x ∈ σ, x.1 ∈ out.rd) (hM : ∀ x ∈ σ, (M x.1).isSome = true) (h : run Try.prog Try.f19.ntmps k lc_slices_Reverse_int_int (retC Try.f19.ntmps k σ slot [] out) (lkT (argT (ren (lkσ σ)) 0 args)) (lkM (renM M σ)) k) : CallOk Try.prog 19 args M slot out :=
  callOk_of_run mix Try.func19 body_slices_Reverse_int_int (by kernel_rfl) (by kernel_rfl) comp_slices_Reverse_int_int hl hσ1 hσ2 hrd hM h
section
variable {M : Mem} {slot : Nat}
abbrev nE64 (l : List Nat) : List (List AV) := enc (.i .i64) (nats l)
theorem subLL_n64 {s : Sub} (l : List Nat) : subLL s (nE64 l) = nE64 l := subLL_enc (fun _ => rfl)
theorem retC_n {n k : Nat} {σ : List (Nat × Nat)} {rs : List Nat} {out : Out} {T T2 : Tm} {M M2 : Mem} {nb nb2 : Nat} (hw : Wk n k T M nb T2 M2 nb2) (new : List (Nat × Nat)) (h1 : okNew k new = true)
    (h2 : out.v = sub (ren (lkσ (back σ new slot))) (resV rs T2)) (h3 : out.eff = effOf (back σ new slot) M2) : retC n k σ slot rs out .normal T M nb := ⟨.inl rfl, _, _, _, hw, new, h1, h2, h3⟩
theorem cf_less {l : List E} {m : Nat} (x y : Fin m) : ltOf (cf l) x y = lessB l x.val y.val := by
  have h1 : ∀ a b : Int, cmp3 a b = 0 ↔ a = b := fun a b => by unfold cmp3; split; omega; split <;> omega
  have h2 : ∀ a b : Int, cmp3 a b < 0 ↔ a < b := fun a b => by unfold cmp3; split; omega; split <;> omega
  unfold ltOf cf lessB
  by_cases e : ew l x.val = ew l y.val
  · rw [if_pos ((h1 _ _).2 e)]
    simp [h2, e]
  · rw [if_neg fun h => e ((h1 _ _).1 h)]
    simp [h2, e]
theorem less_swo (l : List E) (m : Nat) : SWO (ltOf (cf l (m := m))) where
  irrefl x := by rw [cf_less]; simp [lessB]
  trans x y z h1 h2 := by
    rw [cf_less] at *
    simp only [lessB, Bool.or_eq_true, Bool.and_eq_true, decide_eq_true_eq] at *
    omega
  ntrans x y z h1 h2 := by
    rw [cf_less] at *
    simp only [lessB, Bool.or_eq_false_iff, Bool.and_eq_false_iff, decide_eq_false_iff_not] at *
    omega
theorem less_tot {l : List E} {m : Nat} (x y : Fin m) (h1 : ltOf (cf l) x y = false) (h2 : ltOf (cf l) y x = false) : x = y := by
  rw [cf_less] at *
  simp only [lessB, Bool.or_eq_false_iff, Bool.and_eq_false_iff, decide_eq_false_iff_not] at *
  exact Fin.ext (by omega)
theorem order_fin (l : List E) : ints ((List.finRange l.length).mergeSort fun x y => !(ltOf (cf l)) y x) = nats (order l) := by
  have h : ((List.finRange l.length).mergeSort fun x y => !(ltOf (cf l)) y x).map (fun i : Fin l.length => i.val) = order l := by
    rw [List.map_mergeSort (s := fun i j => !lessB l j i) (fun a _ b _ => by rw [cf_less])]
    unfold order
    congr 1
    exact List.ext_getElem (by simp) (by simp)
  rw [← h]
  simp [ints, nats]
theorem ints_fin (m : Nat) : ints (List.finRange m) = nats (List.range m) := by
  unfold ints nats
  exact List.ext_getElem (by simp) (by simp)
theorem subLL_box {s : Sub} {x : List (List AV)} : subLL s (enc (.deep 3) [x]) = enc (.deep 3) [subLL s x] := (rfl)
theorem sort_callable : Callable Try.prog 24 := ⟨Try.f24, Try.f24.body.getD .skip, Try.func24, by kernel_rfl, by kernel_rfl⟩
theorem sort_ok {l : List E} {id : Nat} (hM : M id = some ⟨1, enc (.i .i64) (nats (List.range l.length))⟩) (hl : l.length ≤ 100000) :
    CallOk Try.prog 24 [.own id 0 l.length 1, .fn 25 [.dptr [dE l]]] M slot { v := .tup [], eff := [(id, some ⟨1, enc (.i .i64) (nats (order l))⟩)], rd := [id] } := by
  by_cases h : l = []
  · subst h
    rw [show enc (AV.i .i64) (nats (order [])) = [] by simp [order, nats, enc]]
    exact callOk_sort0 (slot := slot) Try.l hM sort_callable
  · haveI : Inhabited (Fin l.length) := ⟨⟨0, List.length_pos_iff.2 h⟩⟩
    have := callOk_sort Try.l (cf l) (less_swo l _) less_tot (g := 25) (caps := [.dptr [dE l]]) (M := M) (slot := slot) (id := id) (ds := List.finRange l.length)
      (by rw [encF, ints_fin]; exact hM) (by simp [subL, sub, subLL_eE]) (less_ok (M := mem0) (slot := 0) (l := l) (x := default) (y := default)).1 sort_callable
      (by rw [List.length_finRange]; omega) (fun x y => less_ok)
    rw [List.length_finRange, encF, order_fin] at this
    exact this
theorem sorted_ok {l : List E} (hl : l.length ≤ 100000) : CallOk Try.prog 18 [dE l] M slot { v := .own slot 0 l.length 1, eff := [(slot, some ⟨1, enc (.i .i64) (nats (order l))⟩)] } := by
  refine full_span_sorted (σ := []) (k := 0) (Nat.le_of_ble_eq_true (by kernel_rfl)) (by simp) (by simp) (by simp) (by simp) ?_
  unfold lc_span_sorted
  have hn1 : (l.length : Int) ≤ 9223372036854775807 := by omega
  have hn2 : l.length * 8 ≤ 281474976710656 := by omega
  simp only [vS, opP, Go.Vm.step, Go.Vm.ev, delM, setM, binL, binI, shI, binS, unL, cst, cst1, cells1, reduceIte, Nat.reduceAdd, Nat.reduceMul, Nat.reduceEqDiff, bound, refsC, AV.cells, AV.ref1, flatC, oneC, elems, okLog, disj, befOf, Int.reduceLT, Int.reduceLE, Int.reduceToNat, Int.reducePow, Nat.reduceLeDiff, IntKind.bits, argT, Int.reduceMul, Int.reduceAdd, Int.reduceNeg, Int.reduceSub, Int.reduceEq, Nat.reduceLT, Row.get1, Row.getN, Row.set1, Row.setN, fillE, subLL_eE, eE_length, hn1, hn2, renM, List.filterMap_nil, fillL, over]
  refine loop_by (fun i => i ≤ l.length) (fun i => l.length - i)
    (fun i => [(1, .ptr 0 0 0), (3, .own 1 0 l.length 1), (9, .i .i64 l.length), (10, .i .i64 i)])
    (fun i => [(0, ⟨1, enc (.deep 3) [eE l]⟩), (1, ⟨1, enc (.i .i64) (nats ((List.range l.length).take i) ++ List.replicate (l.length - i) 0)⟩)]) 8 ?_ 0 (Nat.zero_le _)
    (Wk.norm [(0, 0), (32, 1)] (by decide) ?_ ?_)
  · intro i hi0
    by_cases hi : i < l.length
    · have p1 := part_len (l := List.range l.length) (n := l.length) (List.length_range ..) hi0
      have q1 := part_set (l := List.range l.length) (n := l.length) (List.length_range ..) hi (v := i) (g_range hi)
      simp only [vS, opP, Go.Vm.step, Go.Vm.ev, delM, setM, binL, binI, shI, binS, unL, cst, cst1, cells1, reduceIte, Nat.reduceAdd, Nat.reduceMul, Nat.reduceEqDiff, bound, refsC, AV.cells, AV.ref1, flatC, oneC, elems, okLog, disj, befOf, Int.reduceLT, Int.reduceLE, Int.reduceToNat, Int.reducePow, Nat.reduceLeDiff, IntKind.bits, argT, Int.reduceMul, Int.reduceAdd, Int.reduceNeg, Int.reduceSub, Int.reduceEq, Nat.reduceLT, Row.get1, Row.getN, Row.set1, Row.setN, fillE, hi, p1, q1, winc hi (by omega)]
      refine ⟨i + 1, hi, by omega, Wk.norm [(0, 0), (1, 1)] (by decide) ?_ ?_⟩
      · simp only [vS, opP, Go.Vm.step, Go.Vm.ev, delM, setM, binL, binI, shI, binS, unL, cst, cst1, cells1, reduceIte, Nat.reduceAdd, Nat.reduceMul, Nat.reduceEqDiff, bound, refsC, AV.cells, AV.ref1, flatC, oneC, elems, okLog, disj, befOf, Int.reduceLT, Int.reduceLE, Int.reduceToNat, Int.reducePow, Nat.reduceLeDiff, IntKind.bits, argT, Int.reduceMul, Int.reduceAdd, Int.reduceNeg, Int.reduceSub, Int.reduceEq, Nat.reduceLT, Row.get1, Row.getN, Row.set1, Row.setN, fillE, vW, renM, frM, subRow, Nat.reduceBNe, frs, frOk, frOut]
      · simp only [vS, opP, Go.Vm.step, Go.Vm.ev, delM, setM, binL, binI, shI, binS, unL, cst, cst1, cells1, reduceIte, Nat.reduceAdd, Nat.reduceMul, Nat.reduceEqDiff, bound, refsC, AV.cells, AV.ref1, flatC, oneC, elems, okLog, disj, befOf, Int.reduceLT, Int.reduceLE, Int.reduceToNat, Int.reducePow, Nat.reduceLeDiff, IntKind.bits, argT, Int.reduceMul, Int.reduceAdd, Int.reduceNeg, Int.reduceSub, Int.reduceEq, Nat.reduceLT, Row.get1, Row.getN, Row.set1, Row.setN, fillE, vW, renM, frM, subRow, Nat.reduceBNe, frs, frOk, frOut, subLL_box, subLL_eE]
    · obtain rfl : i = l.length := by omega
      have t1 : (List.range l.length).take l.length = List.range l.length := List.take_of_length_le (by simp)
      simp only [vS, opP, Go.Vm.step, Go.Vm.ev, delM, setM, binL, binI, shI, binS, unL, cst, cst1, cells1, reduceIte, Nat.reduceAdd, Nat.reduceMul, Nat.reduceEqDiff, bound, refsC, AV.cells, AV.ref1, flatC, oneC, elems, okLog, disj, befOf, Int.reduceLT, Int.reduceLE, Int.reduceToNat, Int.reducePow, Nat.reduceLeDiff, IntKind.bits, argT, Int.reduceMul, Int.reduceAdd, Int.reduceNeg, Int.reduceSub, Int.reduceEq, Nat.reduceLT, Row.get1, Row.getN, Row.set1, Row.setN, fillE, hi, t1, Nat.sub_self, List.replicate_zero, List.append_nil]
      refine run_rgnW (Wk.fr 0 (l2 := [(1, .dptr [dE l]), (3, .own 1 0 l.length 1)]) (m2 := [(1, ⟨1, enc (.i .i64) (nats (List.range l.length))⟩)]) (nb2 := 8) rfl ?_ ?_) ?_
      · simp only [vS, opP, Go.Vm.step, Go.Vm.ev, delM, setM, binL, binI, shI, binS, unL, cst, cst1, cells1, reduceIte, Nat.reduceAdd, Nat.reduceMul, Nat.reduceEqDiff, bound, refsC, AV.cells, AV.ref1, flatC, oneC, elems, okLog, disj, befOf, Int.reduceLT, Int.reduceLE, Int.reduceToNat, Int.reducePow, Nat.reduceLeDiff, IntKind.bits, argT, Int.reduceMul, Int.reduceAdd, Int.reduceNeg, Int.reduceSub, Int.reduceEq, Nat.reduceLT, Row.get1, Row.getN, Row.set1, Row.setN, fillE, vW, renM, frM, subRow, Nat.reduceBNe, frs, frOk, frOut, subLL_eE]
        rfl
      · simp only [vS, opP, Go.Vm.step, Go.Vm.ev, delM, setM, binL, binI, shI, binS, unL, cst, cst1, cells1, reduceIte, Nat.reduceAdd, Nat.reduceMul, Nat.reduceEqDiff, bound, refsC, AV.cells, AV.ref1, flatC, oneC, elems, okLog, disj, befOf, Int.reduceLT, Int.reduceLE, Int.reduceToNat, Int.reducePow, Nat.reduceLeDiff, IntKind.bits, argT, Int.reduceMul, Int.reduceAdd, Int.reduceNeg, Int.reduceSub, Int.reduceEq, Nat.reduceLT, Row.get1, Row.getN, Row.set1, Row.setN, fillE, vW, renM, frM, subRow, Nat.reduceBNe, frs, frOk, frOut]
      · simp only [vS, opP, Go.Vm.step, Go.Vm.ev, delM, setM, binL, binI, shI, binS, unL, cst, cst1, cells1, reduceIte, Nat.reduceAdd, Nat.reduceMul, Nat.reduceEqDiff, bound, refsC, AV.cells, AV.ref1, flatC, oneC, elems, okLog, disj, befOf, Int.reduceLT, Int.reduceLE, Int.reduceToNat, Int.reducePow, Nat.reduceLeDiff, IntKind.bits, argT, Int.reduceMul, Int.reduceAdd, Int.reduceNeg, Int.reduceSub, Int.reduceEq, Nat.reduceLT, Row.get1, Row.getN, Row.set1, Row.setN, fillE]
        refine callP_ok (sort_ok rfl hl) ?_
        simp only [vS, opP, Go.Vm.step, Go.Vm.ev, delM, setM, binL, binI, shI, binS, unL, cst, cst1, cells1, reduceIte, Nat.reduceAdd, Nat.reduceMul, Nat.reduceEqDiff, bound, refsC, AV.cells, AV.ref1, flatC, oneC, elems, okLog, disj, befOf, Int.reduceLT, Int.reduceLE, Int.reduceToNat, Int.reducePow, Nat.reduceLeDiff, IntKind.bits, argT, Int.reduceMul, Int.reduceAdd, Int.reduceNeg, Int.reduceSub, Int.reduceEq, Nat.reduceLT, Row.get1, Row.getN, Row.set1, Row.setN, fillE]
        refine retC_i (Wk.norm [(1, 0)] (by decide) (l2 := [(2, .own 0 0 l.length 1)]) (m2 := [(0, ⟨1, enc (.i .i64) (nats (order l))⟩)]) (nb2 := 8) ?_ ?_) [(0, 0)] rfl ?_ ?_
        · simp only [vS, opP, Go.Vm.step, Go.Vm.ev, delM, setM, binL, binI, shI, binS, unL, cst, cst1, cells1, reduceIte, Nat.reduceAdd, Nat.reduceMul, Nat.reduceEqDiff, bound, refsC, AV.cells, AV.ref1, flatC, oneC, elems, okLog, disj, befOf, Int.reduceLT, Int.reduceLE, Int.reduceToNat, Int.reducePow, Nat.reduceLeDiff, IntKind.bits, argT, Int.reduceMul, Int.reduceAdd, Int.reduceNeg, Int.reduceSub, Int.reduceEq, Nat.reduceLT, Row.get1, Row.getN, Row.set1, Row.setN, fillE, vW, renM, frM, subRow, Nat.reduceBNe, frs, frOk, frOut]
        · simp only [vS, opP, Go.Vm.step, Go.Vm.ev, delM, setM, binL, binI, shI, binS, unL, cst, cst1, cells1, reduceIte, Nat.reduceAdd, Nat.reduceMul, Nat.reduceEqDiff, bound, refsC, AV.cells, AV.ref1, flatC, oneC, elems, okLog, disj, befOf, Int.reduceLT, Int.reduceLE, Int.reduceToNat, Int.reducePow, Nat.reduceLeDiff, IntKind.bits, argT, Int.reduceMul, Int.reduceAdd, Int.reduceNeg, Int.reduceSub, Int.reduceEq, Nat.reduceLT, Row.get1, Row.getN, Row.set1, Row.setN, fillE, vW, renM, frM, subRow, Nat.reduceBNe, frs, frOk, frOut]
        · simp only [vS, opP, Go.Vm.step, Go.Vm.ev, delM, setM, binL, binI, shI, binS, unL, cst, cst1, cells1, reduceIte, Nat.reduceAdd, Nat.reduceMul, Nat.reduceEqDiff, bound, refsC, AV.cells, AV.ref1, flatC, oneC, elems, okLog, disj, befOf, Int.reduceLT, Int.reduceLE, Int.reduceToNat, Int.reducePow, Nat.reduceLeDiff, IntKind.bits, argT, Int.reduceMul, Int.reduceAdd, Int.reduceNeg, Int.reduceSub, Int.reduceEq, Nat.reduceLT, Row.get1, Row.getN, Row.set1, Row.setN, fillE, vW, renM, frM, subRow, Nat.reduceBNe, frs, frOk, frOut, back, List.nil_append, resV]
        · simp only [vS, opP, Go.Vm.step, Go.Vm.ev, delM, setM, binL, binI, shI, binS, unL, cst, cst1, cells1, reduceIte, Nat.reduceAdd, Nat.reduceMul, Nat.reduceEqDiff, bound, refsC, AV.cells, AV.ref1, flatC, oneC, elems, okLog, disj, befOf, Int.reduceLT, Int.reduceLE, Int.reduceToNat, Int.reducePow, Nat.reduceLeDiff, IntKind.bits, argT, Int.reduceMul, Int.reduceAdd, Int.reduceNeg, Int.reduceSub, Int.reduceEq, Nat.reduceLT, Row.get1, Row.getN, Row.set1, Row.setN, fillE, vW, renM, frM, subRow, Nat.reduceBNe, frs, frOk, frOut, back, List.nil_append, effOf]
  · simp only [vS, opP, Go.Vm.step, Go.Vm.ev, delM, setM, binL, binI, shI, binS, unL, cst, cst1, cells1, reduceIte, Nat.reduceAdd, Nat.reduceMul, Nat.reduceEqDiff, bound, refsC, AV.cells, AV.ref1, flatC, oneC, elems, okLog, disj, befOf, Int.reduceLT, Int.reduceLE, Int.reduceToNat, Int.reducePow, Nat.reduceLeDiff, IntKind.bits, argT, Int.reduceMul, Int.reduceAdd, Int.reduceNeg, Int.reduceSub, Int.reduceEq, Nat.reduceLT, Row.get1, Row.getN, Row.set1, Row.setN, fillE, vW, renM, frM, subRow, Nat.reduceBNe, frs, frOk, frOut]
  · simp only [vS, opP, Go.Vm.step, Go.Vm.ev, delM, setM, binL, binI, shI, binS, unL, cst, cst1, cells1, reduceIte, Nat.reduceAdd, Nat.reduceMul, Nat.reduceEqDiff, bound, refsC, AV.cells, AV.ref1, flatC, oneC, elems, okLog, disj, befOf, Int.reduceLT, Int.reduceLE, Int.reduceToNat, Int.reducePow, Nat.reduceLeDiff, IntKind.bits, argT, Int.reduceMul, Int.reduceAdd, Int.reduceNeg, Int.reduceSub, Int.reduceEq, Nat.reduceLT, Row.get1, Row.getN, Row.set1, Row.setN, fillE, vW, renM, frM, subRow, Nat.reduceBNe, frs, frOk, frOut, subLL_box, subLL_eE, List.take_zero, Nat.sub_zero]
    rfl
theorem reverse_ok {l : List Nat} {id : Nat} (hl : l.length ≤ 100000) (hM : M id = some ⟨1, nE64 l⟩) : CallOk Try.prog 19 [.own id 0 l.length 1] M slot { v := .tup [], eff := [(id, some ⟨1, nE64 l.reverse⟩)], rd := [id] } := by
  refine full_slices_Reverse_int_int (σ := [(id, 0)]) (k := 1) (Nat.le_of_ble_eq_true (by kernel_rfl)) (by simp) rfl (by simp) (by simp [hM]) ?_
  unfold lc_slices_Reverse_int_int
  rw [show renM M [(id, 0)] = [(0, ⟨1, nE64 l⟩)] by simp [renM, hM, subRow, subLL_n64]]
  have w0 : IntKind.i64.wrap ((l.length : Int) - 1) = (l.length : Int) - 1 := by rw [IntKind.wrap_i64]; omega
  have s0 : sub (ren (lkσ [(id, 0)])) (.own id 0 l.length 1) = .own 0 0 l.length 1 := by simp [sub, ren, lkσ]
  simp only [vS, opP, Go.Vm.step, Go.Vm.ev, delM, setM, binL, binI, shI, binS, unL, cst, cst1, cells1, reduceIte, Nat.reduceAdd, Nat.reduceMul, Nat.reduceEqDiff, bound, refsC, AV.cells, AV.ref1, flatC, oneC, elems, okLog, disj, befOf, Int.reduceLT, Int.reduceLE, Int.reduceToNat, Int.reducePow, Nat.reduceLeDiff, IntKind.bits, argT, Int.reduceMul, Int.reduceAdd, Int.reduceNeg, Int.reduceSub, Int.reduceEq, Nat.reduceLT, Row.get1, Row.getN, Row.set1, Row.setN, fillE, s0, w0]
  refine loop_by (fun i => 2 * i ≤ l.length + 1) (fun i => l.length + 1 - i)
    (fun i => [(0, .own 0 0 l.length 1), (2, .i .i64 i), (3, .i .i64 ((l.length : Int) - 1 - i))])
    (fun i => [(0, ⟨1, nE64 (rv l i)⟩)]) 8 ?_ 0 (by omega)
    (Wk.norm [(0, 0)] (by decide) ?_ ?_)
  · intro i hi0
    have hrl := rv_length l i
    have hnl : (nats (rv l i)).length = l.length := by rw [nats_length, hrl]
    by_cases hi : 2 * i + 1 < l.length
    · have h1 : (i : Int) < (l.length : Int) - 1 - i := by omega
      have h2 : (l.length : Int) - 1 - i = ((l.length - 1 - i : Nat) : Int) := by omega
      have h3 : i < l.length := by omega
      have h4 : l.length - 1 - i < l.length := by omega
      have g1 : (nats (rv l i))[i]? = some ((g (rv l i) i : Nat) : Int) := by rw [nats_get, g_get (by omega)]; rfl
      have g2 : (nats (rv l i))[l.length - 1 - i]? = some ((g (rv l i) (l.length - 1 - i) : Nat) : Int) := by rw [nats_get, g_get (by omega)]; rfl
      have hst := rv_step hi
      have w1 : IntKind.i64.wrap (((l.length - 1 - i : Nat) : Int) - 1) = (l.length : Int) - 1 - (i + 1 : Nat) := by rw [IntKind.wrap_i64]; omega
      have h5 : i < l.length - 1 - i := by omega
      have h7 : (nats ((rv l i).set i (g (rv l i) (l.length - 1 - i)))).length = l.length := by rw [nats_length, List.length_set, hrl]
      rw [h2]
      simp only [vS, opP, Go.Vm.step, Go.Vm.ev, delM, setM, binL, binI, shI, binS, unL, cst, cst1, cells1, reduceIte, Nat.reduceAdd, Nat.reduceMul, Nat.reduceEqDiff, bound, refsC, AV.cells, AV.ref1, flatC, oneC, elems, okLog, disj, befOf, Int.reduceLT, Int.reduceLE, Int.reduceToNat, Int.reducePow, Nat.reduceLeDiff, IntKind.bits, argT, Int.reduceMul, Int.reduceAdd, Int.reduceNeg, Int.reduceSub, Int.reduceEq, Nat.reduceLT, Row.get1, Row.getN, Row.set1, Row.setN, fillE, h3, h4, h5, h7, hnl, g1, g2, nats_set, hst, winc h3 (by omega), w1]
      refine ⟨by decide, i + 1, by omega, by omega, Wk.norm [(0, 0)] (by decide) ?_ ?_⟩
      · simp only [vS, opP, Go.Vm.step, Go.Vm.ev, delM, setM, binL, binI, shI, binS, unL, cst, cst1, cells1, reduceIte, Nat.reduceAdd, Nat.reduceMul, Nat.reduceEqDiff, bound, refsC, AV.cells, AV.ref1, flatC, oneC, elems, okLog, disj, befOf, Int.reduceLT, Int.reduceLE, Int.reduceToNat, Int.reducePow, Nat.reduceLeDiff, IntKind.bits, argT, Int.reduceMul, Int.reduceAdd, Int.reduceNeg, Int.reduceSub, Int.reduceEq, Nat.reduceLT, Row.get1, Row.getN, Row.set1, Row.setN, fillE, vW, renM, frM, subRow, Nat.reduceBNe, frs, frOk, frOut]
      · simp only [vS, opP, Go.Vm.step, Go.Vm.ev, delM, setM, binL, binI, shI, binS, unL, cst, cst1, cells1, reduceIte, Nat.reduceAdd, Nat.reduceMul, Nat.reduceEqDiff, bound, refsC, AV.cells, AV.ref1, flatC, oneC, elems, okLog, disj, befOf, Int.reduceLT, Int.reduceLE, Int.reduceToNat, Int.reducePow, Nat.reduceLeDiff, IntKind.bits, argT, Int.reduceMul, Int.reduceAdd, Int.reduceNeg, Int.reduceSub, Int.reduceEq, Nat.reduceLT, Row.get1, Row.getN, Row.set1, Row.setN, fillE, vW, renM, frM, subRow, Nat.reduceBNe, frs, frOk, frOut, subLL_n64]
    · have h1 : ¬ (i : Int) < (l.length : Int) - 1 - i := by omega
      have h6 := rv_end (l := l) (i := i) (by omega)
      simp only [vS, opP, Go.Vm.step, Go.Vm.ev, delM, setM, binL, binI, shI, binS, unL, cst, cst1, cells1, reduceIte, Nat.reduceAdd, Nat.reduceMul, Nat.reduceEqDiff, bound, refsC, AV.cells, AV.ref1, flatC, oneC, elems, okLog, disj, befOf, Int.reduceLT, Int.reduceLE, Int.reduceToNat, Int.reducePow, Nat.reduceLeDiff, IntKind.bits, argT, Int.reduceMul, Int.reduceAdd, Int.reduceNeg, Int.reduceSub, Int.reduceEq, Nat.reduceLT, Row.get1, Row.getN, Row.set1, Row.setN, fillE, h1, h6]
      refine retC_n (Wk.refl _ _ _ _ _) [] rfl ?_ ?_
      · simp only [vS, opP, Go.Vm.step, Go.Vm.ev, delM, setM, binL, binI, shI, binS, unL, cst, cst1, cells1, reduceIte, Nat.reduceAdd, Nat.reduceMul, Nat.reduceEqDiff, bound, refsC, AV.cells, AV.ref1, flatC, oneC, elems, okLog, disj, befOf, Int.reduceLT, Int.reduceLE, Int.reduceToNat, Int.reducePow, Nat.reduceLeDiff, IntKind.bits, argT, Int.reduceMul, Int.reduceAdd, Int.reduceNeg, Int.reduceSub, Int.reduceEq, Nat.reduceLT, Row.get1, Row.getN, Row.set1, Row.setN, fillE, vW, renM, frM, subRow, Nat.reduceBNe, frs, frOk, frOut, back, List.nil_append, resV]
      · simp only [vS, opP, Go.Vm.step, Go.Vm.ev, delM, setM, binL, binI, shI, binS, unL, cst, cst1, cells1, reduceIte, Nat.reduceAdd, Nat.reduceMul, Nat.reduceEqDiff, bound, refsC, AV.cells, AV.ref1, flatC, oneC, elems, okLog, disj, befOf, Int.reduceLT, Int.reduceLE, Int.reduceToNat, Int.reducePow, Nat.reduceLeDiff, IntKind.bits, argT, Int.reduceMul, Int.reduceAdd, Int.reduceNeg, Int.reduceSub, Int.reduceEq, Nat.reduceLT, Row.get1, Row.getN, Row.set1, Row.setN, fillE, vW, renM, frM, subRow, Nat.reduceBNe, frs, frOk, frOut, back, List.nil_append, effOf]
  · simp only [vS, opP, Go.Vm.step, Go.Vm.ev, delM, setM, binL, binI, shI, binS, unL, cst, cst1, cells1, reduceIte, Nat.reduceAdd, Nat.reduceMul, Nat.reduceEqDiff, bound, refsC, AV.cells, AV.ref1, flatC, oneC, elems, okLog, disj, befOf, Int.reduceLT, Int.reduceLE, Int.reduceToNat, Int.reducePow, Nat.reduceLeDiff, IntKind.bits, argT, Int.reduceMul, Int.reduceAdd, Int.reduceNeg, Int.reduceSub, Int.reduceEq, Nat.reduceLT, Row.get1, Row.getN, Row.set1, Row.setN, fillE, vW, renM, frM, subRow, Nat.reduceBNe, frs, frOk, frOut, Int.sub_zero]
  · simp only [vS, opP, Go.Vm.step, Go.Vm.ev, delM, setM, binL, binI, shI, binS, unL, cst, cst1, cells1, reduceIte, Nat.reduceAdd, Nat.reduceMul, Nat.reduceEqDiff, bound, refsC, AV.cells, AV.ref1, flatC, oneC, elems, okLog, disj, befOf, Int.reduceLT, Int.reduceLE, Int.reduceToNat, Int.reducePow, Nat.reduceLeDiff, IntKind.bits, argT, Int.reduceMul, Int.reduceAdd, Int.reduceNeg, Int.reduceSub, Int.reduceEq, Nat.reduceLT, Row.get1, Row.getN, Row.set1, Row.setN, fillE, vW, renM, frM, subRow, Nat.reduceBNe, frs, frOk, frOut, rv_zero, subLL_n64]
end
end Go.Proofs.Ytkjmlfbafmdegaa
