/- Package unite: New and Back. -/
import Derived.Test.YtflnpnpbcdmphaaDoorUniteD1
namespace Go.Proofs.YtflnpnpbcdmphaaDoor
open Go Go.Vm Go.UniteM
open Go.PermM (nats nats_length nats_get nats_append get_some)
set_option linter.unusedSectionVars false
set_option linter.unusedSimpArgs false
/-! ### plait/unite.New -/
def k_unite_New : Nat → Bool × List Nat := fun | 0 => (false, [0]) | 1 => (false, [0, 11]) | 2 => (false, [2, 3]) | 3 => (false, [4]) | 4 => (false, [4, 25, 26]) | 5 => (false, [4, 25, 26, 27]) | 6 => (false, [4, 5, 25, 26]) | 7 => (false, [4, 25, 26]) | 8 => (false, [4, 25, 26]) | 9 => (false, [2, 3]) | _ => (false, [])
def lc_unite_New : LCode := (.seq (.rgn false false [] [0] [⟨(some 2), (.mov (.const (.pointer none))), none⟩, ⟨(some 3), (.mov (.const .nilIface)), none⟩]) (.seq (.seq (.rgn false false [] [0, 11] [⟨(some 6), (.mov (.tmp 0)), none⟩, ⟨(some 7), (.bin .lss (.tmp 6) (.const (.int .i64 1))), none⟩, ⟨(some 8), (.mov (.tmp 7)), none⟩, ⟨(some 9), (.mov (.tmp 0)), (some (8, false))⟩, ⟨(some 10), (.bin .gtr (.tmp 9) (.const (.int .i64 4194304))), (some (8, false))⟩, ⟨(some 11), (.pick (.tmp 8) (.const (.bool true)) (.tmp 10)), none⟩]) (.cond (.tmp 11) (.seq (.rgn false false [] [2, 3] [⟨(some 12), (.mkI 48 (.const (.int .i64 1))), none⟩, ⟨(some 2), (.mov (.const (.pointer none))), none⟩, ⟨(some 3), (.mov (.tmp 12)), none⟩]) .ret) .skip)) (.seq (.rgn false true [0, 1, 0, 4, 0, 16, 63, 127, 255] [4] [⟨(some 13), (.mov (.tmp 0)), none⟩, ⟨(some 14), (.mkSl 1 4 [(.int .i32 0)] (.tmp 13) (.tmp 13)), none⟩, ⟨(some 15), (.mov (.tmp 0)), none⟩, ⟨(some 16), (.mkSl 1 4 [(.int .i32 0)] (.tmp 15) (.tmp 15)), none⟩, ⟨(some 17), (.mov (.tmp 0)), none⟩, ⟨(some 18), (.mkSl 1 4 [(.int .i32 0)] (.tmp 17) (.tmp 17)), none⟩, ⟨(some 19), (.build [(.slice none 0 0), (.slice none 0 0), (.slice none 0 0), (.slice none 0 0)] [(0, (1, (.tmp 14))), (1, (1, (.tmp 16))), (2, (1, (.tmp 18)))]), none⟩, ⟨(some 20), (.box 4 (.tmp 19)), none⟩, ⟨(some 4), (.mov (.tmp 20)), none⟩]) (.seq (.seq (.rgn false false [] [4, 25, 26] [⟨(some 21), (.mov (.tmp 4)), none⟩, ⟨(some 22), (.nilc (.tmp 21)), none⟩, ⟨(some 23), (.fldA 0 (.tmp 22)), none⟩, ⟨(some 24), (.load 1 false (.tmp 23)), none⟩, ⟨(some 25), (.lenL (.tmp 24)), none⟩, ⟨(some 26), (.mov (.const (.int .i64 0))), none⟩]) (.block 0 (.loop (.seq (.rgn false false [] [4, 25, 26, 27] [⟨(some 27), (.bin .lss (.tmp 26) (.tmp 25)), none⟩]) (.seq (.cond (.tmp 27) .skip (.exit 0)) (.seq (.block 1 (.seq (.rgn false false [] [4, 5, 25, 26] [⟨(some 28), (.mov (.tmp 26)), none⟩, ⟨(some 5), (.mov (.tmp 28)), none⟩]) (.rgn false true [0, 1, 3, 7, 0, 0, 32, 96, 224, 0, 0, 1024, 3072, 7168, 0, 0, 32768, 0, 131072, 114175, 638463, 1687551, 3784703, 8388607, 16777215] [4, 25, 26] [⟨(some 29), (.mov (.tmp 4)), none⟩, ⟨(some 30), (.nilc (.tmp 29)), none⟩, ⟨(some 31), (.fldA 0 (.tmp 30)), none⟩, ⟨(some 32), (.load 1 false (.tmp 31)), none⟩, ⟨(some 33), (.mov (.tmp 5)), none⟩, ⟨(some 34), (.mov (.tmp 4)), none⟩, ⟨(some 35), (.nilc (.tmp 34)), none⟩, ⟨(some 36), (.fldA 1 (.tmp 35)), none⟩, ⟨(some 37), (.load 1 false (.tmp 36)), none⟩, ⟨(some 38), (.mov (.tmp 5)), none⟩, ⟨(some 39), (.mov (.tmp 4)), none⟩, ⟨(some 40), (.nilc (.tmp 39)), none⟩, ⟨(some 41), (.fldA 2 (.tmp 40)), none⟩, ⟨(some 42), (.load 1 false (.tmp 41)), none⟩, ⟨(some 43), (.mov (.tmp 5)), none⟩, ⟨(some 44), (.mov (.tmp 5)), none⟩, ⟨(some 45), (.convI .i32 (.tmp 44)), none⟩, ⟨(some 46), (.mov (.tmp 5)), none⟩, ⟨(some 47), (.convI .i32 (.tmp 46)), none⟩, ⟨(some 48), (.idxA 1 (.tmp 32) (.tmp 33)), none⟩, ⟨none, (.store 1 (.tmp 48) (.tmp 45)), none⟩, ⟨(some 49), (.idxA 1 (.tmp 37) (.tmp 38)), none⟩, ⟨none, (.store 1 (.tmp 49) (.const (.int .i32 1))), none⟩, ⟨(some 50), (.idxA 1 (.tmp 42) (.tmp 43)), none⟩, ⟨none, (.store 1 (.tmp 50) (.tmp 47)), none⟩]))) (.rgn false false [] [4, 25, 26] [⟨(some 51), (.bin .add (.tmp 26) (.const (.int .i64 1))), none⟩, ⟨(some 26), (.mov (.tmp 51)), none⟩]))))))) (.seq (.rgn false false [] [2, 3] [⟨(some 52), (.mov (.tmp 4)), none⟩, ⟨(some 2), (.mov (.tmp 52)), none⟩, ⟨(some 3), (.mov (.const .nilIface)), none⟩]) .ret)))))
theorem comp_unite_New : compC Tryd.prog Tryd.f5.ntmps k_unite_New (Tryd.f5.body.getD .skip) = some lc_unite_New := by kernel_rfl
theorem body_unite_New : Tryd.f5.body = some (Tryd.f5.body.getD .skip) := by kernel_rfl
theorem pure_unite_New {args : List AV} {M : Mem} {slot : Nat} {v : AV} (hl : args.length ≤ Tryd.f5.ntmps) (h : run Tryd.prog Tryd.f5.ntmps 0 lc_unite_New (retP [2, 3] v) (lkT (argT (ren (lkσ [])) 0 args)) (lkM []) 0) : CallOk Tryd.prog 5 args M slot { v } :=
  callOk_pure mix Tryd.func5 body_unite_New (by kernel_rfl) (by kernel_rfl) comp_unite_New hl (run_imp _ (fun _ _ _ _ h => retP_W h) _ _ _ h)
theorem full_unite_New {args : List AV} {M : Mem} {slot : Nat} {out : Out} {σ : List (Nat × Nat)} {k : Nat} (hl : args.length ≤ Tryd.f5.ntmps) (hσ1 : (σ.map (·.1)).Nodup) (hσ2 : σ.map (·.2) = List.range k) (hrd : ∀ x ∈ σ, x.1 ∈ out.rd) (hM : ∀ x ∈ σ, (M x.1).isSome = true) (h : run Tryd.prog Tryd.f5.ntmps k lc_unite_New (retC Tryd.f5.ntmps k σ slot [2, 3] out) (lkT (argT (ren (lkσ σ)) 0 args)) (lkM (renM M σ)) k) : CallOk Tryd.prog 5 args M slot out :=
  callOk_of_run mix Tryd.func5 body_unite_New (by kernel_rfl) (by kernel_rfl) comp_unite_New hl hσ1 hσ2 hrd hM h
/-! ### (*plait/unite.Groups).Back -/
def k_unite_Groups_Back : Nat → Bool × List Nat := fun | 0 => (false, [0, 1]) | 1 => (false, [0, 1, 20]) | 2 => (false, [4]) | 3 => (false, [0, 1, 28]) | 4 => (false, [0, 1, 5]) | 5 => (false, [0, 1, 5]) | 6 => (false, [0, 1, 5]) | 7 => (false, [0, 1, 5]) | 8 => (false, [0, 1]) | 9 => (false, [4]) | _ => (false, [])
def lc_unite_Groups_Back : LCode := (.seq (.rgn false false [] [0, 1] [⟨(some 4), (.mov (.const .nilIface)), none⟩]) (.seq (.seq (.rgn false false [] [0, 1, 20] [⟨(some 6), (.mov (.tmp 0)), none⟩, ⟨(some 7), (.eqn false true (.tmp 6)), none⟩, ⟨(some 8), (.mov (.tmp 7)), none⟩, ⟨(some 9), (.mov (.tmp 1)), (some (8, false))⟩, ⟨(some 10), (.bin .lss (.tmp 9) (.const (.int .i64 0))), (some (8, false))⟩, ⟨(some 11), (.pick (.tmp 8) (.const (.bool true)) (.tmp 10)), none⟩, ⟨(some 12), (.mov (.tmp 11)), none⟩, ⟨(some 13), (.mov (.tmp 1)), (some (12, false))⟩, ⟨(some 14), (.mov (.tmp 0)), (some (12, false))⟩, ⟨(some 15), (.nilc (.tmp 14)), (some (12, false))⟩, ⟨(some 16), (.fldA 3 (.tmp 15)), (some (12, false))⟩, ⟨(some 17), (.load 1 false (.tmp 16)), (some (12, false))⟩, ⟨(some 18), (.lenL (.tmp 17)), (some (12, false))⟩, ⟨(some 19), (.bin .gtr (.tmp 13) (.tmp 18)), (some (12, false))⟩, ⟨(some 20), (.pick (.tmp 12) (.const (.bool true)) (.tmp 19)), none⟩]) (.cond (.tmp 20) (.seq (.rgn false false [] [4] [⟨(some 21), (.mkI 48 (.const (.int .i64 1))), none⟩, ⟨(some 4), (.mov (.tmp 21)), none⟩]) .ret) .skip)) (.seq (.block 0 (.loop (.seq (.seq (.rgn false false [] [0, 1, 28] [⟨(some 22), (.mov (.tmp 0)), none⟩, ⟨(some 23), (.nilc (.tmp 22)), none⟩, ⟨(some 24), (.fldA 3 (.tmp 23)), none⟩, ⟨(some 25), (.load 1 false (.tmp 24)), none⟩, ⟨(some 26), (.lenL (.tmp 25)), none⟩, ⟨(some 27), (.mov (.tmp 1)), none⟩, ⟨(some 28), (.bin .gtr (.tmp 26) (.tmp 27)), none⟩]) (.cond (.tmp 28) .skip (.exit 0))) (.block 1 (.seq (.rgn false true [0, 1, 3, 7, 0, 16, 48, 112, 240, 496, 1023, 2047, 0, 8191] [0, 1, 5] [⟨(some 29), (.mov (.tmp 0)), none⟩, ⟨(some 30), (.nilc (.tmp 29)), none⟩, ⟨(some 31), (.fldA 3 (.tmp 30)), none⟩, ⟨(some 32), (.load 1 false (.tmp 31)), none⟩, ⟨(some 33), (.mov (.tmp 0)), none⟩, ⟨(some 34), (.nilc (.tmp 33)), none⟩, ⟨(some 35), (.fldA 3 (.tmp 34)), none⟩, ⟨(some 36), (.load 1 false (.tmp 35)), none⟩, ⟨(some 37), (.lenL (.tmp 36)), none⟩, ⟨(some 38), (.bin .sub (.tmp 37) (.const (.int .i64 1))), none⟩, ⟨(some 39), (.idxA 3 (.tmp 32) (.tmp 38)), none⟩, ⟨(some 40), (.load 3 true (.tmp 39)), none⟩, ⟨(some 5), (.alloc [(.int .i32 0), (.int .i32 0), (.int .i32 0)]), none⟩, ⟨none, (.store 3 (.tmp 5) (.tmp 40)), none⟩]) (.seq (.rgn false true [0, 0, 2, 6, 14, 0, 32, 96, 224, 480, 992, 2046, 4095, 8191, 16383] [0, 1, 5] [⟨(some 41), (.mov (.tmp 0)), none⟩, ⟨(some 42), (.mov (.tmp 0)), none⟩, ⟨(some 43), (.nilc (.tmp 42)), none⟩, ⟨(some 44), (.fldA 3 (.tmp 43)), none⟩, ⟨(some 45), (.load 1 false (.tmp 44)), none⟩, ⟨(some 46), (.mov (.tmp 0)), none⟩, ⟨(some 47), (.nilc (.tmp 46)), none⟩, ⟨(some 48), (.fldA 3 (.tmp 47)), none⟩, ⟨(some 49), (.load 1 false (.tmp 48)), none⟩, ⟨(some 50), (.lenL (.tmp 49)), none⟩, ⟨(some 51), (.bin .sub (.tmp 50) (.const (.int .i64 1))), none⟩, ⟨(some 52), (.slc 3 (.tmp 45) none (some (.tmp 51))), none⟩, ⟨(some 53), (.nilc (.tmp 41)), none⟩, ⟨(some 54), (.fldA 3 (.tmp 53)), none⟩, ⟨none, (.store 1 (.tmp 54) (.tmp 52)), none⟩]) (.seq (.rgn false true [0, 1, 3, 7, 0, 16, 0, 64, 255, 511] [0, 1, 5] [⟨(some 55), (.mov (.tmp 0)), none⟩, ⟨(some 56), (.nilc (.tmp 55)), none⟩, ⟨(some 57), (.fldA 0 (.tmp 56)), none⟩, ⟨(some 58), (.load 1 false (.tmp 57)), none⟩, ⟨(some 59), (.fldA 0 (.tmp 5)), none⟩, ⟨(some 60), (.load 1 false (.tmp 59)), none⟩, ⟨(some 61), (.fldA 0 (.tmp 5)), none⟩, ⟨(some 62), (.load 1 false (.tmp 61)), none⟩, ⟨(some 63), (.idxA 1 (.tmp 58) (.tmp 60)), none⟩, ⟨none, (.store 1 (.tmp 63) (.tmp 62)), none⟩]) (.seq (.rgn false true [0, 1, 3, 7, 0, 16, 63, 127, 0, 256, 768, 1792, 0, 4096, 16128, 32512, 65535, 131071, 262143] [0, 1, 5] [⟨(some 64), (.mov (.tmp 0)), none⟩, ⟨(some 65), (.nilc (.tmp 64)), none⟩, ⟨(some 66), (.fldA 1 (.tmp 65)), none⟩, ⟨(some 67), (.load 1 false (.tmp 66)), none⟩, ⟨(some 68), (.fldA 1 (.tmp 5)), none⟩, ⟨(some 69), (.load 1 false (.tmp 68)), none⟩, ⟨(some 70), (.idxA 1 (.tmp 67) (.tmp 69)), none⟩, ⟨(some 71), (.load 1 false (.tmp 70)), none⟩, ⟨(some 72), (.mov (.tmp 0)), none⟩, ⟨(some 73), (.nilc (.tmp 72)), none⟩, ⟨(some 74), (.fldA 1 (.tmp 73)), none⟩, ⟨(some 75), (.load 1 false (.tmp 74)), none⟩, ⟨(some 76), (.fldA 0 (.tmp 5)), none⟩, ⟨(some 77), (.load 1 false (.tmp 76)), none⟩, ⟨(some 78), (.idxA 1 (.tmp 75) (.tmp 77)), none⟩, ⟨(some 79), (.load 1 false (.tmp 78)), none⟩, ⟨(some 80), (.bin .sub (.tmp 71) (.tmp 79)), none⟩, ⟨(some 81), (.idxA 1 (.tmp 67) (.tmp 69)), none⟩, ⟨none, (.store 1 (.tmp 81) (.tmp 80)), none⟩]) (.rgn false true [0, 1, 3, 7, 0, 16, 0, 64, 255, 511] [0, 1] [⟨(some 82), (.mov (.tmp 0)), none⟩, ⟨(some 83), (.nilc (.tmp 82)), none⟩, ⟨(some 84), (.fldA 2 (.tmp 83)), none⟩, ⟨(some 85), (.load 1 false (.tmp 84)), none⟩, ⟨(some 86), (.fldA 1 (.tmp 5)), none⟩, ⟨(some 87), (.load 1 false (.tmp 86)), none⟩, ⟨(some 88), (.fldA 2 (.tmp 5)), none⟩, ⟨(some 89), (.load 1 false (.tmp 88)), none⟩, ⟨(some 90), (.idxA 1 (.tmp 85) (.tmp 87)), none⟩, ⟨none, (.store 1 (.tmp 90) (.tmp 89)), none⟩]))))))))) (.seq (.rgn false false [] [4] [⟨(some 4), (.mov (.const .nilIface)), none⟩]) .ret))))
theorem comp_unite_Groups_Back : compC Tryd.prog Tryd.f7.ntmps k_unite_Groups_Back (Tryd.f7.body.getD .skip) = some lc_unite_Groups_Back := by kernel_rfl
theorem body_unite_Groups_Back : Tryd.f7.body = some (Tryd.f7.body.getD .skip) := by kernel_rfl
theorem pure_unite_Groups_Back {args : List AV} {M : Mem} {slot : Nat} {v : AV} (hl : args.length ≤ Tryd.f7.ntmps) (h : run Tryd.prog Tryd.f7.ntmps 0 lc_unite_Groups_Back (retP [4] v) (lkT (argT (ren (lkσ [])) 0 args)) (lkM []) 0) : CallOk Tryd.prog 7 args M slot { v } :=
  callOk_pure mix Tryd.func7 body_unite_Groups_Back (by kernel_rfl) (by kernel_rfl) comp_unite_Groups_Back hl (run_imp _ (fun _ _ _ _ h => retP_W h) _ _ _ h)
theorem full_unite_Groups_Back {args : List AV} {M : Mem} {slot : Nat} {out : Out} {σ : List (Nat × Nat)} {k : Nat} (hl : args.length ≤ Tryd.f7.ntmps) (hσ1 : (σ.map (·.1)).Nodup) (hσ2 : σ.map (·.2) = List.range k) (hrd : ∀ x ∈ σ, x.1 ∈ out.rd) (hM : ∀ x ∈ σ, (M x.1).isSome = true) (h : run Tryd.prog Tryd.f7.ntmps k lc_unite_Groups_Back (retC Tryd.f7.ntmps k σ slot [4] out) (lkT (argT (ren (lkσ σ)) 0 args)) (lkM (renM M σ)) k) : CallOk Tryd.prog 7 args M slot out :=
  callOk_of_run mix Tryd.func7 body_unite_Groups_Back (by kernel_rfl) (by kernel_rfl) comp_unite_Groups_Back hl hσ1 hσ2 hrd hM h
section
variable {M : Mem} {slot : Nat} {G A B C D n : Nat} {u : U} {j : List (Nat × Nat × Nat)}
theorem winc {i n : Nat} (hi : i < n) (hn : n ≤ 100000000000) : IntKind.i64.wrap ((i : Int) + 1) = ((i + 1 : Nat) : Int) := by
  rw [IntKind.wrap_i64]
  omega
theorem New_bad {n : Int} (h : n < 1 ∨ 4194304 < n) : CallOk Tryd.prog 5 [.i .i64 n] M slot { v := .tup [.k (.pointer none), .ifc 48 (.i .i64 1)] } := by
  refine pure_unite_New (Nat.le_of_ble_eq_true (by kernel_rfl)) ?_; unfold lc_unite_New
  by_cases h1 : n < 1
  · simp only [vS, opP, Go.Vm.step, Go.Vm.ev, delM, setM, binL, binI, shI, binS, unL, cst, cst1, cells1, reduceIte, Nat.reduceAdd, Nat.reduceMul, Nat.reduceEqDiff, bound, refsC, AV.cells, AV.ref1, flatC, oneC, elems, okLog, disj, befOf, Int.reduceLT, Int.reduceLE, Int.reduceToNat, Int.reducePow, Nat.reduceLeDiff, IntKind.bits, argT, Int.reduceMul, Int.reduceAdd, Int.reduceNeg, Int.reduceSub, Int.reduceEq, Nat.reduceLT, Row.get1, Row.getN, Row.set1, Row.setN, fillE, h1]
  · have h2 : 4194304 < n := by omega
    simp only [vS, opP, Go.Vm.step, Go.Vm.ev, delM, setM, binL, binI, shI, binS, unL, cst, cst1, cells1, reduceIte, Nat.reduceAdd, Nat.reduceMul, Nat.reduceEqDiff, bound, refsC, AV.cells, AV.ref1, flatC, oneC, elems, okLog, disj, befOf, Int.reduceLT, Int.reduceLE, Int.reduceToNat, Int.reducePow, Nat.reduceLeDiff, IntKind.bits, argT, Int.reduceMul, Int.reduceAdd, Int.reduceNeg, Int.reduceSub, Int.reduceEq, Nat.reduceLT, Row.get1, Row.getN, Row.set1, Row.setN, fillE, h1, h2]
theorem part_set {l : List Nat} {n i v : Nat} (hl : l.length = n) (hi : i < n) (hv : g l i = v) : (nats (l.take i) ++ List.replicate (n - i) (0 : Int)).set i (v : Int) = nats (l.take (i + 1)) ++ List.replicate (n - (i + 1)) 0 := by
  have e5 : (nats (l.take i)).length = i := by rw [nats_length, List.length_take]; omega
  have e6 : n - i = (n - (i + 1)) + 1 := by omega
  rw [List.set_append_right _ _ (by omega), e5, Nat.sub_self, e6, List.replicate_succ, List.set_cons_zero, List.take_add_one, g_get (by omega), hv, nats_append]
  simp [nats]
theorem part_len {l : List Nat} {n i : Nat} (hl : l.length = n) (hi : i ≤ n) : (nats (l.take i) ++ List.replicate (n - i) (0 : Int)).length = n := by
  rw [List.length_append, nats_length, List.length_take, List.length_replicate]
  omega
theorem nilG {N k : Nat} {T : Tm} {m : List (Nat × Row)} {nb : Nat} {x y z : AV} (rid id sz : Nat) (hr : lkM m rid = some ⟨1, gEl x y z (.k (.slice none 0 0))⟩) (hid : nb ≤ id) (hk : k ≤ nb) :
    Wk N k T (lkM m) nb T (lkM ((id, ⟨sz, []⟩) :: (rid, ⟨1, gEl x y z (.own id 0 0 1)⟩) :: m)) (id + 1) := Wk.nilC' rid id sz hr hid hk
theorem eff_new : effOf (back [] [(0, 0), (1, 1), (2, 2), (3, 3), (4, 4)] slot) (lkM (rws 0 1 2 3 4 n u j)) = effs slot (slot + 1) (slot + 2) (slot + 3) (slot + 4) n u j := by
  simp only [back, List.map_cons, List.map_nil, List.append_nil, List.nil_append, effOf, rws, lkM, effs]
  simp [Option.map_some, subRow, subLL_nE, subLL_stE, subLL_row, subLL, subL, sub, ren, lkσ]
set_option maxRecDepth 20000 in
theorem New_ok {n : Nat} (h0 : 0 < n) (hn : n ≤ 4194304) : CallOk Tryd.prog 5 [.i .i64 n] M slot { v := .tup [.ptr slot 0 0, .k .nilIface], eff := effs slot (slot + 1) (slot + 2) (slot + 3) (slot + 4) n (newU n) [] } := by
  refine full_unite_New (σ := []) (k := 0) (Nat.le_of_ble_eq_true (by kernel_rfl)) (by simp) (by simp) (by simp) (by simp) ?_
  unfold lc_unite_New
  have e1 : ¬ (n : Int) < 1 := by omega
  have e2 : ¬ (4194304 : Int) < n := by omega
  have hn1 : (n : Int) ≤ 9223372036854775807 := by omega
  have hn2 : n * 4 ≤ 281474976710656 := by omega
  simp only [vS, opP, Go.Vm.step, Go.Vm.ev, delM, setM, binL, binI, shI, binS, unL, cst, cst1, cells1, reduceIte, Nat.reduceAdd, Nat.reduceMul, Nat.reduceEqDiff, bound, refsC, AV.cells, AV.ref1, flatC, oneC, elems, okLog, disj, befOf, Int.reduceLT, Int.reduceLE, Int.reduceToNat, Int.reducePow, Nat.reduceLeDiff, IntKind.bits, argT, Int.reduceMul, Int.reduceAdd, Int.reduceNeg, Int.reduceSub, Int.reduceEq, Nat.reduceLT, Row.get1, Row.getN, Row.set1, Row.setN, fillE, e1, e2, hn1, hn2, renM, List.filterMap_nil, fillL, over]
  refine ⟨by decide, ?_⟩
  have e9 : [AV.own 72 0 n 1] :: [AV.own 88 0 n 1] :: [AV.own 104 0 n 1] :: enc AV.k [Value.slice none 0 0] = gEl (.own 72 0 n 1) (.own 88 0 n 1) (.own 104 0 n 1) (.k (.slice none 0 0)) := rfl
  rw [e9]
  refine loop_by (fun i => i ≤ n) (fun i => n - i)
    (fun i => [(4, .ptr 0 0 0), (25, .i .i64 n), (26, .i .i64 i)])
    (fun i => [(0, ⟨1, gEl (.own 1 0 n 1) (.own 2 0 n 1) (.own 3 0 n 1) (.k (.slice none 0 0))⟩), (1, ⟨1, enc (.i .i32) (nats ((newU n).ab.take i) ++ List.replicate (n - i) 0)⟩),
      (2, ⟨1, enc (.i .i32) (nats ((newU n).sz.take i) ++ List.replicate (n - i) 0)⟩), (3, ⟨1, enc (.i .i32) (nats ((newU n).le.take i) ++ List.replicate (n - i) 0)⟩)]) 8 ?_ 0 (Nat.zero_le _)
    (Wk.norm [(120, 0), (72, 1), (88, 2), (104, 3)] (by decide) ?_ ?_)
  · intro i hi0
    have hla : (newU n).ab.length = n := (new_ok n).la
    have hls : (newU n).sz.length = n := (new_ok n).ls
    have hll : (newU n).le.length = n := (new_ok n).ll
    by_cases hi : i < n
    · have p1 := part_len hla hi0
      have p2 := part_len hls hi0
      have p3 := part_len hll hi0
      have q1 := part_set hla hi (v := i) (g_range hi)
      have q2 := part_set hls hi (v := 1) (g_rep hi)
      have q3 := part_set hll hi (v := i) (g_range hi)
      have w1 : IntKind.i32.wrap (i : Int) = i := by rw [IntKind.wrap_i32]; omega
      have q2' : (nats ((newU n).sz.take i) ++ List.replicate (n - i) (0 : Int)).set i 1 = nats ((newU n).sz.take (i + 1)) ++ List.replicate (n - (i + 1)) 0 := q2
      simp only [vS, opP, Go.Vm.step, Go.Vm.ev, delM, setM, binL, binI, shI, binS, unL, cst, cst1, cells1, reduceIte, Nat.reduceAdd, Nat.reduceMul, Nat.reduceEqDiff, bound, refsC, AV.cells, AV.ref1, flatC, oneC, elems, okLog, disj, befOf, Int.reduceLT, Int.reduceLE, Int.reduceToNat, Int.reducePow, Nat.reduceLeDiff, IntKind.bits, argT, Int.reduceMul, Int.reduceAdd, Int.reduceNeg, Int.reduceSub, Int.reduceEq, Nat.reduceLT, Row.get1, Row.getN, Row.set1, Row.setN, fillE, hi, gEl_0, gEl_1, gEl_2, gEl_3, gEl_l, p1, p2, p3, q1, q2', q3, w1, winc hi (by omega)]
      refine ⟨by decide, i + 1, hi, by omega, Wk.norm [(0, 0), (1, 1), (2, 2), (3, 3)] (by decide) ?_ ?_⟩
      · simp only [vS, opP, Go.Vm.step, Go.Vm.ev, delM, setM, binL, binI, shI, binS, unL, cst, cst1, cells1, reduceIte, Nat.reduceAdd, Nat.reduceMul, Nat.reduceEqDiff, bound, refsC, AV.cells, AV.ref1, flatC, oneC, elems, okLog, disj, befOf, Int.reduceLT, Int.reduceLE, Int.reduceToNat, Int.reducePow, Nat.reduceLeDiff, IntKind.bits, argT, Int.reduceMul, Int.reduceAdd, Int.reduceNeg, Int.reduceSub, Int.reduceEq, Nat.reduceLT, Row.get1, Row.getN, Row.set1, Row.setN, fillE, vW, renM, frM, subRow, Nat.reduceBNe, frs, frOk, frOut]
      · simp only [vS, opP, Go.Vm.step, Go.Vm.ev, delM, setM, binL, binI, shI, binS, unL, cst, cst1, cells1, reduceIte, Nat.reduceAdd, Nat.reduceMul, Nat.reduceEqDiff, bound, refsC, AV.cells, AV.ref1, flatC, oneC, elems, okLog, disj, befOf, Int.reduceLT, Int.reduceLE, Int.reduceToNat, Int.reducePow, Nat.reduceLeDiff, IntKind.bits, argT, Int.reduceMul, Int.reduceAdd, Int.reduceNeg, Int.reduceSub, Int.reduceEq, Nat.reduceLT, Row.get1, Row.getN, Row.set1, Row.setN, fillE, vW, renM, frM, subRow, Nat.reduceBNe, frs, frOk, frOut, subLL_row]
    · obtain rfl : i = n := by omega
      have t1 : (newU i).ab.take i = (newU i).ab := List.take_of_length_le (by omega)
      have t2 : (newU i).sz.take i = (newU i).sz := List.take_of_length_le (by omega)
      have t3 : (newU i).le.take i = (newU i).le := List.take_of_length_le (by omega)
      simp only [vS, opP, Go.Vm.step, Go.Vm.ev, delM, setM, binL, binI, shI, binS, unL, cst, cst1, cells1, reduceIte, Nat.reduceAdd, Nat.reduceMul, Nat.reduceEqDiff, bound, refsC, AV.cells, AV.ref1, flatC, oneC, elems, okLog, disj, befOf, Int.reduceLT, Int.reduceLE, Int.reduceToNat, Int.reducePow, Nat.reduceLeDiff, IntKind.bits, argT, Int.reduceMul, Int.reduceAdd, Int.reduceNeg, Int.reduceSub, Int.reduceEq, Nat.reduceLT, Row.get1, Row.getN, Row.set1, Row.setN, fillE, hi, t1, t2, t3, Nat.sub_self, List.replicate_zero, List.append_nil]
      refine retC_i ((nilG 0 1000 3 rfl (by decide) (by decide)).trans (Wk.norm [(0, 0), (1, 1), (2, 2), (3, 3), (1000, 4)] (by decide) (l2 := [(2, .ptr 0 0 0), (3, .k .nilIface)]) (m2 := rws 0 1 2 3 4 i (newU i) []) (nb2 := 8) ?_ ?_)) [(0, 0), (1, 1), (2, 2), (3, 3), (4, 4)] rfl ?_ ?_
      · simp only [vS, opP, Go.Vm.step, Go.Vm.ev, delM, setM, binL, binI, shI, binS, unL, cst, cst1, cells1, reduceIte, Nat.reduceAdd, Nat.reduceMul, Nat.reduceEqDiff, bound, refsC, AV.cells, AV.ref1, flatC, oneC, elems, okLog, disj, befOf, Int.reduceLT, Int.reduceLE, Int.reduceToNat, Int.reducePow, Nat.reduceLeDiff, IntKind.bits, argT, Int.reduceMul, Int.reduceAdd, Int.reduceNeg, Int.reduceSub, Int.reduceEq, Nat.reduceLT, Row.get1, Row.getN, Row.set1, Row.setN, fillE, vW, renM, frM, subRow, Nat.reduceBNe, frs, frOk, frOut]
      · simp only [vS, opP, Go.Vm.step, Go.Vm.ev, delM, setM, binL, binI, shI, binS, unL, cst, cst1, cells1, reduceIte, Nat.reduceAdd, Nat.reduceMul, Nat.reduceEqDiff, bound, refsC, AV.cells, AV.ref1, flatC, oneC, elems, okLog, disj, befOf, Int.reduceLT, Int.reduceLE, Int.reduceToNat, Int.reducePow, Nat.reduceLeDiff, IntKind.bits, argT, Int.reduceMul, Int.reduceAdd, Int.reduceNeg, Int.reduceSub, Int.reduceEq, Nat.reduceLT, Row.get1, Row.getN, Row.set1, Row.setN, fillE, vW, renM, frM, subRow, Nat.reduceBNe, frs, frOk, frOut, rws, subLL_row, subLL_nE]
        rfl
      · simp only [vS, opP, Go.Vm.step, Go.Vm.ev, delM, setM, binL, binI, shI, binS, unL, cst, cst1, cells1, reduceIte, Nat.reduceAdd, Nat.reduceMul, Nat.reduceEqDiff, bound, refsC, AV.cells, AV.ref1, flatC, oneC, elems, okLog, disj, befOf, Int.reduceLT, Int.reduceLE, Int.reduceToNat, Int.reducePow, Nat.reduceLeDiff, IntKind.bits, argT, Int.reduceMul, Int.reduceAdd, Int.reduceNeg, Int.reduceSub, Int.reduceEq, Nat.reduceLT, Row.get1, Row.getN, Row.set1, Row.setN, fillE, vW, renM, frM, subRow, Nat.reduceBNe, frs, frOk, frOut, back, List.nil_append]
      · exact (eff_new).symm
  · simp only [vS, opP, Go.Vm.step, Go.Vm.ev, delM, setM, binL, binI, shI, binS, unL, cst, cst1, cells1, reduceIte, Nat.reduceAdd, Nat.reduceMul, Nat.reduceEqDiff, bound, refsC, AV.cells, AV.ref1, flatC, oneC, elems, okLog, disj, befOf, Int.reduceLT, Int.reduceLE, Int.reduceToNat, Int.reducePow, Nat.reduceLeDiff, IntKind.bits, argT, Int.reduceMul, Int.reduceAdd, Int.reduceNeg, Int.reduceSub, Int.reduceEq, Nat.reduceLT, Row.get1, Row.getN, Row.set1, Row.setN, fillE, vW, renM, frM, subRow, Nat.reduceBNe, frs, frOk, frOut]
  · simp only [vS, opP, Go.Vm.step, Go.Vm.ev, delM, setM, binL, binI, shI, binS, unL, cst, cst1, cells1, reduceIte, Nat.reduceAdd, Nat.reduceMul, Nat.reduceEqDiff, bound, refsC, AV.cells, AV.ref1, flatC, oneC, elems, okLog, disj, befOf, Int.reduceLT, Int.reduceLE, Int.reduceToNat, Int.reducePow, Nat.reduceLeDiff, IntKind.bits, argT, Int.reduceMul, Int.reduceAdd, Int.reduceNeg, Int.reduceSub, Int.reduceEq, Nat.reduceLT, Row.get1, Row.getN, Row.set1, Row.setN, fillE, vW, renM, frM, subRow, Nat.reduceBNe, frs, frOk, frOut, subLL_row, List.take_zero, Nat.sub_zero]
    rfl
theorem drop3 : List.drop 3 ([0, 0, 0] : List Int) = [] := rfl
theorem Back_bad (nd : [G, A, B, C, D].Nodup) (hM : Lay M G A B C D n u j) {k : Int} (h : k < 0 ∨ (u.st.length : Int) < k) :
    CallOk Tryd.prog 7 [.ptr G 0 0, .i .i64 k] M slot { v := .ifc 48 (.i .i64 1), rd := [G, A, B, C, D] } := by
  refine callOk_noeff (full_unite_Groups_Back (σ := sg G A B C D) (k := 5) (Nat.le_of_ble_eq_true (by kernel_rfl)) (sg_fst nd) sg_snd sg_rd (lay_some hM) ?_) (eff_ro hM)
  rw [lay_ren hM nd]
  unfold lc_unite_Groups_Back
  have hsl : u.st.length ≤ (stE (u.st ++ j)).length := by rw [stE_length, List.length_append]; omega
  by_cases h1 : k < 0
  · simp only [vS, opP, Go.Vm.step, Go.Vm.ev, delM, setM, binL, binI, shI, binS, unL, cst, cst1, cells1, reduceIte, Nat.reduceAdd, Nat.reduceMul, Nat.reduceEqDiff, bound, refsC, AV.cells, AV.ref1, flatC, oneC, elems, okLog, disj, befOf, Int.reduceLT, Int.reduceLE, Int.reduceToNat, Int.reducePow, Nat.reduceLeDiff, IntKind.bits, argT, Int.reduceMul, Int.reduceAdd, Int.reduceNeg, Int.reduceSub, Int.reduceEq, Nat.reduceLT, Row.get1, Row.getN, Row.set1, Row.setN, fillE, h1, rws, gEl_0, gEl_1, gEl_2, gEl_3, gEl_l, sg_ptr]
    exact retRO nd rfl
  · have h2 : (u.st.length : Int) < k := by omega
    simp only [vS, opP, Go.Vm.step, Go.Vm.ev, delM, setM, binL, binI, shI, binS, unL, cst, cst1, cells1, reduceIte, Nat.reduceAdd, Nat.reduceMul, Nat.reduceEqDiff, bound, refsC, AV.cells, AV.ref1, flatC, oneC, elems, okLog, disj, befOf, Int.reduceLT, Int.reduceLE, Int.reduceToNat, Int.reducePow, Nat.reduceLeDiff, IntKind.bits, argT, Int.reduceMul, Int.reduceAdd, Int.reduceNeg, Int.reduceSub, Int.reduceEq, Nat.reduceLT, Row.get1, Row.getN, Row.set1, Row.setN, fillE, h1, h2, hsl, rws, gEl_0, gEl_1, gEl_2, gEl_3, gEl_l, sg_ptr]
    exact retRO nd rfl
set_option maxRecDepth 20000 in
theorem Back_ok {h : Nat → U} (H : Hist n u h) (hn : n ≤ 4194304) (nd : [G, A, B, C, D].Nodup) (hM : Lay M G A B C D n u j) {k : Nat} (hk : k ≤ u.st.length) :
    CallOk Tryd.prog 7 [.ptr G 0 0, .i .i64 k] M slot { v := .k .nilIface, eff := effs G A B C D n (h k) ((u.st ++ j).drop k), rd := [G, A, B, C, D] } := by
  refine full_unite_Groups_Back (σ := sg G A B C D) (k := 5) (Nat.le_of_ble_eq_true (by kernel_rfl)) (sg_fst nd) sg_snd sg_rd (lay_some hM) ?_
  rw [lay_ren hM nd]
  unfold lc_unite_Groups_Back
  have h1 : ¬ (k : Int) < 0 := by omega
  have h2 : ¬ u.st.length < k := by omega
  have hsl : u.st.length ≤ (stE (u.st ++ j)).length := by rw [stE_length, List.length_append]; omega
  have hD : ∀ t, t ≤ u.st.length → (h t).st ++ (u.st ++ j).drop t = u.st ++ j := by
    intro t ht
    rw [H.st t ht]
    have := List.take_append_drop t (u.st ++ j)
    rwa [List.take_append_of_le_length ht] at this
  have hL : ∀ t, t ≤ u.st.length → (h t).st.length = t := fun t ht => by rw [H.st t ht, List.length_take]; omega
  simp only [vS, opP, Go.Vm.step, Go.Vm.ev, delM, setM, binL, binI, shI, binS, unL, cst, cst1, cells1, reduceIte, Nat.reduceAdd, Nat.reduceMul, Nat.reduceEqDiff, bound, refsC, AV.cells, AV.ref1, flatC, oneC, elems, okLog, disj, befOf, Int.reduceLT, Int.reduceLE, Int.reduceToNat, Int.reducePow, Nat.reduceLeDiff, IntKind.bits, argT, Int.reduceMul, Int.reduceAdd, Int.reduceNeg, Int.reduceSub, Int.reduceEq, Nat.reduceLT, Row.get1, Row.getN, Row.set1, Row.setN, fillE, h1, h2, hsl, rws, gEl_0, gEl_1, gEl_2, gEl_3, gEl_l, sg_ptr]
  refine loop_by (fun t => k ≤ t ∧ t ≤ u.st.length) (fun t => t)
    (fun t => [(0, .ptr 0 0 0), (1, .i .i64 k)]) (fun t => rws 0 1 2 3 4 n (h t) ((u.st ++ j).drop t)) 8 ?_ u.st.length ⟨hk, Nat.le_refl _⟩ (Wk.norm [(0, 0), (1, 1), (2, 2), (3, 3), (4, 4)] (by decide) ?_ ?_)
  · rintro t ⟨ht1, ht2⟩
    have hDt := hD t ht2
    have hLt := hL t ht2
    have hsl2 : t ≤ (stE (u.st ++ j)).length := by omega
    by_cases e : t = k
    · subst e
      have e2 : ¬ t < t := Nat.lt_irrefl t
      simp only [vS, opP, Go.Vm.step, Go.Vm.ev, delM, setM, binL, binI, shI, binS, unL, cst, cst1, cells1, reduceIte, Nat.reduceAdd, Nat.reduceMul, Nat.reduceEqDiff, bound, refsC, AV.cells, AV.ref1, flatC, oneC, elems, okLog, disj, befOf, Int.reduceLT, Int.reduceLE, Int.reduceToNat, Int.reducePow, Nat.reduceLeDiff, IntKind.bits, argT, Int.reduceMul, Int.reduceAdd, Int.reduceNeg, Int.reduceSub, Int.reduceEq, Nat.reduceLT, Row.get1, Row.getN, Row.set1, Row.setN, fillE, rws, gEl_0, gEl_1, gEl_2, gEl_3, gEl_l, hDt, hLt, hsl2, e2]
      have := fun nb => retRO (N := Tryd.f7.ntmps) (rs := [4]) (v := .k .nilIface) (T := lkT [(4, .k .nilIface)]) (nb := nb) (slot := slot) (n := n) (u := h t) (j := (u.st ++ j).drop t) nd rfl
      simp only [rws, hDt, hLt] at this
      exact this _
    · obtain ⟨t', rfl⟩ : ∃ t', t = t' + 1 := ⟨t - 1, by omega⟩
      have hkt : k < t' + 1 := by omega
      obtain ⟨x, y, hx, hy, hxy, htop, hstep⟩ := H.step t' (by omega)
      obtain ⟨L, r, d, o⟩ := H.ok t' (by omega)
      obtain ⟨L1, r1, d1, o1⟩ := H.ok (t' + 1) ht2
      have hund := undo_join (u := h t') (x := x) (y := y) (by rw [o.la]; exact hx) (by rw [o.ls]; exact hx) (by rw [o.ls]; exact hy) (by rw [o.ll]; exact hy) hxy htop
      rw [← hstep] at hund
      simp only [undo] at hund
      have u1 := congrArg U.ab hund
      have u2 := congrArg U.sz hund
      have u3 := congrArg U.le hund
      simp only at u1 u2 u3
      have hrow : (stE (u.st ++ j))[t']? = some [.i .i32 x, .i .i32 y, .i .i32 (g (h t').le y)] := by
        rw [← hDt, stE_get, hstep]
        show (((h t').st ++ [(x, y, g (h t').le y)]) ++ _)[t']?.map _ = _
        have hl0 := hL t' (by omega)
        rw [List.getElem?_append_left (by simp; omega), List.getElem?_append_right (by omega), hl0, Nat.sub_self]
        rfl
      have hnum := o1.num
      have w1 : IntKind.i64.wrap (((t' + 1 : Nat) : Int) - 1) = (t' : Int) := by rw [IntKind.wrap_i64]; omega
      have hla : (nats (h (t' + 1)).ab).length = n := by rw [nats_length, o1.la]
      have hls : (nats (h (t' + 1)).sz).length = n := by rw [nats_length, o1.ls]
      have hll : (nats (h (t' + 1)).le).length = n := by rw [nats_length, o1.ll]
      have hsx : (nats (h (t' + 1)).sz)[x]? = some ((g (h (t' + 1)).sz x : Nat) : Int) := by rw [nats_get, g_get (by rw [o1.ls]; exact hx)]; rfl
      have hsy : (nats (h (t' + 1)).sz)[y]? = some ((g (h (t' + 1)).sz y : Nat) : Int) := by rw [nats_get, g_get (by rw [o1.ls]; exact hy)]; rfl
      have hge : g (h (t' + 1)).sz x ≤ g (h (t' + 1)).sz y := by
        rw [hstep]
        show g ((h t').sz.set y _) x ≤ g ((h t').sz.set y _) y
        rw [g_set (by rw [o.ls]; exact hy), g_set (by rw [o.ls]; exact hy), if_pos rfl, if_neg hxy]
        omega
      have hszn := o1.szn y hy
      have w2 : IntKind.i32.wrap ((g (h (t' + 1)).sz y : Int) - (g (h (t' + 1)).sz x : Int)) = ((g (h (t' + 1)).sz y - g (h (t' + 1)).sz x : Nat) : Int) := by
        rw [IntKind.wrap_i32]
        omega
      have hDt' := hD t' (by omega)
      have hLt' := hL t' (by omega)
      have hltt : t' < t' + 1 := by omega
      simp only [vS, opP, Go.Vm.step, Go.Vm.ev, delM, setM, binL, binI, shI, binS, unL, cst, cst1, cells1, reduceIte, Nat.reduceAdd, Nat.reduceMul, Nat.reduceEqDiff, bound, refsC, AV.cells, AV.ref1, flatC, oneC, elems, okLog, disj, befOf, Int.reduceLT, Int.reduceLE, Int.reduceToNat, Int.reducePow, Nat.reduceLeDiff, IntKind.bits, argT, Int.reduceMul, Int.reduceAdd, Int.reduceNeg, Int.reduceSub, Int.reduceEq, Nat.reduceLT, Row.get1, Row.getN, Row.set1, Row.setN, fillE, rws, gEl_0, gEl_1, gEl_2, gEl_3, gEl_l, gEl_set, hDt, hLt, hsl2, hkt, hrow, w1, w2, hla, hls, hll, hsx, hsy, hx, hy, nats_set, u1, u2, u3, hltt, Nat.le_succ t', drop3, List.append_nil, reduceCtorEq]
      refine ⟨by decide, by decide, by decide, by decide, by decide, t', ⟨by omega, by omega⟩, by omega, Wk.norm [(0, 0), (1, 1), (2, 2), (3, 3), (4, 4)] (by decide) ?_ ?_⟩
      · simp only [vS, opP, Go.Vm.step, Go.Vm.ev, delM, setM, binL, binI, shI, binS, unL, cst, cst1, cells1, reduceIte, Nat.reduceAdd, Nat.reduceMul, Nat.reduceEqDiff, bound, refsC, AV.cells, AV.ref1, flatC, oneC, elems, okLog, disj, befOf, Int.reduceLT, Int.reduceLE, Int.reduceToNat, Int.reducePow, Nat.reduceLeDiff, IntKind.bits, argT, Int.reduceMul, Int.reduceAdd, Int.reduceNeg, Int.reduceSub, Int.reduceEq, Nat.reduceLT, Row.get1, Row.getN, Row.set1, Row.setN, fillE, vW, renM, frM, subRow, Nat.reduceBNe, frs, frOk, frOut]
      · simp only [vS, opP, Go.Vm.step, Go.Vm.ev, delM, setM, binL, binI, shI, binS, unL, cst, cst1, cells1, reduceIte, Nat.reduceAdd, Nat.reduceMul, Nat.reduceEqDiff, bound, refsC, AV.cells, AV.ref1, flatC, oneC, elems, okLog, disj, befOf, Int.reduceLT, Int.reduceLE, Int.reduceToNat, Int.reducePow, Nat.reduceLeDiff, IntKind.bits, argT, Int.reduceMul, Int.reduceAdd, Int.reduceNeg, Int.reduceSub, Int.reduceEq, Nat.reduceLT, Row.get1, Row.getN, Row.set1, Row.setN, fillE, vW, renM, frM, subRow, Nat.reduceBNe, frs, frOk, frOut, rws, subLL_nE, subLL_stE, subLL_row, hDt', hLt']
  · simp only [vS, opP, Go.Vm.step, Go.Vm.ev, delM, setM, binL, binI, shI, binS, unL, cst, cst1, cells1, reduceIte, Nat.reduceAdd, Nat.reduceMul, Nat.reduceEqDiff, bound, refsC, AV.cells, AV.ref1, flatC, oneC, elems, okLog, disj, befOf, Int.reduceLT, Int.reduceLE, Int.reduceToNat, Int.reducePow, Nat.reduceLeDiff, IntKind.bits, argT, Int.reduceMul, Int.reduceAdd, Int.reduceNeg, Int.reduceSub, Int.reduceEq, Nat.reduceLT, Row.get1, Row.getN, Row.set1, Row.setN, fillE, vW, renM, frM, subRow, Nat.reduceBNe, frs, frOk, frOut]
  · simp only [vS, opP, Go.Vm.step, Go.Vm.ev, delM, setM, binL, binI, shI, binS, unL, cst, cst1, cells1, reduceIte, Nat.reduceAdd, Nat.reduceMul, Nat.reduceEqDiff, bound, refsC, AV.cells, AV.ref1, flatC, oneC, elems, okLog, disj, befOf, Int.reduceLT, Int.reduceLE, Int.reduceToNat, Int.reducePow, Nat.reduceLeDiff, IntKind.bits, argT, Int.reduceMul, Int.reduceAdd, Int.reduceNeg, Int.reduceSub, Int.reduceEq, Nat.reduceLT, Row.get1, Row.getN, Row.set1, Row.setN, fillE, vW, renM, frM, subRow, Nat.reduceBNe, frs, frOk, frOut, rws, subLL_nE, subLL_stE, subLL_row, H.top, List.drop_left]
end
end Go.Proofs.YtflnpnpbcdmphaaDoor
