/- Package unite, as package span uses it: New, Join. -/
import Derived.Test.YtkjmlfbafmdegaaProg
import Derived.Test.YtkjmlfbafmdegaaVmZd
import Derived.Test.YtkjmlfbafmdegaaPermM
import Derived.Test.YtkjmlfbafmdegaaUniteM
namespace Go.Proofs.Ytkjmlfbafmdegaa
open Go Go.Vm Go.UniteM
open Go.PermM (nats nats_length nats_get nats_append get_some)
set_option linter.unusedSectionVars false
set_option linter.unusedSimpArgs false
theorem mix : Try.prog.follows .mixedOrders = true := by kernel_rfl
variable [Inhabited LayT]
/-! ### (*plait/unite.Groups).find -/
def k_unite_Groups_find : Nat → Bool × List Nat := fun | 0 => (false, [0, 1]) | 1 => (false, [0, 1, 7]) | 2 => (false, [4, 5]) | 3 => (false, [0, 1, 11]) | 4 => (false, [4, 5]) | 5 => (false, [0, 6]) | 6 => (false, [0, 6, 34]) | 7 => (false, [0, 6]) | 8 => (false, [4, 5]) | _ => (false, [])
def lc_unite_Groups_find : LCode := (.seq (.rgn false false [] [0, 1] [⟨(some 4), (.mov (.const (.int .i32 0))), none⟩, ⟨(some 5), (.mov (.const .nilIface)), none⟩]) (.seq (.block 0 (.seq (.rgn false false [] [0, 1, 7] [⟨(some 8), (.mov (.tmp 0)), none⟩, ⟨(some 9), (.eqn false true (.tmp 8)), none⟩, ⟨(some 7), (.mov (.tmp 9)), none⟩]) (.cond (.tmp 7) (.seq (.rgn false false [] [4, 5] [⟨(some 10), (.mkI 51 (.const (.int .i64 1))), none⟩, ⟨(some 4), (.mov (.const (.int .i32 0))), none⟩, ⟨(some 5), (.mov (.tmp 10)), none⟩]) .ret) (.seq (.rgn false false [] [0, 1, 11] [⟨(some 12), (.mov (.tmp 1)), none⟩, ⟨(some 13), (.bin .lss (.tmp 12) (.const (.int .i64 0))), none⟩, ⟨(some 14), (.mov (.tmp 13)), none⟩, ⟨(some 15), (.mov (.tmp 1)), (some (14, false))⟩, ⟨(some 16), (.mov (.tmp 0)), (some (14, false))⟩, ⟨(some 17), (.nilc (.tmp 16)), (some (14, false))⟩, ⟨(some 18), (.fldA 0 (.tmp 17)), (some (14, false))⟩, ⟨(some 19), (.load 1 false (.tmp 18)), (some (14, false))⟩, ⟨(some 20), (.lenL (.tmp 19)), (some (14, false))⟩, ⟨(some 21), (.bin .geq (.tmp 15) (.tmp 20)), (some (14, false))⟩, ⟨(some 22), (.pick (.tmp 14) (.const (.bool true)) (.tmp 21)), none⟩, ⟨(some 11), (.mov (.tmp 22)), none⟩]) (.cond (.tmp 11) (.seq (.rgn false false [] [4, 5] [⟨(some 23), (.mkI 51 (.const (.int .i64 12))), none⟩, ⟨(some 4), (.mov (.const (.int .i32 0))), none⟩, ⟨(some 5), (.mov (.tmp 23)), none⟩]) .ret) .skip))))) (.seq (.rgn false false [] [0, 6] [⟨(some 24), (.mov (.tmp 1)), none⟩, ⟨(some 25), (.convI .i32 (.tmp 24)), none⟩, ⟨(some 6), (.mov (.tmp 25)), none⟩]) (.seq (.block 1 (.loop (.seq (.seq (.rgn false false [] [0, 6, 34] [⟨(some 26), (.mov (.tmp 0)), none⟩, ⟨(some 27), (.nilc (.tmp 26)), none⟩, ⟨(some 28), (.fldA 0 (.tmp 27)), none⟩, ⟨(some 29), (.load 1 false (.tmp 28)), none⟩, ⟨(some 30), (.mov (.tmp 6)), none⟩, ⟨(some 31), (.idxA 1 (.tmp 29) (.tmp 30)), none⟩, ⟨(some 32), (.load 1 false (.tmp 31)), none⟩, ⟨(some 33), (.mov (.tmp 6)), none⟩, ⟨(some 34), (.bin .neq (.tmp 32) (.tmp 33)), none⟩]) (.cond (.tmp 34) .skip (.exit 1))) (.block 2 (.rgn false false [] [0, 6] [⟨(some 35), (.mov (.tmp 0)), none⟩, ⟨(some 36), (.nilc (.tmp 35)), none⟩, ⟨(some 37), (.fldA 0 (.tmp 36)), none⟩, ⟨(some 38), (.load 1 false (.tmp 37)), none⟩, ⟨(some 39), (.mov (.tmp 6)), none⟩, ⟨(some 40), (.idxA 1 (.tmp 38) (.tmp 39)), none⟩, ⟨(some 41), (.load 1 false (.tmp 40)), none⟩, ⟨(some 6), (.mov (.tmp 41)), none⟩]))))) (.seq (.rgn false false [] [4, 5] [⟨(some 42), (.mov (.tmp 6)), none⟩, ⟨(some 4), (.mov (.tmp 42)), none⟩, ⟨(some 5), (.mov (.const .nilIface)), none⟩]) .ret)))))
theorem comp_unite_Groups_find : compC Try.prog Try.f35.ntmps k_unite_Groups_find (Try.f35.body.getD .skip) = some lc_unite_Groups_find := by kernel_rfl
theorem body_unite_Groups_find : Try.f35.body = some (Try.f35.body.getD .skip) := by kernel_rfl
theorem pure_unite_Groups_find {args : List AV} {M : Mem} {slot : Nat} {v : AV} (hl : args.length ≤ Try.f35.ntmps) (h : run Try.prog Try.f35.ntmps 0 lc_unite_Groups_find (retP [4, 5] v) (lkT (argT (ren (lkσ [])) 0 args)) (lkM []) 0) : CallOk Try.prog 35 args M slot { v } :=
  callOk_pure mix Try.func35 body_unite_Groups_find (by kernel_rfl) (by kernel_rfl) comp_unite_Groups_find hl (run_imp _ (fun _ _ _ _ h => retP_W h) _ _ _ h)
theorem full_unite_Groups_find {args : List AV} {M : Mem} {slot : Nat} {out : Out} {σ : List (Nat × Nat)} {k : Nat} (hl : args.length ≤ Try.f35.ntmps) (hσ1 : (σ.map (·.1)).Nodup) (hσ2 : σ.map (·.2) = List.range k) (hrd : ∀ x ∈ σ, x.1 ∈ out.rd) (hM : ∀ x ∈ σ, (M x.1).isSome = true) (h : run Try.prog Try.f35.ntmps k lc_unite_Groups_find (retC Try.f35.ntmps k σ slot [4, 5] out) (lkT (argT (ren (lkσ σ)) 0 args)) (lkM (renM M σ)) k) : CallOk Try.prog 35 args M slot out :=
  callOk_of_run mix Try.func35 body_unite_Groups_find (by kernel_rfl) (by kernel_rfl) comp_unite_Groups_find hl hσ1 hσ2 hrd hM h
/-! ### (*plait/unite.Groups).two -/
def k_unite_Groups_two : Nat → Bool × List Nat := fun | 0 => (false, [0, 1, 2]) | 1 => (false, [0, 2, 9, 10]) | 2 => (false, [0, 2, 9, 10, 19]) | 3 => (false, [6, 7, 8]) | 4 => (false, [9, 10, 11]) | 5 => (false, [6, 7, 8]) | _ => (false, [])
def lc_unite_Groups_two : LCode := (.seq (.rgn false false [] [0, 1, 2] [⟨(some 6), (.mov (.const (.int .i32 0))), none⟩, ⟨(some 7), (.mov (.const (.int .i32 0))), none⟩, ⟨(some 8), (.mov (.const .nilIface)), none⟩]) (.seq (.rgn false false [] [0, 2, 9, 10] [⟨(some 13), (.mov (.tmp 0)), none⟩, ⟨(some 14), (.mov (.tmp 1)), none⟩, ⟨(some 15), (.call 35 [(.tmp 13), (.tmp 14)]), none⟩, ⟨(some 12), (.mov (.tmp 15)), none⟩, ⟨(some 16), (.ext (.tmp 12) 0), none⟩, ⟨(some 17), (.ext (.tmp 12) 1), none⟩, ⟨(some 9), (.mov (.tmp 16)), none⟩, ⟨(some 10), (.mov (.tmp 17)), none⟩]) (.seq (.seq (.rgn false false [] [0, 2, 9, 10, 19] [⟨(some 18), (.mov (.tmp 10)), none⟩, ⟨(some 19), (.eqn true false (.tmp 18)), none⟩]) (.cond (.tmp 19) (.seq (.rgn false false [] [6, 7, 8] [⟨(some 20), (.mov (.tmp 10)), none⟩, ⟨(some 6), (.mov (.const (.int .i32 0))), none⟩, ⟨(some 7), (.mov (.const (.int .i32 0))), none⟩, ⟨(some 8), (.mov (.tmp 20)), none⟩]) .ret) .skip)) (.seq (.rgn false false [] [9, 10, 11] [⟨(some 22), (.mov (.tmp 0)), none⟩, ⟨(some 23), (.mov (.tmp 2)), none⟩, ⟨(some 24), (.call 35 [(.tmp 22), (.tmp 23)]), none⟩, ⟨(some 21), (.mov (.tmp 24)), none⟩, ⟨(some 25), (.ext (.tmp 21) 0), none⟩, ⟨(some 26), (.ext (.tmp 21) 1), none⟩, ⟨(some 11), (.mov (.tmp 25)), none⟩, ⟨(some 10), (.mov (.tmp 26)), none⟩]) (.seq (.rgn false false [] [6, 7, 8] [⟨(some 27), (.mov (.tmp 9)), none⟩, ⟨(some 28), (.mov (.tmp 11)), none⟩, ⟨(some 29), (.mov (.tmp 10)), none⟩, ⟨(some 6), (.mov (.tmp 27)), none⟩, ⟨(some 7), (.mov (.tmp 28)), none⟩, ⟨(some 8), (.mov (.tmp 29)), none⟩]) .ret)))))
theorem comp_unite_Groups_two : compC Try.prog Try.f30.ntmps k_unite_Groups_two (Try.f30.body.getD .skip) = some lc_unite_Groups_two := by kernel_rfl
theorem body_unite_Groups_two : Try.f30.body = some (Try.f30.body.getD .skip) := by kernel_rfl
theorem pure_unite_Groups_two {args : List AV} {M : Mem} {slot : Nat} {v : AV} (hl : args.length ≤ Try.f30.ntmps) (h : run Try.prog Try.f30.ntmps 0 lc_unite_Groups_two (retP [6, 7, 8] v) (lkT (argT (ren (lkσ [])) 0 args)) (lkM []) 0) : CallOk Try.prog 30 args M slot { v } :=
  callOk_pure mix Try.func30 body_unite_Groups_two (by kernel_rfl) (by kernel_rfl) comp_unite_Groups_two hl (run_imp _ (fun _ _ _ _ h => retP_W h) _ _ _ h)
theorem full_unite_Groups_two {args : List AV} {M : Mem} {slot : Nat} {out : Out} {σ : List (Nat × Nat)} {k : Nat} (hl : args.length ≤ Try.f30.ntmps) (hσ1 : (σ.map (·.1)).Nodup) (hσ2 : σ.map (·.2) = List.range k) (hrd : ∀ x ∈ σ, x.1 ∈ out.rd) (hM : ∀ x ∈ σ, (M x.1).isSome = true) (h : run Try.prog Try.f30.ntmps k lc_unite_Groups_two (retC Try.f30.ntmps k σ slot [6, 7, 8] out) (lkT (argT (ren (lkσ σ)) 0 args)) (lkM (renM M σ)) k) : CallOk Try.prog 30 args M slot out :=
  callOk_of_run mix Try.func30 body_unite_Groups_two (by kernel_rfl) (by kernel_rfl) comp_unite_Groups_two hl hσ1 hσ2 hrd hM h
/-! ### (*plait/unite.Groups).Join -/
def k_unite_Groups_Join : Nat → Bool × List Nat := fun | 0 => (false, [0, 1, 2]) | 1 => (false, [0, 8, 9, 10]) | 2 => (false, [0, 8, 9, 10, 25]) | 3 => (false, [6, 7]) | 4 => (false, [0, 8, 9, 41]) | 5 => (false, [0, 8, 9]) | 6 => (false, [0, 8, 9]) | 7 => (false, [0, 8, 9]) | 8 => (false, [0, 8, 9]) | 9 => (false, []) | 10 => (false, [6, 7]) | _ => (false, [])
def lc_unite_Groups_Join : LCode := (.seq (.rgn false false [] [0, 1, 2] [⟨(some 6), (.mov (.const (.bool false))), none⟩, ⟨(some 7), (.mov (.const .nilIface)), none⟩]) (.seq (.rgn false false [] [0, 8, 9, 10] [⟨(some 12), (.mov (.tmp 0)), none⟩, ⟨(some 13), (.mov (.tmp 1)), none⟩, ⟨(some 14), (.mov (.tmp 2)), none⟩, ⟨(some 15), (.call 30 [(.tmp 12), (.tmp 13), (.tmp 14)]), none⟩, ⟨(some 11), (.mov (.tmp 15)), none⟩, ⟨(some 16), (.ext (.tmp 11) 0), none⟩, ⟨(some 17), (.ext (.tmp 11) 1), none⟩, ⟨(some 18), (.ext (.tmp 11) 2), none⟩, ⟨(some 8), (.mov (.tmp 16)), none⟩, ⟨(some 9), (.mov (.tmp 17)), none⟩, ⟨(some 10), (.mov (.tmp 18)), none⟩]) (.seq (.seq (.rgn false false [] [0, 8, 9, 10, 25] [⟨(some 19), (.mov (.tmp 10)), none⟩, ⟨(some 20), (.eqn true false (.tmp 19)), none⟩, ⟨(some 21), (.mov (.tmp 20)), none⟩, ⟨(some 22), (.mov (.tmp 8)), (some (21, false))⟩, ⟨(some 23), (.mov (.tmp 9)), (some (21, false))⟩, ⟨(some 24), (.bin .eql (.tmp 22) (.tmp 23)), (some (21, false))⟩, ⟨(some 25), (.pick (.tmp 21) (.const (.bool true)) (.tmp 24)), none⟩]) (.cond (.tmp 25) (.seq (.rgn false false [] [6, 7] [⟨(some 26), (.mov (.tmp 10)), none⟩, ⟨(some 6), (.mov (.const (.bool false))), none⟩, ⟨(some 7), (.mov (.tmp 26)), none⟩]) .ret) .skip)) (.seq (.seq (.rgn false true [0, 1, 3, 7, 0, 31, 63, 0, 128, 384, 896, 0, 3968, 8064, 16383] [0, 8, 9, 41] [⟨(some 27), (.mov (.tmp 0)), none⟩, ⟨(some 28), (.nilc (.tmp 27)), none⟩, ⟨(some 29), (.fldA 1 (.tmp 28)), none⟩, ⟨(some 30), (.load 1 false (.tmp 29)), none⟩, ⟨(some 31), (.mov (.tmp 8)), none⟩, ⟨(some 32), (.idxA 1 (.tmp 30) (.tmp 31)), none⟩, ⟨(some 33), (.load 1 false (.tmp 32)), none⟩, ⟨(some 34), (.mov (.tmp 0)), none⟩, ⟨(some 35), (.nilc (.tmp 34)), none⟩, ⟨(some 36), (.fldA 1 (.tmp 35)), none⟩, ⟨(some 37), (.load 1 false (.tmp 36)), none⟩, ⟨(some 38), (.mov (.tmp 9)), none⟩, ⟨(some 39), (.idxA 1 (.tmp 37) (.tmp 38)), none⟩, ⟨(some 40), (.load 1 false (.tmp 39)), none⟩, ⟨(some 41), (.bin .gtr (.tmp 33) (.tmp 40)), none⟩]) (.cond (.tmp 41) (.rgn false false [] [0, 8, 9] [⟨(some 42), (.mov (.tmp 9)), none⟩, ⟨(some 43), (.mov (.tmp 8)), none⟩, ⟨(some 8), (.mov (.tmp 42)), none⟩, ⟨(some 9), (.mov (.tmp 43)), none⟩]) .skip)) (.seq (.rgn false true [0, 0, 2, 6, 14, 0, 0, 0, 128, 384, 896, 0, 3968, 8064, 16352, 32736, 65534, 131071, 262143, 524287] [0, 8, 9] [⟨(some 44), (.mov (.tmp 0)), none⟩, ⟨(some 45), (.mov (.tmp 0)), none⟩, ⟨(some 46), (.nilc (.tmp 45)), none⟩, ⟨(some 47), (.fldA 3 (.tmp 46)), none⟩, ⟨(some 48), (.load 1 false (.tmp 47)), none⟩, ⟨(some 49), (.mov (.tmp 8)), none⟩, ⟨(some 50), (.mov (.tmp 9)), none⟩, ⟨(some 51), (.mov (.tmp 0)), none⟩, ⟨(some 52), (.nilc (.tmp 51)), none⟩, ⟨(some 53), (.fldA 2 (.tmp 52)), none⟩, ⟨(some 54), (.load 1 false (.tmp 53)), none⟩, ⟨(some 55), (.mov (.tmp 9)), none⟩, ⟨(some 56), (.idxA 1 (.tmp 54) (.tmp 55)), none⟩, ⟨(some 57), (.load 1 false (.tmp 56)), none⟩, ⟨(some 58), (.build [(.int .i32 0), (.int .i32 0), (.int .i32 0)] [(0, (1, (.tmp 49))), (1, (1, (.tmp 50))), (2, (1, (.tmp 57)))]), none⟩, ⟨(some 59), (.slit 3 [(.int .i32 0), (.int .i32 0), (.int .i32 0)] 1 [(0, (.tmp 58))]), none⟩, ⟨(some 60), (.app 3 12 (.tmp 48) (.tmp 59)), none⟩, ⟨(some 61), (.nilc (.tmp 44)), none⟩, ⟨(some 62), (.fldA 3 (.tmp 61)), none⟩, ⟨none, (.store 1 (.tmp 62) (.tmp 60)), none⟩]) (.seq (.rgn false false [] [0, 8, 9] [⟨(some 63), (.mov (.tmp 0)), none⟩, ⟨(some 64), (.nilc (.tmp 63)), none⟩, ⟨(some 65), (.fldA 0 (.tmp 64)), none⟩, ⟨(some 66), (.load 1 false (.tmp 65)), none⟩, ⟨(some 67), (.mov (.tmp 8)), none⟩, ⟨(some 68), (.mov (.tmp 9)), none⟩, ⟨(some 69), (.idxA 1 (.tmp 66) (.tmp 67)), none⟩, ⟨none, (.store 1 (.tmp 69) (.tmp 68)), none⟩]) (.seq (.rgn false true [0, 1, 3, 7, 0, 31, 63, 0, 128, 384, 896, 0, 3968, 8064, 16383, 32767, 65535] [0, 8, 9] [⟨(some 70), (.mov (.tmp 0)), none⟩, ⟨(some 71), (.nilc (.tmp 70)), none⟩, ⟨(some 72), (.fldA 1 (.tmp 71)), none⟩, ⟨(some 73), (.load 1 false (.tmp 72)), none⟩, ⟨(some 74), (.mov (.tmp 9)), none⟩, ⟨(some 75), (.idxA 1 (.tmp 73) (.tmp 74)), none⟩, ⟨(some 76), (.load 1 false (.tmp 75)), none⟩, ⟨(some 77), (.mov (.tmp 0)), none⟩, ⟨(some 78), (.nilc (.tmp 77)), none⟩, ⟨(some 79), (.fldA 1 (.tmp 78)), none⟩, ⟨(some 80), (.load 1 false (.tmp 79)), none⟩, ⟨(some 81), (.mov (.tmp 8)), none⟩, ⟨(some 82), (.idxA 1 (.tmp 80) (.tmp 81)), none⟩, ⟨(some 83), (.load 1 false (.tmp 82)), none⟩, ⟨(some 84), (.bin .add (.tmp 76) (.tmp 83)), none⟩, ⟨(some 85), (.idxA 1 (.tmp 73) (.tmp 74)), none⟩, ⟨none, (.store 1 (.tmp 85) (.tmp 84)), none⟩]) (.seq (.rgn false true [0, 1, 3, 7, 0, 0, 32, 96, 224, 0, 992, 2016, 0, 4096, 12288, 28672, 0, 126976, 258048, 524256, 1048575, 2097151] [] [⟨(some 86), (.mov (.tmp 0)), none⟩, ⟨(some 87), (.nilc (.tmp 86)), none⟩, ⟨(some 88), (.fldA 2 (.tmp 87)), none⟩, ⟨(some 89), (.load 1 false (.tmp 88)), none⟩, ⟨(some 90), (.mov (.tmp 9)), none⟩, ⟨(some 91), (.mov (.tmp 0)), none⟩, ⟨(some 92), (.nilc (.tmp 91)), none⟩, ⟨(some 93), (.fldA 2 (.tmp 92)), none⟩, ⟨(some 94), (.load 1 false (.tmp 93)), none⟩, ⟨(some 95), (.mov (.tmp 9)), none⟩, ⟨(some 96), (.idxA 1 (.tmp 94) (.tmp 95)), none⟩, ⟨(some 97), (.load 1 false (.tmp 96)), none⟩, ⟨(some 98), (.mov (.tmp 0)), none⟩, ⟨(some 99), (.nilc (.tmp 98)), none⟩, ⟨(some 100), (.fldA 2 (.tmp 99)), none⟩, ⟨(some 101), (.load 1 false (.tmp 100)), none⟩, ⟨(some 102), (.mov (.tmp 8)), none⟩, ⟨(some 103), (.idxA 1 (.tmp 101) (.tmp 102)), none⟩, ⟨(some 104), (.load 1 false (.tmp 103)), none⟩, ⟨(some 105), (.mn (.tmp 97) (.tmp 104)), none⟩, ⟨(some 106), (.idxA 1 (.tmp 89) (.tmp 90)), none⟩, ⟨none, (.store 1 (.tmp 106) (.tmp 105)), none⟩]) (.seq (.rgn false false [] [6, 7] [⟨(some 6), (.mov (.const (.bool true))), none⟩, ⟨(some 7), (.mov (.const .nilIface)), none⟩]) .ret)))))))))
theorem comp_unite_Groups_Join : compC Try.prog Try.f23.ntmps k_unite_Groups_Join (Try.f23.body.getD .skip) = some lc_unite_Groups_Join := by kernel_rfl
theorem body_unite_Groups_Join : Try.f23.body = some (Try.f23.body.getD .skip) := by kernel_rfl
theorem pure_unite_Groups_Join {args : List AV} {M : Mem} {slot : Nat} {v : AV} (hl : args.length ≤ Try.f23.ntmps) (h : run Try.prog Try.f23.ntmps 0 lc_unite_Groups_Join (retP [6, 7] v) (lkT (argT (ren (lkσ [])) 0 args)) (lkM []) 0) : CallOk Try.prog 23 args M slot { v } :=
  callOk_pure mix Try.func23 body_unite_Groups_Join (by kernel_rfl) (by kernel_rfl) comp_unite_Groups_Join hl (run_imp _ (fun _ _ _ _ h => retP_W h) _ _ _ h)
theorem full_unite_Groups_Join {args : List AV} {M : Mem} {slot : Nat} {out : Out} {σ : List (Nat × Nat)} {k : Nat} (hl : args.length ≤ Try.f23.ntmps) (hσ1 : (σ.map (·.1)).Nodup) (hσ2 : σ.map (·.2) = List.range k) (hrd : ∀ x ∈ σ, x.1 ∈ out.rd) (hM : ∀ x ∈ σ, (M x.1).isSome = true) (h : run Try.prog Try.f23.ntmps k lc_unite_Groups_Join (retC Try.f23.ntmps k σ slot [6, 7] out) (lkT (argT (ren (lkσ σ)) 0 args)) (lkM (renM M σ)) k) : CallOk Try.prog 23 args M slot out :=
  callOk_of_run mix Try.func23 body_unite_Groups_Join (by kernel_rfl) (by kernel_rfl) comp_unite_Groups_Join hl hσ1 hσ2 hrd hM h
/-! ### plait/unite.New -/
def k_unite_New : Nat → Bool × List Nat := fun | 0 => (false, [0]) | 1 => (false, [0, 11]) | 2 => (false, [2, 3]) | 3 => (false, [4]) | 4 => (false, [4, 25, 26]) | 5 => (false, [4, 25, 26, 27]) | 6 => (false, [4, 5, 25, 26]) | 7 => (false, [4, 25, 26]) | 8 => (false, [4, 25, 26]) | 9 => (false, [2, 3]) | _ => (false, [])
def lc_unite_New : LCode := (.seq (.rgn false false [] [0] [⟨(some 2), (.mov (.const (.pointer none))), none⟩, ⟨(some 3), (.mov (.const .nilIface)), none⟩]) (.seq (.seq (.rgn false false [] [0, 11] [⟨(some 6), (.mov (.tmp 0)), none⟩, ⟨(some 7), (.bin .lss (.tmp 6) (.const (.int .i64 1))), none⟩, ⟨(some 8), (.mov (.tmp 7)), none⟩, ⟨(some 9), (.mov (.tmp 0)), (some (8, false))⟩, ⟨(some 10), (.bin .gtr (.tmp 9) (.const (.int .i64 4194304))), (some (8, false))⟩, ⟨(some 11), (.pick (.tmp 8) (.const (.bool true)) (.tmp 10)), none⟩]) (.cond (.tmp 11) (.seq (.rgn false false [] [2, 3] [⟨(some 12), (.mkI 51 (.const (.int .i64 1))), none⟩, ⟨(some 2), (.mov (.const (.pointer none))), none⟩, ⟨(some 3), (.mov (.tmp 12)), none⟩]) .ret) .skip)) (.seq (.rgn false true [0, 1, 0, 4, 0, 16, 63, 127, 255] [4] [⟨(some 13), (.mov (.tmp 0)), none⟩, ⟨(some 14), (.mkSl 1 4 [(.int .i32 0)] (.tmp 13) (.tmp 13)), none⟩, ⟨(some 15), (.mov (.tmp 0)), none⟩, ⟨(some 16), (.mkSl 1 4 [(.int .i32 0)] (.tmp 15) (.tmp 15)), none⟩, ⟨(some 17), (.mov (.tmp 0)), none⟩, ⟨(some 18), (.mkSl 1 4 [(.int .i32 0)] (.tmp 17) (.tmp 17)), none⟩, ⟨(some 19), (.build [(.slice none 0 0), (.slice none 0 0), (.slice none 0 0), (.slice none 0 0)] [(0, (1, (.tmp 14))), (1, (1, (.tmp 16))), (2, (1, (.tmp 18)))]), none⟩, ⟨(some 20), (.box 4 (.tmp 19)), none⟩, ⟨(some 4), (.mov (.tmp 20)), none⟩]) (.seq (.seq (.rgn false false [] [4, 25, 26] [⟨(some 21), (.mov (.tmp 4)), none⟩, ⟨(some 22), (.nilc (.tmp 21)), none⟩, ⟨(some 23), (.fldA 0 (.tmp 22)), none⟩, ⟨(some 24), (.load 1 false (.tmp 23)), none⟩, ⟨(some 25), (.lenL (.tmp 24)), none⟩, ⟨(some 26), (.mov (.const (.int .i64 0))), none⟩]) (.block 0 (.loop (.seq (.rgn false false [] [4, 25, 26, 27] [⟨(some 27), (.bin .lss (.tmp 26) (.tmp 25)), none⟩]) (.seq (.cond (.tmp 27) .skip (.exit 0)) (.seq (.block 1 (.seq (.rgn false false [] [4, 5, 25, 26] [⟨(some 28), (.mov (.tmp 26)), none⟩, ⟨(some 5), (.mov (.tmp 28)), none⟩]) (.rgn false true [0, 1, 3, 7, 0, 0, 32, 96, 224, 0, 0, 1024, 3072, 7168, 0, 0, 32768, 0, 131072, 114175, 638463, 1687551, 3784703, 8388607, 16777215] [4, 25, 26] [⟨(some 29), (.mov (.tmp 4)), none⟩, ⟨(some 30), (.nilc (.tmp 29)), none⟩, ⟨(some 31), (.fldA 0 (.tmp 30)), none⟩, ⟨(some 32), (.load 1 false (.tmp 31)), none⟩, ⟨(some 33), (.mov (.tmp 5)), none⟩, ⟨(some 34), (.mov (.tmp 4)), none⟩, ⟨(some 35), (.nilc (.tmp 34)), none⟩, ⟨(some 36), (.fldA 1 (.tmp 35)), none⟩, ⟨(some 37), (.load 1 false (.tmp 36)), none⟩, ⟨(some 38), (.mov (.tmp 5)), none⟩, ⟨(some 39), (.mov (.tmp 4)), none⟩, ⟨(some 40), (.nilc (.tmp 39)), none⟩, ⟨(some 41), (.fldA 2 (.tmp 40)), none⟩, ⟨(some 42), (.load 1 false (.tmp 41)), none⟩, ⟨(some 43), (.mov (.tmp 5)), none⟩, ⟨(some 44), (.mov (.tmp 5)), none⟩, ⟨(some 45), (.convI .i32 (.tmp 44)), none⟩, ⟨(some 46), (.mov (.tmp 5)), none⟩, ⟨(some 47), (.convI .i32 (.tmp 46)), none⟩, ⟨(some 48), (.idxA 1 (.tmp 32) (.tmp 33)), none⟩, ⟨none, (.store 1 (.tmp 48) (.tmp 45)), none⟩, ⟨(some 49), (.idxA 1 (.tmp 37) (.tmp 38)), none⟩, ⟨none, (.store 1 (.tmp 49) (.const (.int .i32 1))), none⟩, ⟨(some 50), (.idxA 1 (.tmp 42) (.tmp 43)), none⟩, ⟨none, (.store 1 (.tmp 50) (.tmp 47)), none⟩]))) (.rgn false false [] [4, 25, 26] [⟨(some 51), (.bin .add (.tmp 26) (.const (.int .i64 1))), none⟩, ⟨(some 26), (.mov (.tmp 51)), none⟩]))))))) (.seq (.rgn false false [] [2, 3] [⟨(some 52), (.mov (.tmp 4)), none⟩, ⟨(some 2), (.mov (.tmp 52)), none⟩, ⟨(some 3), (.mov (.const .nilIface)), none⟩]) .ret)))))
theorem comp_unite_New : compC Try.prog Try.f22.ntmps k_unite_New (Try.f22.body.getD .skip) = some lc_unite_New := by kernel_rfl
theorem body_unite_New : Try.f22.body = some (Try.f22.body.getD .skip) := by kernel_rfl
theorem pure_unite_New {args : List AV} {M : Mem} {slot : Nat} {v : AV} (hl : args.length ≤ Try.f22.ntmps) (h : run Try.prog Try.f22.ntmps 0 lc_unite_New (retP [2, 3] v) (lkT (argT (ren (lkσ [])) 0 args)) (lkM []) 0) : CallOk Try.prog 22 args M slot { v } :=
  callOk_pure mix Try.func22 body_unite_New (by kernel_rfl) (by kernel_rfl) comp_unite_New hl (run_imp _ (fun _ _ _ _ h => retP_W h) _ _ _ h)
theorem full_unite_New {args : List AV} {M : Mem} {slot : Nat} {out : Out} {σ : List (Nat × Nat)} {k : Nat} (hl : args.length ≤ Try.f22.ntmps) (hσ1 : (σ.map (·.1)).Nodup) (hσ2 : σ.map (·.2) = List.range k) (hrd : ∀ x ∈ σ, x.1 ∈ out.rd) (hM : ∀ x ∈ σ, (M x.1).isSome = true) (h : run Try.prog Try.f22.ntmps k lc_unite_New (retC Try.f22.ntmps k σ slot [2, 3] out) (lkT (argT (ren (lkσ σ)) 0 args)) (lkM (renM M σ)) k) : CallOk Try.prog 22 args M slot out :=
  callOk_of_run mix Try.func22 body_unite_New (by kernel_rfl) (by kernel_rfl) comp_unite_New hl hσ1 hσ2 hrd hM h
section
variable {M : Mem} {slot : Nat}
def stE (s : List (Nat × Nat × Nat)) : List (List AV) := s.map fun x => [.i .i32 x.1, .i .i32 x.2.1, .i .i32 x.2.2]
theorem stE_length (s : List (Nat × Nat × Nat)) : (stE s).length = s.length := by simp [stE]
theorem stE_append (a b : List (Nat × Nat × Nat)) : stE (a ++ b) = stE a ++ stE b := by simp [stE]
theorem stE_take (a : List (Nat × Nat × Nat)) (i : Nat) : (stE a).take i = stE (a.take i) := by simp [stE]
theorem stE_get (a : List (Nat × Nat × Nat)) (i : Nat) : (stE a)[i]? = (a[i]?).map fun x => [.i .i32 x.1, .i .i32 x.2.1, .i .i32 x.2.2] := by simp [stE]
theorem subLL_stE {s : Sub} (l : List (Nat × Nat × Nat)) : subLL s (stE l) = stE l := by
  simp only [subLL_map, stE, List.map_map]
  refine List.map_congr_left fun x _ => ?_
  rfl
/-- Four cells. -/
def gEl (a b c d : AV) : List (List AV) := [[a], [b], [c], [d]]
theorem subLL_row {s : Sub} {a b c d : AV} : subLL s (gEl a b c d) = gEl (sub s a) (sub s b) (sub s c) (sub s d) := (rfl)
theorem gEl_0 {a b c d : AV} : (gEl a b c d)[0]? = some [a] := (rfl)
theorem gEl_1 {a b c d : AV} : (gEl a b c d)[1]? = some [b] := (rfl)
theorem gEl_2 {a b c d : AV} : (gEl a b c d)[2]? = some [c] := (rfl)
theorem gEl_3 {a b c d : AV} : (gEl a b c d)[3]? = some [d] := (rfl)
theorem gEl_l {a b c d : AV} : (gEl a b c d).length = 4 := (rfl)
theorem gEl_set {a b c d x : AV} : (gEl a b c d).set 3 [x] = gEl a b c x := (rfl)
theorem stE_snoc {s : List (Nat × Nat × Nat)} {x y l : Nat} : stE s ++ [[AV.i .i32 x, AV.i .i32 y, AV.i .i32 l]] = stE (s ++ [(x, y, l)]) := by rw [stE_append]; rfl
theorem nats_set (l : List Nat) (i x : Nat) : (nats l).set i (x : Int) = nats (l.set i x) := by simp [nats, List.map_set]
abbrev nE (l : List Nat) : List (List AV) := enc (.i .i32) (nats l)
theorem subLL_nE {s : Sub} (l : List Nat) : subLL s (nE l) = nE l := subLL_enc (fun _ => rfl)
/-- The rows of groups. -/
def rws (G A B C D n : Nat) (u : U) (j : List (Nat × Nat × Nat)) : List (Nat × Row) :=
  [(G, ⟨1, gEl (.own A 0 n 1) (.own B 0 n 1) (.own C 0 n 1) (.own D 0 u.st.length 1)⟩), (A, ⟨1, nE u.ab⟩), (B, ⟨1, nE u.sz⟩), (C, ⟨1, nE u.le⟩), (D, ⟨3, stE (u.st ++ j)⟩)]
def Lay (M : Mem) (G A B C D n : Nat) (u : U) (j : List (Nat × Nat × Nat)) : Prop := ∀ x ∈ rws G A B C D n u j, M x.1 = some x.2
def effs (G A B C D n : Nat) (u : U) (j : List (Nat × Nat × Nat)) : List (Nat × Option Row) := (rws G A B C D n u j).map fun x => (x.1, some x.2)
def sg (G A B C D : Nat) : List (Nat × Nat) := [(G, 0), (A, 1), (B, 2), (C, 3), (D, 4)]
variable {G A B C D n : Nat} {u : U} {j : List (Nat × Nat × Nat)}
theorem sg_fst (nd : [G, A, B, C, D].Nodup) : ((sg G A B C D).map (·.1)).Nodup := nd
theorem sg_snd : (sg G A B C D).map (·.2) = List.range 5 := rfl
theorem sg_rd : ∀ x ∈ sg G A B C D, x.1 ∈ [G, A, B, C, D] := by
  intro x hx
  simp only [sg, List.mem_cons, List.not_mem_nil, or_false] at hx
  rcases hx with rfl | rfl | rfl | rfl | rfl <;> simp
theorem lay_some (h : Lay M G A B C D n u j) : ∀ x ∈ sg G A B C D, (M x.1).isSome = true := by
  simp only [Lay, rws, List.forall_mem_cons] at h
  obtain ⟨h1, h2, h3, h4, h5, _⟩ := h
  intro x hx
  simp only [sg, List.mem_cons, List.not_mem_nil, or_false] at hx
  rcases hx with rfl | rfl | rfl | rfl | rfl <;> simp_all
theorem lay_ren (h : Lay M G A B C D n u j) (nd : [G, A, B, C, D].Nodup) : renM M (sg G A B C D) = rws 0 1 2 3 4 n u j := by
  simp only [Lay, rws, List.forall_mem_cons] at h
  obtain ⟨h1, h2, h3, h4, h5, _⟩ := h
  simp only [List.nodup_cons, List.mem_cons, List.not_mem_nil, or_false, not_or, List.nodup_nil, not_false_eq_true, and_true] at nd
  obtain ⟨⟨n1, n2, n3, n4⟩, ⟨n5, n6, n7⟩, ⟨n8, n9⟩, n10⟩ := nd
  simp only [renM, sg, List.filterMap_cons, List.filterMap_nil, h1, h2, h3, h4, h5, Option.map_some, subRow, subLL_nE, subLL_stE, subLL_row]
  simp only [subLL, subL, sub, ren, lkσ, Ne.symm n1, Ne.symm n2, Ne.symm n3, Ne.symm n4, Ne.symm n5, Ne.symm n6, Ne.symm n7, Ne.symm n8, Ne.symm n9, Ne.symm n10, if_true, if_false, rws]
theorem eff_ro (h : Lay M G A B C D n u j) : ∀ x ∈ effs G A B C D n u j, x.1 ∈ [G, A, B, C, D] ∧ M x.1 = x.2 := by
  intro x hx
  simp only [effs, List.mem_map] at hx
  obtain ⟨y, hy, rfl⟩ := hx
  refine ⟨?_, h y hy⟩
  simp only [rws, List.mem_cons, List.not_mem_nil, or_false] at hy
  rcases hy with rfl | rfl | rfl | rfl | rfl <;> simp
theorem eff_back (nd : [G, A, B, C, D].Nodup) : effOf (back (sg G A B C D) [] slot) (lkM (rws 0 1 2 3 4 n u j)) = effs G A B C D n u j := by
  simp only [back, sg, List.map_cons, List.map_nil, List.append_nil, effOf, rws, lkM, effs]
  simp [Option.map_some, subRow, subLL_nE, subLL_stE, subLL_row, subLL, subL, sub, ren, lkσ]
theorem sg_ptr : sub (ren (lkσ (sg G A B C D))) (.ptr G 0 0) = .ptr 0 0 0 := by simp [sub, ren, lkσ, sg]
theorem retRO {N : Nat} {rs : List Nat} {v : AV} {T : Tm} {nb : Nat} (nd : [G, A, B, C, D].Nodup) (hv : v = sub (ren (lkσ (back (sg G A B C D) [] slot))) (resV rs T)) :
    retC N 5 (sg G A B C D) slot rs { v := v, eff := effs G A B C D n u j, rd := [G, A, B, C, D] } .ret T (lkM (rws 0 1 2 3 4 n u j)) nb :=
  retC_i (Wk.refl _ _ _ _ _) [] rfl hv (eff_back nd).symm
theorem nd5 : [0, 1, 2, 3, 4].Nodup := by decide
theorem lay5 : Lay (lkM (rws 0 1 2 3 4 n u j)) 0 1 2 3 4 n u j := by
  intro x hx
  simp only [rws, List.mem_cons, List.not_mem_nil, or_false] at hx
  rcases hx with rfl | rfl | rfl | rfl | rfl <;> simp [rws, lkM]
/-- What a join leaves: the steps' row is a new one. -/
def effsJ (G A B C D slot n : Nat) (u : U) : List (Nat × Option Row) :=
  [(G, some ⟨1, gEl (.own A 0 n 1) (.own B 0 n 1) (.own C 0 n 1) (.own slot 0 u.st.length 1)⟩), (A, some ⟨1, nE u.ab⟩), (B, some ⟨1, nE u.sz⟩), (C, some ⟨1, nE u.le⟩), (D, none), (slot, some ⟨3, stE (u.st ++ [])⟩)]
theorem eff_backJ (nd : [G, A, B, C, D].Nodup) : effOf (back (sg G A B C D) [(5, 0)] slot) (lkM (rws 0 1 2 3 5 n u [])) = effsJ G A B C D slot n u := by
  simp only [back, sg, List.map_cons, List.map_nil, List.cons_append, List.nil_append, effOf, rws, lkM, effsJ]
  simp [Option.map_some, subRow, subLL_nE, subLL_stE, subLL_row, subLL, subL, sub, ren, lkσ]
theorem retJ {N : Nat} {rs : List Nat} {v : AV} {T : Tm} {nb nb2 : Nat} {T2 : Tm} {M0 : Mem} (nd : [G, A, B, C, D].Nodup) (hw : Wk N 5 T M0 nb T2 (lkM (rws 0 1 2 3 5 n u [])) nb2) (hv : v = sub (ren (lkσ (back (sg G A B C D) [(5, 0)] slot))) (resV rs T2)) :
    retC N 5 (sg G A B C D) slot rs { v := v, eff := effsJ G A B C D slot n u, rd := [G, A, B, C, D] } .ret T M0 nb :=
  retC_i hw [(5, 0)] rfl hv (eff_backJ nd).symm
theorem find_ok {L : List Nat} {r d : Nat → Nat} (o : Ok n u L r d) (hn : n ≤ 4194304) (nd : [G, A, B, C, D].Nodup) (hM : Lay M G A B C D n u j) {x : Nat} (hx : x < n) :
    CallOk Try.prog 35 [.ptr G 0 0, .i .i64 x] M slot { v := .tup [.i .i32 (r x), .k .nilIface], rd := [G, A, B, C, D] } := by
  refine callOk_noeff (full_unite_Groups_find (σ := sg G A B C D) (k := 5) (Nat.le_of_ble_eq_true (by kernel_rfl)) (sg_fst nd) sg_snd sg_rd (lay_some hM) ?_) (eff_ro hM)
  rw [lay_ren hM nd]
  unfold lc_unite_Groups_find
  have hla : (nats u.ab).length = n := by rw [nats_length, o.la]
  have e1 : ¬ (x : Int) < 0 := by omega
  have e2 : ¬ n ≤ x := by omega
  have e3 : IntKind.i32.wrap (x : Int) = x := by rw [IntKind.wrap_i32]; omega
  simp only [vS, opP, Go.Vm.step, Go.Vm.ev, delM, setM, binL, binI, shI, binS, unL, cst, cst1, cells1, reduceIte, Nat.reduceAdd, Nat.reduceMul, Nat.reduceEqDiff, bound, refsC, AV.cells, AV.ref1, flatC, oneC, elems, okLog, disj, befOf, Int.reduceLT, Int.reduceLE, Int.reduceToNat, Int.reducePow, Nat.reduceLeDiff, IntKind.bits, argT, Int.reduceMul, Int.reduceAdd, Int.reduceNeg, Int.reduceSub, Int.reduceEq, Nat.reduceLT, Row.get1, Row.getN, Row.set1, Row.setN, fillE, e1, e2, e3, rws, gEl_0, gEl_1, gEl_2, gEl_3, gEl_l, gEl_set, stE_snoc, sg_ptr, hla]
  refine loop_by (fun at_ => at_ < n ∧ r at_ = r x) (fun at_ => d at_)
    (fun at_ => [(0, .ptr 0 0 0), (6, .i .i32 at_)]) (fun _ => rws 0 1 2 3 4 n u j) 8 ?_ x ⟨hx, rfl⟩ (Wk.norm [(0, 0), (1, 1), (2, 2), (3, 3), (4, 4)] (by decide) ?_ ?_)
  · rintro at_ ⟨h1, h2⟩
    have hg : (nats u.ab)[at_]? = some ((g u.ab at_ : Nat) : Int) := by rw [nats_get, g_get (by rw [o.la]; exact h1)]; rfl
    by_cases e : g u.ab at_ = at_
    · have e4 := (o.top at_ h1).1 e
      have e5 : r x = at_ := by rw [← h2, e4]
      simp only [vS, opP, Go.Vm.step, Go.Vm.ev, delM, setM, binL, binI, shI, binS, unL, cst, cst1, cells1, reduceIte, Nat.reduceAdd, Nat.reduceMul, Nat.reduceEqDiff, bound, refsC, AV.cells, AV.ref1, flatC, oneC, elems, okLog, disj, befOf, Int.reduceLT, Int.reduceLE, Int.reduceToNat, Int.reducePow, Nat.reduceLeDiff, IntKind.bits, argT, Int.reduceMul, Int.reduceAdd, Int.reduceNeg, Int.reduceSub, Int.reduceEq, Nat.reduceLT, Row.get1, Row.getN, Row.set1, Row.setN, fillE, rws, gEl_0, gEl_1, gEl_2, gEl_3, gEl_l, gEl_set, stE_snoc, hla, h1, hg, e]
      rw [e5]
      exact retRO nd rfl
    · obtain ⟨h3, h4, h5⟩ := o.up at_ h1 e
      simp only [vS, opP, Go.Vm.step, Go.Vm.ev, delM, setM, binL, binI, shI, binS, unL, cst, cst1, cells1, reduceIte, Nat.reduceAdd, Nat.reduceMul, Nat.reduceEqDiff, bound, refsC, AV.cells, AV.ref1, flatC, oneC, elems, okLog, disj, befOf, Int.reduceLT, Int.reduceLE, Int.reduceToNat, Int.reducePow, Nat.reduceLeDiff, IntKind.bits, argT, Int.reduceMul, Int.reduceAdd, Int.reduceNeg, Int.reduceSub, Int.reduceEq, Nat.reduceLT, Row.get1, Row.getN, Row.set1, Row.setN, fillE, rws, gEl_0, gEl_1, gEl_2, gEl_3, gEl_l, gEl_set, stE_snoc, hla, h1, hg, e]
      refine ⟨g u.ab at_, ⟨h3, h4.trans h2⟩, h5, Wk.norm [(0, 0), (1, 1), (2, 2), (3, 3), (4, 4)] (by decide) ?_ ?_⟩
      · simp only [vS, opP, Go.Vm.step, Go.Vm.ev, delM, setM, binL, binI, shI, binS, unL, cst, cst1, cells1, reduceIte, Nat.reduceAdd, Nat.reduceMul, Nat.reduceEqDiff, bound, refsC, AV.cells, AV.ref1, flatC, oneC, elems, okLog, disj, befOf, Int.reduceLT, Int.reduceLE, Int.reduceToNat, Int.reducePow, Nat.reduceLeDiff, IntKind.bits, argT, Int.reduceMul, Int.reduceAdd, Int.reduceNeg, Int.reduceSub, Int.reduceEq, Nat.reduceLT, Row.get1, Row.getN, Row.set1, Row.setN, fillE, vW, renM, frM, subRow, Nat.reduceBNe, frs, frOk, frOut]
      · simp only [vS, opP, Go.Vm.step, Go.Vm.ev, delM, setM, binL, binI, shI, binS, unL, cst, cst1, cells1, reduceIte, Nat.reduceAdd, Nat.reduceMul, Nat.reduceEqDiff, bound, refsC, AV.cells, AV.ref1, flatC, oneC, elems, okLog, disj, befOf, Int.reduceLT, Int.reduceLE, Int.reduceToNat, Int.reducePow, Nat.reduceLeDiff, IntKind.bits, argT, Int.reduceMul, Int.reduceAdd, Int.reduceNeg, Int.reduceSub, Int.reduceEq, Nat.reduceLT, Row.get1, Row.getN, Row.set1, Row.setN, fillE, vW, renM, frM, subRow, Nat.reduceBNe, frs, frOk, frOut, rws, subLL_nE, subLL_stE, subLL_row]
  · simp only [vS, opP, Go.Vm.step, Go.Vm.ev, delM, setM, binL, binI, shI, binS, unL, cst, cst1, cells1, reduceIte, Nat.reduceAdd, Nat.reduceMul, Nat.reduceEqDiff, bound, refsC, AV.cells, AV.ref1, flatC, oneC, elems, okLog, disj, befOf, Int.reduceLT, Int.reduceLE, Int.reduceToNat, Int.reducePow, Nat.reduceLeDiff, IntKind.bits, argT, Int.reduceMul, Int.reduceAdd, Int.reduceNeg, Int.reduceSub, Int.reduceEq, Nat.reduceLT, Row.get1, Row.getN, Row.set1, Row.setN, fillE, vW, renM, frM, subRow, Nat.reduceBNe, frs, frOk, frOut]
  · simp only [vS, opP, Go.Vm.step, Go.Vm.ev, delM, setM, binL, binI, shI, binS, unL, cst, cst1, cells1, reduceIte, Nat.reduceAdd, Nat.reduceMul, Nat.reduceEqDiff, bound, refsC, AV.cells, AV.ref1, flatC, oneC, elems, okLog, disj, befOf, Int.reduceLT, Int.reduceLE, Int.reduceToNat, Int.reducePow, Nat.reduceLeDiff, IntKind.bits, argT, Int.reduceMul, Int.reduceAdd, Int.reduceNeg, Int.reduceSub, Int.reduceEq, Nat.reduceLT, Row.get1, Row.getN, Row.set1, Row.setN, fillE, vW, renM, frM, subRow, Nat.reduceBNe, frs, frOk, frOut, rws, subLL_nE, subLL_stE, subLL_row]
theorem two_ok {L : List Nat} {r d : Nat → Nat} (o : Ok n u L r d) (hn : n ≤ 4194304) (nd : [G, A, B, C, D].Nodup) (hM : Lay M G A B C D n u j) {x y : Nat} (hx : x < n) (hy : y < n) :
    CallOk Try.prog 30 [.ptr G 0 0, .i .i64 x, .i .i64 y] M slot { v := .tup [.i .i32 (r x), .i .i32 (r y), .k .nilIface], rd := [G, A, B, C, D] } := by
  refine callOk_noeff (full_unite_Groups_two (σ := sg G A B C D) (k := 5) (Nat.le_of_ble_eq_true (by kernel_rfl)) (sg_fst nd) sg_snd sg_rd (lay_some hM) ?_) (eff_ro hM)
  rw [lay_ren hM nd]
  unfold lc_unite_Groups_two
  simp only [vS, opP, Go.Vm.step, Go.Vm.ev, delM, setM, binL, binI, shI, binS, unL, cst, cst1, cells1, reduceIte, Nat.reduceAdd, Nat.reduceMul, Nat.reduceEqDiff, bound, refsC, AV.cells, AV.ref1, flatC, oneC, elems, okLog, disj, befOf, Int.reduceLT, Int.reduceLE, Int.reduceToNat, Int.reducePow, Nat.reduceLeDiff, IntKind.bits, argT, Int.reduceMul, Int.reduceAdd, Int.reduceNeg, Int.reduceSub, Int.reduceEq, Nat.reduceLT, Row.get1, Row.getN, Row.set1, Row.setN, fillE, sg_ptr]
  refine callP_ok (find_ok o hn nd5 lay5 hx) ?_
  simp only [vS, opP, Go.Vm.step, Go.Vm.ev, delM, setM, binL, binI, shI, binS, unL, cst, cst1, cells1, reduceIte, Nat.reduceAdd, Nat.reduceMul, Nat.reduceEqDiff, bound, refsC, AV.cells, AV.ref1, flatC, oneC, elems, okLog, disj, befOf, Int.reduceLT, Int.reduceLE, Int.reduceToNat, Int.reducePow, Nat.reduceLeDiff, IntKind.bits, argT, Int.reduceMul, Int.reduceAdd, Int.reduceNeg, Int.reduceSub, Int.reduceEq, Nat.reduceLT, Row.get1, Row.getN, Row.set1, Row.setN, fillE]
  refine callP_ok (find_ok o hn nd5 lay5 hy) ?_
  simp only [vS, opP, Go.Vm.step, Go.Vm.ev, delM, setM, binL, binI, shI, binS, unL, cst, cst1, cells1, reduceIte, Nat.reduceAdd, Nat.reduceMul, Nat.reduceEqDiff, bound, refsC, AV.cells, AV.ref1, flatC, oneC, elems, okLog, disj, befOf, Int.reduceLT, Int.reduceLE, Int.reduceToNat, Int.reducePow, Nat.reduceLeDiff, IntKind.bits, argT, Int.reduceMul, Int.reduceAdd, Int.reduceNeg, Int.reduceSub, Int.reduceEq, Nat.reduceLT, Row.get1, Row.getN, Row.set1, Row.setN, fillE]
  exact retRO nd rfl
theorem Join_same {L : List Nat} {r d : Nat → Nat} (o : Ok n u L r d) (hn : n ≤ 4194304) (nd : [G, A, B, C, D].Nodup) (hM : Lay M G A B C D n u j) {x y : Nat} (hx : x < n) (hy : y < n) (e : r x = r y) :
    CallOk Try.prog 23 [.ptr G 0 0, .i .i64 x, .i .i64 y] M slot { v := .tup [.b false, .k .nilIface], rd := [G, A, B, C, D] } := by
  refine callOk_noeff (full_unite_Groups_Join (σ := sg G A B C D) (k := 5) (Nat.le_of_ble_eq_true (by kernel_rfl)) (sg_fst nd) sg_snd sg_rd (lay_some hM) ?_) (eff_ro hM)
  rw [lay_ren hM nd]
  unfold lc_unite_Groups_Join
  simp only [vS, opP, Go.Vm.step, Go.Vm.ev, delM, setM, binL, binI, shI, binS, unL, cst, cst1, cells1, reduceIte, Nat.reduceAdd, Nat.reduceMul, Nat.reduceEqDiff, bound, refsC, AV.cells, AV.ref1, flatC, oneC, elems, okLog, disj, befOf, Int.reduceLT, Int.reduceLE, Int.reduceToNat, Int.reducePow, Nat.reduceLeDiff, IntKind.bits, argT, Int.reduceMul, Int.reduceAdd, Int.reduceNeg, Int.reduceSub, Int.reduceEq, Nat.reduceLT, Row.get1, Row.getN, Row.set1, Row.setN, fillE, sg_ptr]
  refine callP_ok (two_ok o hn nd5 lay5 hx hy) ?_
  simp only [vS, opP, Go.Vm.step, Go.Vm.ev, delM, setM, binL, binI, shI, binS, unL, cst, cst1, cells1, reduceIte, Nat.reduceAdd, Nat.reduceMul, Nat.reduceEqDiff, bound, refsC, AV.cells, AV.ref1, flatC, oneC, elems, okLog, disj, befOf, Int.reduceLT, Int.reduceLE, Int.reduceToNat, Int.reducePow, Nat.reduceLeDiff, IntKind.bits, argT, Int.reduceMul, Int.reduceAdd, Int.reduceNeg, Int.reduceSub, Int.reduceEq, Nat.reduceLT, Row.get1, Row.getN, Row.set1, Row.setN, fillE, e]
  exact retRO nd rfl
set_option maxRecDepth 20000 in
theorem Join_ok {L : List Nat} {r d : Nat → Nat} (o : Ok n u L r d) (hn : n ≤ 4194304) (nd : [G, A, B, C, D].Nodup) (hM : Lay M G A B C D n u j) {x y : Nat} (hx : x < n) (hy : y < n) (e : r x ≠ r y) :
    CallOk Try.prog 23 [.ptr G 0 0, .i .i64 x, .i .i64 y] M slot { v := .tup [.b true, .k .nilIface], eff := effsJ G A B C D slot n (jn u r x y), rd := [G, A, B, C, D] } := by
  refine full_unite_Groups_Join (σ := sg G A B C D) (k := 5) (Nat.le_of_ble_eq_true (by kernel_rfl)) (sg_fst nd) sg_snd sg_rd (lay_some hM) ?_
  rw [lay_ren hM nd]
  unfold lc_unite_Groups_Join
  simp only [vS, opP, Go.Vm.step, Go.Vm.ev, delM, setM, binL, binI, shI, binS, unL, cst, cst1, cells1, reduceIte, Nat.reduceAdd, Nat.reduceMul, Nat.reduceEqDiff, bound, refsC, AV.cells, AV.ref1, flatC, oneC, elems, okLog, disj, befOf, Int.reduceLT, Int.reduceLE, Int.reduceToNat, Int.reducePow, Nat.reduceLeDiff, IntKind.bits, argT, Int.reduceMul, Int.reduceAdd, Int.reduceNeg, Int.reduceSub, Int.reduceEq, Nat.reduceLT, Row.get1, Row.getN, Row.set1, Row.setN, fillE, sg_ptr]
  refine callP_ok (two_ok o hn nd5 lay5 hx hy) ?_
  have hrx := o.rlt x hx
  have hry := o.rlt y hy
  have hsx : (nats u.sz)[r x]? = some ((g u.sz (r x) : Nat) : Int) := by rw [nats_get, g_get (by rw [o.ls]; exact hrx)]; rfl
  have hsy : (nats u.sz)[r y]? = some ((g u.sz (r y) : Nat) : Int) := by rw [nats_get, g_get (by rw [o.ls]; exact hry)]; rfl
  have hlx : (nats u.le)[r x]? = some ((g u.le (r x) : Nat) : Int) := by rw [nats_get, g_get (by rw [o.ll]; exact hrx)]; rfl
  have hly : (nats u.le)[r y]? = some ((g u.le (r y) : Nat) : Int) := by rw [nats_get, g_get (by rw [o.ll]; exact hry)]; rfl
  have hla : (nats u.ab).length = n := by rw [nats_length, o.la]
  have hls : (nats u.sz).length = n := by rw [nats_length, o.ls]
  have hll : (nats u.le).length = n := by rw [nats_length, o.ll]
  have hst : (stE (u.st ++ j)).take u.st.length = stE u.st := by rw [stE_take, List.take_left]
  have hnum := o.num
  have b1 : (u.st.length + 1) * 12 ≤ 140737488355328 := by omega
  have b2 : u.st.length + 1 ≤ 4611686018427387904 := by omega
  by_cases hlt : g u.sz (r y) < g u.sz (r x)
  · rw [show jn u r x y = joinU u (r y) (r x) from if_pos hlt]
    have hj := join_ok o hy hx (Ne.symm e)
    have hsum : g u.sz (r x) + g u.sz (r y) ≤ n := by
      have := hj.szn (r x) hrx
      rwa [show g (joinU u (r y) (r x)).sz (r x) = g u.sz (r x) + g u.sz (r y) from (g_set (by rw [o.ls]; exact hrx)).trans (if_pos rfl)] at this
    have e3 : IntKind.i32.wrap ((g u.sz (r x) : Int) + (g u.sz (r y) : Int)) = ((g u.sz (r x) + g u.sz (r y) : Nat) : Int) := by
      rw [IntKind.wrap_i32]
      omega
    have e4 : (if g u.le (r y) < g u.le (r x) then ((g u.le (r y) : Nat) : Int) else (g u.le (r x) : Nat)) = ((min (g u.le (r x)) (g u.le (r y)) : Nat) : Int) := by split <;> omega
    have e5 : stE ((joinU u (r y) (r x)).st ++ []) = stE (u.st ++ [(r y, r x, g u.le (r x))]) := by rw [List.append_nil]; rfl
    have e6 : (joinU u (r y) (r x)).st.length = u.st.length + 1 := by simp [joinU]
    simp only [vS, opP, Go.Vm.step, Go.Vm.ev, delM, setM, binL, binI, shI, binS, unL, cst, cst1, cells1, reduceIte, Nat.reduceAdd, Nat.reduceMul, Nat.reduceEqDiff, bound, refsC, AV.cells, AV.ref1, flatC, oneC, elems, okLog, disj, befOf, Int.reduceLT, Int.reduceLE, Int.reduceToNat, Int.reducePow, Nat.reduceLeDiff, IntKind.bits, argT, Int.reduceMul, Int.reduceAdd, Int.reduceNeg, Int.reduceSub, Int.reduceEq, Nat.reduceLT, Row.get1, Row.getN, Row.set1, Row.setN, fillE, e, rws, gEl_0, gEl_1, gEl_2, gEl_3, gEl_l, gEl_set, stE_snoc, hsx, hsy, hlx, hly, hla, hls, hll, hrx, hry, hlt, hst, b1, b2, fillL, over, e3, e4]
    refine ⟨by decide, by decide, by decide, retJ nd (Wk.norm [(0, 0), (1, 1), (2, 2), (3, 3), (445, 5)] (by decide) (l2 := [(6, .b true), (7, .k .nilIface)]) (nb2 := 8) ?_ ?_) rfl⟩
    · simp only [vS, opP, Go.Vm.step, Go.Vm.ev, delM, setM, binL, binI, shI, binS, unL, cst, cst1, cells1, reduceIte, Nat.reduceAdd, Nat.reduceMul, Nat.reduceEqDiff, bound, refsC, AV.cells, AV.ref1, flatC, oneC, elems, okLog, disj, befOf, Int.reduceLT, Int.reduceLE, Int.reduceToNat, Int.reducePow, Nat.reduceLeDiff, IntKind.bits, argT, Int.reduceMul, Int.reduceAdd, Int.reduceNeg, Int.reduceSub, Int.reduceEq, Nat.reduceLT, Row.get1, Row.getN, Row.set1, Row.setN, fillE, vW, renM, frM, subRow, Nat.reduceBNe, frs, frOk, frOut]
    · simp only [vS, opP, Go.Vm.step, Go.Vm.ev, delM, setM, binL, binI, shI, binS, unL, cst, cst1, cells1, reduceIte, Nat.reduceAdd, Nat.reduceMul, Nat.reduceEqDiff, bound, refsC, AV.cells, AV.ref1, flatC, oneC, elems, okLog, disj, befOf, Int.reduceLT, Int.reduceLE, Int.reduceToNat, Int.reducePow, Nat.reduceLeDiff, IntKind.bits, argT, Int.reduceMul, Int.reduceAdd, Int.reduceNeg, Int.reduceSub, Int.reduceEq, Nat.reduceLT, Row.get1, Row.getN, Row.set1, Row.setN, fillE, vW, renM, frM, subRow, Nat.reduceBNe, frs, frOk, frOut, rws, subLL_nE, subLL_stE, subLL_row, nats_set, e5, e6]
      rfl
  · rw [show jn u r x y = joinU u (r x) (r y) from if_neg hlt]
    have hj := join_ok o hx hy e
    have hsum : g u.sz (r y) + g u.sz (r x) ≤ n := by
      have := hj.szn (r y) hry
      rwa [show g (joinU u (r x) (r y)).sz (r y) = g u.sz (r y) + g u.sz (r x) from (g_set (by rw [o.ls]; exact hry)).trans (if_pos rfl)] at this
    have e3 : IntKind.i32.wrap ((g u.sz (r y) : Int) + (g u.sz (r x) : Int)) = ((g u.sz (r y) + g u.sz (r x) : Nat) : Int) := by
      rw [IntKind.wrap_i32]
      omega
    have e4 : (if g u.le (r x) < g u.le (r y) then ((g u.le (r x) : Nat) : Int) else (g u.le (r y) : Nat)) = ((min (g u.le (r y)) (g u.le (r x)) : Nat) : Int) := by split <;> omega
    have e5 : stE ((joinU u (r x) (r y)).st ++ []) = stE (u.st ++ [(r x, r y, g u.le (r y))]) := by rw [List.append_nil]; rfl
    have e6 : (joinU u (r x) (r y)).st.length = u.st.length + 1 := by simp [joinU]
    simp only [vS, opP, Go.Vm.step, Go.Vm.ev, delM, setM, binL, binI, shI, binS, unL, cst, cst1, cells1, reduceIte, Nat.reduceAdd, Nat.reduceMul, Nat.reduceEqDiff, bound, refsC, AV.cells, AV.ref1, flatC, oneC, elems, okLog, disj, befOf, Int.reduceLT, Int.reduceLE, Int.reduceToNat, Int.reducePow, Nat.reduceLeDiff, IntKind.bits, argT, Int.reduceMul, Int.reduceAdd, Int.reduceNeg, Int.reduceSub, Int.reduceEq, Nat.reduceLT, Row.get1, Row.getN, Row.set1, Row.setN, fillE, e, rws, gEl_0, gEl_1, gEl_2, gEl_3, gEl_l, gEl_set, stE_snoc, hsx, hsy, hlx, hly, hla, hls, hll, hrx, hry, hlt, hst, b1, b2, fillL, over, e3, e4]
    refine ⟨by decide, by decide, by decide, retJ nd (Wk.norm [(0, 0), (1, 1), (2, 2), (3, 3), (413, 5)] (by decide) (l2 := [(6, .b true), (7, .k .nilIface)]) (nb2 := 8) ?_ ?_) rfl⟩
    · simp only [vS, opP, Go.Vm.step, Go.Vm.ev, delM, setM, binL, binI, shI, binS, unL, cst, cst1, cells1, reduceIte, Nat.reduceAdd, Nat.reduceMul, Nat.reduceEqDiff, bound, refsC, AV.cells, AV.ref1, flatC, oneC, elems, okLog, disj, befOf, Int.reduceLT, Int.reduceLE, Int.reduceToNat, Int.reducePow, Nat.reduceLeDiff, IntKind.bits, argT, Int.reduceMul, Int.reduceAdd, Int.reduceNeg, Int.reduceSub, Int.reduceEq, Nat.reduceLT, Row.get1, Row.getN, Row.set1, Row.setN, fillE, vW, renM, frM, subRow, Nat.reduceBNe, frs, frOk, frOut]
    · simp only [vS, opP, Go.Vm.step, Go.Vm.ev, delM, setM, binL, binI, shI, binS, unL, cst, cst1, cells1, reduceIte, Nat.reduceAdd, Nat.reduceMul, Nat.reduceEqDiff, bound, refsC, AV.cells, AV.ref1, flatC, oneC, elems, okLog, disj, befOf, Int.reduceLT, Int.reduceLE, Int.reduceToNat, Int.reducePow, Nat.reduceLeDiff, IntKind.bits, argT, Int.reduceMul, Int.reduceAdd, Int.reduceNeg, Int.reduceSub, Int.reduceEq, Nat.reduceLT, Row.get1, Row.getN, Row.set1, Row.setN, fillE, vW, renM, frM, subRow, Nat.reduceBNe, frs, frOk, frOut, rws, subLL_nE, subLL_stE, subLL_row, nats_set, e5, e6]
      rfl
theorem winc {i n : Nat} (hi : i < n) (hn : n ≤ 100000000000) : IntKind.i64.wrap ((i : Int) + 1) = ((i + 1 : Nat) : Int) := by
  rw [IntKind.wrap_i64]
  omega
theorem part_set {l : List Nat} {n i v : Nat} (hl : l.length = n) (hi : i < n) (hv : g l i = v) : (nats (l.take i) ++ List.replicate (n - i) (0 : Int)).set i (v : Int) = nats (l.take (i + 1)) ++ List.replicate (n - (i + 1)) 0 := by
  have e5 : (nats (l.take i)).length = i := by rw [nats_length, List.length_take]; omega
  have e6 : n - i = (n - (i + 1)) + 1 := by omega
  rw [List.set_append_right _ _ (by omega), e5, Nat.sub_self, e6, List.replicate_succ, List.set_cons_zero, List.take_add_one, g_get (by omega), hv, nats_append]
  simp [nats]
theorem part_len {l : List Nat} {n i : Nat} (hl : l.length = n) (hi : i ≤ n) : (nats (l.take i) ++ List.replicate (n - i) (0 : Int)).length = n := by
  rw [List.length_append, nats_length, List.length_take, List.length_replicate]
  omega
theorem nilG {N k : Nat} {T : Tm} {m : List (Nat × Row)} {nb : Nat} {x y z : AV} (rid id sz : Nat) (hr : lkM m rid = some ⟨1, gEl x y z (.k (.slice none 0 0))⟩) (hid : nb ≤ id) (hk : k ≤ nb) :
    Wk N k T (lkM m) nb T (lkM ((id, ⟨sz, []⟩) :: (rid, ⟨1, gEl x y z (.own id 0 0 1)⟩) :: m)) (id + 1) := Wk.nilC' rid id sz hr hid hk
theorem eff_new : effOf (back [] [(0, 0), (1, 1), (2, 2), (3, 3), (4, 4)] slot) (lkM (rws 0 1 2 3 4 n u j)) = effs slot (slot + 1) (slot + 2) (slot + 3) (slot + 4) n u j := by
  simp only [back, List.map_cons, List.map_nil, List.append_nil, List.nil_append, effOf, rws, lkM, effs]
  simp [Option.map_some, subRow, subLL_nE, subLL_stE, subLL_row, subLL, subL, sub, ren, lkσ]
set_option maxRecDepth 20000 in
theorem New_ok {n : Nat} (h0 : 0 < n) (hn : n ≤ 4194304) : CallOk Try.prog 22 [.i .i64 n] M slot { v := .tup [.ptr slot 0 0, .k .nilIface], eff := effs slot (slot + 1) (slot + 2) (slot + 3) (slot + 4) n (newU n) [] } := by
  refine full_unite_New (σ := []) (k := 0) (Nat.le_of_ble_eq_true (by kernel_rfl)) (by simp) (by simp) (by simp) (by simp) ?_
  unfold lc_unite_New
  have e1 : ¬ (n : Int) < 1 := by omega
  have e2 : ¬ (4194304 : Int) < n := by omega
  have hn1 : (n : Int) ≤ 9223372036854775807 := by omega
  have hn2 : n * 4 ≤ 281474976710656 := by omega
  simp only [vS, opP, Go.Vm.step, Go.Vm.ev, delM, setM, binL, binI, shI, binS, unL, cst, cst1, cells1, reduceIte, Nat.reduceAdd, Nat.reduceMul, Nat.reduceEqDiff, bound, refsC, AV.cells, AV.ref1, flatC, oneC, elems, okLog, disj, befOf, Int.reduceLT, Int.reduceLE, Int.reduceToNat, Int.reducePow, Nat.reduceLeDiff, IntKind.bits, argT, Int.reduceMul, Int.reduceAdd, Int.reduceNeg, Int.reduceSub, Int.reduceEq, Nat.reduceLT, Row.get1, Row.getN, Row.set1, Row.setN, fillE, e1, e2, hn1, hn2, renM, List.filterMap_nil, fillL, over]
  refine ⟨by decide, ?_⟩
  have e9 : [AV.own 72 0 n 1] :: [AV.own 88 0 n 1] :: [AV.own 104 0 n 1] :: enc AV.k [Value.slice none 0 0] = gEl (.own 72 0 n 1) (.own 88 0 n 1) (.own 104 0 n 1) (.k (.slice none 0 0)) := rfl
  rw [e9]
  refine loop_by (fun i => i ≤ n) (fun i => n - i)
    (fun i => [(4, .ptr 0 0 0), (25, .i .i64 n), (26, .i .i64 i)])
    (fun i => [(0, ⟨1, gEl (.own 1 0 n 1) (.own 2 0 n 1) (.own 3 0 n 1) (.k (.slice none 0 0))⟩), (1, ⟨1, enc (.i .i32) (nats ((newU n).ab.take i) ++ List.replicate (n - i) 0)⟩),
      (2, ⟨1, enc (.i .i32) (nats ((newU n).sz.take i) ++ List.replicate (n - i) 0)⟩), (3, ⟨1, enc (.i .i32) (nats ((newU n).le.take i) ++ List.replicate (n - i) 0)⟩)]) 8 ?_ 0 (Nat.zero_le _)
    (Wk.norm [(120, 0), (72, 1), (88, 2), (104, 3)] (by decide) ?_ ?_)
  · intro i hi0
    have hla : (newU n).ab.length = n := (new_ok n).la
    have hls : (newU n).sz.length = n := (new_ok n).ls
    have hll : (newU n).le.length = n := (new_ok n).ll
    by_cases hi : i < n
    · have p1 := part_len hla hi0
      have p2 := part_len hls hi0
      have p3 := part_len hll hi0
      have q1 := part_set hla hi (v := i) (g_range hi)
      have q2 := part_set hls hi (v := 1) (g_rep hi)
      have q3 := part_set hll hi (v := i) (g_range hi)
      have w1 : IntKind.i32.wrap (i : Int) = i := by rw [IntKind.wrap_i32]; omega
      have q2' : (nats ((newU n).sz.take i) ++ List.replicate (n - i) (0 : Int)).set i 1 = nats ((newU n).sz.take (i + 1)) ++ List.replicate (n - (i + 1)) 0 := q2
      simp only [vS, opP, Go.Vm.step, Go.Vm.ev, delM, setM, binL, binI, shI, binS, unL, cst, cst1, cells1, reduceIte, Nat.reduceAdd, Nat.reduceMul, Nat.reduceEqDiff, bound, refsC, AV.cells, AV.ref1, flatC, oneC, elems, okLog, disj, befOf, Int.reduceLT, Int.reduceLE, Int.reduceToNat, Int.reducePow, Nat.reduceLeDiff, IntKind.bits, argT, Int.reduceMul, Int.reduceAdd, Int.reduceNeg, Int.reduceSub, Int.reduceEq, Nat.reduceLT, Row.get1, Row.getN, Row.set1, Row.setN, fillE, hi, gEl_0, gEl_1, gEl_2, gEl_3, gEl_l, p1, p2, p3, q1, q2', q3, w1, winc hi (by omega)]
      refine ⟨by decide, i + 1, hi, by omega, Wk.norm [(0, 0), (1, 1), (2, 2), (3, 3)] (by decide) ?_ ?_⟩
      · simp only [vS, opP, Go.Vm.step, Go.Vm.ev, delM, setM, binL, binI, shI, binS, unL, cst, cst1, cells1, reduceIte, Nat.reduceAdd, Nat.reduceMul, Nat.reduceEqDiff, bound, refsC, AV.cells, AV.ref1, flatC, oneC, elems, okLog, disj, befOf, Int.reduceLT, Int.reduceLE, Int.reduceToNat, Int.reducePow, Nat.reduceLeDiff, IntKind.bits, argT, Int.reduceMul, Int.reduceAdd, Int.reduceNeg, Int.reduceSub, Int.reduceEq, Nat.reduceLT, Row.get1, Row.getN, Row.set1, Row.setN, fillE, vW, renM, frM, subRow, Nat.reduceBNe, frs, frOk, frOut]
      · simp only [vS, opP, Go.Vm.step, Go.Vm.ev, delM, setM, binL, binI, shI, binS, unL, cst, cst1, cells1, reduceIte, Nat.reduceAdd, Nat.reduceMul, Nat.reduceEqDiff, bound, refsC, AV.cells, AV.ref1, flatC, oneC, elems, okLog, disj, befOf, Int.reduceLT, Int.reduceLE, Int.reduceToNat, Int.reducePow, Nat.reduceLeDiff, IntKind.bits, argT, Int.reduceMul, Int.reduceAdd, Int.reduceNeg, Int.reduceSub, Int.reduceEq, Nat.reduceLT, Row.get1, Row.getN, Row.set1, Row.setN, fillE, vW, renM, frM, subRow, Nat.reduceBNe, frs, frOk, frOut, subLL_row]
    · obtain rfl : i = n := by omega
      have t1 : (newU i).ab.take i = (newU i).ab := List.take_of_length_le (by omega)
      have t2 : (newU i).sz.take i = (newU i).sz := List.take_of_length_le (by omega)
      have t3 : (newU i).le.take i = (newU i).le := List.take_of_length_le (by omega)
      simp only [vS, opP, Go.Vm.step, Go.Vm.ev, delM, setM, binL, binI, shI, binS, unL, cst, cst1, cells1, reduceIte, Nat.reduceAdd, Nat.reduceMul, Nat.reduceEqDiff, bound, refsC, AV.cells, AV.ref1, flatC, oneC, elems, okLog, disj, befOf, Int.reduceLT, Int.reduceLE, Int.reduceToNat, Int.reducePow, Nat.reduceLeDiff, IntKind.bits, argT, Int.reduceMul, Int.reduceAdd, Int.reduceNeg, Int.reduceSub, Int.reduceEq, Nat.reduceLT, Row.get1, Row.getN, Row.set1, Row.setN, fillE, hi, t1, t2, t3, Nat.sub_self, List.replicate_zero, List.append_nil]
      refine retC_i ((nilG 0 1000 3 rfl (by decide) (by decide)).trans (Wk.norm [(0, 0), (1, 1), (2, 2), (3, 3), (1000, 4)] (by decide) (l2 := [(2, .ptr 0 0 0), (3, .k .nilIface)]) (m2 := rws 0 1 2 3 4 i (newU i) []) (nb2 := 8) ?_ ?_)) [(0, 0), (1, 1), (2, 2), (3, 3), (4, 4)] rfl ?_ ?_
      · simp only [vS, opP, Go.Vm.step, Go.Vm.ev, delM, setM, binL, binI, shI, binS, unL, cst, cst1, cells1, reduceIte, Nat.reduceAdd, Nat.reduceMul, Nat.reduceEqDiff, bound, refsC, AV.cells, AV.ref1, flatC, oneC, elems, okLog, disj, befOf, Int.reduceLT, Int.reduceLE, Int.reduceToNat, Int.reducePow, Nat.reduceLeDiff, IntKind.bits, argT, Int.reduceMul, Int.reduceAdd, Int.reduceNeg, Int.reduceSub, Int.reduceEq, Nat.reduceLT, Row.get1, Row.getN, Row.set1, Row.setN, fillE, vW, renM, frM, subRow, Nat.reduceBNe, frs, frOk, frOut]
      · simp only [vS, opP, Go.Vm.step, Go.Vm.ev, delM, setM, binL, binI, shI, binS, unL, cst, cst1, cells1, reduceIte, Nat.reduceAdd, Nat.reduceMul, Nat.reduceEqDiff, bound, refsC, AV.cells, AV.ref1, flatC, oneC, elems, okLog, disj, befOf, Int.reduceLT, Int.reduceLE, Int.reduceToNat, Int.reducePow, Nat.reduceLeDiff, IntKind.bits, argT, Int.reduceMul, Int.reduceAdd, Int.reduceNeg, Int.reduceSub, Int.reduceEq, Nat.reduceLT, Row.get1, Row.getN, Row.set1, Row.setN, fillE, vW, renM, frM, subRow, Nat.reduceBNe, frs, frOk, frOut, rws, subLL_row, subLL_nE]
        rfl
      · simp only [vS, opP, Go.Vm.step, Go.Vm.ev, delM, setM, binL, binI, shI, binS, unL, cst, cst1, cells1, reduceIte, Nat.reduceAdd, Nat.reduceMul, Nat.reduceEqDiff, bound, refsC, AV.cells, AV.ref1, flatC, oneC, elems, okLog, disj, befOf, Int.reduceLT, Int.reduceLE, Int.reduceToNat, Int.reducePow, Nat.reduceLeDiff, IntKind.bits, argT, Int.reduceMul, Int.reduceAdd, Int.reduceNeg, Int.reduceSub, Int.reduceEq, Nat.reduceLT, Row.get1, Row.getN, Row.set1, Row.setN, fillE, vW, renM, frM, subRow, Nat.reduceBNe, frs, frOk, frOut, back, List.nil_append]
      · exact (eff_new).symm
  · simp only [vS, opP, Go.Vm.step, Go.Vm.ev, delM, setM, binL, binI, shI, binS, unL, cst, cst1, cells1, reduceIte, Nat.reduceAdd, Nat.reduceMul, Nat.reduceEqDiff, bound, refsC, AV.cells, AV.ref1, flatC, oneC, elems, okLog, disj, befOf, Int.reduceLT, Int.reduceLE, Int.reduceToNat, Int.reducePow, Nat.reduceLeDiff, IntKind.bits, argT, Int.reduceMul, Int.reduceAdd, Int.reduceNeg, Int.reduceSub, Int.reduceEq, Nat.reduceLT, Row.get1, Row.getN, Row.set1, Row.setN, fillE, vW, renM, frM, subRow, Nat.reduceBNe, frs, frOk, frOut]
  · simp only [vS, opP, Go.Vm.step, Go.Vm.ev, delM, setM, binL, binI, shI, binS, unL, cst, cst1, cells1, reduceIte, Nat.reduceAdd, Nat.reduceMul, Nat.reduceEqDiff, bound, refsC, AV.cells, AV.ref1, flatC, oneC, elems, okLog, disj, befOf, Int.reduceLT, Int.reduceLE, Int.reduceToNat, Int.reducePow, Nat.reduceLeDiff, IntKind.bits, argT, Int.reduceMul, Int.reduceAdd, Int.reduceNeg, Int.reduceSub, Int.reduceEq, Nat.reduceLT, Row.get1, Row.getN, Row.set1, Row.setN, fillE, vW, renM, frM, subRow, Nat.reduceBNe, frs, frOk, frOut, subLL_row, List.take_zero, Nat.sub_zero]
    rfl
end
end Go.Proofs.Ytkjmlfbafmdegaa
