/- Package slices at bytes, and package wire: what each call gives. -/
import Derived.Test.YtopjkgappjgjnaaDoorCmdNum
import Derived.Test.YtopjkgappjgjnaaDoorVmZe
namespace Go.Proofs.YtopjkgappjgjnaaDoor
open Go Go.Vm
set_option linter.unusedSectionVars false
set_option linter.unusedSimpArgs false
/-! ### slices.Clone[[]byte,byte] -/
def k_slices_Clone_byte_byte : Nat → Bool × List Nat := fun | 0 => (false, [0]) | 1 => (false, [0, 4]) | 2 => (false, [2]) | 3 => (false, [2]) | _ => (false, [])
def lc_slices_Clone_byte_byte : LCode := (.seq (.rgn false false [] [0] [⟨(some 2), (.mov (.const (.slice none 0 0))), none⟩]) (.seq (.seq (.rgn false false [] [0, 4] [⟨(some 3), (.mov (.tmp 0)), none⟩, ⟨(some 4), (.eqs false (.tmp 3)), none⟩]) (.cond (.tmp 4) (.seq (.rgn false false [] [2] [⟨(some 2), (.mov (.const (.slice none 0 0))), none⟩]) .ret) .skip)) (.seq (.rgn false false [] [2] [⟨(some 5), (.slit 1 [(.int .u8 0)] 0 []), none⟩, ⟨(some 6), (.mov (.tmp 0)), none⟩, ⟨(some 7), (.app 1 1 (.tmp 5) (.tmp 6)), none⟩, ⟨(some 2), (.mov (.tmp 7)), none⟩]) .ret)))
theorem comp_slices_Clone_byte_byte : compC Tryd.prog Tryd.f26.ntmps k_slices_Clone_byte_byte (Tryd.f26.body.getD .skip) = some lc_slices_Clone_byte_byte := by kernel_rfl
theorem body_slices_Clone_byte_byte : Tryd.f26.body = some (Tryd.f26.body.getD .skip) := by kernel_rfl
theorem pure_slices_Clone_byte_byte {args : List AV} {M : Mem} {slot : Nat} {v : AV} (hl : args.length ≤ Tryd.f26.ntmps) (h : run Tryd.prog Tryd.f26.ntmps 0 lc_slices_Clone_byte_byte (retP [2] v) (lkT (argT (ren (lkσ [])) 0 args)) (lkM []) 0) : CallOk Tryd.prog 26 args M slot { v } :=
  callOk_pure mix Tryd.func26 body_slices_Clone_byte_byte (by kernel_rfl) (by kernel_rfl) comp_slices_Clone_byte_byte hl (run_imp _ (fun _ _ _ _ h => retP_W h) _ _ _ h)
theorem purew_slices_Clone_byte_byte {args : List AV} {M : Mem} {slot : Nat} {v : AV} (hl : args.length ≤ Tryd.f26.ntmps) (h : run Tryd.prog Tryd.f26.ntmps 0 lc_slices_Clone_byte_byte (retW Tryd.f26.ntmps [2] v) (lkT (argT (ren (lkσ [])) 0 args)) (lkM []) 0) : CallOk Tryd.prog 26 args M slot { v } :=
  callOk_pure mix Tryd.func26 body_slices_Clone_byte_byte (by kernel_rfl) (by kernel_rfl) comp_slices_Clone_byte_byte hl h
theorem full_slices_Clone_byte_byte {args : List AV} {M : Mem} {slot : Nat} {out : Out} {σ : List (Nat × Nat)} {k : Nat} (hl : args.length ≤ Tryd.f26.ntmps) (hσ1 : (σ.map (·.1)).Nodup) (hσ2 : σ.map (·.2) = List.range k) (hrd : ∀ x ∈ σ, x.1 ∈ out.rd) (hM : ∀ x ∈ σ, (M x.1).isSome = true) (h : run Tryd.prog Tryd.f26.ntmps k lc_slices_Clone_byte_byte (retC Tryd.f26.ntmps k σ slot [2] out) (lkT (argT (ren (lkσ σ)) 0 args)) (lkM (renM M σ)) k) : CallOk Tryd.prog 26 args M slot out :=
  callOk_of_run mix Tryd.func26 body_slices_Clone_byte_byte (by kernel_rfl) (by kernel_rfl) comp_slices_Clone_byte_byte hl hσ1 hσ2 hrd hM h
/-! ### slices.Clip[[]byte,byte] -/
def k_slices_Clip_byte_byte : Nat → Bool × List Nat := fun | 0 => (false, [0]) | 1 => (false, [2]) | _ => (false, [])
def lc_slices_Clip_byte_byte : LCode := (.seq (.rgn false false [] [0] [⟨(some 2), (.mov (.const (.slice none 0 0))), none⟩]) (.seq (.rgn false false [] [2] [⟨(some 3), (.mov (.tmp 0)), none⟩, ⟨(some 4), (.mov (.tmp 0)), none⟩, ⟨(some 5), (.lenL (.tmp 4)), none⟩, ⟨(some 6), (.mov (.tmp 0)), none⟩, ⟨(some 7), (.lenL (.tmp 6)), none⟩, ⟨(some 8), (.slc3 1 (.tmp 3) none (.tmp 5) (.tmp 7)), none⟩, ⟨(some 2), (.mov (.tmp 8)), none⟩]) .ret))
theorem comp_slices_Clip_byte_byte : compC Tryd.prog Tryd.f31.ntmps k_slices_Clip_byte_byte (Tryd.f31.body.getD .skip) = some lc_slices_Clip_byte_byte := by kernel_rfl
theorem body_slices_Clip_byte_byte : Tryd.f31.body = some (Tryd.f31.body.getD .skip) := by kernel_rfl
theorem pure_slices_Clip_byte_byte {args : List AV} {M : Mem} {slot : Nat} {v : AV} (hl : args.length ≤ Tryd.f31.ntmps) (h : run Tryd.prog Tryd.f31.ntmps 0 lc_slices_Clip_byte_byte (retP [2] v) (lkT (argT (ren (lkσ [])) 0 args)) (lkM []) 0) : CallOk Tryd.prog 31 args M slot { v } :=
  callOk_pure mix Tryd.func31 body_slices_Clip_byte_byte (by kernel_rfl) (by kernel_rfl) comp_slices_Clip_byte_byte hl (run_imp _ (fun _ _ _ _ h => retP_W h) _ _ _ h)
theorem full_slices_Clip_byte_byte {args : List AV} {M : Mem} {slot : Nat} {out : Out} {σ : List (Nat × Nat)} {k : Nat} (hl : args.length ≤ Tryd.f31.ntmps) (hσ1 : (σ.map (·.1)).Nodup) (hσ2 : σ.map (·.2) = List.range k) (hrd : ∀ x ∈ σ, x.1 ∈ out.rd) (hM : ∀ x ∈ σ, (M x.1).isSome = true) (h : run Tryd.prog Tryd.f31.ntmps k lc_slices_Clip_byte_byte (retC Tryd.f31.ntmps k σ slot [2] out) (lkT (argT (ren (lkσ σ)) 0 args)) (lkM (renM M σ)) k) : CallOk Tryd.prog 31 args M slot out :=
  callOk_of_run mix Tryd.func31 body_slices_Clip_byte_byte (by kernel_rfl) (by kernel_rfl) comp_slices_Clip_byte_byte hl hσ1 hσ2 hrd hM h
/-! ### slices.Grow[[]byte,byte] -/
def k_slices_Grow_byte_byte : Nat → Bool × List Nat := fun | 0 => (false, [0, 1]) | 1 => (false, [0, 1, 6]) | 2 => (false, [0, 1]) | 3 => (false, [0, 1]) | 4 => (false, [0, 1, 16]) | 5 => (false, [0]) | 6 => (false, [4]) | _ => (false, [])
def lc_slices_Grow_byte_byte : LCode := (.seq (.rgn false false [] [0, 1] [⟨(some 4), (.mov (.const (.slice none 0 0))), none⟩]) (.seq (.seq (.rgn false false [] [0, 1, 6] [⟨(some 5), (.mov (.tmp 1)), none⟩, ⟨(some 6), (.bin .lss (.tmp 5) (.const (.int .i64 0))), none⟩]) (.cond (.tmp 6) (.rgn false false [] [0, 1] [⟨(some 7), (.mkI 9 (.const (.string ⟨#[99, 97, 110, 110, 111, 116, 32, 98, 101, 32, 110, 101, 103, 97, 116, 105, 118, 101]⟩))), none⟩, ⟨none, .bad, none⟩]) .skip)) (.seq (.seq (.rgn false false [] [0, 1] [⟨(some 8), (.mov (.tmp 1)), none⟩, ⟨(some 9), (.mov (.tmp 0)), none⟩, ⟨(some 10), (.capL (.tmp 9)), none⟩, ⟨(some 11), (.mov (.tmp 0)), none⟩, ⟨(some 12), (.lenL (.tmp 11)), none⟩, ⟨(some 13), (.bin .sub (.tmp 10) (.tmp 12)), none⟩, ⟨(some 14), (.bin .sub (.tmp 8) (.tmp 13)), none⟩, ⟨(some 1), (.mov (.tmp 14)), none⟩]) (.seq (.rgn false false [] [0, 1, 16] [⟨(some 15), (.mov (.tmp 1)), none⟩, ⟨(some 16), (.bin .gtr (.tmp 15) (.const (.int .i64 0))), none⟩]) (.cond (.tmp 16) (.rgn false false [] [0] [⟨(some 17), (.mov (.tmp 0)), none⟩, ⟨(some 18), (.mov (.tmp 0)), none⟩, ⟨(some 19), (.capL (.tmp 18)), none⟩, ⟨(some 20), (.slc 1 (.tmp 17) none (some (.tmp 19))), none⟩, ⟨(some 21), (.mov (.tmp 1)), none⟩, ⟨(some 22), (.appN 1 1 [(.int .u8 0)] (.tmp 20) (.tmp 21)), none⟩, ⟨(some 23), (.mov (.tmp 0)), none⟩, ⟨(some 24), (.lenL (.tmp 23)), none⟩, ⟨(some 25), (.slc 1 (.tmp 22) none (some (.tmp 24))), none⟩, ⟨(some 0), (.mov (.tmp 25)), none⟩]) .skip))) (.seq (.rgn false false [] [4] [⟨(some 26), (.mov (.tmp 0)), none⟩, ⟨(some 4), (.mov (.tmp 26)), none⟩]) .ret))))
theorem comp_slices_Grow_byte_byte : compC Tryd.prog Tryd.f32.ntmps k_slices_Grow_byte_byte (Tryd.f32.body.getD .skip) = some lc_slices_Grow_byte_byte := by kernel_rfl
theorem body_slices_Grow_byte_byte : Tryd.f32.body = some (Tryd.f32.body.getD .skip) := by kernel_rfl
theorem pure_slices_Grow_byte_byte {args : List AV} {M : Mem} {slot : Nat} {v : AV} (hl : args.length ≤ Tryd.f32.ntmps) (h : run Tryd.prog Tryd.f32.ntmps 0 lc_slices_Grow_byte_byte (retP [4] v) (lkT (argT (ren (lkσ [])) 0 args)) (lkM []) 0) : CallOk Tryd.prog 32 args M slot { v } :=
  callOk_pure mix Tryd.func32 body_slices_Grow_byte_byte (by kernel_rfl) (by kernel_rfl) comp_slices_Grow_byte_byte hl (run_imp _ (fun _ _ _ _ h => retP_W h) _ _ _ h)
theorem full_slices_Grow_byte_byte {args : List AV} {M : Mem} {slot : Nat} {out : Out} {σ : List (Nat × Nat)} {k : Nat} (hl : args.length ≤ Tryd.f32.ntmps) (hσ1 : (σ.map (·.1)).Nodup) (hσ2 : σ.map (·.2) = List.range k) (hrd : ∀ x ∈ σ, x.1 ∈ out.rd) (hM : ∀ x ∈ σ, (M x.1).isSome = true) (h : run Tryd.prog Tryd.f32.ntmps k lc_slices_Grow_byte_byte (retC Tryd.f32.ntmps k σ slot [4] out) (lkT (argT (ren (lkσ σ)) 0 args)) (lkM (renM M σ)) k) : CallOk Tryd.prog 32 args M slot out :=
  callOk_of_run mix Tryd.func32 body_slices_Grow_byte_byte (by kernel_rfl) (by kernel_rfl) comp_slices_Grow_byte_byte hl hσ1 hσ2 hrd hM h
/-! ### slices.Concat[[]byte,byte] -/
def k_slices_Concat_byte_byte : Nat → Bool × List Nat := fun | 0 => (false, [0]) | 1 => (false, [0, 3]) | 2 => (false, [0, 3, 9, 10, 11]) | 3 => (false, [0, 3, 9, 10, 11, 12]) | 4 => (false, [0, 3, 5, 9, 10, 11]) | 5 => (false, [0, 3, 9, 10, 11]) | 6 => (false, [0, 3, 9, 10, 11, 20]) | 7 => (false, [0, 3, 9, 10, 11]) | 8 => (false, [0, 3, 9, 10, 11]) | 9 => (false, [0, 6]) | 10 => (false, [6, 25, 26, 27]) | 11 => (false, [6, 25, 26, 27, 28]) | 12 => (false, [6, 8, 25, 26, 27]) | 13 => (false, [6, 25, 26, 27]) | 14 => (false, [6, 25, 26, 27]) | 15 => (true, [2]) | _ => (false, [])
def lc_slices_Concat_byte_byte : LCode := (.seq (.rgn false false [] [0] [⟨(some 2), (.mov (.const (.slice none 0 0))), none⟩]) (.seq (.rgn false false [] [0, 3] [⟨(some 3), (.mov (.const (.int .i64 0))), none⟩]) (.seq (.seq (.rgn false false [] [0, 3, 9, 10, 11] [⟨(some 9), (.mov (.tmp 0)), none⟩, ⟨(some 10), (.lenL (.tmp 9)), none⟩, ⟨(some 11), (.mov (.const (.int .i64 0))), none⟩]) (.block 0 (.loop (.seq (.rgn false false [] [0, 3, 9, 10, 11, 12] [⟨(some 12), (.bin .lss (.tmp 11) (.tmp 10)), none⟩]) (.seq (.cond (.tmp 12) .skip (.exit 0)) (.seq (.block 1 (.seq (.rgn false false [] [0, 3, 5, 9, 10, 11] [⟨(some 13), (.idxA 1 (.tmp 9) (.tmp 11)), none⟩, ⟨(some 14), (.load 1 false (.tmp 13)), none⟩, ⟨(some 5), (.mov (.tmp 14)), none⟩]) (.seq (.rgn false false [] [0, 3, 9, 10, 11] [⟨(some 15), (.mov (.tmp 3)), none⟩, ⟨(some 16), (.mov (.tmp 5)), none⟩, ⟨(some 17), (.lenL (.tmp 16)), none⟩, ⟨(some 18), (.bin .add (.tmp 15) (.tmp 17)), none⟩, ⟨(some 3), (.mov (.tmp 18)), none⟩]) (.seq (.rgn false false [] [0, 3, 9, 10, 11, 20] [⟨(some 19), (.mov (.tmp 3)), none⟩, ⟨(some 20), (.bin .lss (.tmp 19) (.const (.int .i64 0))), none⟩]) (.cond (.tmp 20) (.rgn false false [] [0, 3, 9, 10, 11] [⟨(some 21), (.mkI 9 (.const (.string ⟨#[108, 101, 110, 32, 111, 117, 116, 32, 111, 102, 32, 114, 97, 110, 103, 101]⟩))), none⟩, ⟨none, .bad, none⟩]) .skip))))) (.rgn false false [] [0, 3, 9, 10, 11] [⟨(some 22), (.bin .add (.tmp 11) (.const (.int .i64 1))), none⟩, ⟨(some 11), (.mov (.tmp 22)), none⟩]))))))) (.seq (.rgn false false [] [0, 6] [⟨(some 23), (.mov (.tmp 3)), none⟩, ⟨(some 24), (.call 32 [(.const (.slice none 0 0)), (.tmp 23)]), none⟩, ⟨(some 6), (.mov (.tmp 24)), none⟩]) (.seq (.seq (.rgn false false [] [6, 25, 26, 27] [⟨(some 25), (.mov (.tmp 0)), none⟩, ⟨(some 26), (.lenL (.tmp 25)), none⟩, ⟨(some 27), (.mov (.const (.int .i64 0))), none⟩]) (.block 2 (.loop (.seq (.rgn false false [] [6, 25, 26, 27, 28] [⟨(some 28), (.bin .lss (.tmp 27) (.tmp 26)), none⟩]) (.seq (.cond (.tmp 28) .skip (.exit 2)) (.seq (.block 3 (.seq (.rgn false false [] [6, 8, 25, 26, 27] [⟨(some 29), (.idxA 1 (.tmp 25) (.tmp 27)), none⟩, ⟨(some 30), (.load 1 false (.tmp 29)), none⟩, ⟨(some 8), (.mov (.tmp 30)), none⟩]) (.rgn false false [] [6, 25, 26, 27] [⟨(some 31), (.mov (.tmp 6)), none⟩, ⟨(some 32), (.mov (.tmp 8)), none⟩, ⟨(some 33), (.app 1 1 (.tmp 31) (.tmp 32)), none⟩, ⟨(some 6), (.mov (.tmp 33)), none⟩]))) (.rgn false false [] [6, 25, 26, 27] [⟨(some 34), (.bin .add (.tmp 27) (.const (.int .i64 1))), none⟩, ⟨(some 27), (.mov (.tmp 34)), none⟩]))))))) (.seq (.rgn true false [] [2] [⟨(some 35), (.mov (.tmp 6)), none⟩, ⟨(some 2), (.mov (.tmp 35)), none⟩]) .ret))))))
theorem comp_slices_Concat_byte_byte : compC Tryd.prog Tryd.f20.ntmps k_slices_Concat_byte_byte (Tryd.f20.body.getD .skip) = some lc_slices_Concat_byte_byte := by kernel_rfl
theorem body_slices_Concat_byte_byte : Tryd.f20.body = some (Tryd.f20.body.getD .skip) := by kernel_rfl
theorem pure_slices_Concat_byte_byte {args : List AV} {M : Mem} {slot : Nat} {v : AV} (hl : args.length ≤ Tryd.f20.ntmps) (h : run Tryd.prog Tryd.f20.ntmps 0 lc_slices_Concat_byte_byte (retP [2] v) (lkT (argT (ren (lkσ [])) 0 args)) (lkM []) 0) : CallOk Tryd.prog 20 args M slot { v } :=
  callOk_pure mix Tryd.func20 body_slices_Concat_byte_byte (by kernel_rfl) (by kernel_rfl) comp_slices_Concat_byte_byte hl (run_imp _ (fun _ _ _ _ h => retP_W h) _ _ _ h)
/-! ### plait/wire.number -/
def k_wire_number : Nat → Bool × List Nat := fun | 0 => (false, [0]) | 1 => (false, [0, 3]) | 2 => (false, [3, 6, 7, 8]) | 3 => (false, [3, 6, 7, 8, 9]) | 4 => (false, [3, 5, 6, 7, 8]) | 5 => (false, [3, 6, 7, 8]) | 6 => (false, [3, 6, 7, 8]) | 7 => (false, [2]) | _ => (false, [])
def lc_wire_number : LCode := (.seq (.rgn false false [] [0] [⟨(some 2), (.mov (.const (.int .u64 0))), none⟩]) (.seq (.rgn false false [] [0, 3] [⟨(some 3), (.mov (.const (.int .u64 0))), none⟩]) (.seq (.seq (.rgn false false [] [3, 6, 7, 8] [⟨(some 6), (.mov (.tmp 0)), none⟩, ⟨(some 7), (.lenL (.tmp 6)), none⟩, ⟨(some 8), (.mov (.const (.int .i64 0))), none⟩]) (.block 0 (.loop (.seq (.rgn false false [] [3, 6, 7, 8, 9] [⟨(some 9), (.bin .lss (.tmp 8) (.tmp 7)), none⟩]) (.seq (.cond (.tmp 9) .skip (.exit 0)) (.seq (.block 1 (.seq (.rgn false false [] [3, 5, 6, 7, 8] [⟨(some 10), (.idxA 1 (.tmp 6) (.tmp 8)), none⟩, ⟨(some 11), (.load 1 false (.tmp 10)), none⟩, ⟨(some 5), (.mov (.tmp 11)), none⟩]) (.rgn false false [] [3, 6, 7, 8] [⟨(some 12), (.mov (.tmp 3)), none⟩, ⟨(some 13), (.bin .shl (.tmp 12) (.const (.int .u64 8))), none⟩, ⟨(some 14), (.mov (.tmp 5)), none⟩, ⟨(some 15), (.convI .u64 (.tmp 14)), none⟩, ⟨(some 16), (.bin .or (.tmp 13) (.tmp 15)), none⟩, ⟨(some 3), (.mov (.tmp 16)), none⟩]))) (.rgn false false [] [3, 6, 7, 8] [⟨(some 17), (.bin .add (.tmp 8) (.const (.int .i64 1))), none⟩, ⟨(some 8), (.mov (.tmp 17)), none⟩]))))))) (.seq (.rgn false false [] [2] [⟨(some 18), (.mov (.tmp 3)), none⟩, ⟨(some 2), (.mov (.tmp 18)), none⟩]) .ret))))
theorem comp_wire_number : compC Tryd.prog Tryd.f42.ntmps k_wire_number (Tryd.f42.body.getD .skip) = some lc_wire_number := by kernel_rfl
theorem body_wire_number : Tryd.f42.body = some (Tryd.f42.body.getD .skip) := by kernel_rfl
theorem pure_wire_number {args : List AV} {M : Mem} {slot : Nat} {v : AV} (hl : args.length ≤ Tryd.f42.ntmps) (h : run Tryd.prog Tryd.f42.ntmps 0 lc_wire_number (retP [2] v) (lkT (argT (ren (lkσ [])) 0 args)) (lkM []) 0) : CallOk Tryd.prog 42 args M slot { v } :=
  callOk_pure mix Tryd.func42 body_wire_number (by kernel_rfl) (by kernel_rfl) comp_wire_number hl (run_imp _ (fun _ _ _ _ h => retP_W h) _ _ _ h)
/-! ### plait/wire.Put -/
def k_wire_Put : Nat → Bool × List Nat := fun | 0 => (false, [0, 1, 2]) | 1 => (false, [1, 2, 7]) | 2 => (false, [1, 2, 7, 16]) | 3 => (true, [6]) | 4 => (false, [1, 7, 8]) | 5 => (false, [1, 7, 8, 21]) | 6 => (false, [1, 7, 8]) | 7 => (false, [1, 7, 8]) | 8 => (true, [6]) | _ => (false, [])
def lc_wire_Put : LCode := (.seq (.rgn false false [] [0, 1, 2] [⟨(some 6), (.mov (.const (.slice none 0 0))), none⟩]) (.seq (.rgn false false [] [1, 2, 7] [⟨(some 9), (.mov (.tmp 0)), none⟩, ⟨(some 10), (.call 26 [(.tmp 9)]), none⟩, ⟨(some 7), (.mov (.tmp 10)), none⟩]) (.seq (.seq (.rgn false false [] [1, 2, 7, 16] [⟨(some 11), (.mov (.tmp 2)), none⟩, ⟨(some 12), (.bin .lss (.tmp 11) (.const (.int .i64 1))), none⟩, ⟨(some 13), (.mov (.tmp 12)), none⟩, ⟨(some 14), (.mov (.tmp 2)), (some (13, false))⟩, ⟨(some 15), (.bin .gtr (.tmp 14) (.const (.int .i64 8))), (some (13, false))⟩, ⟨(some 16), (.pick (.tmp 13) (.const (.bool true)) (.tmp 15)), none⟩]) (.cond (.tmp 16) (.seq (.rgn true false [] [6] [⟨(some 17), (.mov (.tmp 7)), none⟩, ⟨(some 6), (.mov (.tmp 17)), none⟩]) .ret) .skip)) (.seq (.seq (.rgn false false [] [1, 7, 8] [⟨(some 18), (.mov (.tmp 2)), none⟩, ⟨(some 19), (.bin .sub (.tmp 18) (.const (.int .i64 1))), none⟩, ⟨(some 8), (.mov (.tmp 19)), none⟩]) (.block 0 (.loop (.seq (.seq (.rgn false false [] [1, 7, 8, 21] [⟨(some 20), (.mov (.tmp 8)), none⟩, ⟨(some 21), (.bin .geq (.tmp 20) (.const (.int .i64 0))), none⟩]) (.cond (.tmp 21) .skip (.exit 0))) (.seq (.block 1 (.rgn false false [] [1, 7, 8] [⟨(some 24), (.mov (.tmp 7)), none⟩, ⟨(some 25), (.mov (.tmp 1)), none⟩, ⟨(some 26), (.mov (.tmp 8)), none⟩, ⟨(some 27), (.bin .mul (.const (.int .i64 8)) (.tmp 26)), none⟩, ⟨(some 28), (.bin .shr (.tmp 25) (.tmp 27)), none⟩, ⟨(some 29), (.convI .u8 (.tmp 28)), none⟩, ⟨(some 30), (.slit 1 [(.int .u8 0)] 1 [(0, (.tmp 29))]), none⟩, ⟨(some 31), (.app 1 1 (.tmp 24) (.tmp 30)), none⟩, ⟨(some 7), (.mov (.tmp 31)), none⟩])) (.rgn false false [] [1, 7, 8] [⟨(some 22), (.mov (.tmp 8)), none⟩, ⟨(some 23), (.bin .sub (.tmp 22) (.const (.int .i64 1))), none⟩, ⟨(some 8), (.mov (.tmp 23)), none⟩])))))) (.seq (.rgn true false [] [6] [⟨(some 32), (.mov (.tmp 7)), none⟩, ⟨(some 33), (.call 31 [(.tmp 32)]), none⟩, ⟨(some 6), (.mov (.tmp 33)), none⟩]) .ret)))))
theorem comp_wire_Put : compC Tryd.prog Tryd.f19.ntmps k_wire_Put (Tryd.f19.body.getD .skip) = some lc_wire_Put := by kernel_rfl
theorem body_wire_Put : Tryd.f19.body = some (Tryd.f19.body.getD .skip) := by kernel_rfl
theorem pure_wire_Put {args : List AV} {M : Mem} {slot : Nat} {v : AV} (hl : args.length ≤ Tryd.f19.ntmps) (h : run Tryd.prog Tryd.f19.ntmps 0 lc_wire_Put (retP [6] v) (lkT (argT (ren (lkσ [])) 0 args)) (lkM []) 0) : CallOk Tryd.prog 19 args M slot { v } :=
  callOk_pure mix Tryd.func19 body_wire_Put (by kernel_rfl) (by kernel_rfl) comp_wire_Put hl (run_imp _ (fun _ _ _ _ h => retP_W h) _ _ _ h)
theorem full_wire_Put {args : List AV} {M : Mem} {slot : Nat} {out : Out} {σ : List (Nat × Nat)} {k : Nat} (hl : args.length ≤ Tryd.f19.ntmps) (hσ1 : (σ.map (·.1)).Nodup) (hσ2 : σ.map (·.2) = List.range k) (hrd : ∀ x ∈ σ, x.1 ∈ out.rd) (hM : ∀ x ∈ σ, (M x.1).isSome = true) (h : run Tryd.prog Tryd.f19.ntmps k lc_wire_Put (retC Tryd.f19.ntmps k σ slot [6] out) (lkT (argT (ren (lkσ σ)) 0 args)) (lkM (renM M σ)) k) : CallOk Tryd.prog 19 args M slot out :=
  callOk_of_run mix Tryd.func19 body_wire_Put (by kernel_rfl) (by kernel_rfl) comp_wire_Put hl hσ1 hσ2 hrd hM h
/-! ### plait/wire.Take -/
def k_wire_Take : Nat → Bool × List Nat := fun | 0 => (false, [0, 1]) | 1 => (false, [0, 1, 7]) | 2 => (false, [4, 5, 6]) | 3 => (false, [0, 1, 15]) | 4 => (false, [4, 5, 6]) | 5 => (false, [4, 5, 6]) | _ => (false, [])
def lc_wire_Take : LCode := (.seq (.rgn false false [] [0, 1] [⟨(some 4), (.mov (.const (.int .u64 0))), none⟩, ⟨(some 5), (.mov (.const (.slice none 0 0))), none⟩, ⟨(some 6), (.mov (.const .nilIface)), none⟩]) (.seq (.block 0 (.seq (.rgn false false [] [0, 1, 7] [⟨(some 8), (.mov (.tmp 1)), none⟩, ⟨(some 9), (.bin .lss (.tmp 8) (.const (.int .i64 1))), none⟩, ⟨(some 10), (.mov (.tmp 9)), none⟩, ⟨(some 11), (.mov (.tmp 1)), (some (10, false))⟩, ⟨(some 12), (.bin .gtr (.tmp 11) (.const (.int .i64 8))), (some (10, false))⟩, ⟨(some 13), (.pick (.tmp 10) (.const (.bool true)) (.tmp 12)), none⟩, ⟨(some 7), (.mov (.tmp 13)), none⟩]) (.cond (.tmp 7) (.seq (.rgn false false [] [4, 5, 6] [⟨(some 14), (.mkI 63 (.const (.int .i64 1))), none⟩, ⟨(some 4), (.mov (.const (.int .u64 0))), none⟩, ⟨(some 5), (.mov (.const (.slice none 0 0))), none⟩, ⟨(some 6), (.mov (.tmp 14)), none⟩]) .ret) (.seq (.rgn false false [] [0, 1, 15] [⟨(some 16), (.mov (.tmp 0)), none⟩, ⟨(some 17), (.lenL (.tmp 16)), none⟩, ⟨(some 18), (.mov (.tmp 1)), none⟩, ⟨(some 19), (.bin .lss (.tmp 17) (.tmp 18)), none⟩, ⟨(some 15), (.mov (.tmp 19)), none⟩]) (.cond (.tmp 15) (.seq (.rgn false false [] [4, 5, 6] [⟨(some 20), (.mkI 63 (.const (.int .i64 4))), none⟩, ⟨(some 4), (.mov (.const (.int .u64 0))), none⟩, ⟨(some 5), (.mov (.const (.slice none 0 0))), none⟩, ⟨(some 6), (.mov (.tmp 20)), none⟩]) .ret) .skip))))) (.seq (.rgn false true [0, 0, 3, 7, 0, 0, 48, 127, 255, 511, 1023] [4, 5, 6] [⟨(some 21), (.mov (.tmp 0)), none⟩, ⟨(some 22), (.mov (.tmp 1)), none⟩, ⟨(some 23), (.slc 1 (.tmp 21) none (some (.tmp 22))), none⟩, ⟨(some 24), (.call 42 [(.tmp 23)]), none⟩, ⟨(some 25), (.mov (.tmp 0)), none⟩, ⟨(some 26), (.mov (.tmp 1)), none⟩, ⟨(some 27), (.slc 1 (.tmp 25) (some (.tmp 26)) none), none⟩, ⟨(some 28), (.call 26 [(.tmp 27)]), none⟩, ⟨(some 4), (.mov (.tmp 24)), none⟩, ⟨(some 5), (.mov (.tmp 28)), none⟩, ⟨(some 6), (.mov (.const .nilIface)), none⟩]) .ret)))
theorem comp_wire_Take : compC Tryd.prog Tryd.f37.ntmps k_wire_Take (Tryd.f37.body.getD .skip) = some lc_wire_Take := by kernel_rfl
theorem body_wire_Take : Tryd.f37.body = some (Tryd.f37.body.getD .skip) := by kernel_rfl
theorem pure_wire_Take {args : List AV} {M : Mem} {slot : Nat} {v : AV} (hl : args.length ≤ Tryd.f37.ntmps) (h : run Tryd.prog Tryd.f37.ntmps 0 lc_wire_Take (retP [4, 5, 6] v) (lkT (argT (ren (lkσ [])) 0 args)) (lkM []) 0) : CallOk Tryd.prog 37 args M slot { v } :=
  callOk_pure mix Tryd.func37 body_wire_Take (by kernel_rfl) (by kernel_rfl) comp_wire_Take hl (run_imp _ (fun _ _ _ _ h => retP_W h) _ _ _ h)
/-! ### plait/wire.Signed -/
def k_wire_Signed : Nat → Bool × List Nat := fun | 0 => (false, [0]) | 1 => (false, [2]) | _ => (false, [])
def lc_wire_Signed : LCode := (.seq (.rgn false false [] [0] [⟨(some 2), (.mov (.const (.int .i32 0))), none⟩]) (.seq (.rgn false false [] [2] [⟨(some 3), (.mov (.tmp 0)), none⟩, ⟨(some 4), (.convI .u32 (.tmp 3)), none⟩, ⟨(some 5), (.convI .i32 (.tmp 4)), none⟩, ⟨(some 2), (.mov (.tmp 5)), none⟩]) .ret))
theorem comp_wire_Signed : compC Tryd.prog Tryd.f28.ntmps k_wire_Signed (Tryd.f28.body.getD .skip) = some lc_wire_Signed := by kernel_rfl
theorem body_wire_Signed : Tryd.f28.body = some (Tryd.f28.body.getD .skip) := by kernel_rfl
theorem pure_wire_Signed {args : List AV} {M : Mem} {slot : Nat} {v : AV} (hl : args.length ≤ Tryd.f28.ntmps) (h : run Tryd.prog Tryd.f28.ntmps 0 lc_wire_Signed (retP [2] v) (lkT (argT (ren (lkσ [])) 0 args)) (lkM []) 0) : CallOk Tryd.prog 28 args M slot { v } :=
  callOk_pure mix Tryd.func28 body_wire_Signed (by kernel_rfl) (by kernel_rfl) comp_wire_Signed hl (run_imp _ (fun _ _ _ _ h => retP_W h) _ _ _ h)
/-- Bytes that are only read. -/
abbrev bI (ns : List Int) : AV := .deep 1 (enc (.i .u8) ns)
section
variable {M : Mem} {slot : Nat}
theorem Clip_ok {ns : List Int} : CallOk Tryd.prog 31 [bI ns] M slot { v := bI ns } := by
  refine pure_slices_Clip_byte_byte (Nat.le_of_ble_eq_true (by kernel_rfl)) ?_; unfold lc_slices_Clip_byte_byte
  have e : ns.take ns.length = ns := List.take_length
  simp only [vS, opP, Go.Vm.step, Go.Vm.ev, delM, setM, binL, binI, shI, binS, unL, cst, cst1, cells1, reduceIte, Nat.reduceAdd, Nat.reduceMul, Nat.reduceEqDiff, bound, refsC, AV.cells, AV.ref1, flatC, oneC, elems, okLog, disj, befOf, Int.reduceLT, Int.reduceLE, Int.reduceToNat, Int.reducePow, Nat.reduceLeDiff, IntKind.bits, argT, Int.reduceMul, Int.reduceAdd, Int.reduceNeg, Int.reduceSub, Int.reduceEq, Nat.reduceLT, Row.get1, Row.getN, Row.set1, Row.setN, fillE, Int.natCast_nonneg, e]
theorem Clone_bytes {ns : List Int} (hn : ns.length ≤ 140737488351232) : CallOk Tryd.prog 26 [bI ns] M slot { v := bI ns } := by
  cases ns with
  | nil =>
    refine callOk_nil (sz := 1) fun A c => ?_
    refine purew_slices_Clone_byte_byte (Nat.le_of_ble_eq_true (by kernel_rfl)) ?_; unfold lc_slices_Clone_byte_byte
    cases A with
    | none =>
      simp only [vS, opP, Go.Vm.step, Go.Vm.ev, delM, setM, binL, binI, shI, binS, unL, cst, cst1, cells1, reduceIte, Nat.reduceAdd, Nat.reduceMul, Nat.reduceEqDiff, bound, refsC, AV.cells, AV.ref1, flatC, oneC, elems, okLog, disj, befOf, Int.reduceLT, Int.reduceLE, Int.reduceToNat, Int.reducePow, Nat.reduceLeDiff, IntKind.bits, argT, Int.reduceMul, Int.reduceAdd, Int.reduceNeg, Int.reduceSub, Int.reduceEq, Nat.reduceLT, Row.get1, Row.getN, Row.set1, Row.setN, fillE]
      exact retW_i (Wk.nilD 2 1 rfl) rfl
    | some A =>
      simp only [vS, opP, Go.Vm.step, Go.Vm.ev, delM, setM, binL, binI, shI, binS, unL, cst, cst1, cells1, reduceIte, Nat.reduceAdd, Nat.reduceMul, Nat.reduceEqDiff, bound, refsC, AV.cells, AV.ref1, flatC, oneC, elems, okLog, disj, befOf, Int.reduceLT, Int.reduceLE, Int.reduceToNat, Int.reducePow, Nat.reduceLeDiff, IntKind.bits, argT, Int.reduceMul, Int.reduceAdd, Int.reduceNeg, Int.reduceSub, Int.reduceEq, Nat.reduceLT, Row.get1, Row.getN, Row.set1, Row.setN, fillE]
      refine retW_i (Wk.fr 40 (l2 := [(2, .deep 1 [])]) (m2 := []) (nb2 := 0) rfl ?_ ?_) ?_
      · simp only [vS, opP, Go.Vm.step, Go.Vm.ev, delM, setM, binL, binI, shI, binS, unL, cst, cst1, cells1, reduceIte, Nat.reduceAdd, Nat.reduceMul, Nat.reduceEqDiff, bound, refsC, AV.cells, AV.ref1, flatC, oneC, elems, okLog, disj, befOf, Int.reduceLT, Int.reduceLE, Int.reduceToNat, Int.reducePow, Nat.reduceLeDiff, IntKind.bits, argT, Int.reduceMul, Int.reduceAdd, Int.reduceNeg, Int.reduceSub, Int.reduceEq, Nat.reduceLT, Row.get1, Row.getN, Row.set1, Row.setN, fillE, vW, renM, frM, subRow, Nat.reduceBNe, frs, frOk, frOut, List.length_nil, List.drop_nil]
      · simp only [vS, opP, Go.Vm.step, Go.Vm.ev, delM, setM, binL, binI, shI, binS, unL, cst, cst1, cells1, reduceIte, Nat.reduceAdd, Nat.reduceMul, Nat.reduceEqDiff, bound, refsC, AV.cells, AV.ref1, flatC, oneC, elems, okLog, disj, befOf, Int.reduceLT, Int.reduceLE, Int.reduceToNat, Int.reducePow, Nat.reduceLeDiff, IntKind.bits, argT, Int.reduceMul, Int.reduceAdd, Int.reduceNeg, Int.reduceSub, Int.reduceEq, Nat.reduceLT, Row.get1, Row.getN, Row.set1, Row.setN, fillE, vW, renM, frM, subRow, Nat.reduceBNe, frs, frOk, frOut]
      · simp only [vS, opP, Go.Vm.step, Go.Vm.ev, delM, setM, binL, binI, shI, binS, unL, cst, cst1, cells1, reduceIte, Nat.reduceAdd, Nat.reduceMul, Nat.reduceEqDiff, bound, refsC, AV.cells, AV.ref1, flatC, oneC, elems, okLog, disj, befOf, Int.reduceLT, Int.reduceLE, Int.reduceToNat, Int.reducePow, Nat.reduceLeDiff, IntKind.bits, argT, Int.reduceMul, Int.reduceAdd, Int.reduceNeg, Int.reduceSub, Int.reduceEq, Nat.reduceLT, Row.get1, Row.getN, Row.set1, Row.setN, fillE]
        rfl
  | cons x r =>
    obtain ⟨y, ys, e⟩ : ∃ y ys, enc (AV.i .u8) (x :: r) = y :: ys := ⟨_, _, rfl⟩
    have hs : ∀ s, subLL s (y :: ys) = y :: ys := fun s => by rw [← e]; exact subLL_enc (fun _ => rfl)
    have hl : ys.length + 1 = r.length + 1 := by
      have := congrArg List.length e
      rw [enc_length] at this
      simpa using this.symm
    rw [List.length_cons] at hn
    have e1 : (y :: ys).length * 1 ≤ 140737488355328 := by simp; omega
    have e2 : ys.length + 1 ≤ 140737488355328 := by omega
    have e3 : ys.length + 1 ≤ 4611686018427387904 := by omega
    have e4 : (ys.take ys.length) = ys := List.take_length
    refine purew_slices_Clone_byte_byte (Nat.le_of_ble_eq_true (by kernel_rfl)) ?_; unfold lc_slices_Clone_byte_byte
    simp only [vS, opP, Go.Vm.step, Go.Vm.ev, delM, setM, binL, binI, shI, binS, unL, cst, cst1, cells1, reduceIte, Nat.reduceAdd, Nat.reduceMul, Nat.reduceEqDiff, bound, refsC, AV.cells, AV.ref1, flatC, oneC, elems, okLog, disj, befOf, Int.reduceLT, Int.reduceLE, Int.reduceToNat, Int.reducePow, Nat.reduceLeDiff, IntKind.bits, argT, Int.reduceMul, Int.reduceAdd, Int.reduceNeg, Int.reduceSub, Int.reduceEq, Nat.reduceLT, Row.get1, Row.getN, Row.set1, Row.setN, fillE, bI, e, hs, e2, e3]
    refine retW_i (Wk.fr 40 (l2 := [(2, .deep 1 (y :: ys))]) (m2 := []) (nb2 := 0) rfl ?_ ?_) ?_
    · simp only [vS, opP, Go.Vm.step, Go.Vm.ev, delM, setM, binL, binI, shI, binS, unL, cst, cst1, cells1, reduceIte, Nat.reduceAdd, Nat.reduceMul, Nat.reduceEqDiff, bound, refsC, AV.cells, AV.ref1, flatC, oneC, elems, okLog, disj, befOf, Int.reduceLT, Int.reduceLE, Int.reduceToNat, Int.reducePow, Nat.reduceLeDiff, IntKind.bits, argT, Int.reduceMul, Int.reduceAdd, Int.reduceNeg, Int.reduceSub, Int.reduceEq, Nat.reduceLT, Row.get1, Row.getN, Row.set1, Row.setN, fillE, vW, renM, frM, subRow, Nat.reduceBNe, frs, frOk, frOut, List.length_cons, e4]
    · simp only [vS, opP, Go.Vm.step, Go.Vm.ev, delM, setM, binL, binI, shI, binS, unL, cst, cst1, cells1, reduceIte, Nat.reduceAdd, Nat.reduceMul, Nat.reduceEqDiff, bound, refsC, AV.cells, AV.ref1, flatC, oneC, elems, okLog, disj, befOf, Int.reduceLT, Int.reduceLE, Int.reduceToNat, Int.reducePow, Nat.reduceLeDiff, IntKind.bits, argT, Int.reduceMul, Int.reduceAdd, Int.reduceNeg, Int.reduceSub, Int.reduceEq, Nat.reduceLT, Row.get1, Row.getN, Row.set1, Row.setN, fillE, vW, renM, frM, subRow, Nat.reduceBNe, frs, frOk, frOut]
    · simp only [vS, opP, Go.Vm.step, Go.Vm.ev, delM, setM, binL, binI, shI, binS, unL, cst, cst1, cells1, reduceIte, Nat.reduceAdd, Nat.reduceMul, Nat.reduceEqDiff, bound, refsC, AV.cells, AV.ref1, flatC, oneC, elems, okLog, disj, befOf, Int.reduceLT, Int.reduceLE, Int.reduceToNat, Int.reducePow, Nat.reduceLeDiff, IntKind.bits, argT, Int.reduceMul, Int.reduceAdd, Int.reduceNeg, Int.reduceSub, Int.reduceEq, Nat.reduceLT, Row.get1, Row.getN, Row.set1, Row.setN, fillE, hs]
theorem num_or {a c : Int} (ha : 0 ≤ a) (ha2 : a < 72057594037927936) (hc : 0 ≤ c) (hc2 : c < 256) : Go.bits .or .u64 (IntKind.u64.wrap (a * 256)) c = a * 256 + c := by
  have hw : IntKind.u64.wrap (a * 256) = a * 256 := by
    simp [IntKind.wrap, IntKind.bits, IntKind.signed]
    omega
  rw [hw]
  obtain ⟨m, rfl⟩ := Int.eq_ofNat_of_zero_le ha
  obtain ⟨d, rfl⟩ := Int.eq_ofNat_of_zero_le hc
  have e1 : ((m : Int) * 256) = ((m * 256 : Nat) : Int) := by omega
  simp only [Go.bits]
  rw [e1, BitVec.ofInt_natCast, BitVec.ofInt_natCast, BitVec.toNat_or, BitVec.toNat_ofNat, BitVec.toNat_ofNat]
  have hb : IntKind.u64.bits = 64 := rfl
  rw [hb, Nat.mod_eq_of_lt (by omega), Nat.mod_eq_of_lt (by omega)]
  have h3 : m * 256 ||| d = m * 256 + d := by
    have := Nat.two_pow_add_eq_or_of_lt (i := 8) (b := d) (by omega) m
    rw [Nat.mul_comm] at this
    exact this.symm
  rw [h3]
  simp [IntKind.wrap, IntKind.bits, IntKind.signed]
  omega
/-- The number of bytes. -/
def numB (ns : List Int) : Int := ns.foldl (fun v c => v * 256 + c) 0
theorem numB_snoc (l : List Int) (c : Int) : numB (l ++ [c]) = numB l * 256 + c := by simp [numB]
theorem numB_bound : ∀ (k : Nat) (l : List Int), l.length ≤ k → (∀ n ∈ l, 0 ≤ n ∧ n ≤ 255) → 0 ≤ numB l ∧ numB l < 256 ^ k
  | 0, l, h, _ => by
    have : l = [] := List.eq_nil_of_length_eq_zero (by omega)
    subst this
    simp [numB]
  | k + 1, l, h, hb => by
    rcases List.eq_nil_or_concat l with rfl | ⟨l', c, rfl⟩
    · simp [numB]
      exact Int.pow_pos (by omega)
    · rw [List.concat_eq_append] at h hb ⊢
      rw [numB_snoc]
      have hc := hb c (by simp)
      have ih := numB_bound k l' (by simp at h; omega) (fun n hn => hb n (by simp [hn]))
      rw [Int.pow_succ]
      omega
theorem number_ok {ns : List Int} (hl : ns.length ≤ 8) (hb : ∀ n ∈ ns, 0 ≤ n ∧ n ≤ 255) : CallOk Tryd.prog 42 [bI ns] M slot { v := .i .u64 (numB ns) } := by
  refine pure_wire_number (Nat.le_of_ble_eq_true (by kernel_rfl)) ?_; unfold lc_wire_number
  simp only [vS, opP, Go.Vm.step, Go.Vm.ev, delM, setM, binL, binI, shI, binS, unL, cst, cst1, cells1, reduceIte, Nat.reduceAdd, Nat.reduceMul, Nat.reduceEqDiff, bound, refsC, AV.cells, AV.ref1, flatC, oneC, elems, okLog, disj, befOf, Int.reduceLT, Int.reduceLE, Int.reduceToNat, Int.reducePow, Nat.reduceLeDiff, IntKind.bits, argT, Int.reduceMul, Int.reduceAdd, Int.reduceNeg, Int.reduceSub, Int.reduceEq, Nat.reduceLT, Row.get1, Row.getN, Row.set1, Row.setN, fillE]
  refine loop_by (fun i => i ≤ ns.length) (fun i => ns.length - i)
    (fun i => [(3, .i .u64 (numB (ns.take i))), (6, bI ns), (7, .i .i64 ns.length), (8, .i .i64 i)]) (fun _ => []) 8 ?_ 0 (Nat.zero_le _) (Wk.norm [] (by decide) ?_ ?_)
  · intro i hi0
    by_cases hi : i < ns.length
    · obtain ⟨c, hc⟩ : ∃ c, ns[i]? = some c := ⟨ns[i], List.getElem?_eq_getElem hi⟩
      have hcb := hb c (List.mem_of_getElem? hc)
      have hnb := numB_bound i (ns.take i) (by simp; omega) (fun n hn => hb n (List.mem_of_mem_take hn))
      have hp : (256 : Int) ^ i ≤ 256 ^ 7 := by
        have := Nat.pow_le_pow_right (n := 256) (by omega) (show i ≤ 7 by omega)
        have e : ((256 ^ i : Nat) : Int) = 256 ^ i := by simp
        omega
      have e1 : IntKind.u64.wrap c = c := by
        simp [IntKind.wrap, IntKind.bits, IntKind.signed]
        omega
      have e2 : Go.bits .or .u64 (IntKind.u64.wrap (numB (ns.take i) * 256)) c = numB (ns.take (i + 1)) := by
        rw [num_or hnb.1 (by omega) hcb.1 (by omega), List.take_add_one, hc]
        exact (numB_snoc _ _).symm
      have e3 : IntKind.i64.wrap ((i : Int) + 1) = ((i + 1 : Nat) : Int) := by
        rw [IntKind.wrap_i64]
        omega
      simp only [vS, opP, Go.Vm.step, Go.Vm.ev, delM, setM, binL, binI, shI, binS, unL, cst, cst1, cells1, reduceIte, Nat.reduceAdd, Nat.reduceMul, Nat.reduceEqDiff, bound, refsC, AV.cells, AV.ref1, flatC, oneC, elems, okLog, disj, befOf, Int.reduceLT, Int.reduceLE, Int.reduceToNat, Int.reducePow, Nat.reduceLeDiff, IntKind.bits, argT, Int.reduceMul, Int.reduceAdd, Int.reduceNeg, Int.reduceSub, Int.reduceEq, Nat.reduceLT, Row.get1, Row.getN, Row.set1, Row.setN, fillE, hi, hc, e1, e2, e3]
      refine ⟨i + 1, hi, by omega, Wk.norm [] (by decide) ?_ ?_⟩
      · simp only [vS, opP, Go.Vm.step, Go.Vm.ev, delM, setM, binL, binI, shI, binS, unL, cst, cst1, cells1, reduceIte, Nat.reduceAdd, Nat.reduceMul, Nat.reduceEqDiff, bound, refsC, AV.cells, AV.ref1, flatC, oneC, elems, okLog, disj, befOf, Int.reduceLT, Int.reduceLE, Int.reduceToNat, Int.reducePow, Nat.reduceLeDiff, IntKind.bits, argT, Int.reduceMul, Int.reduceAdd, Int.reduceNeg, Int.reduceSub, Int.reduceEq, Nat.reduceLT, Row.get1, Row.getN, Row.set1, Row.setN, fillE, vW, renM, frM, subRow, Nat.reduceBNe, frs, frOk, frOut]
      · simp only [vS, opP, Go.Vm.step, Go.Vm.ev, delM, setM, binL, binI, shI, binS, unL, cst, cst1, cells1, reduceIte, Nat.reduceAdd, Nat.reduceMul, Nat.reduceEqDiff, bound, refsC, AV.cells, AV.ref1, flatC, oneC, elems, okLog, disj, befOf, Int.reduceLT, Int.reduceLE, Int.reduceToNat, Int.reducePow, Nat.reduceLeDiff, IntKind.bits, argT, Int.reduceMul, Int.reduceAdd, Int.reduceNeg, Int.reduceSub, Int.reduceEq, Nat.reduceLT, Row.get1, Row.getN, Row.set1, Row.setN, fillE, vW, renM, frM, subRow, Nat.reduceBNe, frs, frOk, frOut]
    · have e : ns.take i = ns := List.take_of_length_le (by omega)
      simp only [vS, opP, Go.Vm.step, Go.Vm.ev, delM, setM, binL, binI, shI, binS, unL, cst, cst1, cells1, reduceIte, Nat.reduceAdd, Nat.reduceMul, Nat.reduceEqDiff, bound, refsC, AV.cells, AV.ref1, flatC, oneC, elems, okLog, disj, befOf, Int.reduceLT, Int.reduceLE, Int.reduceToNat, Int.reducePow, Nat.reduceLeDiff, IntKind.bits, argT, Int.reduceMul, Int.reduceAdd, Int.reduceNeg, Int.reduceSub, Int.reduceEq, Nat.reduceLT, Row.get1, Row.getN, Row.set1, Row.setN, fillE, hi, e]
  · simp only [vS, opP, Go.Vm.step, Go.Vm.ev, delM, setM, binL, binI, shI, binS, unL, cst, cst1, cells1, reduceIte, Nat.reduceAdd, Nat.reduceMul, Nat.reduceEqDiff, bound, refsC, AV.cells, AV.ref1, flatC, oneC, elems, okLog, disj, befOf, Int.reduceLT, Int.reduceLE, Int.reduceToNat, Int.reducePow, Nat.reduceLeDiff, IntKind.bits, argT, Int.reduceMul, Int.reduceAdd, Int.reduceNeg, Int.reduceSub, Int.reduceEq, Nat.reduceLT, Row.get1, Row.getN, Row.set1, Row.setN, fillE, vW, renM, frM, subRow, Nat.reduceBNe, frs, frOk, frOut]
    rfl
  · simp only [vS, opP, Go.Vm.step, Go.Vm.ev, delM, setM, binL, binI, shI, binS, unL, cst, cst1, cells1, reduceIte, Nat.reduceAdd, Nat.reduceMul, Nat.reduceEqDiff, bound, refsC, AV.cells, AV.ref1, flatC, oneC, elems, okLog, disj, befOf, Int.reduceLT, Int.reduceLE, Int.reduceToNat, Int.reducePow, Nat.reduceLeDiff, IntKind.bits, argT, Int.reduceMul, Int.reduceAdd, Int.reduceNeg, Int.reduceSub, Int.reduceEq, Nat.reduceLT, Row.get1, Row.getN, Row.set1, Row.setN, fillE, vW, renM, frM, subRow, Nat.reduceBNe, frs, frOk, frOut]

theorem Grow_ok {n : Nat} (h0 : 0 < n) (hn : n ≤ 100000000000) : CallOk Tryd.prog 32 [.k (.slice none 0 0), .i .i64 n] M slot { v := .own slot 0 0 1, eff := [(slot, some ⟨1, enc (.i .u8) (List.replicate n 0)⟩)] } := by
  refine full_slices_Grow_byte_byte (σ := []) (k := 0) (Nat.le_of_ble_eq_true (by kernel_rfl)) (by simp) (by simp) (by simp) (by simp) ?_
  unfold lc_slices_Grow_byte_byte
  have e1 : IntKind.i64.wrap 0 = 0 := by decide
  have e2 : IntKind.i64.wrap (n : Int) = n := by rw [IntKind.wrap_i64]; omega
  have e3 : (0 : Int) < n := by omega
  have e4 : (n : Int) ≤ 9223372036854775807 := by omega
  have e5 : n ≤ 281474976710656 := by omega
  have e6 : (n : Int) - 0 = n := by omega
  simp only [vS, opP, Go.Vm.step, Go.Vm.ev, delM, setM, binL, binI, shI, binS, unL, cst, cst1, cells1, reduceIte, Nat.reduceAdd, Nat.reduceMul, Nat.reduceEqDiff, bound, refsC, AV.cells, AV.ref1, flatC, oneC, elems, okLog, disj, befOf, Int.reduceLT, Int.reduceLE, Int.reduceToNat, Int.reducePow, Nat.reduceLeDiff, IntKind.bits, argT, Int.reduceMul, Int.reduceAdd, Int.reduceNeg, Int.reduceSub, Int.reduceEq, Nat.reduceLT, Row.get1, Row.getN, Row.set1, Row.setN, fillE, renM, List.filterMap_nil, e1, e2, e3, e4, e5, e6]
  refine retC_i (Wk.norm [(144, 0)] (by decide) (l2 := [(4, .own 0 0 0 1)]) (m2 := [(0, ⟨1, enc (.i .u8) (List.replicate n 0)⟩)]) (nb2 := 8) ?_ ?_) [(0, 0)] rfl ?_ ?_
  · simp only [vS, opP, Go.Vm.step, Go.Vm.ev, delM, setM, binL, binI, shI, binS, unL, cst, cst1, cells1, reduceIte, Nat.reduceAdd, Nat.reduceMul, Nat.reduceEqDiff, bound, refsC, AV.cells, AV.ref1, flatC, oneC, elems, okLog, disj, befOf, Int.reduceLT, Int.reduceLE, Int.reduceToNat, Int.reducePow, Nat.reduceLeDiff, IntKind.bits, argT, Int.reduceMul, Int.reduceAdd, Int.reduceNeg, Int.reduceSub, Int.reduceEq, Nat.reduceLT, Row.get1, Row.getN, Row.set1, Row.setN, fillE, vW, renM, frM, subRow, Nat.reduceBNe, frs, frOk, frOut]
  · simp only [vS, opP, Go.Vm.step, Go.Vm.ev, delM, setM, binL, binI, shI, binS, unL, cst, cst1, cells1, reduceIte, Nat.reduceAdd, Nat.reduceMul, Nat.reduceEqDiff, bound, refsC, AV.cells, AV.ref1, flatC, oneC, elems, okLog, disj, befOf, Int.reduceLT, Int.reduceLE, Int.reduceToNat, Int.reducePow, Nat.reduceLeDiff, IntKind.bits, argT, Int.reduceMul, Int.reduceAdd, Int.reduceNeg, Int.reduceSub, Int.reduceEq, Nat.reduceLT, Row.get1, Row.getN, Row.set1, Row.setN, fillE, vW, renM, frM, subRow, Nat.reduceBNe, frs, frOk, frOut]
  · simp only [vS, opP, Go.Vm.step, Go.Vm.ev, delM, setM, binL, binI, shI, binS, unL, cst, cst1, cells1, reduceIte, Nat.reduceAdd, Nat.reduceMul, Nat.reduceEqDiff, bound, refsC, AV.cells, AV.ref1, flatC, oneC, elems, okLog, disj, befOf, Int.reduceLT, Int.reduceLE, Int.reduceToNat, Int.reducePow, Nat.reduceLeDiff, IntKind.bits, argT, Int.reduceMul, Int.reduceAdd, Int.reduceNeg, Int.reduceSub, Int.reduceEq, Nat.reduceLT, Row.get1, Row.getN, Row.set1, Row.setN, fillE, vW, renM, frM, subRow, Nat.reduceBNe, frs, frOk, frOut, back, List.nil_append]
  · simp only [vS, opP, Go.Vm.step, Go.Vm.ev, delM, setM, binL, binI, shI, binS, unL, cst, cst1, cells1, reduceIte, Nat.reduceAdd, Nat.reduceMul, Nat.reduceEqDiff, bound, refsC, AV.cells, AV.ref1, flatC, oneC, elems, okLog, disj, befOf, Int.reduceLT, Int.reduceLE, Int.reduceToNat, Int.reducePow, Nat.reduceLeDiff, IntKind.bits, argT, Int.reduceMul, Int.reduceAdd, Int.reduceNeg, Int.reduceSub, Int.reduceEq, Nat.reduceLT, Row.get1, Row.getN, Row.set1, Row.setN, fillE, vW, renM, frM, subRow, Nat.reduceBNe, frs, frOk, frOut, back, effOf, List.nil_append]
/-- Slices of bytes, one behind the other in a row. -/
def encB (ls : List (List Int)) : List (List AV) := enc (.deep 1) (ls.map (enc (.i .u8)))
theorem encB_length {ls : List (List Int)} : (encB ls).length = ls.length := by simp [encB, enc_length]
theorem encB_get {ls : List (List Int)} {i : Nat} : (encB ls)[i]? = (ls[i]?).map fun l => [bI l] := by
  simp only [encB, enc_get, List.getElem?_map, Option.map_map]
  rfl
theorem subLL_encB {s : Sub} (ls : List (List Int)) : subLL s (encB ls) = encB ls := by
  simp only [subLL_map, encB, enc, List.map_map]
  refine List.map_congr_left fun x _ => ?_
  simp only [Function.comp, List.map_cons, List.map_nil, sub_deep]
  rw [subLL_enc (fun _ => rfl)]
theorem flat_take {ls : List (List Int)} {i : Nat} {l : List Int} (h : ls[i]? = some l) : (ls.take (i + 1)).flatten = (ls.take i).flatten ++ l := by
  rw [List.take_add_one, h]
  simp
theorem flat_le (ls : List (List Int)) (i : Nat) : (ls.take i).flatten.length ≤ ls.flatten.length := by
  have e : ls.flatten = (ls.take i).flatten ++ (ls.drop i).flatten := by rw [← List.flatten_append, List.take_append_drop]
  rw [e, List.length_append]
  omega
theorem Concat_ok {ls : List (List Int)} (h0 : 0 < ls.flatten.length) (hn : ls.flatten.length ≤ 10000000000) (hc : ls.length ≤ 10000000000) : CallOk Tryd.prog 20 [.deep 1 (encB ls)] M slot { v := bI ls.flatten } := by
  refine pure_slices_Concat_byte_byte (Nat.le_of_ble_eq_true (by kernel_rfl)) ?_; unfold lc_slices_Concat_byte_byte
  simp only [vS, opP, Go.Vm.step, Go.Vm.ev, delM, setM, binL, binI, shI, binS, unL, cst, cst1, cells1, reduceIte, Nat.reduceAdd, Nat.reduceMul, Nat.reduceEqDiff, bound, refsC, AV.cells, AV.ref1, flatC, oneC, elems, okLog, disj, befOf, Int.reduceLT, Int.reduceLE, Int.reduceToNat, Int.reducePow, Nat.reduceLeDiff, IntKind.bits, argT, Int.reduceMul, Int.reduceAdd, Int.reduceNeg, Int.reduceSub, Int.reduceEq, Nat.reduceLT, Row.get1, Row.getN, Row.set1, Row.setN, fillE, subLL_encB, encB_length]
  refine loop_by (fun i => i ≤ ls.length) (fun i => ls.length - i)
    (fun i => [(0, .deep 1 (encB ls)), (3, .i .i64 ((ls.take i).flatten.length : Nat)), (9, .deep 1 (encB ls)), (10, .i .i64 ls.length), (11, .i .i64 i)]) (fun _ => []) 8 ?_ 0 (Nat.zero_le _) (Wk.norm [] (by decide) ?_ ?_)
  · intro i hi0
    by_cases hi : i < ls.length
    · obtain ⟨l, hl⟩ : ∃ l, ls[i]? = some l := ⟨ls[i], List.getElem?_eq_getElem hi⟩
      have hle := flat_le ls (i + 1)
      have hf := congrArg List.length (flat_take hl)
      rw [List.length_append] at hf
      have e1 : IntKind.i64.wrap (((ls.take i).flatten.length : Nat) + (l.length : Int)) = (((ls.take (i + 1)).flatten.length : Nat) : Int) := by
        rw [IntKind.wrap_i64, hf]
        omega
      have e3 : IntKind.i64.wrap ((i : Int) + 1) = ((i + 1 : Nat) : Int) := by
        rw [IntKind.wrap_i64]
        omega
      simp only [vS, opP, Go.Vm.step, Go.Vm.ev, delM, setM, binL, binI, shI, binS, unL, cst, cst1, cells1, reduceIte, Nat.reduceAdd, Nat.reduceMul, Nat.reduceEqDiff, bound, refsC, AV.cells, AV.ref1, flatC, oneC, elems, okLog, disj, befOf, Int.reduceLT, Int.reduceLE, Int.reduceToNat, Int.reducePow, Nat.reduceLeDiff, IntKind.bits, argT, Int.reduceMul, Int.reduceAdd, Int.reduceNeg, Int.reduceSub, Int.reduceEq, Nat.reduceLT, Row.get1, Row.getN, Row.set1, Row.setN, fillE, hi, encB_get, hl, e1, e3]
      refine ⟨i + 1, hi, by omega, Wk.norm [] (by decide) ?_ ?_⟩
      · simp only [vS, opP, Go.Vm.step, Go.Vm.ev, delM, setM, binL, binI, shI, binS, unL, cst, cst1, cells1, reduceIte, Nat.reduceAdd, Nat.reduceMul, Nat.reduceEqDiff, bound, refsC, AV.cells, AV.ref1, flatC, oneC, elems, okLog, disj, befOf, Int.reduceLT, Int.reduceLE, Int.reduceToNat, Int.reducePow, Nat.reduceLeDiff, IntKind.bits, argT, Int.reduceMul, Int.reduceAdd, Int.reduceNeg, Int.reduceSub, Int.reduceEq, Nat.reduceLT, Row.get1, Row.getN, Row.set1, Row.setN, fillE, vW, renM, frM, subRow, Nat.reduceBNe, frs, frOk, frOut, subLL_encB]
      · simp only [vS, opP, Go.Vm.step, Go.Vm.ev, delM, setM, binL, binI, shI, binS, unL, cst, cst1, cells1, reduceIte, Nat.reduceAdd, Nat.reduceMul, Nat.reduceEqDiff, bound, refsC, AV.cells, AV.ref1, flatC, oneC, elems, okLog, disj, befOf, Int.reduceLT, Int.reduceLE, Int.reduceToNat, Int.reducePow, Nat.reduceLeDiff, IntKind.bits, argT, Int.reduceMul, Int.reduceAdd, Int.reduceNeg, Int.reduceSub, Int.reduceEq, Nat.reduceLT, Row.get1, Row.getN, Row.set1, Row.setN, fillE, vW, renM, frM, subRow, Nat.reduceBNe, frs, frOk, frOut]
    · have e : ls.take i = ls := List.take_of_length_le (by omega)
      simp only [vS, opP, Go.Vm.step, Go.Vm.ev, delM, setM, binL, binI, shI, binS, unL, cst, cst1, cells1, reduceIte, Nat.reduceAdd, Nat.reduceMul, Nat.reduceEqDiff, bound, refsC, AV.cells, AV.ref1, flatC, oneC, elems, okLog, disj, befOf, Int.reduceLT, Int.reduceLE, Int.reduceToNat, Int.reducePow, Nat.reduceLeDiff, IntKind.bits, argT, Int.reduceMul, Int.reduceAdd, Int.reduceNeg, Int.reduceSub, Int.reduceEq, Nat.reduceLT, Row.get1, Row.getN, Row.set1, Row.setN, fillE, hi, e]
      refine callP_ok (Grow_ok h0 (by omega)) ?_
      simp only [vS, opP, Go.Vm.step, Go.Vm.ev, delM, setM, binL, binI, shI, binS, unL, cst, cst1, cells1, reduceIte, Nat.reduceAdd, Nat.reduceMul, Nat.reduceEqDiff, bound, refsC, AV.cells, AV.ref1, flatC, oneC, elems, okLog, disj, befOf, Int.reduceLT, Int.reduceLE, Int.reduceToNat, Int.reducePow, Nat.reduceLeDiff, IntKind.bits, argT, Int.reduceMul, Int.reduceAdd, Int.reduceNeg, Int.reduceSub, Int.reduceEq, Nat.reduceLT, Row.get1, Row.getN, Row.set1, Row.setN, fillE, encB_length, subLL_encB]
      refine loop_by (fun x : Nat × List Int => x.1 ≤ ls.length ∧ x.2.take (ls.take x.1).flatten.length = (ls.take x.1).flatten ∧ (ls.take x.1).flatten.length ≤ x.2.length) (fun x => ls.length - x.1)
        (fun x => [(6, .own 0 0 (ls.take x.1).flatten.length 1), (25, .deep 1 (encB ls)), (26, .i .i64 ls.length), (27, .i .i64 x.1)]) (fun x => [(0, ⟨1, enc (.i .u8) x.2⟩)]) 8 ?_ (0, List.replicate ls.flatten.length 0) ⟨Nat.zero_le _, rfl, Nat.zero_le _⟩ (Wk.norm [(24, 0)] (by decide) ?_ ?_)
      · rintro ⟨i, rw⟩ ⟨h1, h2, h3⟩
        have h2' : rw.take (ls.take i).flatten.length = (ls.take i).flatten := h2
        by_cases hi : i < ls.length
        · obtain ⟨l, hl⟩ : ∃ l, ls[i]? = some l := ⟨ls[i], List.getElem?_eq_getElem hi⟩
          have hle := flat_le ls (i + 1)
          have hf := congrArg List.length (flat_take hl)
          rw [List.length_append] at hf
          have e1 : (ls.take i).flatten.length + l.length ≤ 140737488355328 := by omega
          have e2 : (ls.take i).flatten.length + l.length ≤ 4611686018427387904 := by omega
          have e3 : IntKind.i64.wrap ((i : Int) + 1) = ((i + 1 : Nat) : Int) := by
            rw [IntKind.wrap_i64]
            omega
          simp only [vS, opP, Go.Vm.step, Go.Vm.ev, delM, setM, binL, binI, shI, binS, unL, cst, cst1, cells1, reduceIte, Nat.reduceAdd, Nat.reduceMul, Nat.reduceEqDiff, bound, refsC, AV.cells, AV.ref1, flatC, oneC, elems, okLog, disj, befOf, Int.reduceLT, Int.reduceLE, Int.reduceToNat, Int.reducePow, Nat.reduceLeDiff, IntKind.bits, argT, Int.reduceMul, Int.reduceAdd, Int.reduceNeg, Int.reduceSub, Int.reduceEq, Nat.reduceLT, Row.get1, Row.getN, Row.set1, Row.setN, fillE, hi, encB_get, hl, e1, e2, e3, h2']
          refine ⟨(i + 1, (ls.take i).flatten ++ l), ⟨hi, ?_, ?_⟩, by show ls.length - (i + 1) < ls.length - i; omega, Wk.norm [(56, 0)] (by decide) ?_ ?_⟩
          · show ((ls.take i).flatten ++ l).take (ls.take (i + 1)).flatten.length = (ls.take (i + 1)).flatten
            rw [flat_take hl]
            exact List.take_length
          · show (ls.take (i + 1)).flatten.length ≤ ((ls.take i).flatten ++ l).length
            rw [flat_take hl]
            exact Nat.le_refl _
          · simp only [vS, opP, Go.Vm.step, Go.Vm.ev, delM, setM, binL, binI, shI, binS, unL, cst, cst1, cells1, reduceIte, Nat.reduceAdd, Nat.reduceMul, Nat.reduceEqDiff, bound, refsC, AV.cells, AV.ref1, flatC, oneC, elems, okLog, disj, befOf, Int.reduceLT, Int.reduceLE, Int.reduceToNat, Int.reducePow, Nat.reduceLeDiff, IntKind.bits, argT, Int.reduceMul, Int.reduceAdd, Int.reduceNeg, Int.reduceSub, Int.reduceEq, Nat.reduceLT, Row.get1, Row.getN, Row.set1, Row.setN, fillE, vW, renM, frM, subRow, Nat.reduceBNe, frs, frOk, frOut, subLL_encB, hf]
          · simp only [vS, opP, Go.Vm.step, Go.Vm.ev, delM, setM, binL, binI, shI, binS, unL, cst, cst1, cells1, reduceIte, Nat.reduceAdd, Nat.reduceMul, Nat.reduceEqDiff, bound, refsC, AV.cells, AV.ref1, flatC, oneC, elems, okLog, disj, befOf, Int.reduceLT, Int.reduceLE, Int.reduceToNat, Int.reducePow, Nat.reduceLeDiff, IntKind.bits, argT, Int.reduceMul, Int.reduceAdd, Int.reduceNeg, Int.reduceSub, Int.reduceEq, Nat.reduceLT, Row.get1, Row.getN, Row.set1, Row.setN, fillE, vW, renM, frM, subRow, Nat.reduceBNe, frs, frOk, frOut]
        · have e : ls.take i = ls := List.take_of_length_le (by omega)
          rw [e] at h2'
          have h3' : ls.flatten.length ≤ rw.length := by
            have h3 : (ls.take i).flatten.length ≤ rw.length := h3
            rwa [e] at h3
          simp only [vS, opP, Go.Vm.step, Go.Vm.ev, delM, setM, binL, binI, shI, binS, unL, cst, cst1, cells1, reduceIte, Nat.reduceAdd, Nat.reduceMul, Nat.reduceEqDiff, bound, refsC, AV.cells, AV.ref1, flatC, oneC, elems, okLog, disj, befOf, Int.reduceLT, Int.reduceLE, Int.reduceToNat, Int.reducePow, Nat.reduceLeDiff, IntKind.bits, argT, Int.reduceMul, Int.reduceAdd, Int.reduceNeg, Int.reduceSub, Int.reduceEq, Nat.reduceLT, Row.get1, Row.getN, Row.set1, Row.setN, fillE, hi, e]
          refine run_rgnW (Wk.fr 0 (l2 := [(6, bI ls.flatten)]) (m2 := []) (nb2 := 0) rfl ?_ ?_) ?_
          · simp only [vS, opP, Go.Vm.step, Go.Vm.ev, delM, setM, binL, binI, shI, binS, unL, cst, cst1, cells1, reduceIte, Nat.reduceAdd, Nat.reduceMul, Nat.reduceEqDiff, bound, refsC, AV.cells, AV.ref1, flatC, oneC, elems, okLog, disj, befOf, Int.reduceLT, Int.reduceLE, Int.reduceToNat, Int.reducePow, Nat.reduceLeDiff, IntKind.bits, argT, Int.reduceMul, Int.reduceAdd, Int.reduceNeg, Int.reduceSub, Int.reduceEq, Nat.reduceLT, Row.get1, Row.getN, Row.set1, Row.setN, fillE, vW, renM, frM, subRow, Nat.reduceBNe, frs, frOk, frOut, h2', h3']
          · simp only [vS, opP, Go.Vm.step, Go.Vm.ev, delM, setM, binL, binI, shI, binS, unL, cst, cst1, cells1, reduceIte, Nat.reduceAdd, Nat.reduceMul, Nat.reduceEqDiff, bound, refsC, AV.cells, AV.ref1, flatC, oneC, elems, okLog, disj, befOf, Int.reduceLT, Int.reduceLE, Int.reduceToNat, Int.reducePow, Nat.reduceLeDiff, IntKind.bits, argT, Int.reduceMul, Int.reduceAdd, Int.reduceNeg, Int.reduceSub, Int.reduceEq, Nat.reduceLT, Row.get1, Row.getN, Row.set1, Row.setN, fillE, vW, renM, frM, subRow, Nat.reduceBNe, frs, frOk, frOut]
          · simp only [vS, opP, Go.Vm.step, Go.Vm.ev, delM, setM, binL, binI, shI, binS, unL, cst, cst1, cells1, reduceIte, Nat.reduceAdd, Nat.reduceMul, Nat.reduceEqDiff, bound, refsC, AV.cells, AV.ref1, flatC, oneC, elems, okLog, disj, befOf, Int.reduceLT, Int.reduceLE, Int.reduceToNat, Int.reducePow, Nat.reduceLeDiff, IntKind.bits, argT, Int.reduceMul, Int.reduceAdd, Int.reduceNeg, Int.reduceSub, Int.reduceEq, Nat.reduceLT, Row.get1, Row.getN, Row.set1, Row.setN, fillE]
      · simp only [vS, opP, Go.Vm.step, Go.Vm.ev, delM, setM, binL, binI, shI, binS, unL, cst, cst1, cells1, reduceIte, Nat.reduceAdd, Nat.reduceMul, Nat.reduceEqDiff, bound, refsC, AV.cells, AV.ref1, flatC, oneC, elems, okLog, disj, befOf, Int.reduceLT, Int.reduceLE, Int.reduceToNat, Int.reducePow, Nat.reduceLeDiff, IntKind.bits, argT, Int.reduceMul, Int.reduceAdd, Int.reduceNeg, Int.reduceSub, Int.reduceEq, Nat.reduceLT, Row.get1, Row.getN, Row.set1, Row.setN, fillE, vW, renM, frM, subRow, Nat.reduceBNe, frs, frOk, frOut, subLL_encB]
        rfl
      · simp only [vS, opP, Go.Vm.step, Go.Vm.ev, delM, setM, binL, binI, shI, binS, unL, cst, cst1, cells1, reduceIte, Nat.reduceAdd, Nat.reduceMul, Nat.reduceEqDiff, bound, refsC, AV.cells, AV.ref1, flatC, oneC, elems, okLog, disj, befOf, Int.reduceLT, Int.reduceLE, Int.reduceToNat, Int.reducePow, Nat.reduceLeDiff, IntKind.bits, argT, Int.reduceMul, Int.reduceAdd, Int.reduceNeg, Int.reduceSub, Int.reduceEq, Nat.reduceLT, Row.get1, Row.getN, Row.set1, Row.setN, fillE, vW, renM, frM, subRow, Nat.reduceBNe, frs, frOk, frOut]
  · simp only [vS, opP, Go.Vm.step, Go.Vm.ev, delM, setM, binL, binI, shI, binS, unL, cst, cst1, cells1, reduceIte, Nat.reduceAdd, Nat.reduceMul, Nat.reduceEqDiff, bound, refsC, AV.cells, AV.ref1, flatC, oneC, elems, okLog, disj, befOf, Int.reduceLT, Int.reduceLE, Int.reduceToNat, Int.reducePow, Nat.reduceLeDiff, IntKind.bits, argT, Int.reduceMul, Int.reduceAdd, Int.reduceNeg, Int.reduceSub, Int.reduceEq, Nat.reduceLT, Row.get1, Row.getN, Row.set1, Row.setN, fillE, vW, renM, frM, subRow, Nat.reduceBNe, frs, frOk, frOut, subLL_encB]
    rfl
  · simp only [vS, opP, Go.Vm.step, Go.Vm.ev, delM, setM, binL, binI, shI, binS, unL, cst, cst1, cells1, reduceIte, Nat.reduceAdd, Nat.reduceMul, Nat.reduceEqDiff, bound, refsC, AV.cells, AV.ref1, flatC, oneC, elems, okLog, disj, befOf, Int.reduceLT, Int.reduceLE, Int.reduceToNat, Int.reducePow, Nat.reduceLeDiff, IntKind.bits, argT, Int.reduceMul, Int.reduceAdd, Int.reduceNeg, Int.reduceSub, Int.reduceEq, Nat.reduceLT, Row.get1, Row.getN, Row.set1, Row.setN, fillE, vW, renM, frM, subRow, Nat.reduceBNe, frs, frOk, frOut]

theorem Clone_own {ns : List Int} (hn : ns.length ≤ 100000000000) : CallOk Tryd.prog 26 [bI ns] M slot { v := .own slot 0 ns.length 1, eff := [(slot, some ⟨1, enc (.i .u8) ns⟩)] } := by
  cases ns with
  | nil =>
    refine callOk_nil (sz := 1) fun A c => ?_
    refine full_slices_Clone_byte_byte (σ := []) (k := 0) (Nat.le_of_ble_eq_true (by kernel_rfl)) (by simp) (by simp) (by simp) (by simp) ?_
    unfold lc_slices_Clone_byte_byte
    cases A with
    | none =>
      simp only [vS, opP, Go.Vm.step, Go.Vm.ev, delM, setM, binL, binI, shI, binS, unL, cst, cst1, cells1, reduceIte, Nat.reduceAdd, Nat.reduceMul, Nat.reduceEqDiff, bound, refsC, AV.cells, AV.ref1, flatC, oneC, elems, okLog, disj, befOf, Int.reduceLT, Int.reduceLE, Int.reduceToNat, Int.reducePow, Nat.reduceLeDiff, IntKind.bits, argT, Int.reduceMul, Int.reduceAdd, Int.reduceNeg, Int.reduceSub, Int.reduceEq, Nat.reduceLT, Row.get1, Row.getN, Row.set1, Row.setN, fillE, renM, List.filterMap_nil]
      refine retC_i ((Wk.nil' 2 1000 1 rfl (by decide) (by decide)).trans (Wk.norm [(1000, 0)] (by decide) (l2 := [(2, .own 0 0 0 1)]) (m2 := [(0, ⟨1, []⟩)]) (nb2 := 8) ?_ ?_)) [(0, 0)] rfl ?_ ?_
      · simp only [vS, opP, Go.Vm.step, Go.Vm.ev, delM, setM, binL, binI, shI, binS, unL, cst, cst1, cells1, reduceIte, Nat.reduceAdd, Nat.reduceMul, Nat.reduceEqDiff, bound, refsC, AV.cells, AV.ref1, flatC, oneC, elems, okLog, disj, befOf, Int.reduceLT, Int.reduceLE, Int.reduceToNat, Int.reducePow, Nat.reduceLeDiff, IntKind.bits, argT, Int.reduceMul, Int.reduceAdd, Int.reduceNeg, Int.reduceSub, Int.reduceEq, Nat.reduceLT, Row.get1, Row.getN, Row.set1, Row.setN, fillE, vW, renM, frM, subRow, Nat.reduceBNe, frs, frOk, frOut]
      · simp only [vS, opP, Go.Vm.step, Go.Vm.ev, delM, setM, binL, binI, shI, binS, unL, cst, cst1, cells1, reduceIte, Nat.reduceAdd, Nat.reduceMul, Nat.reduceEqDiff, bound, refsC, AV.cells, AV.ref1, flatC, oneC, elems, okLog, disj, befOf, Int.reduceLT, Int.reduceLE, Int.reduceToNat, Int.reducePow, Nat.reduceLeDiff, IntKind.bits, argT, Int.reduceMul, Int.reduceAdd, Int.reduceNeg, Int.reduceSub, Int.reduceEq, Nat.reduceLT, Row.get1, Row.getN, Row.set1, Row.setN, fillE, vW, renM, frM, subRow, Nat.reduceBNe, frs, frOk, frOut]
      · simp only [vS, opP, Go.Vm.step, Go.Vm.ev, delM, setM, binL, binI, shI, binS, unL, cst, cst1, cells1, reduceIte, Nat.reduceAdd, Nat.reduceMul, Nat.reduceEqDiff, bound, refsC, AV.cells, AV.ref1, flatC, oneC, elems, okLog, disj, befOf, Int.reduceLT, Int.reduceLE, Int.reduceToNat, Int.reducePow, Nat.reduceLeDiff, IntKind.bits, argT, Int.reduceMul, Int.reduceAdd, Int.reduceNeg, Int.reduceSub, Int.reduceEq, Nat.reduceLT, Row.get1, Row.getN, Row.set1, Row.setN, fillE, vW, renM, frM, subRow, Nat.reduceBNe, frs, frOk, frOut, back, List.nil_append]
      · simp only [vS, opP, Go.Vm.step, Go.Vm.ev, delM, setM, binL, binI, shI, binS, unL, cst, cst1, cells1, reduceIte, Nat.reduceAdd, Nat.reduceMul, Nat.reduceEqDiff, bound, refsC, AV.cells, AV.ref1, flatC, oneC, elems, okLog, disj, befOf, Int.reduceLT, Int.reduceLE, Int.reduceToNat, Int.reducePow, Nat.reduceLeDiff, IntKind.bits, argT, Int.reduceMul, Int.reduceAdd, Int.reduceNeg, Int.reduceSub, Int.reduceEq, Nat.reduceLT, Row.get1, Row.getN, Row.set1, Row.setN, fillE, vW, renM, frM, subRow, Nat.reduceBNe, frs, frOk, frOut, back, effOf, List.nil_append]
    | some A =>
      simp only [vS, opP, Go.Vm.step, Go.Vm.ev, delM, setM, binL, binI, shI, binS, unL, cst, cst1, cells1, reduceIte, Nat.reduceAdd, Nat.reduceMul, Nat.reduceEqDiff, bound, refsC, AV.cells, AV.ref1, flatC, oneC, elems, okLog, disj, befOf, Int.reduceLT, Int.reduceLE, Int.reduceToNat, Int.reducePow, Nat.reduceLeDiff, IntKind.bits, argT, Int.reduceMul, Int.reduceAdd, Int.reduceNeg, Int.reduceSub, Int.reduceEq, Nat.reduceLT, Row.get1, Row.getN, Row.set1, Row.setN, fillE, renM, List.filterMap_nil]
      refine retC_i (Wk.norm [(40, 0)] (by decide) (l2 := [(2, .own 0 0 0 1)]) (m2 := [(0, ⟨1, []⟩)]) (nb2 := 8) ?_ ?_) [(0, 0)] rfl ?_ ?_
      · simp only [vS, opP, Go.Vm.step, Go.Vm.ev, delM, setM, binL, binI, shI, binS, unL, cst, cst1, cells1, reduceIte, Nat.reduceAdd, Nat.reduceMul, Nat.reduceEqDiff, bound, refsC, AV.cells, AV.ref1, flatC, oneC, elems, okLog, disj, befOf, Int.reduceLT, Int.reduceLE, Int.reduceToNat, Int.reducePow, Nat.reduceLeDiff, IntKind.bits, argT, Int.reduceMul, Int.reduceAdd, Int.reduceNeg, Int.reduceSub, Int.reduceEq, Nat.reduceLT, Row.get1, Row.getN, Row.set1, Row.setN, fillE, vW, renM, frM, subRow, Nat.reduceBNe, frs, frOk, frOut]
      · simp only [vS, opP, Go.Vm.step, Go.Vm.ev, delM, setM, binL, binI, shI, binS, unL, cst, cst1, cells1, reduceIte, Nat.reduceAdd, Nat.reduceMul, Nat.reduceEqDiff, bound, refsC, AV.cells, AV.ref1, flatC, oneC, elems, okLog, disj, befOf, Int.reduceLT, Int.reduceLE, Int.reduceToNat, Int.reducePow, Nat.reduceLeDiff, IntKind.bits, argT, Int.reduceMul, Int.reduceAdd, Int.reduceNeg, Int.reduceSub, Int.reduceEq, Nat.reduceLT, Row.get1, Row.getN, Row.set1, Row.setN, fillE, vW, renM, frM, subRow, Nat.reduceBNe, frs, frOk, frOut]
      · simp only [vS, opP, Go.Vm.step, Go.Vm.ev, delM, setM, binL, binI, shI, binS, unL, cst, cst1, cells1, reduceIte, Nat.reduceAdd, Nat.reduceMul, Nat.reduceEqDiff, bound, refsC, AV.cells, AV.ref1, flatC, oneC, elems, okLog, disj, befOf, Int.reduceLT, Int.reduceLE, Int.reduceToNat, Int.reducePow, Nat.reduceLeDiff, IntKind.bits, argT, Int.reduceMul, Int.reduceAdd, Int.reduceNeg, Int.reduceSub, Int.reduceEq, Nat.reduceLT, Row.get1, Row.getN, Row.set1, Row.setN, fillE, vW, renM, frM, subRow, Nat.reduceBNe, frs, frOk, frOut, back, List.nil_append]
      · simp only [vS, opP, Go.Vm.step, Go.Vm.ev, delM, setM, binL, binI, shI, binS, unL, cst, cst1, cells1, reduceIte, Nat.reduceAdd, Nat.reduceMul, Nat.reduceEqDiff, bound, refsC, AV.cells, AV.ref1, flatC, oneC, elems, okLog, disj, befOf, Int.reduceLT, Int.reduceLE, Int.reduceToNat, Int.reducePow, Nat.reduceLeDiff, IntKind.bits, argT, Int.reduceMul, Int.reduceAdd, Int.reduceNeg, Int.reduceSub, Int.reduceEq, Nat.reduceLT, Row.get1, Row.getN, Row.set1, Row.setN, fillE, vW, renM, frM, subRow, Nat.reduceBNe, frs, frOk, frOut, back, effOf, List.nil_append]
  | cons x r =>
    obtain ⟨y, ys, e⟩ : ∃ y ys, enc (AV.i .u8) (x :: r) = y :: ys := ⟨_, _, rfl⟩
    have hs : ∀ s, subLL s (y :: ys) = y :: ys := fun s => by rw [← e]; exact subLL_enc (fun _ => rfl)
    have hl : ys.length + 1 = r.length + 1 := by
      have := congrArg List.length e
      rw [enc_length] at this
      simpa using this.symm
    rw [List.length_cons] at hn
    have e2 : ys.length + 1 ≤ 140737488355328 := by omega
    have e3 : ys.length + 1 ≤ 4611686018427387904 := by omega
    refine full_slices_Clone_byte_byte (σ := []) (k := 0) (Nat.le_of_ble_eq_true (by kernel_rfl)) (by simp) (by simp) (by simp) (by simp) ?_
    unfold lc_slices_Clone_byte_byte
    rw [List.length_cons, ← hl]
    simp only [vS, opP, Go.Vm.step, Go.Vm.ev, delM, setM, binL, binI, shI, binS, unL, cst, cst1, cells1, reduceIte, Nat.reduceAdd, Nat.reduceMul, Nat.reduceEqDiff, bound, refsC, AV.cells, AV.ref1, flatC, oneC, elems, okLog, disj, befOf, Int.reduceLT, Int.reduceLE, Int.reduceToNat, Int.reducePow, Nat.reduceLeDiff, IntKind.bits, argT, Int.reduceMul, Int.reduceAdd, Int.reduceNeg, Int.reduceSub, Int.reduceEq, Nat.reduceLT, Row.get1, Row.getN, Row.set1, Row.setN, fillE, bI, e, hs, e2, e3, renM, List.filterMap_nil]
    refine retC_i (Wk.norm [(40, 0)] (by decide) (l2 := [(2, .own 0 0 (ys.length + 1) 1)]) (m2 := [(0, ⟨1, y :: ys⟩)]) (nb2 := 8) ?_ ?_) [(0, 0)] rfl ?_ ?_
    · simp only [vS, opP, Go.Vm.step, Go.Vm.ev, delM, setM, binL, binI, shI, binS, unL, cst, cst1, cells1, reduceIte, Nat.reduceAdd, Nat.reduceMul, Nat.reduceEqDiff, bound, refsC, AV.cells, AV.ref1, flatC, oneC, elems, okLog, disj, befOf, Int.reduceLT, Int.reduceLE, Int.reduceToNat, Int.reducePow, Nat.reduceLeDiff, IntKind.bits, argT, Int.reduceMul, Int.reduceAdd, Int.reduceNeg, Int.reduceSub, Int.reduceEq, Nat.reduceLT, Row.get1, Row.getN, Row.set1, Row.setN, fillE, vW, renM, frM, subRow, Nat.reduceBNe, frs, frOk, frOut]
    · simp only [vS, opP, Go.Vm.step, Go.Vm.ev, delM, setM, binL, binI, shI, binS, unL, cst, cst1, cells1, reduceIte, Nat.reduceAdd, Nat.reduceMul, Nat.reduceEqDiff, bound, refsC, AV.cells, AV.ref1, flatC, oneC, elems, okLog, disj, befOf, Int.reduceLT, Int.reduceLE, Int.reduceToNat, Int.reducePow, Nat.reduceLeDiff, IntKind.bits, argT, Int.reduceMul, Int.reduceAdd, Int.reduceNeg, Int.reduceSub, Int.reduceEq, Nat.reduceLT, Row.get1, Row.getN, Row.set1, Row.setN, fillE, vW, renM, frM, subRow, Nat.reduceBNe, frs, frOk, frOut, hs]
    · simp only [vS, opP, Go.Vm.step, Go.Vm.ev, delM, setM, binL, binI, shI, binS, unL, cst, cst1, cells1, reduceIte, Nat.reduceAdd, Nat.reduceMul, Nat.reduceEqDiff, bound, refsC, AV.cells, AV.ref1, flatC, oneC, elems, okLog, disj, befOf, Int.reduceLT, Int.reduceLE, Int.reduceToNat, Int.reducePow, Nat.reduceLeDiff, IntKind.bits, argT, Int.reduceMul, Int.reduceAdd, Int.reduceNeg, Int.reduceSub, Int.reduceEq, Nat.reduceLT, Row.get1, Row.getN, Row.set1, Row.setN, fillE, vW, renM, frM, subRow, Nat.reduceBNe, frs, frOk, frOut, back, List.nil_append]
    · simp only [vS, opP, Go.Vm.step, Go.Vm.ev, delM, setM, binL, binI, shI, binS, unL, cst, cst1, cells1, reduceIte, Nat.reduceAdd, Nat.reduceMul, Nat.reduceEqDiff, bound, refsC, AV.cells, AV.ref1, flatC, oneC, elems, okLog, disj, befOf, Int.reduceLT, Int.reduceLE, Int.reduceToNat, Int.reducePow, Nat.reduceLeDiff, IntKind.bits, argT, Int.reduceMul, Int.reduceAdd, Int.reduceNeg, Int.reduceSub, Int.reduceEq, Nat.reduceLT, Row.get1, Row.getN, Row.set1, Row.setN, fillE, vW, renM, frM, subRow, Nat.reduceBNe, frs, frOk, frOut, back, effOf, List.nil_append, hs]
theorem Clone_none : CallOk Tryd.prog 26 [.k (.slice none 0 0)] M slot { v := .own slot 0 0 1, eff := [(slot, some ⟨1, []⟩)] } := by
  refine full_slices_Clone_byte_byte (σ := []) (k := 0) (Nat.le_of_ble_eq_true (by kernel_rfl)) (by simp) (by simp) (by simp) (by simp) ?_
  unfold lc_slices_Clone_byte_byte
  simp only [vS, opP, Go.Vm.step, Go.Vm.ev, delM, setM, binL, binI, shI, binS, unL, cst, cst1, cells1, reduceIte, Nat.reduceAdd, Nat.reduceMul, Nat.reduceEqDiff, bound, refsC, AV.cells, AV.ref1, flatC, oneC, elems, okLog, disj, befOf, Int.reduceLT, Int.reduceLE, Int.reduceToNat, Int.reducePow, Nat.reduceLeDiff, IntKind.bits, argT, Int.reduceMul, Int.reduceAdd, Int.reduceNeg, Int.reduceSub, Int.reduceEq, Nat.reduceLT, Row.get1, Row.getN, Row.set1, Row.setN, fillE, renM, List.filterMap_nil]
  refine retC_i ((Wk.nil' 2 1000 1 rfl (by decide) (by decide)).trans (Wk.norm [(1000, 0)] (by decide) (l2 := [(2, .own 0 0 0 1)]) (m2 := [(0, ⟨1, []⟩)]) (nb2 := 8) ?_ ?_)) [(0, 0)] rfl ?_ ?_
  · simp only [vS, opP, Go.Vm.step, Go.Vm.ev, delM, setM, binL, binI, shI, binS, unL, cst, cst1, cells1, reduceIte, Nat.reduceAdd, Nat.reduceMul, Nat.reduceEqDiff, bound, refsC, AV.cells, AV.ref1, flatC, oneC, elems, okLog, disj, befOf, Int.reduceLT, Int.reduceLE, Int.reduceToNat, Int.reducePow, Nat.reduceLeDiff, IntKind.bits, argT, Int.reduceMul, Int.reduceAdd, Int.reduceNeg, Int.reduceSub, Int.reduceEq, Nat.reduceLT, Row.get1, Row.getN, Row.set1, Row.setN, fillE, vW, renM, frM, subRow, Nat.reduceBNe, frs, frOk, frOut]
  · simp only [vS, opP, Go.Vm.step, Go.Vm.ev, delM, setM, binL, binI, shI, binS, unL, cst, cst1, cells1, reduceIte, Nat.reduceAdd, Nat.reduceMul, Nat.reduceEqDiff, bound, refsC, AV.cells, AV.ref1, flatC, oneC, elems, okLog, disj, befOf, Int.reduceLT, Int.reduceLE, Int.reduceToNat, Int.reducePow, Nat.reduceLeDiff, IntKind.bits, argT, Int.reduceMul, Int.reduceAdd, Int.reduceNeg, Int.reduceSub, Int.reduceEq, Nat.reduceLT, Row.get1, Row.getN, Row.set1, Row.setN, fillE, vW, renM, frM, subRow, Nat.reduceBNe, frs, frOk, frOut]
  · simp only [vS, opP, Go.Vm.step, Go.Vm.ev, delM, setM, binL, binI, shI, binS, unL, cst, cst1, cells1, reduceIte, Nat.reduceAdd, Nat.reduceMul, Nat.reduceEqDiff, bound, refsC, AV.cells, AV.ref1, flatC, oneC, elems, okLog, disj, befOf, Int.reduceLT, Int.reduceLE, Int.reduceToNat, Int.reducePow, Nat.reduceLeDiff, IntKind.bits, argT, Int.reduceMul, Int.reduceAdd, Int.reduceNeg, Int.reduceSub, Int.reduceEq, Nat.reduceLT, Row.get1, Row.getN, Row.set1, Row.setN, fillE, vW, renM, frM, subRow, Nat.reduceBNe, frs, frOk, frOut, back, List.nil_append]
  · simp only [vS, opP, Go.Vm.step, Go.Vm.ev, delM, setM, binL, binI, shI, binS, unL, cst, cst1, cells1, reduceIte, Nat.reduceAdd, Nat.reduceMul, Nat.reduceEqDiff, bound, refsC, AV.cells, AV.ref1, flatC, oneC, elems, okLog, disj, befOf, Int.reduceLT, Int.reduceLE, Int.reduceToNat, Int.reducePow, Nat.reduceLeDiff, IntKind.bits, argT, Int.reduceMul, Int.reduceAdd, Int.reduceNeg, Int.reduceSub, Int.reduceEq, Nat.reduceLT, Row.get1, Row.getN, Row.set1, Row.setN, fillE, vW, renM, frM, subRow, Nat.reduceBNe, frs, frOk, frOut, back, effOf, List.nil_append]

/-- The first j of a number's n bytes, the greatest ahead. -/
def putL (v : Int) (n j : Nat) : List Int := (List.range j).map fun t => v / 256 ^ (n - 1 - t) % 256
theorem putL_succ (v : Int) (n j : Nat) : putL v n (j + 1) = putL v n j ++ [v / 256 ^ (n - 1 - j) % 256] := by simp [putL, List.range_succ]
theorem putL_zero (v : Int) (n : Nat) : putL v n 0 = [] := rfl
theorem putL_length (v : Int) (n j : Nat) : (putL v n j).length = j := by simp [putL]
theorem byte_at {v : Int} {m : Nat} (hm : m ≤ 7) : IntKind.u8.wrap (v.fdiv (2 ^ min (IntKind.i64.wrap (8 * (m : Int))).toNat 64)) = v / 256 ^ m % 256 := by
  have e1 : IntKind.i64.wrap (8 * (m : Int)) = ((8 * m : Nat) : Int) := by rw [IntKind.wrap_i64]; omega
  rw [e1, Int.toNat_natCast, Nat.min_eq_left (by omega)]
  have e2 : (2 : Int) ^ (8 * m) = 256 ^ m := by rw [Int.pow_mul]; rfl
  have e3 : (0 : Int) ≤ 256 ^ m := Int.le_of_lt (Int.pow_pos (by omega))
  rw [e2, Int.fdiv_eq_ediv_of_nonneg _ e3]
  simp [IntKind.wrap, IntKind.bits, IntKind.signed]
theorem Put_gen {x : AV} {nb : List Int} (hs : ∀ s, sub s x = x) (hc : ∀ (M : Mem) (slot : Nat), CallOk Tryd.prog 26 [x] M slot { v := .own slot 0 nb.length 1, eff := [(slot, some ⟨1, enc (.i .u8) nb⟩)] })
    (hn : nb.length ≤ 10000000000) {v : Int} {n : Nat} (h1 : 0 < n) (h8 : n ≤ 8) : CallOk Tryd.prog 19 [x, .i .u64 v, .i .i64 n] M slot { v := bI (nb ++ putL v n n) } := by
  refine pure_wire_Put (Nat.le_of_ble_eq_true (by kernel_rfl)) ?_; unfold lc_wire_Put
  have e1 : ¬ (n : Int) < 1 := by omega
  have e2 : ¬ (8 : Int) < n := by omega
  have e3 : IntKind.i64.wrap ((n : Int) - 1) = (n : Int) - 1 - ((0 : Nat) : Int) := by rw [IntKind.wrap_i64]; omega
  simp only [vS, opP, Go.Vm.step, Go.Vm.ev, delM, setM, binL, binI, shI, binS, unL, cst, cst1, cells1, reduceIte, Nat.reduceAdd, Nat.reduceMul, Nat.reduceEqDiff, bound, refsC, AV.cells, AV.ref1, flatC, oneC, elems, okLog, disj, befOf, Int.reduceLT, Int.reduceLE, Int.reduceToNat, Int.reducePow, Nat.reduceLeDiff, IntKind.bits, argT, Int.reduceMul, Int.reduceAdd, Int.reduceNeg, Int.reduceSub, Int.reduceEq, Nat.reduceLT, Row.get1, Row.getN, Row.set1, Row.setN, fillE, hs]
  refine callP_ok (hc _ _) ?_
  simp only [vS, opP, Go.Vm.step, Go.Vm.ev, delM, setM, binL, binI, shI, binS, unL, cst, cst1, cells1, reduceIte, Nat.reduceAdd, Nat.reduceMul, Nat.reduceEqDiff, bound, refsC, AV.cells, AV.ref1, flatC, oneC, elems, okLog, disj, befOf, Int.reduceLT, Int.reduceLE, Int.reduceToNat, Int.reducePow, Nat.reduceLeDiff, IntKind.bits, argT, Int.reduceMul, Int.reduceAdd, Int.reduceNeg, Int.reduceSub, Int.reduceEq, Nat.reduceLT, Row.get1, Row.getN, Row.set1, Row.setN, fillE, e1, e2, e3]
  refine loop_by (fun j => j ≤ n) (fun j => n - j)
    (fun j => [(1, .i .u64 v), (7, .own 0 0 (nb.length + j) 1), (8, .i .i64 ((n : Int) - 1 - (j : Int)))]) (fun j => [(0, ⟨1, enc (.i .u8) (nb ++ putL v n j)⟩)]) 8 ?_ 0 (Nat.zero_le _) (Wk.norm [(16, 0)] (by decide) ?_ ?_)
  · intro j hj0
    by_cases hj : j < n
    · have hge : (0 : Int) ≤ (n : Int) - 1 - (j : Int) := by omega
      have hm : (n : Int) - 1 - (j : Int) = ((n - 1 - j : Nat) : Int) := by omega
      have hw : (0 : Int) ≤ IntKind.i64.wrap (8 * ((n - 1 - j : Nat) : Int)) := by rw [IntKind.wrap_i64]; omega
      have hw' : ¬ IntKind.i64.wrap (8 * ((n - 1 - j : Nat) : Int)) < 0 := by omega
      have hb := byte_at (v := v) (m := n - 1 - j) (by omega)
      have hl : (nb ++ putL v n j).length = nb.length + j := by rw [List.length_append, putL_length]
      have ht : (nb ++ putL v n j).take (nb.length + j) = nb ++ putL v n j := List.take_of_length_le (by omega)
      have e4 : nb.length + j + 1 ≤ 140737488355328 := by omega
      have e5 : nb.length + j + 1 ≤ 4611686018427387904 := by omega
      have e6 : IntKind.i64.wrap (((n - 1 - j : Nat) : Int) - 1) = (n : Int) - 1 - ((j + 1 : Nat) : Int) := by rw [IntKind.wrap_i64]; omega
      simp only [vS, opP, Go.Vm.step, Go.Vm.ev, delM, setM, binL, binI, shI, binS, unL, cst, cst1, cells1, reduceIte, Nat.reduceAdd, Nat.reduceMul, Nat.reduceEqDiff, bound, refsC, AV.cells, AV.ref1, flatC, oneC, elems, okLog, disj, befOf, Int.reduceLT, Int.reduceLE, Int.reduceToNat, Int.reducePow, Nat.reduceLeDiff, IntKind.bits, argT, Int.reduceMul, Int.reduceAdd, Int.reduceNeg, Int.reduceSub, Int.reduceEq, Nat.reduceLT, Row.get1, Row.getN, Row.set1, Row.setN, fillE, hm, Int.natCast_nonneg, hw', hb, ht, e4, e5, e6]
      refine ⟨j + 1, hj, by omega, Wk.norm [(80, 0)] (by decide) ?_ ?_⟩
      · simp only [vS, opP, Go.Vm.step, Go.Vm.ev, delM, setM, binL, binI, shI, binS, unL, cst, cst1, cells1, reduceIte, Nat.reduceAdd, Nat.reduceMul, Nat.reduceEqDiff, bound, refsC, AV.cells, AV.ref1, flatC, oneC, elems, okLog, disj, befOf, Int.reduceLT, Int.reduceLE, Int.reduceToNat, Int.reducePow, Nat.reduceLeDiff, IntKind.bits, argT, Int.reduceMul, Int.reduceAdd, Int.reduceNeg, Int.reduceSub, Int.reduceEq, Nat.reduceLT, Row.get1, Row.getN, Row.set1, Row.setN, fillE, vW, renM, frM, subRow, Nat.reduceBNe, frs, frOk, frOut, Nat.add_assoc]
      · simp only [vS, opP, Go.Vm.step, Go.Vm.ev, delM, setM, binL, binI, shI, binS, unL, cst, cst1, cells1, reduceIte, Nat.reduceAdd, Nat.reduceMul, Nat.reduceEqDiff, bound, refsC, AV.cells, AV.ref1, flatC, oneC, elems, okLog, disj, befOf, Int.reduceLT, Int.reduceLE, Int.reduceToNat, Int.reducePow, Nat.reduceLeDiff, IntKind.bits, argT, Int.reduceMul, Int.reduceAdd, Int.reduceNeg, Int.reduceSub, Int.reduceEq, Nat.reduceLT, Row.get1, Row.getN, Row.set1, Row.setN, fillE, vW, renM, frM, subRow, Nat.reduceBNe, frs, frOk, frOut, putL_succ, List.append_assoc]
    · obtain rfl : j = n := by omega
      have hge : ¬ (0 : Int) ≤ (j : Int) - 1 - (j : Int) := by omega
      have hl : (nb ++ putL v j j).length = nb.length + j := by rw [List.length_append, putL_length]
      have ht : (nb ++ putL v j j).take (nb.length + j) = nb ++ putL v j j := List.take_of_length_le (by omega)
      simp only [vS, opP, Go.Vm.step, Go.Vm.ev, delM, setM, binL, binI, shI, binS, unL, cst, cst1, cells1, reduceIte, Nat.reduceAdd, Nat.reduceMul, Nat.reduceEqDiff, bound, refsC, AV.cells, AV.ref1, flatC, oneC, elems, okLog, disj, befOf, Int.reduceLT, Int.reduceLE, Int.reduceToNat, Int.reducePow, Nat.reduceLeDiff, IntKind.bits, argT, Int.reduceMul, Int.reduceAdd, Int.reduceNeg, Int.reduceSub, Int.reduceEq, Nat.reduceLT, Row.get1, Row.getN, Row.set1, Row.setN, fillE, hge]
      refine run_rgnW (Wk.fr 0 (l2 := [(7, bI (nb ++ putL v j j))]) (m2 := []) (nb2 := 0) rfl ?_ ?_) ?_
      · simp only [vS, opP, Go.Vm.step, Go.Vm.ev, delM, setM, binL, binI, shI, binS, unL, cst, cst1, cells1, reduceIte, Nat.reduceAdd, Nat.reduceMul, Nat.reduceEqDiff, bound, refsC, AV.cells, AV.ref1, flatC, oneC, elems, okLog, disj, befOf, Int.reduceLT, Int.reduceLE, Int.reduceToNat, Int.reducePow, Nat.reduceLeDiff, IntKind.bits, argT, Int.reduceMul, Int.reduceAdd, Int.reduceNeg, Int.reduceSub, Int.reduceEq, Nat.reduceLT, Row.get1, Row.getN, Row.set1, Row.setN, fillE, vW, renM, frM, subRow, Nat.reduceBNe, frs, frOk, frOut, hl, ht]
      · simp only [vS, opP, Go.Vm.step, Go.Vm.ev, delM, setM, binL, binI, shI, binS, unL, cst, cst1, cells1, reduceIte, Nat.reduceAdd, Nat.reduceMul, Nat.reduceEqDiff, bound, refsC, AV.cells, AV.ref1, flatC, oneC, elems, okLog, disj, befOf, Int.reduceLT, Int.reduceLE, Int.reduceToNat, Int.reducePow, Nat.reduceLeDiff, IntKind.bits, argT, Int.reduceMul, Int.reduceAdd, Int.reduceNeg, Int.reduceSub, Int.reduceEq, Nat.reduceLT, Row.get1, Row.getN, Row.set1, Row.setN, fillE, vW, renM, frM, subRow, Nat.reduceBNe, frs, frOk, frOut]
      · simp only [vS, opP, Go.Vm.step, Go.Vm.ev, delM, setM, binL, binI, shI, binS, unL, cst, cst1, cells1, reduceIte, Nat.reduceAdd, Nat.reduceMul, Nat.reduceEqDiff, bound, refsC, AV.cells, AV.ref1, flatC, oneC, elems, okLog, disj, befOf, Int.reduceLT, Int.reduceLE, Int.reduceToNat, Int.reducePow, Nat.reduceLeDiff, IntKind.bits, argT, Int.reduceMul, Int.reduceAdd, Int.reduceNeg, Int.reduceSub, Int.reduceEq, Nat.reduceLT, Row.get1, Row.getN, Row.set1, Row.setN, fillE]
        refine callP_ok (Clip_ok) ?_
        simp only [vS, opP, Go.Vm.step, Go.Vm.ev, delM, setM, binL, binI, shI, binS, unL, cst, cst1, cells1, reduceIte, Nat.reduceAdd, Nat.reduceMul, Nat.reduceEqDiff, bound, refsC, AV.cells, AV.ref1, flatC, oneC, elems, okLog, disj, befOf, Int.reduceLT, Int.reduceLE, Int.reduceToNat, Int.reducePow, Nat.reduceLeDiff, IntKind.bits, argT, Int.reduceMul, Int.reduceAdd, Int.reduceNeg, Int.reduceSub, Int.reduceEq, Nat.reduceLT, Row.get1, Row.getN, Row.set1, Row.setN, fillE]
  · simp only [vS, opP, Go.Vm.step, Go.Vm.ev, delM, setM, binL, binI, shI, binS, unL, cst, cst1, cells1, reduceIte, Nat.reduceAdd, Nat.reduceMul, Nat.reduceEqDiff, bound, refsC, AV.cells, AV.ref1, flatC, oneC, elems, okLog, disj, befOf, Int.reduceLT, Int.reduceLE, Int.reduceToNat, Int.reducePow, Nat.reduceLeDiff, IntKind.bits, argT, Int.reduceMul, Int.reduceAdd, Int.reduceNeg, Int.reduceSub, Int.reduceEq, Nat.reduceLT, Row.get1, Row.getN, Row.set1, Row.setN, fillE, vW, renM, frM, subRow, Nat.reduceBNe, frs, frOk, frOut]
  · simp only [vS, opP, Go.Vm.step, Go.Vm.ev, delM, setM, binL, binI, shI, binS, unL, cst, cst1, cells1, reduceIte, Nat.reduceAdd, Nat.reduceMul, Nat.reduceEqDiff, bound, refsC, AV.cells, AV.ref1, flatC, oneC, elems, okLog, disj, befOf, Int.reduceLT, Int.reduceLE, Int.reduceToNat, Int.reducePow, Nat.reduceLeDiff, IntKind.bits, argT, Int.reduceMul, Int.reduceAdd, Int.reduceNeg, Int.reduceSub, Int.reduceEq, Nat.reduceLT, Row.get1, Row.getN, Row.set1, Row.setN, fillE, vW, renM, frM, subRow, Nat.reduceBNe, frs, frOk, frOut, putL_zero, List.append_nil]
theorem Put_bytes {nb : List Int} (hn : nb.length ≤ 10000000000) {v : Int} {n : Nat} (h1 : 0 < n) (h8 : n ≤ 8) : CallOk Tryd.prog 19 [bI nb, .i .u64 v, .i .i64 n] M slot { v := bI (nb ++ putL v n n) } :=
  Put_gen (fun s => by simp only [sub_deep, subLL_enc, sub_i, implies_true]) (fun _ _ => Clone_own (by omega)) hn h1 h8
theorem Put_none {v : Int} {n : Nat} (h1 : 0 < n) (h8 : n ≤ 8) : CallOk Tryd.prog 19 [.k (.slice none 0 0), .i .u64 v, .i .i64 n] M slot { v := bI (putL v n n) } :=
  Put_gen (nb := []) (fun s => rfl) (fun _ _ => Clone_none) (by simp) h1 h8
theorem Put_bad {nb : List Int} (hn : nb.length ≤ 10000000000) {v n : Int} (h : n < 1 ∨ 8 < n) : CallOk Tryd.prog 19 [bI nb, .i .u64 v, .i .i64 n] M slot { v := bI nb } := by
  refine pure_wire_Put (Nat.le_of_ble_eq_true (by kernel_rfl)) ?_; unfold lc_wire_Put
  simp only [vS, opP, Go.Vm.step, Go.Vm.ev, delM, setM, binL, binI, shI, binS, unL, cst, cst1, cells1, reduceIte, Nat.reduceAdd, Nat.reduceMul, Nat.reduceEqDiff, bound, refsC, AV.cells, AV.ref1, flatC, oneC, elems, okLog, disj, befOf, Int.reduceLT, Int.reduceLE, Int.reduceToNat, Int.reducePow, Nat.reduceLeDiff, IntKind.bits, argT, Int.reduceMul, Int.reduceAdd, Int.reduceNeg, Int.reduceSub, Int.reduceEq, Nat.reduceLT, Row.get1, Row.getN, Row.set1, Row.setN, fillE]
  refine callP_ok (Clone_own (by omega)) ?_
  by_cases h1 : n < 1
  · simp only [vS, opP, Go.Vm.step, Go.Vm.ev, delM, setM, binL, binI, shI, binS, unL, cst, cst1, cells1, reduceIte, Nat.reduceAdd, Nat.reduceMul, Nat.reduceEqDiff, bound, refsC, AV.cells, AV.ref1, flatC, oneC, elems, okLog, disj, befOf, Int.reduceLT, Int.reduceLE, Int.reduceToNat, Int.reducePow, Nat.reduceLeDiff, IntKind.bits, argT, Int.reduceMul, Int.reduceAdd, Int.reduceNeg, Int.reduceSub, Int.reduceEq, Nat.reduceLT, Row.get1, Row.getN, Row.set1, Row.setN, fillE, h1]
    refine run_rgnW (Wk.fr 16 (l2 := [(7, bI nb)]) (m2 := []) (nb2 := 0) rfl ?_ ?_) ?_
    · simp only [vS, opP, Go.Vm.step, Go.Vm.ev, delM, setM, binL, binI, shI, binS, unL, cst, cst1, cells1, reduceIte, Nat.reduceAdd, Nat.reduceMul, Nat.reduceEqDiff, bound, refsC, AV.cells, AV.ref1, flatC, oneC, elems, okLog, disj, befOf, Int.reduceLT, Int.reduceLE, Int.reduceToNat, Int.reducePow, Nat.reduceLeDiff, IntKind.bits, argT, Int.reduceMul, Int.reduceAdd, Int.reduceNeg, Int.reduceSub, Int.reduceEq, Nat.reduceLT, Row.get1, Row.getN, Row.set1, Row.setN, fillE, vW, renM, frM, subRow, Nat.reduceBNe, frs, frOk, frOut, List.take_length]
    · simp only [vS, opP, Go.Vm.step, Go.Vm.ev, delM, setM, binL, binI, shI, binS, unL, cst, cst1, cells1, reduceIte, Nat.reduceAdd, Nat.reduceMul, Nat.reduceEqDiff, bound, refsC, AV.cells, AV.ref1, flatC, oneC, elems, okLog, disj, befOf, Int.reduceLT, Int.reduceLE, Int.reduceToNat, Int.reducePow, Nat.reduceLeDiff, IntKind.bits, argT, Int.reduceMul, Int.reduceAdd, Int.reduceNeg, Int.reduceSub, Int.reduceEq, Nat.reduceLT, Row.get1, Row.getN, Row.set1, Row.setN, fillE, vW, renM, frM, subRow, Nat.reduceBNe, frs, frOk, frOut]
    · simp only [vS, opP, Go.Vm.step, Go.Vm.ev, delM, setM, binL, binI, shI, binS, unL, cst, cst1, cells1, reduceIte, Nat.reduceAdd, Nat.reduceMul, Nat.reduceEqDiff, bound, refsC, AV.cells, AV.ref1, flatC, oneC, elems, okLog, disj, befOf, Int.reduceLT, Int.reduceLE, Int.reduceToNat, Int.reducePow, Nat.reduceLeDiff, IntKind.bits, argT, Int.reduceMul, Int.reduceAdd, Int.reduceNeg, Int.reduceSub, Int.reduceEq, Nat.reduceLT, Row.get1, Row.getN, Row.set1, Row.setN, fillE]
  · have h2 : 8 < n := by omega
    simp only [vS, opP, Go.Vm.step, Go.Vm.ev, delM, setM, binL, binI, shI, binS, unL, cst, cst1, cells1, reduceIte, Nat.reduceAdd, Nat.reduceMul, Nat.reduceEqDiff, bound, refsC, AV.cells, AV.ref1, flatC, oneC, elems, okLog, disj, befOf, Int.reduceLT, Int.reduceLE, Int.reduceToNat, Int.reducePow, Nat.reduceLeDiff, IntKind.bits, argT, Int.reduceMul, Int.reduceAdd, Int.reduceNeg, Int.reduceSub, Int.reduceEq, Nat.reduceLT, Row.get1, Row.getN, Row.set1, Row.setN, fillE, h1, h2]
    refine run_rgnW (Wk.fr 16 (l2 := [(7, bI nb)]) (m2 := []) (nb2 := 0) rfl ?_ ?_) ?_
    · simp only [vS, opP, Go.Vm.step, Go.Vm.ev, delM, setM, binL, binI, shI, binS, unL, cst, cst1, cells1, reduceIte, Nat.reduceAdd, Nat.reduceMul, Nat.reduceEqDiff, bound, refsC, AV.cells, AV.ref1, flatC, oneC, elems, okLog, disj, befOf, Int.reduceLT, Int.reduceLE, Int.reduceToNat, Int.reducePow, Nat.reduceLeDiff, IntKind.bits, argT, Int.reduceMul, Int.reduceAdd, Int.reduceNeg, Int.reduceSub, Int.reduceEq, Nat.reduceLT, Row.get1, Row.getN, Row.set1, Row.setN, fillE, vW, renM, frM, subRow, Nat.reduceBNe, frs, frOk, frOut, List.take_length]
    · simp only [vS, opP, Go.Vm.step, Go.Vm.ev, delM, setM, binL, binI, shI, binS, unL, cst, cst1, cells1, reduceIte, Nat.reduceAdd, Nat.reduceMul, Nat.reduceEqDiff, bound, refsC, AV.cells, AV.ref1, flatC, oneC, elems, okLog, disj, befOf, Int.reduceLT, Int.reduceLE, Int.reduceToNat, Int.reducePow, Nat.reduceLeDiff, IntKind.bits, argT, Int.reduceMul, Int.reduceAdd, Int.reduceNeg, Int.reduceSub, Int.reduceEq, Nat.reduceLT, Row.get1, Row.getN, Row.set1, Row.setN, fillE, vW, renM, frM, subRow, Nat.reduceBNe, frs, frOk, frOut]
    · simp only [vS, opP, Go.Vm.step, Go.Vm.ev, delM, setM, binL, binI, shI, binS, unL, cst, cst1, cells1, reduceIte, Nat.reduceAdd, Nat.reduceMul, Nat.reduceEqDiff, bound, refsC, AV.cells, AV.ref1, flatC, oneC, elems, okLog, disj, befOf, Int.reduceLT, Int.reduceLE, Int.reduceToNat, Int.reducePow, Nat.reduceLeDiff, IntKind.bits, argT, Int.reduceMul, Int.reduceAdd, Int.reduceNeg, Int.reduceSub, Int.reduceEq, Nat.reduceLT, Row.get1, Row.getN, Row.set1, Row.setN, fillE]

/-- Bytes, each of them one. -/
def Byt (ns : List Int) : Prop := ∀ n ∈ ns, 0 ≤ n ∧ n ≤ 255
theorem Byt.take {ns : List Int} (h : Byt ns) (i : Nat) : Byt (ns.take i) := fun n hn => h n (List.mem_of_mem_take hn)
theorem Byt.drop {ns : List Int} (h : Byt ns) (i : Nat) : Byt (ns.drop i) := fun n hn => h n (List.mem_of_mem_drop hn)
theorem Byt.append {a b : List Int} (h : Byt a) (h2 : Byt b) : Byt (a ++ b) := fun n hn => by
  rcases List.mem_append.1 hn with h3 | h3
  · exact h n h3
  · exact h2 n h3
theorem putL_byt (v : Int) (n j : Nat) : Byt (putL v n j) := by
  intro x hx
  simp only [putL, List.mem_map] at hx
  obtain ⟨t, _, rfl⟩ := hx
  omega
theorem Take_arg {nb : List Int} {n : Int} (h : n < 1 ∨ 8 < n) : CallOk Tryd.prog 37 [bI nb, .i .i64 n] M slot { v := .tup [.i .u64 0, .k (.slice none 0 0), .ifc 63 (.i .i64 1)] } := by
  refine pure_wire_Take (Nat.le_of_ble_eq_true (by kernel_rfl)) ?_; unfold lc_wire_Take
  by_cases h1 : n < 1
  · simp only [vS, opP, Go.Vm.step, Go.Vm.ev, delM, setM, binL, binI, shI, binS, unL, cst, cst1, cells1, reduceIte, Nat.reduceAdd, Nat.reduceMul, Nat.reduceEqDiff, bound, refsC, AV.cells, AV.ref1, flatC, oneC, elems, okLog, disj, befOf, Int.reduceLT, Int.reduceLE, Int.reduceToNat, Int.reducePow, Nat.reduceLeDiff, IntKind.bits, argT, Int.reduceMul, Int.reduceAdd, Int.reduceNeg, Int.reduceSub, Int.reduceEq, Nat.reduceLT, Row.get1, Row.getN, Row.set1, Row.setN, fillE, h1]
  · have h2 : 8 < n := by omega
    simp only [vS, opP, Go.Vm.step, Go.Vm.ev, delM, setM, binL, binI, shI, binS, unL, cst, cst1, cells1, reduceIte, Nat.reduceAdd, Nat.reduceMul, Nat.reduceEqDiff, bound, refsC, AV.cells, AV.ref1, flatC, oneC, elems, okLog, disj, befOf, Int.reduceLT, Int.reduceLE, Int.reduceToNat, Int.reducePow, Nat.reduceLeDiff, IntKind.bits, argT, Int.reduceMul, Int.reduceAdd, Int.reduceNeg, Int.reduceSub, Int.reduceEq, Nat.reduceLT, Row.get1, Row.getN, Row.set1, Row.setN, fillE, h1, h2]
theorem Take_end {nb : List Int} {n : Nat} (h1 : 0 < n) (h8 : n ≤ 8) (h : nb.length < n) : CallOk Tryd.prog 37 [bI nb, .i .i64 n] M slot { v := .tup [.i .u64 0, .k (.slice none 0 0), .ifc 63 (.i .i64 4)] } := by
  refine pure_wire_Take (Nat.le_of_ble_eq_true (by kernel_rfl)) ?_; unfold lc_wire_Take
  have e1 : ¬ (n : Int) < 1 := by omega
  have e2 : ¬ (8 : Int) < n := by omega
  simp only [vS, opP, Go.Vm.step, Go.Vm.ev, delM, setM, binL, binI, shI, binS, unL, cst, cst1, cells1, reduceIte, Nat.reduceAdd, Nat.reduceMul, Nat.reduceEqDiff, bound, refsC, AV.cells, AV.ref1, flatC, oneC, elems, okLog, disj, befOf, Int.reduceLT, Int.reduceLE, Int.reduceToNat, Int.reducePow, Nat.reduceLeDiff, IntKind.bits, argT, Int.reduceMul, Int.reduceAdd, Int.reduceNeg, Int.reduceSub, Int.reduceEq, Nat.reduceLT, Row.get1, Row.getN, Row.set1, Row.setN, fillE, e1, e2, h]
theorem Take_ok {nb : List Int} {n : Nat} (h1 : 0 < n) (h8 : n ≤ 8) (h : n ≤ nb.length) (hb : Byt nb) (hn : nb.length ≤ 140737488351232) :
    CallOk Tryd.prog 37 [bI nb, .i .i64 n] M slot { v := .tup [.i .u64 (numB (nb.take n)), bI (nb.drop n), .k .nilIface] } := by
  refine pure_wire_Take (Nat.le_of_ble_eq_true (by kernel_rfl)) ?_; unfold lc_wire_Take
  have e1 : ¬ (n : Int) < 1 := by omega
  have e2 : ¬ (8 : Int) < n := by omega
  have e3 : ¬ nb.length < n := by omega
  have e4 : (nb.drop n).take (nb.length - n) = nb.drop n := List.take_of_length_le (by simp)
  simp only [vS, opP, Go.Vm.step, Go.Vm.ev, delM, setM, binL, binI, shI, binS, unL, cst, cst1, cells1, reduceIte, Nat.reduceAdd, Nat.reduceMul, Nat.reduceEqDiff, bound, refsC, AV.cells, AV.ref1, flatC, oneC, elems, okLog, disj, befOf, Int.reduceLT, Int.reduceLE, Int.reduceToNat, Int.reducePow, Nat.reduceLeDiff, IntKind.bits, argT, Int.reduceMul, Int.reduceAdd, Int.reduceNeg, Int.reduceSub, Int.reduceEq, Nat.reduceLT, Row.get1, Row.getN, Row.set1, Row.setN, fillE, e1, e2, e3, h]
  refine callP_ok (number_ok (by simp; omega) (hb.take n)) ?_
  simp only [vS, opP, Go.Vm.step, Go.Vm.ev, delM, setM, binL, binI, shI, binS, unL, cst, cst1, cells1, reduceIte, Nat.reduceAdd, Nat.reduceMul, Nat.reduceEqDiff, bound, refsC, AV.cells, AV.ref1, flatC, oneC, elems, okLog, disj, befOf, Int.reduceLT, Int.reduceLE, Int.reduceToNat, Int.reducePow, Nat.reduceLeDiff, IntKind.bits, argT, Int.reduceMul, Int.reduceAdd, Int.reduceNeg, Int.reduceSub, Int.reduceEq, Nat.reduceLT, Row.get1, Row.getN, Row.set1, Row.setN, fillE, h, e4]
  refine callP_ok (Clone_bytes (by simp; omega)) ?_
  simp only [vS, opP, Go.Vm.step, Go.Vm.ev, delM, setM, binL, binI, shI, binS, unL, cst, cst1, cells1, reduceIte, Nat.reduceAdd, Nat.reduceMul, Nat.reduceEqDiff, bound, refsC, AV.cells, AV.ref1, flatC, oneC, elems, okLog, disj, befOf, Int.reduceLT, Int.reduceLE, Int.reduceToNat, Int.reducePow, Nat.reduceLeDiff, IntKind.bits, argT, Int.reduceMul, Int.reduceAdd, Int.reduceNeg, Int.reduceSub, Int.reduceEq, Nat.reduceLT, Row.get1, Row.getN, Row.set1, Row.setN, fillE]
theorem Signed_ok {v : Int} : CallOk Tryd.prog 28 [.i .u64 v] M slot { v := .i .i32 (IntKind.i32.wrap (IntKind.u32.wrap v)) } := by
  refine pure_wire_Signed (Nat.le_of_ble_eq_true (by kernel_rfl)) ?_; unfold lc_wire_Signed
  simp only [vS, opP, Go.Vm.step, Go.Vm.ev, delM, setM, binL, binI, shI, binS, unL, cst, cst1, cells1, reduceIte, Nat.reduceAdd, Nat.reduceMul, Nat.reduceEqDiff, bound, refsC, AV.cells, AV.ref1, flatC, oneC, elems, okLog, disj, befOf, Int.reduceLT, Int.reduceLE, Int.reduceToNat, Int.reducePow, Nat.reduceLeDiff, IntKind.bits, argT, Int.reduceMul, Int.reduceAdd, Int.reduceNeg, Int.reduceSub, Int.reduceEq, Nat.reduceLT, Row.get1, Row.getN, Row.set1, Row.setN, fillE]

theorem Clip_own {id n : Nat} {ns : List Int} (hM : M id = some ⟨1, enc (.i .u8) ns⟩) : CallOk Tryd.prog 31 [.own id 0 n 1] M slot { v := .own id 0 n 1, eff := [(id, some ⟨1, enc (.i .u8) ns⟩)], rd := [id] } := by
  refine full_slices_Clip_byte_byte (σ := [(id, 0)]) (k := 1) (Nat.le_of_ble_eq_true (by kernel_rfl)) (by simp) rfl (by simp) (by simp [hM]) ?_
  unfold lc_slices_Clip_byte_byte
  have hren : renM M [(id, 0)] = [(0, ⟨1, enc (.i .u8) ns⟩)] := by
    simp only [renM, List.filterMap_cons, List.filterMap_nil, hM, Option.map_some, subRow, subLL_enc (f := AV.i .u8) fun _ => rfl]
  rw [hren]
  have hsub : sub (ren (lkσ [(id, 0)])) (.own id 0 n 1) = .own 0 0 n 1 := by simp [sub, ren, lkσ]
  simp only [vS, opP, Go.Vm.step, Go.Vm.ev, delM, setM, binL, binI, shI, binS, unL, cst, cst1, cells1, reduceIte, Nat.reduceAdd, Nat.reduceMul, Nat.reduceEqDiff, bound, refsC, AV.cells, AV.ref1, flatC, oneC, elems, okLog, disj, befOf, Int.reduceLT, Int.reduceLE, Int.reduceToNat, Int.reducePow, Nat.reduceLeDiff, IntKind.bits, argT, Int.reduceMul, Int.reduceAdd, Int.reduceNeg, Int.reduceSub, Int.reduceEq, Nat.reduceLT, Row.get1, Row.getN, Row.set1, Row.setN, fillE, hsub]
  refine retC_i (Wk.refl _ _ _ _ _) [] rfl ?_ ?_
  · simp [back, sub, ren, lkσ, resV, lkT]
  · simp only [back, effOf, lkM, List.map_cons, List.map_nil, List.append_nil, Option.map_some, subRow, subLL_enc (f := AV.i .u8) fun _ => rfl, if_true]
theorem Put_ownG {x : AV} {nb : List Int} (hs : ∀ s, sub s x = x) (hc : ∀ (M : Mem) (slot : Nat), CallOk Tryd.prog 26 [x] M slot { v := .own slot 0 nb.length 1, eff := [(slot, some ⟨1, enc (.i .u8) nb⟩)] })
    (hn : nb.length ≤ 10000000000) {v : Int} {n : Nat} (h1 : 0 < n) (h8 : n ≤ 8) : CallOk Tryd.prog 19 [x, .i .u64 v, .i .i64 n] M slot { v := .own slot 0 (nb.length + n) 1, eff := [(slot, some ⟨1, enc (.i .u8) (nb ++ putL v n n)⟩)] } := by
  refine full_wire_Put (σ := []) (k := 0) (Nat.le_of_ble_eq_true (by kernel_rfl)) (by simp) (by simp) (by simp) (by simp) ?_
  unfold lc_wire_Put
  have e1 : ¬ (n : Int) < 1 := by omega
  have e2 : ¬ (8 : Int) < n := by omega
  have e3 : IntKind.i64.wrap ((n : Int) - 1) = (n : Int) - 1 - ((0 : Nat) : Int) := by rw [IntKind.wrap_i64]; omega
  simp only [vS, opP, Go.Vm.step, Go.Vm.ev, delM, setM, binL, binI, shI, binS, unL, cst, cst1, cells1, reduceIte, Nat.reduceAdd, Nat.reduceMul, Nat.reduceEqDiff, bound, refsC, AV.cells, AV.ref1, flatC, oneC, elems, okLog, disj, befOf, Int.reduceLT, Int.reduceLE, Int.reduceToNat, Int.reducePow, Nat.reduceLeDiff, IntKind.bits, argT, Int.reduceMul, Int.reduceAdd, Int.reduceNeg, Int.reduceSub, Int.reduceEq, Nat.reduceLT, Row.get1, Row.getN, Row.set1, Row.setN, fillE, hs, renM, List.filterMap_nil]
  refine callP_ok (hc _ _) ?_
  simp only [vS, opP, Go.Vm.step, Go.Vm.ev, delM, setM, binL, binI, shI, binS, unL, cst, cst1, cells1, reduceIte, Nat.reduceAdd, Nat.reduceMul, Nat.reduceEqDiff, bound, refsC, AV.cells, AV.ref1, flatC, oneC, elems, okLog, disj, befOf, Int.reduceLT, Int.reduceLE, Int.reduceToNat, Int.reducePow, Nat.reduceLeDiff, IntKind.bits, argT, Int.reduceMul, Int.reduceAdd, Int.reduceNeg, Int.reduceSub, Int.reduceEq, Nat.reduceLT, Row.get1, Row.getN, Row.set1, Row.setN, fillE, e1, e2, e3]
  refine loop_by (fun j => j ≤ n) (fun j => n - j)
    (fun j => [(1, .i .u64 v), (7, .own 0 0 (nb.length + j) 1), (8, .i .i64 ((n : Int) - 1 - (j : Int)))]) (fun j => [(0, ⟨1, enc (.i .u8) (nb ++ putL v n j)⟩)]) 8 ?_ 0 (Nat.zero_le _) (Wk.norm [(16, 0)] (by decide) ?_ ?_)
  · intro j hj0
    by_cases hj : j < n
    · have hge : (0 : Int) ≤ (n : Int) - 1 - (j : Int) := by omega
      have hm : (n : Int) - 1 - (j : Int) = ((n - 1 - j : Nat) : Int) := by omega
      have hw : (0 : Int) ≤ IntKind.i64.wrap (8 * ((n - 1 - j : Nat) : Int)) := by rw [IntKind.wrap_i64]; omega
      have hw' : ¬ IntKind.i64.wrap (8 * ((n - 1 - j : Nat) : Int)) < 0 := by omega
      have hb := byte_at (v := v) (m := n - 1 - j) (by omega)
      have hl : (nb ++ putL v n j).length = nb.length + j := by rw [List.length_append, putL_length]
      have ht : (nb ++ putL v n j).take (nb.length + j) = nb ++ putL v n j := List.take_of_length_le (by omega)
      have e4 : nb.length + j + 1 ≤ 140737488355328 := by omega
      have e5 : nb.length + j + 1 ≤ 4611686018427387904 := by omega
      have e6 : IntKind.i64.wrap (((n - 1 - j : Nat) : Int) - 1) = (n : Int) - 1 - ((j + 1 : Nat) : Int) := by rw [IntKind.wrap_i64]; omega
      simp only [vS, opP, Go.Vm.step, Go.Vm.ev, delM, setM, binL, binI, shI, binS, unL, cst, cst1, cells1, reduceIte, Nat.reduceAdd, Nat.reduceMul, Nat.reduceEqDiff, bound, refsC, AV.cells, AV.ref1, flatC, oneC, elems, okLog, disj, befOf, Int.reduceLT, Int.reduceLE, Int.reduceToNat, Int.reducePow, Nat.reduceLeDiff, IntKind.bits, argT, Int.reduceMul, Int.reduceAdd, Int.reduceNeg, Int.reduceSub, Int.reduceEq, Nat.reduceLT, Row.get1, Row.getN, Row.set1, Row.setN, fillE, hm, Int.natCast_nonneg, hw', hb, ht, e4, e5, e6]
      refine ⟨j + 1, hj, by omega, Wk.norm [(80, 0)] (by decide) ?_ ?_⟩
      · simp only [vS, opP, Go.Vm.step, Go.Vm.ev, delM, setM, binL, binI, shI, binS, unL, cst, cst1, cells1, reduceIte, Nat.reduceAdd, Nat.reduceMul, Nat.reduceEqDiff, bound, refsC, AV.cells, AV.ref1, flatC, oneC, elems, okLog, disj, befOf, Int.reduceLT, Int.reduceLE, Int.reduceToNat, Int.reducePow, Nat.reduceLeDiff, IntKind.bits, argT, Int.reduceMul, Int.reduceAdd, Int.reduceNeg, Int.reduceSub, Int.reduceEq, Nat.reduceLT, Row.get1, Row.getN, Row.set1, Row.setN, fillE, vW, renM, frM, subRow, Nat.reduceBNe, frs, frOk, frOut, Nat.add_assoc]
      · simp only [vS, opP, Go.Vm.step, Go.Vm.ev, delM, setM, binL, binI, shI, binS, unL, cst, cst1, cells1, reduceIte, Nat.reduceAdd, Nat.reduceMul, Nat.reduceEqDiff, bound, refsC, AV.cells, AV.ref1, flatC, oneC, elems, okLog, disj, befOf, Int.reduceLT, Int.reduceLE, Int.reduceToNat, Int.reducePow, Nat.reduceLeDiff, IntKind.bits, argT, Int.reduceMul, Int.reduceAdd, Int.reduceNeg, Int.reduceSub, Int.reduceEq, Nat.reduceLT, Row.get1, Row.getN, Row.set1, Row.setN, fillE, vW, renM, frM, subRow, Nat.reduceBNe, frs, frOk, frOut, putL_succ, List.append_assoc]
    · obtain rfl : j = n := by omega
      have hge : ¬ (0 : Int) ≤ (j : Int) - 1 - (j : Int) := by omega
      have hl : (nb ++ putL v j j).length = nb.length + j := by rw [List.length_append, putL_length]
      have ht : (nb ++ putL v j j).take (nb.length + j) = nb ++ putL v j j := List.take_of_length_le (by omega)
      simp only [vS, opP, Go.Vm.step, Go.Vm.ev, delM, setM, binL, binI, shI, binS, unL, cst, cst1, cells1, reduceIte, Nat.reduceAdd, Nat.reduceMul, Nat.reduceEqDiff, bound, refsC, AV.cells, AV.ref1, flatC, oneC, elems, okLog, disj, befOf, Int.reduceLT, Int.reduceLE, Int.reduceToNat, Int.reducePow, Nat.reduceLeDiff, IntKind.bits, argT, Int.reduceMul, Int.reduceAdd, Int.reduceNeg, Int.reduceSub, Int.reduceEq, Nat.reduceLT, Row.get1, Row.getN, Row.set1, Row.setN, fillE, hge]
      refine run_rgnW (Wk.refl _ _ _ _ _) ?_
      simp only [vS, opP, Go.Vm.step, Go.Vm.ev, delM, setM, binL, binI, shI, binS, unL, cst, cst1, cells1, reduceIte, Nat.reduceAdd, Nat.reduceMul, Nat.reduceEqDiff, bound, refsC, AV.cells, AV.ref1, flatC, oneC, elems, okLog, disj, befOf, Int.reduceLT, Int.reduceLE, Int.reduceToNat, Int.reducePow, Nat.reduceLeDiff, IntKind.bits, argT, Int.reduceMul, Int.reduceAdd, Int.reduceNeg, Int.reduceSub, Int.reduceEq, Nat.reduceLT, Row.get1, Row.getN, Row.set1, Row.setN, fillE]
      refine callP_ok (Clip_own (ns := nb ++ putL v j j) rfl) ?_
      simp only [vS, opP, Go.Vm.step, Go.Vm.ev, delM, setM, binL, binI, shI, binS, unL, cst, cst1, cells1, reduceIte, Nat.reduceAdd, Nat.reduceMul, Nat.reduceEqDiff, bound, refsC, AV.cells, AV.ref1, flatC, oneC, elems, okLog, disj, befOf, Int.reduceLT, Int.reduceLE, Int.reduceToNat, Int.reducePow, Nat.reduceLeDiff, IntKind.bits, argT, Int.reduceMul, Int.reduceAdd, Int.reduceNeg, Int.reduceSub, Int.reduceEq, Nat.reduceLT, Row.get1, Row.getN, Row.set1, Row.setN, fillE]
      refine retC_i (Wk.norm [(0, 0)] (by decide) (l2 := [(6, .own 0 0 (nb.length + j) 1)]) (m2 := [(0, ⟨1, enc (.i .u8) (nb ++ putL v j j)⟩)]) (nb2 := 8) ?_ ?_) [(0, 0)] rfl ?_ ?_
      · simp only [vS, opP, Go.Vm.step, Go.Vm.ev, delM, setM, binL, binI, shI, binS, unL, cst, cst1, cells1, reduceIte, Nat.reduceAdd, Nat.reduceMul, Nat.reduceEqDiff, bound, refsC, AV.cells, AV.ref1, flatC, oneC, elems, okLog, disj, befOf, Int.reduceLT, Int.reduceLE, Int.reduceToNat, Int.reducePow, Nat.reduceLeDiff, IntKind.bits, argT, Int.reduceMul, Int.reduceAdd, Int.reduceNeg, Int.reduceSub, Int.reduceEq, Nat.reduceLT, Row.get1, Row.getN, Row.set1, Row.setN, fillE, vW, renM, frM, subRow, Nat.reduceBNe, frs, frOk, frOut]
      · simp only [vS, opP, Go.Vm.step, Go.Vm.ev, delM, setM, binL, binI, shI, binS, unL, cst, cst1, cells1, reduceIte, Nat.reduceAdd, Nat.reduceMul, Nat.reduceEqDiff, bound, refsC, AV.cells, AV.ref1, flatC, oneC, elems, okLog, disj, befOf, Int.reduceLT, Int.reduceLE, Int.reduceToNat, Int.reducePow, Nat.reduceLeDiff, IntKind.bits, argT, Int.reduceMul, Int.reduceAdd, Int.reduceNeg, Int.reduceSub, Int.reduceEq, Nat.reduceLT, Row.get1, Row.getN, Row.set1, Row.setN, fillE, vW, renM, frM, subRow, Nat.reduceBNe, frs, frOk, frOut]
      · simp only [vS, opP, Go.Vm.step, Go.Vm.ev, delM, setM, binL, binI, shI, binS, unL, cst, cst1, cells1, reduceIte, Nat.reduceAdd, Nat.reduceMul, Nat.reduceEqDiff, bound, refsC, AV.cells, AV.ref1, flatC, oneC, elems, okLog, disj, befOf, Int.reduceLT, Int.reduceLE, Int.reduceToNat, Int.reducePow, Nat.reduceLeDiff, IntKind.bits, argT, Int.reduceMul, Int.reduceAdd, Int.reduceNeg, Int.reduceSub, Int.reduceEq, Nat.reduceLT, Row.get1, Row.getN, Row.set1, Row.setN, fillE, vW, renM, frM, subRow, Nat.reduceBNe, frs, frOk, frOut, back, List.nil_append]
      · simp only [vS, opP, Go.Vm.step, Go.Vm.ev, delM, setM, binL, binI, shI, binS, unL, cst, cst1, cells1, reduceIte, Nat.reduceAdd, Nat.reduceMul, Nat.reduceEqDiff, bound, refsC, AV.cells, AV.ref1, flatC, oneC, elems, okLog, disj, befOf, Int.reduceLT, Int.reduceLE, Int.reduceToNat, Int.reducePow, Nat.reduceLeDiff, IntKind.bits, argT, Int.reduceMul, Int.reduceAdd, Int.reduceNeg, Int.reduceSub, Int.reduceEq, Nat.reduceLT, Row.get1, Row.getN, Row.set1, Row.setN, fillE, vW, renM, frM, subRow, Nat.reduceBNe, frs, frOk, frOut, back, effOf, List.nil_append]
  · simp only [vS, opP, Go.Vm.step, Go.Vm.ev, delM, setM, binL, binI, shI, binS, unL, cst, cst1, cells1, reduceIte, Nat.reduceAdd, Nat.reduceMul, Nat.reduceEqDiff, bound, refsC, AV.cells, AV.ref1, flatC, oneC, elems, okLog, disj, befOf, Int.reduceLT, Int.reduceLE, Int.reduceToNat, Int.reducePow, Nat.reduceLeDiff, IntKind.bits, argT, Int.reduceMul, Int.reduceAdd, Int.reduceNeg, Int.reduceSub, Int.reduceEq, Nat.reduceLT, Row.get1, Row.getN, Row.set1, Row.setN, fillE, vW, renM, frM, subRow, Nat.reduceBNe, frs, frOk, frOut]
  · simp only [vS, opP, Go.Vm.step, Go.Vm.ev, delM, setM, binL, binI, shI, binS, unL, cst, cst1, cells1, reduceIte, Nat.reduceAdd, Nat.reduceMul, Nat.reduceEqDiff, bound, refsC, AV.cells, AV.ref1, flatC, oneC, elems, okLog, disj, befOf, Int.reduceLT, Int.reduceLE, Int.reduceToNat, Int.reducePow, Nat.reduceLeDiff, IntKind.bits, argT, Int.reduceMul, Int.reduceAdd, Int.reduceNeg, Int.reduceSub, Int.reduceEq, Nat.reduceLT, Row.get1, Row.getN, Row.set1, Row.setN, fillE, vW, renM, frM, subRow, Nat.reduceBNe, frs, frOk, frOut, putL_zero, List.append_nil]
theorem Put_own {nb : List Int} (hn : nb.length ≤ 10000000000) {v : Int} {n : Nat} (h1 : 0 < n) (h8 : n ≤ 8) : CallOk Tryd.prog 19 [bI nb, .i .u64 v, .i .i64 n] M slot { v := .own slot 0 (nb.length + n) 1, eff := [(slot, some ⟨1, enc (.i .u8) (nb ++ putL v n n)⟩)] } :=
  Put_ownG (fun s => by simp only [sub_deep, subLL_enc, sub_i, implies_true]) (fun _ _ => Clone_own (by omega)) hn h1 h8
/-- Handed a row, which is used up. -/
theorem Put_row {id : Nat} {nb : List Int} (hM : M id = some ⟨1, enc (.i .u8) nb⟩) (hn : nb.length ≤ 10000000000) {v : Int} {n : Nat} (h1 : 0 < n) (h8 : n ≤ 8) :
    CallOk Tryd.prog 19 [.own id 0 nb.length 1, .i .u64 v, .i .i64 n] M slot { v := .own slot 0 (nb.length + n) 1, eff := [(id, none), (slot, some ⟨1, enc (.i .u8) (nb ++ putL v n n)⟩)], rd := [id] } := by
  refine callOk_frE [(id, ⟨1, enc (.i .u8) nb⟩)] (Put_own hn h1 h8) ⟨hM, trivial⟩ ?_ (by simp)
  simp only [vS, opP, Go.Vm.step, Go.Vm.ev, delM, setM, binL, binI, shI, binS, unL, cst, cst1, cells1, reduceIte, Nat.reduceAdd, Nat.reduceMul, Nat.reduceEqDiff, bound, refsC, AV.cells, AV.ref1, flatC, oneC, elems, okLog, disj, befOf, Int.reduceLT, Int.reduceLE, Int.reduceToNat, Int.reducePow, Nat.reduceLeDiff, IntKind.bits, argT, Int.reduceMul, Int.reduceAdd, Int.reduceNeg, Int.reduceSub, Int.reduceEq, Nat.reduceLT, Row.get1, Row.getN, Row.set1, Row.setN, fillE, vW, renM, frM, subRow, Nat.reduceBNe, frs, frOk, frOut, enc_length, List.take_length, List.drop_zero]
end
end Go.Proofs.YtopjkgappjgjnaaDoor
