import Derived.Test.YtndaokjifafhkaaGreatDoorTwK
import Derived.Test.YtndaokjifafhkaaGreatDoorTwTab
import Derived.Test.YtndaokjifafhkaaGreatDoorTwW
/- Every special function's contract. -/
namespace Go.Proofs.Tw
set_option linter.unusedSectionVars false
set_option linter.unusedSimpArgs false
set_option linter.unusedVariables false
set_option maxRecDepth 100000
open Go Go.Vm Go.Vx
theorem nameE {f : Nat} {fn : Func} (h : (fn.name == "runtime.NumGoroutine") = false) : (fn.name == "runtime.NumGoroutine") = false := h
theorem so_ok {k : Nat} {xs : List AV} {M : Mem} {nb : Nat} {out : Out} {nb' : Nat} (h : so k xs M nb = some (out, nb')) : nb' = nb ∧ ∀ V, CallW Tryz.prog k xs M V out := by
  unfold so at h
  simp only [bK_eq] at h
  split at h
  · rename_i e; obtain rfl := Nat.eq_of_beq_eq_true e
    exact soLoad_ok Tryz.func112 (by kernel_rfl) (by kernel_rfl) (by kernel_rfl) x112 h
  split at h
  · rename_i e; obtain rfl := Nat.eq_of_beq_eq_true e
    exact soLoad_ok Tryz.func264 (by kernel_rfl) (by kernel_rfl) (by kernel_rfl) x264 h
  split at h
  · rename_i e; obtain rfl := Nat.eq_of_beq_eq_true e
    exact soAdd_ok Tryz.func203 (by kernel_rfl) (by kernel_rfl) (by kernel_rfl) x203 sz1 h
  split at h
  · rename_i e; obtain rfl := Nat.eq_of_beq_eq_true e
    exact soIndex_ok Tryz.func328 (by kernel_rfl) (by kernel_rfl) (by kernel_rfl) (by kernel_rfl) h
  split at h
  · rename_i e; obtain rfl := Nat.eq_of_beq_eq_true e
    exact soCount_ok Tryz.func237 (by kernel_rfl) (by kernel_rfl) (by kernel_rfl) (by kernel_rfl) h
  split at h
  · rename_i e; obtain rfl := Nat.eq_of_beq_eq_true e
    exact check_ok h
  split at h
  · rename_i e; obtain rfl := Nat.eq_of_beq_eq_true e
    exact str_ok h
  split at h
  · rename_i e; obtain rfl := Nat.eq_of_beq_eq_true e
    exact as_ok h
  · cases h
theorem sp_ok : SpOk Tryz.prog tab sp := by
  intro call hcall f k htab xs m nb v m' nb' r w h
  have e := tab_ok f
  rw [htab] at e
  obtain rfl : f = k := e
  unfold sp at h
  simp only [bK_eq] at h
  split at h
  · rename_i e; obtain rfl := Nat.eq_of_beq_eq_true e
    split at h
    · rename_i e; exact once_ok hcall e h
    · cases h
  split at h
  · rename_i e; obtain rfl := Nat.eq_of_beq_eq_true e
    exact spOut_ok1 (fun out nb' h => clone_ok h) h
  · exact spOut_ok (fun out nb' h => so_ok h) h
theorem cal341 : Callable Tryz.prog 341 := ⟨Tryz.f341, Tryz.f341.body.getD .skip, Tryz.func341, by kernel_rfl, by kernel_rfl⟩
theorem mix : Tryz.prog.follows .mixedOrders = true := by kernel_rfl
theorem tab_holds : TabOk Tryz.prog SpD tab := ⟨mix, fun f np ic res h => by
  have e := tab_ok f
  rw [h] at e
  exact e⟩
theorem spc_holds : SpcOk Tryz.prog SpD spc := spc_ok back_ok cal341
end Go.Proofs.Tw
