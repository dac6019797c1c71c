/- PermOrbits: for every list of numbers and every number the law returns true, and the arguments read as before. No condition. -/
import Derived.Test.YtfcnodamjnmleaaRows
import Derived.Test.YtfcnodamjnmleaaPermOrbits1
import Derived.WalkKit
import Derived.ProofKit
import Derived.OpenShut
namespace Go.Proofs.Ytfcnodamjnmleaa
open Go Go.Vm Go.ChangeShapes Go.WideShapes Go.ChangeAt Go.RowKit
instance : Inhabited LayT := ⟨⟨fun _ _ => True, fun _ _ h => h⟩⟩
theorem own : ownKnob Try.prog.godebug = none := by kernel_rfl
theorem laidOut : laidOutB Try.prog = true := by kernel_rfl
theorem permOrbits_main : ∀ avs, TyVs Try.prog 9 [22, 3] avs → CallOk Try.prog 3 avs mem0 0 { v := .b true } := by
  rintro avs ⟨a0, _, rfl, h0, a1, _, rfl, h1, rfl⟩
  obtain ⟨p, rfl, _⟩ := tyInts' Try.underlying22 Try.underlying3 (by kernel_rfl) h0
  obtain ⟨x, rfl, _⟩ := tyInt Try.underlying3 h1
  exact permOrbits_ok
set_option maxRecDepth 100000 in
theorem permOrbits_lifted (os : Os) (started : os.Started) (H : Type) (enc : TypeId × Value → H) :
    ReturnsInHanded {} Try.checked os 3 .any (Rows.permOrbitsSpec.pre6 enc Try.prog Try.f3 Rows.permOrbitsRow.domain false) (Rows.permOrbitsSpec.post enc Try.prog Try.f3 false true false false) :=
  lifted_true started own (by kernel_rfl) Try.func3
    (ChangeSpec.witness6 (enc := enc) (C := Try.checked) false ⟨#[], #[.slice none 0 0, .int .i64 0], []⟩ 8 (by kernel_rfl) (by kernel_rfl) (by kernel_rfl) (by kernel_rfl))
    laidOut (by kernel_rfl) (by kernel_rfl) (tb := 4) (by kernel_rfl) Try.underlying4 rfl rfl
    (fun ds h => by
      match ds, h with
      | [_, _], _ => exact ⟨rfl, rfl, rfl⟩)
    (fun _ => trivial) permOrbits_main
theorem permOrbits_holds : Rows.PermOrbitsSaid :=
  OpenClaim.holds_of_wide 3 Try.f3 rfl rfl rfl rfl rfl rfl rfl ⟨rfl, rfl, rfl, rfl, rfl⟩ rfl rfl rfl rfl rfl (by kernel_rfl) Try.func3 (by kernel_rfl)
    (of_decide_eq_true (by kernel_rfl)) (by unfold Func.isWrapper; first | (rw [if_pos (by decide +kernel)]; kernel_rfl) | (rw [if_neg (by decide +kernel)]; exact ⟨rfl, rfl⟩))
    (fun os started H enc _ => permOrbits_lifted os started H enc)
#print axioms permOrbits_holds
end Go.Proofs.Ytfcnodamjnmleaa
