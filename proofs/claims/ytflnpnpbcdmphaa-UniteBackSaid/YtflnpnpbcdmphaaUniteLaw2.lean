/- UniteSizes and UniteBack: for every input the law returns true, and the arguments read as before. No condition. -/
import Derived.Test.YtflnpnpbcdmphaaRows
import Derived.Test.YtflnpnpbcdmphaaUniteTy
import Derived.Test.YtflnpnpbcdmphaaUniteP5
import Derived.WalkKit
import Derived.ProofKit
import Derived.OpenShut
namespace Go.Proofs.Ytflnpnpbcdmphaa
open Go Go.Vm Go.ChangeShapes Go.WideShapes Go.ChangeAt Go.RowKit
instance : Inhabited LayT := ⟨⟨fun _ _ => True, fun _ _ h => h⟩⟩
theorem own : ownKnob Try.prog.godebug = none := by kernel_rfl
theorem laidOut : laidOutB Try.prog = true := by kernel_rfl
theorem uniteSizes_main : ∀ avs, TyVs Try.prog 9 [3, 22] avs → CallOk Try.prog 5 avs mem0 0 { v := .b true } := by
  rintro avs ⟨a0, _, rfl, h0, a1, _, rfl, h1, rfl⟩
  obtain ⟨x, rfl, _⟩ := tyInt Try.underlying3 h0
  obtain ⟨acts, rfl, h3⟩ := tyActs h1
  exact uniteSizes_ok h3
theorem uniteBack_main : ∀ avs, TyVs Try.prog 9 [3, 22, 3] avs → CallOk Try.prog 4 avs mem0 0 { v := .b true } := by
  rintro avs ⟨a0, _, rfl, h0, a1, _, rfl, h1, a2, _, rfl, h2, rfl⟩
  obtain ⟨x, rfl, _⟩ := tyInt Try.underlying3 h0
  obtain ⟨acts, rfl, h3⟩ := tyActs h1
  obtain ⟨t, rfl, _⟩ := tyInt Try.underlying3 h2
  exact uniteBack_ok h3
set_option maxRecDepth 100000 in
theorem uniteSizes_lifted (os : Os) (started : os.Started) (H : Type) (enc : TypeId × Value → H) :
    ReturnsInHanded {} Try.checked os 5 .any (Rows.uniteSizesSpec.pre6 enc Try.prog Try.f5 Rows.uniteSizesRow.domain false) (Rows.uniteSizesSpec.post enc Try.prog Try.f5 false true false false) :=
  lifted_true started own (by kernel_rfl) Try.func5
    (ChangeSpec.witness6 (enc := enc) (C := Try.checked) false ⟨#[], #[.int .i64 0, .slice none 0 0], []⟩ 8 (by kernel_rfl) (by kernel_rfl) (by kernel_rfl) (by kernel_rfl))
    laidOut (by kernel_rfl) (by kernel_rfl) (tb := 4) (by kernel_rfl) Try.underlying4 rfl rfl
    (fun ds h => by
      match ds, h with
      | [_, _], _ => exact ⟨rfl, rfl, rfl⟩)
    (fun _ => trivial) uniteSizes_main
theorem uniteSizes_holds : Rows.UniteSizesSaid :=
  OpenClaim.holds_of_wide 5 Try.f5 rfl rfl rfl rfl rfl rfl rfl ⟨rfl, rfl, rfl, rfl, rfl⟩ rfl rfl rfl rfl rfl (by kernel_rfl) Try.func5 (by kernel_rfl)
    (of_decide_eq_true (by kernel_rfl)) (by unfold Func.isWrapper; first | (rw [if_pos (by decide +kernel)]; kernel_rfl) | (rw [if_neg (by decide +kernel)]; exact ⟨rfl, rfl⟩))
    (fun os started H enc _ => uniteSizes_lifted os started H enc)
#print axioms uniteSizes_holds
set_option maxRecDepth 100000 in
theorem uniteBack_lifted (os : Os) (started : os.Started) (H : Type) (enc : TypeId × Value → H) :
    ReturnsInHanded {} Try.checked os 4 .any (Rows.uniteBackSpec.pre6 enc Try.prog Try.f4 Rows.uniteBackRow.domain false) (Rows.uniteBackSpec.post enc Try.prog Try.f4 false true false false) :=
  lifted_true started own (by kernel_rfl) Try.func4
    (ChangeSpec.witness6 (enc := enc) (C := Try.checked) false ⟨#[], #[.int .i64 0, .slice none 0 0, .int .i64 0], []⟩ 8 (by kernel_rfl) (by kernel_rfl) (by kernel_rfl) (by kernel_rfl))
    laidOut (by kernel_rfl) (by kernel_rfl) (tb := 4) (by kernel_rfl) Try.underlying4 rfl rfl
    (fun ds h => by
      match ds, h with
      | [_, _, _], _ => exact ⟨rfl, rfl, rfl⟩)
    (fun _ => trivial) uniteBack_main
theorem uniteBack_holds : Rows.UniteBackSaid :=
  OpenClaim.holds_of_wide 4 Try.f4 rfl rfl rfl rfl rfl rfl rfl ⟨rfl, rfl, rfl, rfl, rfl⟩ rfl rfl rfl rfl rfl (by kernel_rfl) Try.func4 (by kernel_rfl)
    (of_decide_eq_true (by kernel_rfl)) (by unfold Func.isWrapper; first | (rw [if_pos (by decide +kernel)]; kernel_rfl) | (rw [if_neg (by decide +kernel)]; exact ⟨rfl, rfl⟩))
    (fun os started H enc _ => uniteBack_lifted os started H enc)
#print axioms uniteBack_holds
end Go.Proofs.Ytflnpnpbcdmphaa
