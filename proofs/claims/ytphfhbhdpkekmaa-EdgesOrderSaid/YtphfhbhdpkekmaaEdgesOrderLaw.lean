/- EdgesOrder: for every two weights and every two slots the law returns true, and the arguments read as before. No condition. -/
import Derived.Test.YtphfhbhdpkekmaaRows
import Derived.Test.YtphfhbhdpkekmaaEdgesOrder1
import Derived.WalkKit
import Derived.ProofKit
import Derived.OpenShut
namespace Go.Proofs.Ytphfhbhdpkekmaa
open Go Go.Vm Go.ChangeShapes Go.WideShapes Go.ChangeAt Go.RowKit
instance : Inhabited LayT := ⟨⟨fun _ _ => True, fun _ _ h => h⟩⟩
theorem own : ownKnob Try.prog.godebug = none := by kernel_rfl
theorem laidOut : laidOutB Try.prog = true := by kernel_rfl
theorem edgesOrder_main : ∀ avs, TyVs Try.prog 9 [21, 21, 22] avs → CallOk Try.prog 3 avs mem0 0 { v := .b true } := by
  rintro avs ⟨a0, _, rfl, h0, a1, _, rfl, h1, a2, _, rfl, h2, rfl⟩
  obtain ⟨v, rfl, hv⟩ := tyInt Try.underlying21 h0
  obtain ⟨w, rfl, hw⟩ := tyInt Try.underlying21 h1
  obtain ⟨cs, rfl, h3⟩ := tyArr Try.underlying22 h2
  obtain ⟨p, q, rfl, _⟩ := tyTwo Try.underlying22 Try.underlying3 (by kernel_rfl) (by kernel_rfl) h3
  exact edgesOrder_ok hv.1 hv.2 hw.1 hw.2
set_option maxRecDepth 100000 in
theorem edgesOrder_lifted (os : Os) (started : os.Started) (H : Type) (enc : TypeId × Value → H) :
    ReturnsInHanded {} Try.checked os 3 .any (Rows.edgesOrderSpec.pre6 enc Try.prog Try.f3 Rows.edgesOrderRow.domain false) (Rows.edgesOrderSpec.post enc Try.prog Try.f3 false true false false) :=
  lifted_true started own (by kernel_rfl) Try.func3
    (ChangeSpec.witness6 (enc := enc) (C := Try.checked) false ⟨#[], #[.int .i32 0, .int .i32 0, .agg #[.int .i64 0, .int .i64 0]], []⟩ 8 (by kernel_rfl) (by kernel_rfl) (by kernel_rfl) (by kernel_rfl))
    laidOut (by kernel_rfl) (by kernel_rfl) (tb := 4) (by kernel_rfl) Try.underlying4 rfl rfl
    (fun ds h => by
      match ds, h with
      | [_, _, _], _ => exact ⟨rfl, rfl, rfl⟩)
    (fun _ => trivial) edgesOrder_main
theorem edgesOrder_holds : Rows.EdgesOrderSaid :=
  OpenClaim.holds_of_wide 3 Try.f3 rfl rfl rfl rfl rfl rfl rfl ⟨rfl, rfl, rfl, rfl, rfl⟩ rfl rfl rfl rfl rfl (by kernel_rfl) Try.func3 (by kernel_rfl)
    (of_decide_eq_true (by kernel_rfl)) (by unfold Func.isWrapper; first | (rw [if_pos (by decide +kernel)]; kernel_rfl) | (rw [if_neg (by decide +kernel)]; exact ⟨rfl, rfl⟩))
    (fun os started H enc _ => edgesOrder_lifted os started H enc)
#print axioms edgesOrder_holds
end Go.Proofs.Ytphfhbhdpkekmaa
