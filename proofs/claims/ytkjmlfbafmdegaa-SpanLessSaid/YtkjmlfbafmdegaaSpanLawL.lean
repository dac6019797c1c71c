/- SpanLess: for every input the law returns true, and the arguments read as before. No condition. -/
import Derived.Test.YtkjmlfbafmdegaaRows
import Derived.Test.YtkjmlfbafmdegaaSpanP10
import Derived.Test.YtkjmlfbafmdegaaSpanTyP
import Derived.WalkKit
import Derived.ProofKit
import Derived.OpenShut
namespace Go.Proofs.Ytkjmlfbafmdegaa
open Go Go.Vm Go.SpanM Go.ChangeShapes Go.WideShapes Go.ChangeAt Go.RowKit
set_option maxRecDepth 100000
instance : Inhabited LayT := ⟨⟨fun _ _ => True, fun _ _ h => h⟩⟩
theorem own : ownKnob Try.prog.godebug = none := by kernel_rfl
theorem laidOut : laidOutB Try.prog = true := by kernel_rfl
theorem bS3 : Try.prog.bytesOf 3 = 8 := by kernel_rfl
theorem spanLess_main : ∀ avs, TyVs Try.prog 9 [3, 22, 23] avs → CallOk Try.prog 3 avs mem0 0 { v := .b true } := by
  rintro avs ⟨a0, _, rfl, h0, a1, _, rfl, h1, a2, _, rfl, h2, rfl⟩
  obtain ⟨n, rfl, _⟩ := tyInt Try.underlying3 h0
  obtain ⟨l, rfl, hl, hw⟩ := tyEdges h1
  obtain ⟨o, rfl, _, ho, _⟩ := tyInts' Try.underlying23 Try.underlying3 cS3 h2
  rw [bS3] at ho
  exact spanLess_ok hl hw (by omega)
set_option maxRecDepth 100000 in
theorem spanLess_lifted (os : Os) (started : os.Started) (H : Type) (enc : TypeId × Value → H) :
    ReturnsInHanded {} Try.checked os 3 .any (Rows.spanLessSpec.pre6 enc Try.prog Try.f3 Rows.spanLessRow.domain false) (Rows.spanLessSpec.post enc Try.prog Try.f3 false true false false) :=
  lifted_true started own (by kernel_rfl) Try.func3
    (ChangeSpec.witness6 (enc := enc) (C := Try.checked) false ⟨#[], #[.int .i64 0, .slice none 0 0, .slice none 0 0], []⟩ 8 (by kernel_rfl) (by kernel_rfl) (by kernel_rfl) (by kernel_rfl))
    laidOut (by kernel_rfl) (by kernel_rfl) (tb := 4) (by kernel_rfl) Try.underlying4 rfl rfl
    (fun ds h => by
      match ds, h with
      | [_, _, _], _ => exact ⟨rfl, rfl, rfl⟩)
    (fun _ => trivial) spanLess_main
theorem spanLess_holds : Rows.SpanLessSaid :=
  OpenClaim.holds_of_wide 3 Try.f3 rfl rfl rfl rfl rfl rfl rfl ⟨rfl, rfl, rfl, rfl, rfl⟩ rfl rfl rfl rfl rfl (by kernel_rfl) Try.func3 (by kernel_rfl)
    (of_decide_eq_true (by kernel_rfl)) (by unfold Func.isWrapper; first | (rw [if_pos (by decide +kernel)]; kernel_rfl) | (rw [if_neg (by decide +kernel)]; exact ⟨rfl, rfl⟩))
    (fun os started H enc _ => spanLess_lifted os started H enc)
#print axioms spanLess_holds
end Go.Proofs.Ytkjmlfbafmdegaa
