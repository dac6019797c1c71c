/- UniteSame: for every input the law returns true, and the arguments read as before. No condition. -/
import Derived.Test.YtflnpnpbcdmphaaRows
import Derived.Test.YtflnpnpbcdmphaaUniteTy
import Derived.WalkKit
import Derived.ProofKit
import Derived.OpenShut
namespace Go.Proofs.Ytflnpnpbcdmphaa
open Go Go.Vm Go.ChangeShapes Go.WideShapes Go.ChangeAt Go.RowKit
instance : Inhabited LayT := ⟨⟨fun _ _ => True, fun _ _ h => h⟩⟩
theorem own : ownKnob Try.prog.godebug = none := by kernel_rfl
theorem laidOut : laidOutB Try.prog = true := by kernel_rfl
theorem tyThree {a : AV} (h : TyV Try.prog 9 23 a) : ∃ p q r : Int, a = .agg [.i .i64 p, .i .i64 q, .i .i64 r] := by
  obtain ⟨cs, rfl, h1⟩ := tyArr Try.underlying23 h
  obtain ⟨ns, h2, rfl, _⟩ := tyArrInts Try.underlying23 Try.underlying3 (by kernel_rfl) (by kernel_rfl) h1
  match ns, h2 with
  | [p, q, r], _ => exact ⟨p, q, r, rfl⟩
theorem uniteSame_main : ∀ avs, TyVs Try.prog 9 [3, 22, 23] avs → CallOk Try.prog 3 avs mem0 0 { v := .b true } := by
  rintro avs ⟨a0, _, rfl, h0, a1, _, rfl, h1, a2, _, rfl, h2, rfl⟩
  obtain ⟨x, rfl, _⟩ := tyInt Try.underlying3 h0
  obtain ⟨acts, rfl, h3⟩ := tyActs h1
  obtain ⟨p, q, r, rfl⟩ := tyThree h2
  exact uniteSame_ok h3
set_option maxRecDepth 100000 in
theorem uniteSame_lifted (os : Os) (started : os.Started) (H : Type) (enc : TypeId × Value → H) :
    ReturnsInHanded {} Try.checked os 3 .any (Rows.uniteSameSpec.pre6 enc Try.prog Try.f3 Rows.uniteSameRow.domain false) (Rows.uniteSameSpec.post enc Try.prog Try.f3 false true false false) :=
  lifted_true started own (by kernel_rfl) Try.func3
    (ChangeSpec.witness6 (enc := enc) (C := Try.checked) false ⟨#[], #[.int .i64 0, .slice none 0 0, .agg #[.int .i64 0, .int .i64 0, .int .i64 0]], []⟩ 8 (by kernel_rfl) (by kernel_rfl) (by kernel_rfl) (by kernel_rfl))
    laidOut (by kernel_rfl) (by kernel_rfl) (tb := 4) (by kernel_rfl) Try.underlying4 rfl rfl
    (fun ds h => by
      match ds, h with
      | [_, _, _], _ => exact ⟨rfl, rfl, rfl⟩)
    (fun _ => trivial) uniteSame_main
theorem uniteSame_holds : Rows.UniteSameSaid :=
  OpenClaim.holds_of_wide 3 Try.f3 rfl rfl rfl rfl rfl rfl rfl ⟨rfl, rfl, rfl, rfl, rfl⟩ rfl rfl rfl rfl rfl (by kernel_rfl) Try.func3 (by kernel_rfl)
    (of_decide_eq_true (by kernel_rfl)) (by unfold Func.isWrapper; first | (rw [if_pos (by decide +kernel)]; kernel_rfl) | (rw [if_neg (by decide +kernel)]; exact ⟨rfl, rfl⟩))
    (fun os started H enc _ => uniteSame_lifted os started H enc)
#print axioms uniteSame_holds
end Go.Proofs.Ytflnpnpbcdmphaa
