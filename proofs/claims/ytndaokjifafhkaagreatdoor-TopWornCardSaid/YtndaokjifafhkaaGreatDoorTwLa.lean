import Derived.Test.YtndaokjifafhkaaGreatDoorTwX
import Derived.Test.YtndaokjifafhkaaGreatDoorTwZb
import Derived.SevenTiedAt
/- plaittop.TopWorn: whatever the argument, the law returns true, and the argument reads as before. The nine listed package-level variables are tied to the program's text. -/
namespace Go.Proofs.YtndaokjifafhkaaGreatDoor
set_option linter.unusedSectionVars false
set_option linter.unusedSimpArgs false
set_option linter.unusedVariables false
set_option maxRecDepth 100000
open Go Go.Vm Go.Vx Go.ChangeShapes Go.WideShapes Go.ChangeAt Go.RowKit
open Go.Proofs.Tw
theorem cal3 : Callable Tryz.prog 3 := ⟨Tryz.f3, Tryz.f3.body.getD .skip, Tryz.func3, by kernel_rfl, by kernel_rfl⟩
theorem topWorn_main : ∀ avs, TyVs Tryz.prog 9 [3] avs → ∃ V eff rd, CallW Tryz.prog 3 avs mem0 V ⟨.b true, eff, rd⟩ := by
  rintro avs ⟨a0, _, rfl, h0, rfl⟩
  obtain ⟨n, rfl⟩ : ∃ n : Int, a0 = .i .i64 n := by
    unfold TyV at h0
    rw [Tryz.underlying3] at h0
    simp only at h0
    unfold TyC at h0
    rw [Tryz.underlying3] at h0
    obtain ⟨n, e, _⟩ := h0
    cases e
    exact ⟨n, rfl⟩
  obtain ⟨m', nb', r, w, hS, hZ⟩ := main_callS n
  obtain ⟨k, hk⟩ := hS.ok hZ
  exact ⟨_, _, _, hk Z (Nat.le_refl _)⟩
theorem topWorn_lifted (os : Os) (started : os.Started) (H : Type) (enc : TypeId × Value → H) :
    ReturnsInHanded {} Tryz.checked os 3 .any (fun w args => (Rows.topWornSpec.pre enc Tryz.prog Tryz.f3 [] false w args ∧ laidMetH Tryz.prog Rows.topWornRow.laid w) ∧ sizedMet enc Tryz.prog Tryz.f3 (OpenSpec.ofChange Rows.topWornSpec) false w args)
      (Rows.topWornSpec.post enc Tryz.prog Tryz.f3 false true false false) :=
  lifted_laidW started own (by kernel_rfl) Tryz.func3
    (ChangeSpec.witness_shaped (enc := enc) (C := Tryz.checked) (os := os) (X := fun w _ => laidMetH Tryz.prog Rows.topWornRow.laid w) false (laidWorld os) #[.int .i64 0] 8 (laidWorld_os os) (shaped os _) (by kernel_rfl) (by kernel_rfl) (by kernel_rfl) (laidWorld_met os _))
    laidOut (by kernel_rfl) (by kernel_rfl) (tb := 4) (by kernel_rfl) Tryz.underlying4 rfl rfl
    (fun ds h => by
      match ds, h with
      | [_], _ => exact ⟨rfl, rfl, rfl⟩)
    (fun W h => layOk_of h) cal3 topWorn_main
end Go.Proofs.YtndaokjifafhkaaGreatDoor
