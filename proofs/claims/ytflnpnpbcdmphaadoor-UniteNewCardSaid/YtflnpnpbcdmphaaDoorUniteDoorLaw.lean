/- UniteNew: for every input the law returns true, and the arguments read as before. The listed variable is tied to the program's text. -/
import Derived.Test.YtflnpnpbcdmphaaDoorUniteDoorBase
import Derived.Test.YtflnpnpbcdmphaaDoorUniteD6
namespace Go.Proofs.YtflnpnpbcdmphaaDoor
open Go Go.Vm Go.ChangeShapes Go.WideShapes Go.ChangeAt Go.RowKit
theorem uniteNew_main : ∀ avs, TyVs Tryd.prog 9 [3, 3] avs → CallOk Tryd.prog 4 avs mem0 0 { v := .b true } := by
  rintro avs ⟨a0, _, rfl, h0, a1, _, rfl, h1, rfl⟩
  obtain ⟨n, rfl, _⟩ := tyInt Tryd.underlying3 h0
  obtain ⟨x, rfl, _⟩ := tyInt Tryd.underlying3 h1
  exact uniteNew_ok
set_option maxRecDepth 100000 in
theorem uniteNew_lifted (os : Os) (started : os.Started) (H : Type) (enc : TypeId × Value → H) :
    ReturnsInHanded {} Tryd.checked os 4 .any (fun w args => (Rows.uniteNewSpec.pre enc Tryd.prog Tryd.f4 [] false w args ∧ laidMetH Tryd.prog Rows.uniteNewRow.laid w) ∧ sizedMet enc Tryd.prog Tryd.f4 (OpenSpec.ofChange Rows.uniteNewSpec) false w args)
      (Rows.uniteNewSpec.post enc Tryd.prog Tryd.f4 false true false false) :=
  lifted_laid started own (by kernel_rfl) Tryd.func4
    (ChangeSpec.witness_at (enc := enc) (C := Tryd.checked) (os := os) (X := fun w _ => laidMetH Tryd.prog Rows.uniteNewRow.laid w) false (laidWorld os) #[.int .i64 0, .int .i64 0] 8 rfl (by kernel_rfl) (by kernel_rfl) (by kernel_rfl) (by kernel_rfl) (by kernel_rfl) (laidWorld_met os _))
    laidOut (by kernel_rfl) (by kernel_rfl) (tb := 4) (by kernel_rfl) Tryd.underlying4 rfl rfl
    (fun ds h => by
      match ds, h with
      | [_, _], _ => exact ⟨rfl, rfl, rfl⟩)
    (fun W h => layOk_of h) uniteNew_main
theorem uniteNew_row : Rows.UniteNewSaid :=
  OpenClaim.holds_of_wide 4 Tryd.f4 rfl rfl rfl rfl rfl rfl rfl ⟨rfl, rfl, rfl, rfl, rfl⟩ rfl rfl rfl rfl rfl (by kernel_rfl) Tryd.func4 (by kernel_rfl)
    (of_decide_eq_true (by kernel_rfl)) (by unfold Func.isWrapper; first | (rw [if_pos (by decide +kernel)]; kernel_rfl) | (rw [if_neg (by decide +kernel)]; exact ⟨rfl, rfl⟩))
    (fun os started H enc _ => uniteNew_lifted os started H enc)
theorem uniteNew_card_holds : Rows.UniteNewCardSaid :=
  Claim7.holds_tied_plain_at .later [] [.handle] true (true, "6e5d0f30256c82422af48996a3a32535e6f917f749b44f242fcd3b1c078f4635") true
    uniteNew_row (fun _ h => by cases h) (by kernel_rfl) (fun _ h => by cases h) uniteNew_row_tie rfl ⟨rfl, rfl⟩ (by kernel_rfl) rfl
    (fun f fn hf hfn => by
      obtain rfl : f = 4 := Option.some.inj ((show Tryd.prog.funcNamed "plait/plaitlaw07.UniteNew" = some 4 by kernel_rfl).symm.trans hf) |>.symm
      obtain rfl : fn = Tryd.f4 := (Option.some.inj (Tryd.func4.symm.trans hfn)).symm
      exact ⟨by kernel_rfl, params_all (q := Tryd.prog.wantsStandIn) (by kernel_rfl)⟩)
    (by kernel_rfl)
#print axioms uniteNew_card_holds
end Go.Proofs.YtflnpnpbcdmphaaDoor
