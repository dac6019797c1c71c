/- PermOf and PermBack: for every input the laws return true, and the arguments read as before. The listed variable is tied to the program's text. -/
import Derived.Test.YtfcnodamjnmleaaDoorPermDoorBase
import Derived.Test.YtfcnodamjnmleaaDoorPermD4
namespace Go.Proofs.YtfcnodamjnmleaaDoor
open Go Go.Vm Go.ChangeShapes Go.WideShapes Go.ChangeAt Go.RowKit
theorem bytes22 : Tryd.prog.bytesOf 22 = 24 := by kernel_rfl
theorem permOf_main : ∀ avs, TyVs Tryd.prog 9 [3, 24] avs → CallOk Tryd.prog 7 avs mem0 0 { v := .b true } := by
  rintro avs ⟨a0, _, rfl, h0, a1, _, rfl, h1, rfl⟩
  obtain ⟨n, rfl, _⟩ := tyInt Tryd.underlying3 h0
  obtain ⟨ls, rfl, h3, h4, _⟩ := tyLists Tryd.underlying24 Tryd.underlying22 Tryd.underlying3 (by kernel_rfl) (by kernel_rfl) h1
  rw [bytes22] at h4
  exact permOf_ok (by omega)
theorem permBack_main : ∀ avs, TyVs Tryd.prog 9 [22] avs → CallOk Tryd.prog 8 avs mem0 0 { v := .b true } := by
  rintro avs ⟨a0, _, rfl, h0, rfl⟩
  obtain ⟨p, rfl, _⟩ := tyInts' Tryd.underlying22 Tryd.underlying3 (by kernel_rfl) h0
  exact permBack_ok
set_option maxRecDepth 100000 in
theorem permOf_lifted (os : Os) (started : os.Started) (H : Type) (enc : TypeId × Value → H) :
    ReturnsInHanded {} Tryd.checked os 7 .any (fun w args => (Rows.permOfSpec.pre enc Tryd.prog Tryd.f7 [] false w args ∧ laidMetH Tryd.prog Rows.permOfRow.laid w) ∧ sizedMet enc Tryd.prog Tryd.f7 (OpenSpec.ofChange Rows.permOfSpec) false w args)
      (Rows.permOfSpec.post enc Tryd.prog Tryd.f7 false true false false) :=
  lifted_laid started own (by kernel_rfl) Tryd.func7
    (ChangeSpec.witness_at (enc := enc) (C := Tryd.checked) (os := os) (X := fun w _ => laidMetH Tryd.prog Rows.permOfRow.laid w) false (laidWorld os) #[.int .i64 0, .slice none 0 0] 8 rfl (by kernel_rfl) (by kernel_rfl) (by kernel_rfl) (by kernel_rfl) (by kernel_rfl) (laidWorld_met os _))
    laidOut (by kernel_rfl) (by kernel_rfl) (tb := 4) (by kernel_rfl) Tryd.underlying4 rfl rfl
    (fun ds h => by
      match ds, h with
      | [_, _], _ => exact ⟨rfl, rfl, rfl⟩)
    (fun W h => layOk_of h) permOf_main
theorem permOf_row : Rows.PermOfSaid :=
  OpenClaim.holds_of_wide 7 Tryd.f7 rfl rfl rfl rfl rfl rfl rfl ⟨rfl, rfl, rfl, rfl, rfl⟩ rfl rfl rfl rfl rfl (by kernel_rfl) Tryd.func7 (by kernel_rfl)
    (of_decide_eq_true (by kernel_rfl)) (by unfold Func.isWrapper; first | (rw [if_pos (by decide +kernel)]; kernel_rfl) | (rw [if_neg (by decide +kernel)]; exact ⟨rfl, rfl⟩))
    (fun os started H enc _ => permOf_lifted os started H enc)
theorem permOf_card_holds : Rows.PermOfCardSaid :=
  Claim7.holds_tied_plain_at .later [] [.handle] true (true, "79ef7a8f454b2f45882c25f07e13e1407b565f63afa9b64d4a53df446a8ae040") true
    permOf_row (fun _ h => by cases h) (by kernel_rfl) (fun _ h => by cases h) permOf_row_tie rfl ⟨rfl, rfl⟩ (by kernel_rfl) rfl
    (fun f fn hf hfn => by
      obtain rfl : f = 7 := Option.some.inj ((show Tryd.prog.funcNamed "plait/plaitlaw08.PermOf" = some 7 by kernel_rfl).symm.trans hf) |>.symm
      obtain rfl : fn = Tryd.f7 := (Option.some.inj (Tryd.func7.symm.trans hfn)).symm
      exact ⟨by kernel_rfl, params_all (q := Tryd.prog.wantsStandIn) (by kernel_rfl)⟩)
    (by kernel_rfl)
#print axioms permOf_card_holds
set_option maxRecDepth 100000 in
theorem permBack_lifted (os : Os) (started : os.Started) (H : Type) (enc : TypeId × Value → H) :
    ReturnsInHanded {} Tryd.checked os 8 .any (fun w args => (Rows.permBackSpec.pre enc Tryd.prog Tryd.f8 [] false w args ∧ laidMetH Tryd.prog Rows.permBackRow.laid w) ∧ sizedMet enc Tryd.prog Tryd.f8 (OpenSpec.ofChange Rows.permBackSpec) false w args)
      (Rows.permBackSpec.post enc Tryd.prog Tryd.f8 false true false false) :=
  lifted_laid started own (by kernel_rfl) Tryd.func8
    (ChangeSpec.witness_at (enc := enc) (C := Tryd.checked) (os := os) (X := fun w _ => laidMetH Tryd.prog Rows.permBackRow.laid w) false (laidWorld os) #[.slice none 0 0] 8 rfl (by kernel_rfl) (by kernel_rfl) (by kernel_rfl) (by kernel_rfl) (by kernel_rfl) (laidWorld_met os _))
    laidOut (by kernel_rfl) (by kernel_rfl) (tb := 4) (by kernel_rfl) Tryd.underlying4 rfl rfl
    (fun ds h => by
      match ds, h with
      | [_], _ => exact ⟨rfl, rfl, rfl⟩)
    (fun W h => layOk_of h) permBack_main
theorem permBack_row : Rows.PermBackSaid :=
  OpenClaim.holds_of_wide 8 Tryd.f8 rfl rfl rfl rfl rfl rfl rfl ⟨rfl, rfl, rfl, rfl, rfl⟩ rfl rfl rfl rfl rfl (by kernel_rfl) Tryd.func8 (by kernel_rfl)
    (of_decide_eq_true (by kernel_rfl)) (by unfold Func.isWrapper; first | (rw [if_pos (by decide +kernel)]; kernel_rfl) | (rw [if_neg (by decide +kernel)]; exact ⟨rfl, rfl⟩))
    (fun os started H enc _ => permBack_lifted os started H enc)
theorem permBack_card_holds : Rows.PermBackCardSaid :=
  Claim7.holds_tied_plain_at .later [] [.handle] true (true, "79ef7a8f454b2f45882c25f07e13e1407b565f63afa9b64d4a53df446a8ae040") true
    permBack_row (fun _ h => by cases h) (by kernel_rfl) (fun _ h => by cases h) permBack_row_tie rfl ⟨rfl, rfl⟩ (by kernel_rfl) rfl
    (fun f fn hf hfn => by
      obtain rfl : f = 8 := Option.some.inj ((show Tryd.prog.funcNamed "plait/plaitlaw08.PermBack" = some 8 by kernel_rfl).symm.trans hf) |>.symm
      obtain rfl : fn = Tryd.f8 := (Option.some.inj (Tryd.func8.symm.trans hfn)).symm
      exact ⟨by kernel_rfl, params_all (q := Tryd.prog.wantsStandIn) (by kernel_rfl)⟩)
    (by kernel_rfl)
#print axioms permBack_card_holds
end Go.Proofs.YtfcnodamjnmleaaDoor
