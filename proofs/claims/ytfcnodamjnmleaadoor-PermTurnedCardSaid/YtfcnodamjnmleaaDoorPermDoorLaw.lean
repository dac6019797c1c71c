/- PermOrders, PermThrice, PermCycles, PermTurned: for every input the laws return true, and the arguments read as before. The listed variable is tied to the program's text. -/
import Derived.Test.YtfcnodamjnmleaaDoorPermDoorBase
import Derived.Test.YtfcnodamjnmleaaDoorPermD3
namespace Go.Proofs.YtfcnodamjnmleaaDoor
open Go Go.Vm Go.ChangeShapes Go.WideShapes Go.ChangeAt Go.RowKit
theorem permOrders_main : ∀ avs, TyVs Tryd.prog 9 [22, 22] avs → CallOk Tryd.prog 6 avs mem0 0 { v := .b true } := by
  rintro avs ⟨a0, _, rfl, h0, a1, _, rfl, h1, rfl⟩
  obtain ⟨p, rfl, _⟩ := tyInts' Tryd.underlying22 Tryd.underlying3 (by kernel_rfl) h0
  obtain ⟨r, rfl, _⟩ := tyInts' Tryd.underlying22 Tryd.underlying3 (by kernel_rfl) h1
  exact permOrders_ok
theorem permThrice_main : ∀ avs, TyVs Tryd.prog 9 [22, 22, 22] avs → CallOk Tryd.prog 4 avs mem0 0 { v := .b true } := by
  rintro avs ⟨a0, _, rfl, h0, a1, _, rfl, h1, a2, _, rfl, h2, rfl⟩
  obtain ⟨p, rfl, _⟩ := tyInts' Tryd.underlying22 Tryd.underlying3 (by kernel_rfl) h0
  obtain ⟨r, rfl, _⟩ := tyInts' Tryd.underlying22 Tryd.underlying3 (by kernel_rfl) h1
  obtain ⟨s, rfl, _⟩ := tyInts' Tryd.underlying22 Tryd.underlying3 (by kernel_rfl) h2
  exact permThrice_ok
theorem permCycles_main : ∀ avs, TyVs Tryd.prog 9 [22, 3] avs → CallOk Tryd.prog 3 avs mem0 0 { v := .b true } := by
  rintro avs ⟨a0, _, rfl, h0, a1, _, rfl, h1, rfl⟩
  obtain ⟨p, rfl, _⟩ := tyInts' Tryd.underlying22 Tryd.underlying3 (by kernel_rfl) h0
  obtain ⟨x, rfl, _⟩ := tyInt Tryd.underlying3 h1
  exact permCycles_ok
theorem permTurned_main : ∀ avs, TyVs Tryd.prog 9 [22, 3] avs → CallOk Tryd.prog 5 avs mem0 0 { v := .b true } := by
  rintro avs ⟨a0, _, rfl, h0, a1, _, rfl, h1, rfl⟩
  obtain ⟨p, rfl, _⟩ := tyInts' Tryd.underlying22 Tryd.underlying3 (by kernel_rfl) h0
  obtain ⟨x, rfl, _⟩ := tyInt Tryd.underlying3 h1
  exact permTurned_ok
set_option maxRecDepth 100000 in
theorem permOrders_lifted (os : Os) (started : os.Started) (H : Type) (enc : TypeId × Value → H) :
    ReturnsInHanded {} Tryd.checked os 6 .any (fun w args => (Rows.permOrdersSpec.pre enc Tryd.prog Tryd.f6 [] false w args ∧ laidMetH Tryd.prog Rows.permOrdersRow.laid w) ∧ sizedMet enc Tryd.prog Tryd.f6 (OpenSpec.ofChange Rows.permOrdersSpec) false w args)
      (Rows.permOrdersSpec.post enc Tryd.prog Tryd.f6 false true false false) :=
  lifted_laid started own (by kernel_rfl) Tryd.func6
    (ChangeSpec.witness_at (enc := enc) (C := Tryd.checked) (os := os) (X := fun w _ => laidMetH Tryd.prog Rows.permOrdersRow.laid w) false (laidWorld os) #[.slice none 0 0, .slice none 0 0] 8 rfl (by kernel_rfl) (by kernel_rfl) (by kernel_rfl) (by kernel_rfl) (by kernel_rfl) (laidWorld_met os _))
    laidOut (by kernel_rfl) (by kernel_rfl) (tb := 4) (by kernel_rfl) Tryd.underlying4 rfl rfl
    (fun ds h => by
      match ds, h with
      | [_, _], _ => exact ⟨rfl, rfl, rfl⟩)
    (fun W h => layOk_of h) permOrders_main
theorem permOrders_row : Rows.PermOrdersSaid :=
  OpenClaim.holds_of_wide 6 Tryd.f6 rfl rfl rfl rfl rfl rfl rfl ⟨rfl, rfl, rfl, rfl, rfl⟩ rfl rfl rfl rfl rfl (by kernel_rfl) Tryd.func6 (by kernel_rfl)
    (of_decide_eq_true (by kernel_rfl)) (by unfold Func.isWrapper; first | (rw [if_pos (by decide +kernel)]; kernel_rfl) | (rw [if_neg (by decide +kernel)]; exact ⟨rfl, rfl⟩))
    (fun os started H enc _ => permOrders_lifted os started H enc)
theorem permOrders_card_holds : Rows.PermOrdersCardSaid :=
  Claim7.holds_tied_plain_at .later [] [.handle] true (true, "79ef7a8f454b2f45882c25f07e13e1407b565f63afa9b64d4a53df446a8ae040") true
    permOrders_row (fun _ h => by cases h) (by kernel_rfl) (fun _ h => by cases h) permOrders_row_tie rfl ⟨rfl, rfl⟩ (by kernel_rfl) rfl
    (fun f fn hf hfn => by
      obtain rfl : f = 6 := Option.some.inj ((show Tryd.prog.funcNamed "plait/plaitlaw08.PermOrders" = some 6 by kernel_rfl).symm.trans hf) |>.symm
      obtain rfl : fn = Tryd.f6 := (Option.some.inj (Tryd.func6.symm.trans hfn)).symm
      exact ⟨by kernel_rfl, params_all (q := Tryd.prog.wantsStandIn) (by kernel_rfl)⟩)
    (by kernel_rfl)
#print axioms permOrders_card_holds
set_option maxRecDepth 100000 in
theorem permThrice_lifted (os : Os) (started : os.Started) (H : Type) (enc : TypeId × Value → H) :
    ReturnsInHanded {} Tryd.checked os 4 .any (fun w args => (Rows.permThriceSpec.pre enc Tryd.prog Tryd.f4 [] false w args ∧ laidMetH Tryd.prog Rows.permThriceRow.laid w) ∧ sizedMet enc Tryd.prog Tryd.f4 (OpenSpec.ofChange Rows.permThriceSpec) false w args)
      (Rows.permThriceSpec.post enc Tryd.prog Tryd.f4 false true false false) :=
  lifted_laid started own (by kernel_rfl) Tryd.func4
    (ChangeSpec.witness_at (enc := enc) (C := Tryd.checked) (os := os) (X := fun w _ => laidMetH Tryd.prog Rows.permThriceRow.laid w) false (laidWorld os) #[.slice none 0 0, .slice none 0 0, .slice none 0 0] 8 rfl (by kernel_rfl) (by kernel_rfl) (by kernel_rfl) (by kernel_rfl) (by kernel_rfl) (laidWorld_met os _))
    laidOut (by kernel_rfl) (by kernel_rfl) (tb := 4) (by kernel_rfl) Tryd.underlying4 rfl rfl
    (fun ds h => by
      match ds, h with
      | [_, _, _], _ => exact ⟨rfl, rfl, rfl⟩)
    (fun W h => layOk_of h) permThrice_main
theorem permThrice_row : Rows.PermThriceSaid :=
  OpenClaim.holds_of_wide 4 Tryd.f4 rfl rfl rfl rfl rfl rfl rfl ⟨rfl, rfl, rfl, rfl, rfl⟩ rfl rfl rfl rfl rfl (by kernel_rfl) Tryd.func4 (by kernel_rfl)
    (of_decide_eq_true (by kernel_rfl)) (by unfold Func.isWrapper; first | (rw [if_pos (by decide +kernel)]; kernel_rfl) | (rw [if_neg (by decide +kernel)]; exact ⟨rfl, rfl⟩))
    (fun os started H enc _ => permThrice_lifted os started H enc)
theorem permThrice_card_holds : Rows.PermThriceCardSaid :=
  Claim7.holds_tied_plain_at .later [] [.handle] true (true, "79ef7a8f454b2f45882c25f07e13e1407b565f63afa9b64d4a53df446a8ae040") true
    permThrice_row (fun _ h => by cases h) (by kernel_rfl) (fun _ h => by cases h) permThrice_row_tie rfl ⟨rfl, rfl⟩ (by kernel_rfl) rfl
    (fun f fn hf hfn => by
      obtain rfl : f = 4 := Option.some.inj ((show Tryd.prog.funcNamed "plait/plaitlaw08.PermThrice" = some 4 by kernel_rfl).symm.trans hf) |>.symm
      obtain rfl : fn = Tryd.f4 := (Option.some.inj (Tryd.func4.symm.trans hfn)).symm
      exact ⟨by kernel_rfl, params_all (q := Tryd.prog.wantsStandIn) (by kernel_rfl)⟩)
    (by kernel_rfl)
#print axioms permThrice_card_holds
set_option maxRecDepth 100000 in
theorem permCycles_lifted (os : Os) (started : os.Started) (H : Type) (enc : TypeId × Value → H) :
    ReturnsInHanded {} Tryd.checked os 3 .any (fun w args => (Rows.permCyclesSpec.pre enc Tryd.prog Tryd.f3 [] false w args ∧ laidMetH Tryd.prog Rows.permCyclesRow.laid w) ∧ sizedMet enc Tryd.prog Tryd.f3 (OpenSpec.ofChange Rows.permCyclesSpec) false w args)
      (Rows.permCyclesSpec.post enc Tryd.prog Tryd.f3 false true false false) :=
  lifted_laid started own (by kernel_rfl) Tryd.func3
    (ChangeSpec.witness_at (enc := enc) (C := Tryd.checked) (os := os) (X := fun w _ => laidMetH Tryd.prog Rows.permCyclesRow.laid w) false (laidWorld os) #[.slice none 0 0, .int .i64 0] 8 rfl (by kernel_rfl) (by kernel_rfl) (by kernel_rfl) (by kernel_rfl) (by kernel_rfl) (laidWorld_met os _))
    laidOut (by kernel_rfl) (by kernel_rfl) (tb := 4) (by kernel_rfl) Tryd.underlying4 rfl rfl
    (fun ds h => by
      match ds, h with
      | [_, _], _ => exact ⟨rfl, rfl, rfl⟩)
    (fun W h => layOk_of h) permCycles_main
theorem permCycles_row : Rows.PermCyclesSaid :=
  OpenClaim.holds_of_wide 3 Tryd.f3 rfl rfl rfl rfl rfl rfl rfl ⟨rfl, rfl, rfl, rfl, rfl⟩ rfl rfl rfl rfl rfl (by kernel_rfl) Tryd.func3 (by kernel_rfl)
    (of_decide_eq_true (by kernel_rfl)) (by unfold Func.isWrapper; first | (rw [if_pos (by decide +kernel)]; kernel_rfl) | (rw [if_neg (by decide +kernel)]; exact ⟨rfl, rfl⟩))
    (fun os started H enc _ => permCycles_lifted os started H enc)
theorem permCycles_card_holds : Rows.PermCyclesCardSaid :=
  Claim7.holds_tied_plain_at .later [] [.handle] true (true, "79ef7a8f454b2f45882c25f07e13e1407b565f63afa9b64d4a53df446a8ae040") true
    permCycles_row (fun _ h => by cases h) (by kernel_rfl) (fun _ h => by cases h) permCycles_row_tie rfl ⟨rfl, rfl⟩ (by kernel_rfl) rfl
    (fun f fn hf hfn => by
      obtain rfl : f = 3 := Option.some.inj ((show Tryd.prog.funcNamed "plait/plaitlaw08.PermCycles" = some 3 by kernel_rfl).symm.trans hf) |>.symm
      obtain rfl : fn = Tryd.f3 := (Option.some.inj (Tryd.func3.symm.trans hfn)).symm
      exact ⟨by kernel_rfl, params_all (q := Tryd.prog.wantsStandIn) (by kernel_rfl)⟩)
    (by kernel_rfl)
#print axioms permCycles_card_holds
set_option maxRecDepth 100000 in
theorem permTurned_lifted (os : Os) (started : os.Started) (H : Type) (enc : TypeId × Value → H) :
    ReturnsInHanded {} Tryd.checked os 5 .any (fun w args => (Rows.permTurnedSpec.pre enc Tryd.prog Tryd.f5 [] false w args ∧ laidMetH Tryd.prog Rows.permTurnedRow.laid w) ∧ sizedMet enc Tryd.prog Tryd.f5 (OpenSpec.ofChange Rows.permTurnedSpec) false w args)
      (Rows.permTurnedSpec.post enc Tryd.prog Tryd.f5 false true false false) :=
  lifted_laid started own (by kernel_rfl) Tryd.func5
    (ChangeSpec.witness_at (enc := enc) (C := Tryd.checked) (os := os) (X := fun w _ => laidMetH Tryd.prog Rows.permTurnedRow.laid w) false (laidWorld os) #[.slice none 0 0, .int .i64 0] 8 rfl (by kernel_rfl) (by kernel_rfl) (by kernel_rfl) (by kernel_rfl) (by kernel_rfl) (laidWorld_met os _))
    laidOut (by kernel_rfl) (by kernel_rfl) (tb := 4) (by kernel_rfl) Tryd.underlying4 rfl rfl
    (fun ds h => by
      match ds, h with
      | [_, _], _ => exact ⟨rfl, rfl, rfl⟩)
    (fun W h => layOk_of h) permTurned_main
theorem permTurned_row : Rows.PermTurnedSaid :=
  OpenClaim.holds_of_wide 5 Tryd.f5 rfl rfl rfl rfl rfl rfl rfl ⟨rfl, rfl, rfl, rfl, rfl⟩ rfl rfl rfl rfl rfl (by kernel_rfl) Tryd.func5 (by kernel_rfl)
    (of_decide_eq_true (by kernel_rfl)) (by unfold Func.isWrapper; first | (rw [if_pos (by decide +kernel)]; kernel_rfl) | (rw [if_neg (by decide +kernel)]; exact ⟨rfl, rfl⟩))
    (fun os started H enc _ => permTurned_lifted os started H enc)
theorem permTurned_card_holds : Rows.PermTurnedCardSaid :=
  Claim7.holds_tied_plain_at .later [] [.handle] true (true, "79ef7a8f454b2f45882c25f07e13e1407b565f63afa9b64d4a53df446a8ae040") true
    permTurned_row (fun _ h => by cases h) (by kernel_rfl) (fun _ h => by cases h) permTurned_row_tie rfl ⟨rfl, rfl⟩ (by kernel_rfl) rfl
    (fun f fn hf hfn => by
      obtain rfl : f = 5 := Option.some.inj ((show Tryd.prog.funcNamed "plait/plaitlaw08.PermTurned" = some 5 by kernel_rfl).symm.trans hf) |>.symm
      obtain rfl : fn = Tryd.f5 := (Option.some.inj (Tryd.func5.symm.trans hfn)).symm
      exact ⟨by kernel_rfl, params_all (q := Tryd.prog.wantsStandIn) (by kernel_rfl)⟩)
    (by kernel_rfl)
#print axioms permTurned_card_holds
end Go.Proofs.YtfcnodamjnmleaaDoor
