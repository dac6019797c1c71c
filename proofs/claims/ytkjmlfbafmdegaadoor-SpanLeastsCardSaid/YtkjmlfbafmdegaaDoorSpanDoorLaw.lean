/- SpanTrees and SpanLeasts: for every input the laws return true, and the arguments read as before. The listed variable is tied to the program's text. -/
import Derived.Test.YtkjmlfbafmdegaaDoorSpanDoorBase
import Derived.Test.YtkjmlfbafmdegaaDoorSpanTyD
namespace Go.Proofs.YtkjmlfbafmdegaaDoor
open Go Go.Vm Go.SpanM Go.ChangeShapes Go.WideShapes Go.ChangeAt Go.RowKit
set_option maxRecDepth 100000
theorem spanTrees_main : ∀ avs, TyVs Tryd.prog 9 [3, 22] avs → CallOk Tryd.prog 3 avs mem0 0 { v := .b true } := by
  rintro avs ⟨a0, _, rfl, h0, a1, _, rfl, h1, rfl⟩
  obtain ⟨n, rfl, _⟩ := tyInt Tryd.underlying3 h0
  obtain ⟨l, rfl, hl, hw⟩ := tyEdges h1
  exact spanTrees_ok hl hw
theorem spanLeasts_main : ∀ avs, TyVs Tryd.prog 9 [3, 22, 24] avs → CallOk Tryd.prog 4 avs mem0 0 { v := .b true } := by
  rintro avs ⟨a0, _, rfl, h0, a1, _, rfl, h1, a2, _, rfl, h2, rfl⟩
  obtain ⟨n, rfl, _⟩ := tyInt Tryd.underlying3 h0
  obtain ⟨l, rfl, hl, hw⟩ := tyEdges h1
  obtain ⟨m, rfl⟩ := tyMarks h2
  exact spanLeasts_ok hl hw
set_option maxRecDepth 100000 in
theorem spanTrees_lifted (os : Os) (started : os.Started) (H : Type) (enc : TypeId × Value → H) :
    ReturnsInHanded {} Tryd.checked os 3 .any (fun w args => (Rows.spanTreesSpec.pre enc Tryd.prog Tryd.f3 [] false w args ∧ laidMetH Tryd.prog Rows.spanTreesRow.laid w) ∧ sizedMet enc Tryd.prog Tryd.f3 (OpenSpec.ofChange Rows.spanTreesSpec) false w args)
      (Rows.spanTreesSpec.post enc Tryd.prog Tryd.f3 false true false false) :=
  lifted_laid started own (by kernel_rfl) Tryd.func3
    (ChangeSpec.witness_at (enc := enc) (C := Tryd.checked) (os := os) (X := fun w _ => laidMetH Tryd.prog Rows.spanTreesRow.laid w) false (laidWorld os) #[.int .i64 0, .slice none 0 0] 8 rfl (by kernel_rfl) (by kernel_rfl) (by kernel_rfl) (by kernel_rfl) (by kernel_rfl) (laidWorld_met os _))
    laidOut (by kernel_rfl) (by kernel_rfl) (tb := 4) (by kernel_rfl) Tryd.underlying4 rfl rfl
    (fun ds h => by
      match ds, h with
      | [_, _], _ => exact ⟨rfl, rfl, rfl⟩)
    (fun W h => layOk_of h) spanTrees_main
theorem spanTrees_row : Rows.SpanTreesSaid :=
  OpenClaim.holds_of_wide 3 Tryd.f3 rfl rfl rfl rfl rfl rfl rfl ⟨rfl, rfl, rfl, rfl, rfl⟩ rfl rfl rfl rfl rfl (by kernel_rfl) Tryd.func3 (by kernel_rfl)
    (of_decide_eq_true (by kernel_rfl)) (by unfold Func.isWrapper; first | (rw [if_pos (by decide +kernel)]; kernel_rfl) | (rw [if_neg (by decide +kernel)]; exact ⟨rfl, rfl⟩))
    (fun os started H enc _ => spanTrees_lifted os started H enc)
theorem spanTrees_card_holds : Rows.SpanTreesCardSaid :=
  Claim7.holds_tied_plain_at .later [] [.handle] true (true, "9216e0363a9f103dee6ab26e1f104959bcb862399df494fc28d50a0d5b644f14") true
    spanTrees_row (fun _ h => by cases h) (by kernel_rfl) (fun _ h => by cases h) spanTrees_row_tie rfl ⟨rfl, rfl⟩ (by kernel_rfl) rfl
    (fun f fn hf hfn => by
      obtain rfl : f = 3 := Option.some.inj ((show Tryd.prog.funcNamed "plait/plaitlaw09.SpanTrees" = some 3 by kernel_rfl).symm.trans hf) |>.symm
      obtain rfl : fn = Tryd.f3 := (Option.some.inj (Tryd.func3.symm.trans hfn)).symm
      exact ⟨by kernel_rfl, params_all (q := Tryd.prog.wantsStandIn) (by kernel_rfl)⟩)
    (by kernel_rfl)
#print axioms spanTrees_card_holds
set_option maxRecDepth 100000 in
theorem spanLeasts_lifted (os : Os) (started : os.Started) (H : Type) (enc : TypeId × Value → H) :
    ReturnsInHanded {} Tryd.checked os 4 .any (fun w args => (Rows.spanLeastsSpec.pre enc Tryd.prog Tryd.f4 [] false w args ∧ laidMetH Tryd.prog Rows.spanLeastsRow.laid w) ∧ sizedMet enc Tryd.prog Tryd.f4 (OpenSpec.ofChange Rows.spanLeastsSpec) false w args)
      (Rows.spanLeastsSpec.post enc Tryd.prog Tryd.f4 false true false false) :=
  lifted_laid started own (by kernel_rfl) Tryd.func4
    (ChangeSpec.witness_at (enc := enc) (C := Tryd.checked) (os := os) (X := fun w _ => laidMetH Tryd.prog Rows.spanLeastsRow.laid w) false (laidWorld os) #[.int .i64 0, .slice none 0 0, .slice none 0 0] 8 rfl (by kernel_rfl) (by kernel_rfl) (by kernel_rfl) (by kernel_rfl) (by kernel_rfl) (laidWorld_met os _))
    laidOut (by kernel_rfl) (by kernel_rfl) (tb := 4) (by kernel_rfl) Tryd.underlying4 rfl rfl
    (fun ds h => by
      match ds, h with
      | [_, _, _], _ => exact ⟨rfl, rfl, rfl⟩)
    (fun W h => layOk_of h) spanLeasts_main
theorem spanLeasts_row : Rows.SpanLeastsSaid :=
  OpenClaim.holds_of_wide 4 Tryd.f4 rfl rfl rfl rfl rfl rfl rfl ⟨rfl, rfl, rfl, rfl, rfl⟩ rfl rfl rfl rfl rfl (by kernel_rfl) Tryd.func4 (by kernel_rfl)
    (of_decide_eq_true (by kernel_rfl)) (by unfold Func.isWrapper; first | (rw [if_pos (by decide +kernel)]; kernel_rfl) | (rw [if_neg (by decide +kernel)]; exact ⟨rfl, rfl⟩))
    (fun os started H enc _ => spanLeasts_lifted os started H enc)
theorem spanLeasts_card_holds : Rows.SpanLeastsCardSaid :=
  Claim7.holds_tied_plain_at .later [] [.handle] true (true, "9216e0363a9f103dee6ab26e1f104959bcb862399df494fc28d50a0d5b644f14") true
    spanLeasts_row (fun _ h => by cases h) (by kernel_rfl) (fun _ h => by cases h) spanLeasts_row_tie rfl ⟨rfl, rfl⟩ (by kernel_rfl) rfl
    (fun f fn hf hfn => by
      obtain rfl : f = 4 := Option.some.inj ((show Tryd.prog.funcNamed "plait/plaitlaw09.SpanLeasts" = some 4 by kernel_rfl).symm.trans hf) |>.symm
      obtain rfl : fn = Tryd.f4 := (Option.some.inj (Tryd.func4.symm.trans hfn)).symm
      exact ⟨by kernel_rfl, params_all (q := Tryd.prog.wantsStandIn) (by kernel_rfl)⟩)
    (by kernel_rfl)
#print axioms spanLeasts_card_holds
end Go.Proofs.YtkjmlfbafmdegaaDoor
