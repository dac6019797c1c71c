/- EdgesFar and EdgesKeys: for every weight, slot and key the laws return true, and the arguments read as before. The listed variable is tied to the program's text. -/
import Derived.Test.YtphfhbhdpkekmaaDoorEdgesDoorBase
import Derived.Test.YtphfhbhdpkekmaaDoorEdgesDoor2
namespace Go.Proofs.YtphfhbhdpkekmaaDoor
open Go Go.Vm Go.ChangeShapes Go.WideShapes Go.ChangeAt Go.RowKit
theorem edgesFar_main : ∀ avs, TyVs Tryd.prog 9 [21, 3] avs → CallOk Tryd.prog 3 avs mem0 0 { v := .b true } := by
  rintro avs ⟨a0, _, rfl, h0, a1, _, rfl, h1, rfl⟩
  obtain ⟨v, rfl, hv⟩ := tyInt Tryd.underlying21 h0
  obtain ⟨s, rfl, hs⟩ := tyInt Tryd.underlying3 h1
  exact edgesFar_ok hv.1 hv.2
theorem edgesKeys_main : ∀ avs, TyVs Tryd.prog 9 [21, 3, 2] avs → CallOk Tryd.prog 4 avs mem0 0 { v := .b true } := by
  rintro avs ⟨a0, _, rfl, h0, a1, _, rfl, h1, a2, _, rfl, h2, rfl⟩
  obtain ⟨v, rfl, hv⟩ := tyInt Tryd.underlying21 h0
  obtain ⟨s, rfl, hs⟩ := tyInt Tryd.underlying3 h1
  obtain ⟨x, rfl, hx⟩ := tyInt Tryd.underlying2 h2
  exact edgesKeys_ok hv.1 hv.2 hx.1 hx.2
set_option maxRecDepth 100000 in
theorem edgesFar_lifted (os : Os) (started : os.Started) (H : Type) (enc : TypeId × Value → H) :
    ReturnsInHanded {} Tryd.checked os 3 .any (fun w args => (Rows.edgesFarSpec.pre enc Tryd.prog Tryd.f3 [] false w args ∧ laidMetH Tryd.prog Rows.edgesFarRow.laid w) ∧ sizedMet enc Tryd.prog Tryd.f3 (OpenSpec.ofChange Rows.edgesFarSpec) false w args)
      (Rows.edgesFarSpec.post enc Tryd.prog Tryd.f3 false true false false) :=
  lifted_laid started own (by kernel_rfl) Tryd.func3
    (ChangeSpec.witness_at (enc := enc) (C := Tryd.checked) (os := os) (X := fun w _ => laidMetH Tryd.prog Rows.edgesFarRow.laid w) false (laidWorld os) #[.int .i32 0, .int .i64 0] 8 rfl (by kernel_rfl) (by kernel_rfl) (by kernel_rfl) (by kernel_rfl) (by kernel_rfl) (laidWorld_met os _))
    laidOut (by kernel_rfl) (by kernel_rfl) (tb := 4) (by kernel_rfl) Tryd.underlying4 rfl rfl
    (fun ds h => by
      match ds, h with
      | [_, _], _ => exact ⟨rfl, rfl, rfl⟩)
    (fun W h => layOk_of h) edgesFar_main
theorem edgesFar_row : Rows.EdgesFarSaid :=
  OpenClaim.holds_of_wide 3 Tryd.f3 rfl rfl rfl rfl rfl rfl rfl ⟨rfl, rfl, rfl, rfl, rfl⟩ rfl rfl rfl rfl rfl (by kernel_rfl) Tryd.func3 (by kernel_rfl)
    (of_decide_eq_true (by kernel_rfl)) (by unfold Func.isWrapper; first | (rw [if_pos (by decide +kernel)]; kernel_rfl) | (rw [if_neg (by decide +kernel)]; exact ⟨rfl, rfl⟩))
    (fun os started H enc _ => edgesFar_lifted os started H enc)
theorem edgesFar_card_holds : Rows.EdgesFarCardSaid :=
  Claim7.holds_tied_plain_at .later [] [.handle] true (true, "cb95a854e333af6972825caa9219fd0967b4413ff87105d1f34234601c27c001") true
    edgesFar_row (fun _ h => by cases h) (by kernel_rfl) (fun _ h => by cases h) edgesFar_row_tie rfl ⟨rfl, rfl⟩ (by kernel_rfl) rfl
    (fun f fn hf hfn => by
      obtain rfl : f = 3 := Option.some.inj ((show Tryd.prog.funcNamed "plait/plaitlaw13.EdgesFar" = some 3 by kernel_rfl).symm.trans hf) |>.symm
      obtain rfl : fn = Tryd.f3 := (Option.some.inj (Tryd.func3.symm.trans hfn)).symm
      exact ⟨by kernel_rfl, params_all (q := Tryd.prog.wantsStandIn) (by kernel_rfl)⟩)
    (by kernel_rfl)
#print axioms edgesFar_card_holds
set_option maxRecDepth 100000 in
theorem edgesKeys_lifted (os : Os) (started : os.Started) (H : Type) (enc : TypeId × Value → H) :
    ReturnsInHanded {} Tryd.checked os 4 .any (fun w args => (Rows.edgesKeysSpec.pre enc Tryd.prog Tryd.f4 [] false w args ∧ laidMetH Tryd.prog Rows.edgesKeysRow.laid w) ∧ sizedMet enc Tryd.prog Tryd.f4 (OpenSpec.ofChange Rows.edgesKeysSpec) false w args)
      (Rows.edgesKeysSpec.post enc Tryd.prog Tryd.f4 false true false false) :=
  lifted_laid started own (by kernel_rfl) Tryd.func4
    (ChangeSpec.witness_at (enc := enc) (C := Tryd.checked) (os := os) (X := fun w _ => laidMetH Tryd.prog Rows.edgesKeysRow.laid w) false (laidWorld os) #[.int .i32 0, .int .i64 0, .int .i64 0] 8 rfl (by kernel_rfl) (by kernel_rfl) (by kernel_rfl) (by kernel_rfl) (by kernel_rfl) (laidWorld_met os _))
    laidOut (by kernel_rfl) (by kernel_rfl) (tb := 4) (by kernel_rfl) Tryd.underlying4 rfl rfl
    (fun ds h => by
      match ds, h with
      | [_, _, _], _ => exact ⟨rfl, rfl, rfl⟩)
    (fun W h => layOk_of h) edgesKeys_main
theorem edgesKeys_row : Rows.EdgesKeysSaid :=
  OpenClaim.holds_of_wide 4 Tryd.f4 rfl rfl rfl rfl rfl rfl rfl ⟨rfl, rfl, rfl, rfl, rfl⟩ rfl rfl rfl rfl rfl (by kernel_rfl) Tryd.func4 (by kernel_rfl)
    (of_decide_eq_true (by kernel_rfl)) (by unfold Func.isWrapper; first | (rw [if_pos (by decide +kernel)]; kernel_rfl) | (rw [if_neg (by decide +kernel)]; exact ⟨rfl, rfl⟩))
    (fun os started H enc _ => edgesKeys_lifted os started H enc)
theorem edgesKeys_card_holds : Rows.EdgesKeysCardSaid :=
  Claim7.holds_tied_plain_at .later [] [.handle] true (true, "cb95a854e333af6972825caa9219fd0967b4413ff87105d1f34234601c27c001") true
    edgesKeys_row (fun _ h => by cases h) (by kernel_rfl) (fun _ h => by cases h) edgesKeys_row_tie rfl ⟨rfl, rfl⟩ (by kernel_rfl) rfl
    (fun f fn hf hfn => by
      obtain rfl : f = 4 := Option.some.inj ((show Tryd.prog.funcNamed "plait/plaitlaw13.EdgesKeys" = some 4 by kernel_rfl).symm.trans hf) |>.symm
      obtain rfl : fn = Tryd.f4 := (Option.some.inj (Tryd.func4.symm.trans hfn)).symm
      exact ⟨by kernel_rfl, params_all (q := Tryd.prog.wantsStandIn) (by kernel_rfl)⟩)
    (by kernel_rfl)
#print axioms edgesKeys_card_holds
end Go.Proofs.YtphfhbhdpkekmaaDoor
