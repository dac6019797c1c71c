/- WireTakes, WirePuts, WireFrames, WireShort: for every input the laws return true, and the arguments read as before. The listed variable is tied to the program's text. -/
import Derived.Test.YtnmecipoknjkpaaDoorWireDoorBase
import Derived.Test.YtnmecipoknjkpaaDoorWireD3
namespace Go.Proofs.YtnmecipoknjkpaaDoor
open Go Go.Vm Go.ChangeShapes Go.WideShapes Go.ChangeAt Go.RowKit
theorem bytes24 : Tryd.prog.bytesOf 5 = 1 := by kernel_rfl
theorem tyU64 {a : AV} (h : TyV Tryd.prog 9 24 a) : ∃ n : Nat, a = .i .u64 n ∧ n < 2 ^ 64 := by
  obtain ⟨n, rfl, h0, h1⟩ := tyInt Tryd.underlying24 h
  simp [IntKind.min, IntKind.max, IntKind.signed, IntKind.bits] at h0 h1
  exact ⟨n.toNat, by congr 1; omega, by omega⟩
theorem tyBytes {a : AV} (h : TyV Tryd.prog 9 22 a) : ∃ nb : List Int, a = bI nb ∧ nb.length ≤ 140737488351232 ∧ Byt nb := by
  obtain ⟨nb, rfl, _, h2, h3⟩ := tyInts' Tryd.underlying22 Tryd.underlying5 (by kernel_rfl) h
  rw [bytes24] at h2
  exact ⟨nb, rfl, by omega, fun n hn => h3 n hn⟩
theorem wireTakes_main : ∀ avs, TyVs Tryd.prog 9 [22, 3] avs → CallOk Tryd.prog 3 avs mem0 0 { v := .b true } := by
  rintro avs ⟨a0, _, rfl, h0, a1, _, rfl, h1, rfl⟩
  obtain ⟨nb, rfl, h2, h3⟩ := tyBytes h0
  obtain ⟨x, rfl, _⟩ := tyInt Tryd.underlying3 h1
  exact wireTakes_ok h3 h2
theorem wirePuts_main : ∀ avs, TyVs Tryd.prog 9 [22, 24, 3] avs → CallOk Tryd.prog 4 avs mem0 0 { v := .b true } := by
  rintro avs ⟨a0, _, rfl, h0, a1, _, rfl, h1, a2, _, rfl, h2, rfl⟩
  obtain ⟨nb, rfl, _, h3⟩ := tyBytes h0
  obtain ⟨v, rfl, hv⟩ := tyU64 h1
  obtain ⟨x, rfl, _⟩ := tyInt Tryd.underlying3 h2
  exact wirePuts_ok h3 hv
theorem wireFrames_main : ∀ avs, TyVs Tryd.prog 9 [22] avs → CallOk Tryd.prog 5 avs mem0 0 { v := .b true } := by
  rintro avs ⟨a0, _, rfl, h0, rfl⟩
  obtain ⟨nb, rfl, _, h3⟩ := tyBytes h0
  exact wireFrames_ok h3
theorem wireShort_main : ∀ avs, TyVs Tryd.prog 9 [22, 22, 3] avs → CallOk Tryd.prog 6 avs mem0 0 { v := .b true } := by
  rintro avs ⟨a0, _, rfl, h0, a1, _, rfl, h1, a2, _, rfl, h2, rfl⟩
  obtain ⟨nb, rfl, _, h3⟩ := tyBytes h0
  obtain ⟨mo, rfl, _, h4⟩ := tyBytes h1
  obtain ⟨x, rfl, _⟩ := tyInt Tryd.underlying3 h2
  exact wireShort_ok h3 h4
set_option maxRecDepth 100000 in
theorem wireTakes_lifted (os : Os) (started : os.Started) (H : Type) (enc : TypeId × Value → H) :
    ReturnsInHanded {} Tryd.checked os 3 .any (fun w args => (Rows.wireTakesSpec.pre enc Tryd.prog Tryd.f3 [] false w args ∧ laidMetH Tryd.prog Rows.wireTakesRow.laid w) ∧ sizedMet enc Tryd.prog Tryd.f3 (OpenSpec.ofChange Rows.wireTakesSpec) false w args)
      (Rows.wireTakesSpec.post enc Tryd.prog Tryd.f3 false true false false) :=
  lifted_laid started own (by kernel_rfl) Tryd.func3
    (ChangeSpec.witness_at (enc := enc) (C := Tryd.checked) (os := os) (X := fun w _ => laidMetH Tryd.prog Rows.wireTakesRow.laid w) false (laidWorld os) #[.slice none 0 0, .int .i64 0] 8 rfl (by kernel_rfl) (by kernel_rfl) (by kernel_rfl) (by kernel_rfl) (by kernel_rfl) (laidWorld_met os _))
    laidOut (by kernel_rfl) (by kernel_rfl) (tb := 4) (by kernel_rfl) Tryd.underlying4 rfl rfl
    (fun ds h => by
      match ds, h with
      | [_, _], _ => exact ⟨rfl, rfl, rfl⟩)
    (fun W h => layOk_of h) wireTakes_main
theorem wireTakes_row : Rows.WireTakesSaid :=
  OpenClaim.holds_of_wide 3 Tryd.f3 rfl rfl rfl rfl rfl rfl rfl ⟨rfl, rfl, rfl, rfl, rfl⟩ rfl rfl rfl rfl rfl (by kernel_rfl) Tryd.func3 (by kernel_rfl)
    (of_decide_eq_true (by kernel_rfl)) (by unfold Func.isWrapper; first | (rw [if_pos (by decide +kernel)]; kernel_rfl) | (rw [if_neg (by decide +kernel)]; exact ⟨rfl, rfl⟩))
    (fun os started H enc _ => wireTakes_lifted os started H enc)
theorem wireTakes_card_holds : Rows.WireTakesCardSaid :=
  Claim7.holds_tied_plain_at .later [] [.handle] true (true, "95e2e668c09962207ad0995f56178d5b78dd3bc36822ae8478bf38c9e3cba28f") true
    wireTakes_row (fun _ h => by cases h) (by kernel_rfl) (fun _ h => by cases h) wireTakes_row_tie rfl ⟨rfl, rfl⟩ (by kernel_rfl) rfl
    (fun f fn hf hfn => by
      obtain rfl : f = 3 := Option.some.inj ((show Tryd.prog.funcNamed "plait/plaitlaw01.WireTakes" = some 3 by kernel_rfl).symm.trans hf) |>.symm
      obtain rfl : fn = Tryd.f3 := (Option.some.inj (Tryd.func3.symm.trans hfn)).symm
      exact ⟨by kernel_rfl, params_all (q := Tryd.prog.wantsStandIn) (by kernel_rfl)⟩)
    (by kernel_rfl)
#print axioms wireTakes_card_holds
set_option maxRecDepth 100000 in
theorem wirePuts_lifted (os : Os) (started : os.Started) (H : Type) (enc : TypeId × Value → H) :
    ReturnsInHanded {} Tryd.checked os 4 .any (fun w args => (Rows.wirePutsSpec.pre enc Tryd.prog Tryd.f4 [] false w args ∧ laidMetH Tryd.prog Rows.wirePutsRow.laid w) ∧ sizedMet enc Tryd.prog Tryd.f4 (OpenSpec.ofChange Rows.wirePutsSpec) false w args)
      (Rows.wirePutsSpec.post enc Tryd.prog Tryd.f4 false true false false) :=
  lifted_laid started own (by kernel_rfl) Tryd.func4
    (ChangeSpec.witness_at (enc := enc) (C := Tryd.checked) (os := os) (X := fun w _ => laidMetH Tryd.prog Rows.wirePutsRow.laid w) false (laidWorld os) #[.slice none 0 0, .int .u64 0, .int .i64 0] 8 rfl (by kernel_rfl) (by kernel_rfl) (by kernel_rfl) (by kernel_rfl) (by kernel_rfl) (laidWorld_met os _))
    laidOut (by kernel_rfl) (by kernel_rfl) (tb := 4) (by kernel_rfl) Tryd.underlying4 rfl rfl
    (fun ds h => by
      match ds, h with
      | [_, _, _], _ => exact ⟨rfl, rfl, rfl⟩)
    (fun W h => layOk_of h) wirePuts_main
theorem wirePuts_row : Rows.WirePutsSaid :=
  OpenClaim.holds_of_wide 4 Tryd.f4 rfl rfl rfl rfl rfl rfl rfl ⟨rfl, rfl, rfl, rfl, rfl⟩ rfl rfl rfl rfl rfl (by kernel_rfl) Tryd.func4 (by kernel_rfl)
    (of_decide_eq_true (by kernel_rfl)) (by unfold Func.isWrapper; first | (rw [if_pos (by decide +kernel)]; kernel_rfl) | (rw [if_neg (by decide +kernel)]; exact ⟨rfl, rfl⟩))
    (fun os started H enc _ => wirePuts_lifted os started H enc)
theorem wirePuts_card_holds : Rows.WirePutsCardSaid :=
  Claim7.holds_tied_plain_at .later [] [.handle] true (true, "95e2e668c09962207ad0995f56178d5b78dd3bc36822ae8478bf38c9e3cba28f") true
    wirePuts_row (fun _ h => by cases h) (by kernel_rfl) (fun _ h => by cases h) wirePuts_row_tie rfl ⟨rfl, rfl⟩ (by kernel_rfl) rfl
    (fun f fn hf hfn => by
      obtain rfl : f = 4 := Option.some.inj ((show Tryd.prog.funcNamed "plait/plaitlaw01.WirePuts" = some 4 by kernel_rfl).symm.trans hf) |>.symm
      obtain rfl : fn = Tryd.f4 := (Option.some.inj (Tryd.func4.symm.trans hfn)).symm
      exact ⟨by kernel_rfl, params_all (q := Tryd.prog.wantsStandIn) (by kernel_rfl)⟩)
    (by kernel_rfl)
#print axioms wirePuts_card_holds
set_option maxRecDepth 100000 in
theorem wireFrames_lifted (os : Os) (started : os.Started) (H : Type) (enc : TypeId × Value → H) :
    ReturnsInHanded {} Tryd.checked os 5 .any (fun w args => (Rows.wireFramesSpec.pre enc Tryd.prog Tryd.f5 [] false w args ∧ laidMetH Tryd.prog Rows.wireFramesRow.laid w) ∧ sizedMet enc Tryd.prog Tryd.f5 (OpenSpec.ofChange Rows.wireFramesSpec) false w args)
      (Rows.wireFramesSpec.post enc Tryd.prog Tryd.f5 false true false false) :=
  lifted_laid started own (by kernel_rfl) Tryd.func5
    (ChangeSpec.witness_at (enc := enc) (C := Tryd.checked) (os := os) (X := fun w _ => laidMetH Tryd.prog Rows.wireFramesRow.laid w) false (laidWorld os) #[.slice none 0 0] 8 rfl (by kernel_rfl) (by kernel_rfl) (by kernel_rfl) (by kernel_rfl) (by kernel_rfl) (laidWorld_met os _))
    laidOut (by kernel_rfl) (by kernel_rfl) (tb := 4) (by kernel_rfl) Tryd.underlying4 rfl rfl
    (fun ds h => by
      match ds, h with
      | [_], _ => exact ⟨rfl, rfl, rfl⟩)
    (fun W h => layOk_of h) wireFrames_main
theorem wireFrames_row : Rows.WireFramesSaid :=
  OpenClaim.holds_of_wide 5 Tryd.f5 rfl rfl rfl rfl rfl rfl rfl ⟨rfl, rfl, rfl, rfl, rfl⟩ rfl rfl rfl rfl rfl (by kernel_rfl) Tryd.func5 (by kernel_rfl)
    (of_decide_eq_true (by kernel_rfl)) (by unfold Func.isWrapper; first | (rw [if_pos (by decide +kernel)]; kernel_rfl) | (rw [if_neg (by decide +kernel)]; exact ⟨rfl, rfl⟩))
    (fun os started H enc _ => wireFrames_lifted os started H enc)
theorem wireFrames_card_holds : Rows.WireFramesCardSaid :=
  Claim7.holds_tied_plain_at .later [] [.handle] true (true, "95e2e668c09962207ad0995f56178d5b78dd3bc36822ae8478bf38c9e3cba28f") true
    wireFrames_row (fun _ h => by cases h) (by kernel_rfl) (fun _ h => by cases h) wireFrames_row_tie rfl ⟨rfl, rfl⟩ (by kernel_rfl) rfl
    (fun f fn hf hfn => by
      obtain rfl : f = 5 := Option.some.inj ((show Tryd.prog.funcNamed "plait/plaitlaw01.WireFrames" = some 5 by kernel_rfl).symm.trans hf) |>.symm
      obtain rfl : fn = Tryd.f5 := (Option.some.inj (Tryd.func5.symm.trans hfn)).symm
      exact ⟨by kernel_rfl, params_all (q := Tryd.prog.wantsStandIn) (by kernel_rfl)⟩)
    (by kernel_rfl)
#print axioms wireFrames_card_holds
set_option maxRecDepth 100000 in
theorem wireShort_lifted (os : Os) (started : os.Started) (H : Type) (enc : TypeId × Value → H) :
    ReturnsInHanded {} Tryd.checked os 6 .any (fun w args => (Rows.wireShortSpec.pre enc Tryd.prog Tryd.f6 [] false w args ∧ laidMetH Tryd.prog Rows.wireShortRow.laid w) ∧ sizedMet enc Tryd.prog Tryd.f6 (OpenSpec.ofChange Rows.wireShortSpec) false w args)
      (Rows.wireShortSpec.post enc Tryd.prog Tryd.f6 false true false false) :=
  lifted_laid started own (by kernel_rfl) Tryd.func6
    (ChangeSpec.witness_at (enc := enc) (C := Tryd.checked) (os := os) (X := fun w _ => laidMetH Tryd.prog Rows.wireShortRow.laid w) false (laidWorld os) #[.slice none 0 0, .slice none 0 0, .int .i64 0] 8 rfl (by kernel_rfl) (by kernel_rfl) (by kernel_rfl) (by kernel_rfl) (by kernel_rfl) (laidWorld_met os _))
    laidOut (by kernel_rfl) (by kernel_rfl) (tb := 4) (by kernel_rfl) Tryd.underlying4 rfl rfl
    (fun ds h => by
      match ds, h with
      | [_, _, _], _ => exact ⟨rfl, rfl, rfl⟩)
    (fun W h => layOk_of h) wireShort_main
theorem wireShort_row : Rows.WireShortSaid :=
  OpenClaim.holds_of_wide 6 Tryd.f6 rfl rfl rfl rfl rfl rfl rfl ⟨rfl, rfl, rfl, rfl, rfl⟩ rfl rfl rfl rfl rfl (by kernel_rfl) Tryd.func6 (by kernel_rfl)
    (of_decide_eq_true (by kernel_rfl)) (by unfold Func.isWrapper; first | (rw [if_pos (by decide +kernel)]; kernel_rfl) | (rw [if_neg (by decide +kernel)]; exact ⟨rfl, rfl⟩))
    (fun os started H enc _ => wireShort_lifted os started H enc)
theorem wireShort_card_holds : Rows.WireShortCardSaid :=
  Claim7.holds_tied_plain_at .later [] [.handle] true (true, "95e2e668c09962207ad0995f56178d5b78dd3bc36822ae8478bf38c9e3cba28f") true
    wireShort_row (fun _ h => by cases h) (by kernel_rfl) (fun _ h => by cases h) wireShort_row_tie rfl ⟨rfl, rfl⟩ (by kernel_rfl) rfl
    (fun f fn hf hfn => by
      obtain rfl : f = 6 := Option.some.inj ((show Tryd.prog.funcNamed "plait/plaitlaw01.WireShort" = some 6 by kernel_rfl).symm.trans hf) |>.symm
      obtain rfl : fn = Tryd.f6 := (Option.some.inj (Tryd.func6.symm.trans hfn)).symm
      exact ⟨by kernel_rfl, params_all (q := Tryd.prog.wantsStandIn) (by kernel_rfl)⟩)
    (by kernel_rfl)
#print axioms wireShort_card_holds
end Go.Proofs.YtnmecipoknjkpaaDoor
