/- CmdEncodes, CmdDecodes, CmdBack, CmdSizes, CmdCodes: for every input the laws return true, and the arguments read as before. The listed variable is tied to the program's text. -/
import Derived.Test.YtopjkgappjgjnaaDoorCmdDoorBase
import Derived.Test.YtopjkgappjgjnaaDoorCmdD16
namespace Go.Proofs.YtopjkgappjgjnaaDoor
open Go Go.Vm Go.CmdM Go.ChangeShapes Go.WideShapes Go.ChangeAt Go.RowKit
set_option maxRecDepth 100000
theorem tC_int {f : Nat} {t : TypeId} {kd : IntKind} {cs : List AV} (ht : Tryd.prog.underlying t = some (.int kd)) (h : TyC Tryd.prog (f + 1) t cs) : ∃ n, cs = [.i kd n] ∧ kd.min ≤ n ∧ n ≤ kd.max := by
  unfold TyC at h
  rw [ht] at h
  exact h
theorem cl3 : Tryd.prog.cellsOf 3 = 1 := by kernel_rfl
theorem cl5 : Tryd.prog.cellsOf 5 = 1 := by kernel_rfl
theorem cl21 : Tryd.prog.cellsOf 21 = 1 := by kernel_rfl
theorem cl22 : Tryd.prog.cellsOf 22 = 1 := by kernel_rfl
theorem cl24 : Tryd.prog.cellsOf 24 = 2 := by kernel_rfl
theorem cl25 : Tryd.prog.cellsOf 25 = 4 := by kernel_rfl
theorem cl26 : Tryd.prog.cellsOf 26 = 2 := by kernel_rfl
theorem cl27 : Tryd.prog.cellsOf 27 = 1 := by kernel_rfl
theorem cl29 : Tryd.prog.cellsOf 29 = 9 := by kernel_rfl
theorem tC_handle {f : Nat} {cs : List AV} (h : TyC Tryd.prog (f + 2) 24 cs) : ∃ p q : Int, cs = [.i .u32 p, .i .u32 q] ∧ (0 ≤ p ∧ p < 4294967296) ∧ 0 ≤ q ∧ q < 4294967296 := by
  unfold TyC at h
  rw [Tryd.underlying24] at h
  obtain ⟨hl, h⟩ := h
  rw [cl24] at hl
  obtain ⟨p, h1, p1, p2⟩ := tC_int Tryd.underlying22 (h _ (List.mem_cons_self ..))
  obtain ⟨q, h2, q1, q2⟩ := tC_int Tryd.underlying22 (h _ (List.mem_cons_of_mem _ (List.mem_cons_self ..)))
  simp only [cl22] at h1 h2
  match cs, hl with
  | [x, y], _ =>
    simp at h1 h2
    refine ⟨p, q, by rw [h1, h2], ⟨p1, ?_⟩, q1, ?_⟩
    · have : IntKind.u32.max = 4294967295 := by decide
      omega
    · have : IntKind.u32.max = 4294967295 := by decide
      omega
theorem tyCmd {a : AV} (h : TyV Tryd.prog 9 29 a) : ∃ c : Cm, a = .agg (cC c) ∧ In c ∧ Byt c.d := by
  unfold TyV at h
  rw [Tryd.underlying29] at h
  obtain ⟨cs, rfl, h⟩ := h
  unfold TyC at h
  rw [Tryd.underlying29] at h
  obtain ⟨hl, h⟩ := h
  rw [cl29] at hl
  obtain ⟨co, g1, _, _⟩ := tC_int Tryd.underlying3 (h _ (List.mem_cons_self ..))
  have g2 := h _ (List.mem_cons_of_mem _ (List.mem_cons_self ..))
  have g3 := h _ (List.mem_cons_of_mem _ (List.mem_cons_of_mem _ (List.mem_cons_self ..)))
  obtain ⟨w, g4, w1, w2⟩ := tC_int Tryd.underlying21 (h _ (List.mem_cons_of_mem _ (List.mem_cons_of_mem _ (List.mem_cons_of_mem _ (List.mem_cons_self ..)))))
  have g5 := h _ (List.mem_cons_of_mem _ (List.mem_cons_of_mem _ (List.mem_cons_of_mem _ (List.mem_cons_of_mem _ (List.mem_cons_self ..)))))
  simp only [cl3, cl25, cl26, cl21, cl27] at g1 g2 g3 g4 g5
  unfold TyC at g2
  rw [Tryd.underlying25] at g2
  obtain ⟨_, g2⟩ := g2
  obtain ⟨a0, t0, k1, ha0, ht0⟩ := tC_handle (g2 0 (by decide))
  obtain ⟨a1, t1, k2, ha1, ht1⟩ := tC_handle (g2 1 (by decide))
  obtain ⟨s0, s1, k3, _, _⟩ := tyTwo Tryd.underlying26 Tryd.underlying3 cl3 cl26 g3
  unfold TyC at g5
  rw [Tryd.underlying27] at g5
  obtain ⟨xs, g5, _, _, g6⟩ := g5
  obtain ⟨d, rfl, hd⟩ := tyInts Tryd.underlying5 g6
  simp only [cl24, cl5] at k1 k2 g5
  match cs, hl with
  | [x1, x2, x3, x4, x5, x6, x7, x8, x9], _ =>
    simp at g1 k1 k2 k3 g4 g5
    obtain ⟨k1a, k1b⟩ := k1
    obtain ⟨k2a, k2b⟩ := k2
    obtain ⟨k3a, k3b⟩ := k3
    refine ⟨⟨co, a0, t0, a1, t1, s0, s1, w, d⟩, by rw [g1, k1a, k1b, k2a, k2b, k3a, k3b, g4, g5]; rfl, ⟨⟨ha0, ht0, ha1, ht1⟩, ?_⟩, ?_⟩
    · have e1 : IntKind.i32.min = -2147483648 := by decide
      have e2 : IntKind.i32.max = 2147483647 := by decide
      show -2147483648 ≤ w ∧ w ≤ 2147483647
      omega
    · intro n hn
      have := hd n hn
      have e1 : IntKind.u8.min = 0 := by decide
      have e2 : IntKind.u8.max = 255 := by decide
      omega
theorem tyBytes {a : AV} (h : TyV Tryd.prog 9 27 a) : ∃ b : List Int, a = bI b ∧ Byt b := by
  obtain ⟨ns, rfl, _, _, h3⟩ := tyInts' Tryd.underlying27 Tryd.underlying5 cl5 h
  refine ⟨ns, rfl, fun n hn => ?_⟩
  have := h3 n hn
  have e1 : IntKind.u8.min = 0 := by decide
  have e2 : IntKind.u8.max = 255 := by decide
  omega
theorem cmdEncodes_main : ∀ avs, TyVs Tryd.prog 9 [29] avs → CallOk Tryd.prog 3 avs mem0 0 { v := .b true } := by
  rintro avs ⟨a0, _, rfl, h0, rfl⟩
  obtain ⟨c, rfl, hi, _⟩ := tyCmd h0
  exact cmdEncodes_ok hi
theorem cmdDecodes_main : ∀ avs, TyVs Tryd.prog 9 [27] avs → CallOk Tryd.prog 4 avs mem0 0 { v := .b true } := by
  rintro avs ⟨a0, _, rfl, h0, rfl⟩
  obtain ⟨b, rfl, hb⟩ := tyBytes h0
  exact cmdDecodes_ok hb
theorem cmdBack_main : ∀ avs, TyVs Tryd.prog 9 [29, 27] avs → CallOk Tryd.prog 5 avs mem0 0 { v := .b true } := by
  rintro avs ⟨a0, _, rfl, h0, a1, _, rfl, h1, rfl⟩
  obtain ⟨c, rfl, hi, hd⟩ := tyCmd h0
  obtain ⟨b, rfl, hb⟩ := tyBytes h1
  exact cmdBack_ok hi hd hb
theorem cmdSizes_main : ∀ avs, TyVs Tryd.prog 9 [29] avs → CallOk Tryd.prog 6 avs mem0 0 { v := .b true } := by
  rintro avs ⟨a0, _, rfl, h0, rfl⟩
  obtain ⟨c, rfl, hi, hd⟩ := tyCmd h0
  exact cmdSizes_ok hi hd
theorem cmdCodes_main : ∀ avs, TyVs Tryd.prog 9 [29, 5] avs → CallOk Tryd.prog 7 avs mem0 0 { v := .b true } := by
  rintro avs ⟨a0, _, rfl, h0, a1, _, rfl, h1, rfl⟩
  obtain ⟨c, rfl, hi, hd⟩ := tyCmd h0
  obtain ⟨x, rfl, x1, x2⟩ := tyInt Tryd.underlying5 h1
  refine cmdCodes_ok hi hd ?_
  have e1 : IntKind.u8.min = 0 := by decide
  have e2 : IntKind.u8.max = 255 := by decide
  omega
set_option maxRecDepth 100000 in
theorem cmdEncodes_lifted (os : Os) (started : os.Started) (H : Type) (enc : TypeId × Value → H) :
    ReturnsInHanded {} Tryd.checked os 3 .any (fun w args => (Rows.cmdEncodesSpec.pre enc Tryd.prog Tryd.f3 [] false w args ∧ laidMetH Tryd.prog Rows.cmdEncodesRow.laid w) ∧ sizedMet enc Tryd.prog Tryd.f3 (OpenSpec.ofChange Rows.cmdEncodesSpec) false w args)
      (Rows.cmdEncodesSpec.post enc Tryd.prog Tryd.f3 false true false false) :=
  lifted_laid started own (by kernel_rfl) Tryd.func3
    (ChangeSpec.witness_at (enc := enc) (C := Tryd.checked) (os := os) (X := fun w _ => laidMetH Tryd.prog Rows.cmdEncodesRow.laid w) false (laidWorld os) #[.agg #[.int .i64 0, .int .u32 0, .int .u32 0, .int .u32 0, .int .u32 0, .int .i64 0, .int .i64 0, .int .i32 0, .slice none 0 0]] 8 rfl (by kernel_rfl) (by kernel_rfl) (by kernel_rfl) (by kernel_rfl) (by kernel_rfl) (laidWorld_met os _))
    laidOut (by kernel_rfl) (by kernel_rfl) (tb := 4) (by kernel_rfl) Tryd.underlying4 rfl rfl
    (fun ds h => by
      match ds, h with
      | [_], _ => exact ⟨rfl, rfl, rfl⟩)
    (fun W h => layOk_of h) cmdEncodes_main
theorem cmdEncodes_row : Rows.CmdEncodesSaid :=
  OpenClaim.holds_of_wide 3 Tryd.f3 rfl rfl rfl rfl rfl rfl rfl ⟨rfl, rfl, rfl, rfl, rfl⟩ rfl rfl rfl rfl rfl (by kernel_rfl) Tryd.func3 (by kernel_rfl)
    (of_decide_eq_true (by kernel_rfl)) (by unfold Func.isWrapper; first | (rw [if_pos (by decide +kernel)]; kernel_rfl) | (rw [if_neg (by decide +kernel)]; exact ⟨rfl, rfl⟩))
    (fun os started H enc _ => cmdEncodes_lifted os started H enc)
theorem cmdEncodes_card_holds : Rows.CmdEncodesCardSaid :=
  Claim7.holds_tied_plain_at .later [] [.handle] true (true, "224ab7081a45d54e2fdfb559b3b90347ebf3d930ccdcb6c9421e0f500ad5c6ed") true
    cmdEncodes_row (fun _ h => by cases h) (by kernel_rfl) (fun _ h => by cases h) cmdEncodes_row_tie rfl ⟨rfl, rfl⟩ (by kernel_rfl) rfl
    (fun f fn hf hfn => by
      obtain rfl : f = 3 := Option.some.inj ((show Tryd.prog.funcNamed "plait/plaitlaw19.CmdEncodes" = some 3 by kernel_rfl).symm.trans hf) |>.symm
      obtain rfl : fn = Tryd.f3 := (Option.some.inj (Tryd.func3.symm.trans hfn)).symm
      exact ⟨by kernel_rfl, params_all (q := Tryd.prog.wantsStandIn) (by kernel_rfl)⟩)
    (by kernel_rfl)
#print axioms cmdEncodes_card_holds
set_option maxRecDepth 100000 in
theorem cmdDecodes_lifted (os : Os) (started : os.Started) (H : Type) (enc : TypeId × Value → H) :
    ReturnsInHanded {} Tryd.checked os 4 .any (fun w args => (Rows.cmdDecodesSpec.pre enc Tryd.prog Tryd.f4 [] false w args ∧ laidMetH Tryd.prog Rows.cmdDecodesRow.laid w) ∧ sizedMet enc Tryd.prog Tryd.f4 (OpenSpec.ofChange Rows.cmdDecodesSpec) false w args)
      (Rows.cmdDecodesSpec.post enc Tryd.prog Tryd.f4 false true false false) :=
  lifted_laid started own (by kernel_rfl) Tryd.func4
    (ChangeSpec.witness_at (enc := enc) (C := Tryd.checked) (os := os) (X := fun w _ => laidMetH Tryd.prog Rows.cmdDecodesRow.laid w) false (laidWorld os) #[.slice none 0 0] 8 rfl (by kernel_rfl) (by kernel_rfl) (by kernel_rfl) (by kernel_rfl) (by kernel_rfl) (laidWorld_met os _))
    laidOut (by kernel_rfl) (by kernel_rfl) (tb := 4) (by kernel_rfl) Tryd.underlying4 rfl rfl
    (fun ds h => by
      match ds, h with
      | [_], _ => exact ⟨rfl, rfl, rfl⟩)
    (fun W h => layOk_of h) cmdDecodes_main
theorem cmdDecodes_row : Rows.CmdDecodesSaid :=
  OpenClaim.holds_of_wide 4 Tryd.f4 rfl rfl rfl rfl rfl rfl rfl ⟨rfl, rfl, rfl, rfl, rfl⟩ rfl rfl rfl rfl rfl (by kernel_rfl) Tryd.func4 (by kernel_rfl)
    (of_decide_eq_true (by kernel_rfl)) (by unfold Func.isWrapper; first | (rw [if_pos (by decide +kernel)]; kernel_rfl) | (rw [if_neg (by decide +kernel)]; exact ⟨rfl, rfl⟩))
    (fun os started H enc _ => cmdDecodes_lifted os started H enc)
theorem cmdDecodes_card_holds : Rows.CmdDecodesCardSaid :=
  Claim7.holds_tied_plain_at .later [] [.handle] true (true, "224ab7081a45d54e2fdfb559b3b90347ebf3d930ccdcb6c9421e0f500ad5c6ed") true
    cmdDecodes_row (fun _ h => by cases h) (by kernel_rfl) (fun _ h => by cases h) cmdDecodes_row_tie rfl ⟨rfl, rfl⟩ (by kernel_rfl) rfl
    (fun f fn hf hfn => by
      obtain rfl : f = 4 := Option.some.inj ((show Tryd.prog.funcNamed "plait/plaitlaw19.CmdDecodes" = some 4 by kernel_rfl).symm.trans hf) |>.symm
      obtain rfl : fn = Tryd.f4 := (Option.some.inj (Tryd.func4.symm.trans hfn)).symm
      exact ⟨by kernel_rfl, params_all (q := Tryd.prog.wantsStandIn) (by kernel_rfl)⟩)
    (by kernel_rfl)
#print axioms cmdDecodes_card_holds
set_option maxRecDepth 100000 in
theorem cmdBack_lifted (os : Os) (started : os.Started) (H : Type) (enc : TypeId × Value → H) :
    ReturnsInHanded {} Tryd.checked os 5 .any (fun w args => (Rows.cmdBackSpec.pre enc Tryd.prog Tryd.f5 [] false w args ∧ laidMetH Tryd.prog Rows.cmdBackRow.laid w) ∧ sizedMet enc Tryd.prog Tryd.f5 (OpenSpec.ofChange Rows.cmdBackSpec) false w args)
      (Rows.cmdBackSpec.post enc Tryd.prog Tryd.f5 false true false false) :=
  lifted_laid started own (by kernel_rfl) Tryd.func5
    (ChangeSpec.witness_at (enc := enc) (C := Tryd.checked) (os := os) (X := fun w _ => laidMetH Tryd.prog Rows.cmdBackRow.laid w) false (laidWorld os) #[.agg #[.int .i64 0, .int .u32 0, .int .u32 0, .int .u32 0, .int .u32 0, .int .i64 0, .int .i64 0, .int .i32 0, .slice none 0 0], .slice none 0 0] 8 rfl (by kernel_rfl) (by kernel_rfl) (by kernel_rfl) (by kernel_rfl) (by kernel_rfl) (laidWorld_met os _))
    laidOut (by kernel_rfl) (by kernel_rfl) (tb := 4) (by kernel_rfl) Tryd.underlying4 rfl rfl
    (fun ds h => by
      match ds, h with
      | [_, _], _ => exact ⟨rfl, rfl, rfl⟩)
    (fun W h => layOk_of h) cmdBack_main
theorem cmdBack_row : Rows.CmdBackSaid :=
  OpenClaim.holds_of_wide 5 Tryd.f5 rfl rfl rfl rfl rfl rfl rfl ⟨rfl, rfl, rfl, rfl, rfl⟩ rfl rfl rfl rfl rfl (by kernel_rfl) Tryd.func5 (by kernel_rfl)
    (of_decide_eq_true (by kernel_rfl)) (by unfold Func.isWrapper; first | (rw [if_pos (by decide +kernel)]; kernel_rfl) | (rw [if_neg (by decide +kernel)]; exact ⟨rfl, rfl⟩))
    (fun os started H enc _ => cmdBack_lifted os started H enc)
theorem cmdBack_card_holds : Rows.CmdBackCardSaid :=
  Claim7.holds_tied_plain_at .later [] [.handle] true (true, "224ab7081a45d54e2fdfb559b3b90347ebf3d930ccdcb6c9421e0f500ad5c6ed") true
    cmdBack_row (fun _ h => by cases h) (by kernel_rfl) (fun _ h => by cases h) cmdBack_row_tie rfl ⟨rfl, rfl⟩ (by kernel_rfl) rfl
    (fun f fn hf hfn => by
      obtain rfl : f = 5 := Option.some.inj ((show Tryd.prog.funcNamed "plait/plaitlaw19.CmdBack" = some 5 by kernel_rfl).symm.trans hf) |>.symm
      obtain rfl : fn = Tryd.f5 := (Option.some.inj (Tryd.func5.symm.trans hfn)).symm
      exact ⟨by kernel_rfl, params_all (q := Tryd.prog.wantsStandIn) (by kernel_rfl)⟩)
    (by kernel_rfl)
#print axioms cmdBack_card_holds
set_option maxRecDepth 100000 in
theorem cmdSizes_lifted (os : Os) (started : os.Started) (H : Type) (enc : TypeId × Value → H) :
    ReturnsInHanded {} Tryd.checked os 6 .any (fun w args => (Rows.cmdSizesSpec.pre enc Tryd.prog Tryd.f6 [] false w args ∧ laidMetH Tryd.prog Rows.cmdSizesRow.laid w) ∧ sizedMet enc Tryd.prog Tryd.f6 (OpenSpec.ofChange Rows.cmdSizesSpec) false w args)
      (Rows.cmdSizesSpec.post enc Tryd.prog Tryd.f6 false true false false) :=
  lifted_laid started own (by kernel_rfl) Tryd.func6
    (ChangeSpec.witness_at (enc := enc) (C := Tryd.checked) (os := os) (X := fun w _ => laidMetH Tryd.prog Rows.cmdSizesRow.laid w) false (laidWorld os) #[.agg #[.int .i64 0, .int .u32 0, .int .u32 0, .int .u32 0, .int .u32 0, .int .i64 0, .int .i64 0, .int .i32 0, .slice none 0 0]] 8 rfl (by kernel_rfl) (by kernel_rfl) (by kernel_rfl) (by kernel_rfl) (by kernel_rfl) (laidWorld_met os _))
    laidOut (by kernel_rfl) (by kernel_rfl) (tb := 4) (by kernel_rfl) Tryd.underlying4 rfl rfl
    (fun ds h => by
      match ds, h with
      | [_], _ => exact ⟨rfl, rfl, rfl⟩)
    (fun W h => layOk_of h) cmdSizes_main
theorem cmdSizes_row : Rows.CmdSizesSaid :=
  OpenClaim.holds_of_wide 6 Tryd.f6 rfl rfl rfl rfl rfl rfl rfl ⟨rfl, rfl, rfl, rfl, rfl⟩ rfl rfl rfl rfl rfl (by kernel_rfl) Tryd.func6 (by kernel_rfl)
    (of_decide_eq_true (by kernel_rfl)) (by unfold Func.isWrapper; first | (rw [if_pos (by decide +kernel)]; kernel_rfl) | (rw [if_neg (by decide +kernel)]; exact ⟨rfl, rfl⟩))
    (fun os started H enc _ => cmdSizes_lifted os started H enc)
theorem cmdSizes_card_holds : Rows.CmdSizesCardSaid :=
  Claim7.holds_tied_plain_at .later [] [.handle] true (true, "224ab7081a45d54e2fdfb559b3b90347ebf3d930ccdcb6c9421e0f500ad5c6ed") true
    cmdSizes_row (fun _ h => by cases h) (by kernel_rfl) (fun _ h => by cases h) cmdSizes_row_tie rfl ⟨rfl, rfl⟩ (by kernel_rfl) rfl
    (fun f fn hf hfn => by
      obtain rfl : f = 6 := Option.some.inj ((show Tryd.prog.funcNamed "plait/plaitlaw19.CmdSizes" = some 6 by kernel_rfl).symm.trans hf) |>.symm
      obtain rfl : fn = Tryd.f6 := (Option.some.inj (Tryd.func6.symm.trans hfn)).symm
      exact ⟨by kernel_rfl, params_all (q := Tryd.prog.wantsStandIn) (by kernel_rfl)⟩)
    (by kernel_rfl)
#print axioms cmdSizes_card_holds
set_option maxRecDepth 100000 in
theorem cmdCodes_lifted (os : Os) (started : os.Started) (H : Type) (enc : TypeId × Value → H) :
    ReturnsInHanded {} Tryd.checked os 7 .any (fun w args => (Rows.cmdCodesSpec.pre enc Tryd.prog Tryd.f7 [] false w args ∧ laidMetH Tryd.prog Rows.cmdCodesRow.laid w) ∧ sizedMet enc Tryd.prog Tryd.f7 (OpenSpec.ofChange Rows.cmdCodesSpec) false w args)
      (Rows.cmdCodesSpec.post enc Tryd.prog Tryd.f7 false true false false) :=
  lifted_laid started own (by kernel_rfl) Tryd.func7
    (ChangeSpec.witness_at (enc := enc) (C := Tryd.checked) (os := os) (X := fun w _ => laidMetH Tryd.prog Rows.cmdCodesRow.laid w) false (laidWorld os) #[.agg #[.int .i64 0, .int .u32 0, .int .u32 0, .int .u32 0, .int .u32 0, .int .i64 0, .int .i64 0, .int .i32 0, .slice none 0 0], .int .u8 0] 8 rfl (by kernel_rfl) (by kernel_rfl) (by kernel_rfl) (by kernel_rfl) (by kernel_rfl) (laidWorld_met os _))
    laidOut (by kernel_rfl) (by kernel_rfl) (tb := 4) (by kernel_rfl) Tryd.underlying4 rfl rfl
    (fun ds h => by
      match ds, h with
      | [_, _], _ => exact ⟨rfl, rfl, rfl⟩)
    (fun W h => layOk_of h) cmdCodes_main
theorem cmdCodes_row : Rows.CmdCodesSaid :=
  OpenClaim.holds_of_wide 7 Tryd.f7 rfl rfl rfl rfl rfl rfl rfl ⟨rfl, rfl, rfl, rfl, rfl⟩ rfl rfl rfl rfl rfl (by kernel_rfl) Tryd.func7 (by kernel_rfl)
    (of_decide_eq_true (by kernel_rfl)) (by unfold Func.isWrapper; first | (rw [if_pos (by decide +kernel)]; kernel_rfl) | (rw [if_neg (by decide +kernel)]; exact ⟨rfl, rfl⟩))
    (fun os started H enc _ => cmdCodes_lifted os started H enc)
theorem cmdCodes_card_holds : Rows.CmdCodesCardSaid :=
  Claim7.holds_tied_plain_at .later [] [.handle] true (true, "224ab7081a45d54e2fdfb559b3b90347ebf3d930ccdcb6c9421e0f500ad5c6ed") true
    cmdCodes_row (fun _ h => by cases h) (by kernel_rfl) (fun _ h => by cases h) cmdCodes_row_tie rfl ⟨rfl, rfl⟩ (by kernel_rfl) rfl
    (fun f fn hf hfn => by
      obtain rfl : f = 7 := Option.some.inj ((show Tryd.prog.funcNamed "plait/plaitlaw19.CmdCodes" = some 7 by kernel_rfl).symm.trans hf) |>.symm
      obtain rfl : fn = Tryd.f7 := (Option.some.inj (Tryd.func7.symm.trans hfn)).symm
      exact ⟨by kernel_rfl, params_all (q := Tryd.prog.wantsStandIn) (by kernel_rfl)⟩)
    (by kernel_rfl)
#print axioms cmdCodes_card_holds
end Go.Proofs.YtopjkgappjgjnaaDoor
