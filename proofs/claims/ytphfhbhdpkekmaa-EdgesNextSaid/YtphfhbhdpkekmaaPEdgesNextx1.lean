-- PRINTED BY print.sh 35421559b90ae4d0a3588c463048766b98c2df88dd9212a6774a882060cdf62d: not written by this session
import Derived.Test.YtphfhbhdpkekmaaPEdgesNextx0
namespace Go.Proofs.Ytphfhbhdpkekmaa.PEdgesNext
open Go.RowKit Go.Proofs.YtphfhbhdpkekmaaW.PrintWords Go.Proofs.YtphfhbhdpkekmaaW.PrintLast Go.Proofs.YtphfhbhdpkekmaaW.PrintMore
attribute [local go_sem] max2_int min2_int max_two min_two max_three min_three max_four min_four   -- for this text's walks alone
set_option linter.unusedVariables false
set_option linter.unusedSimpArgs false

/-! ### edges_Key: function 5 -/
def edges_Key.f (a0 : Int) (a1 : Int) : Option (Int × Option Int) := if a1 < 0 then (some (0, some 12)) else (if a1 ≥ 1048576 then (some (0, some 12)) else (some (wrap64 ((wrap64 ((wrap64 (a0)) * 1048576)) + a1), none)))
set_option maxHeartbeats 8000000 in
set_option maxRecDepth 100000 in
theorem edges_Key.calls (a0 : Int) (a1 : Int) (r1 : Int) (r2 : Option Int) (w : World) (h : edges_Key.f a0 a1 = some (r1, r2)) :
    Calls Try.prog 5 #[.int .i32 a0, .int .i64 a1] w fun e w' => e = .returned (.tuple #[.int .i64 r1, errW r2]) ∧ Drawn0 w w' := by
  have hu25 := Try.underlying25
  have hu35 := Try.underlying35
  have H : (if a1 < 0 then (some (0, some 12)) else (if a1 ≥ 1048576 then (some (0, some 12)) else (some (wrap64 ((wrap64 ((wrap64 (a0)) * 1048576)) + a1), none)))) = some (r1, r2) := h
  clear h
  by_cases c3 : a1 < 0
  · rw [if_pos c3] at H
    have c3b0 : decide (a1 < 0) = true := decide_eq_true c3
    clear c3
    simp only [Option.some.injEq, Prod.mk.injEq] at H
    obtain ⟨rfl, rfl⟩ := H
    go_enter Try.func5, Try.ntmps5
    go_wp2
    go_ret2
    exact ⟨by first | rfl | (simp; done) | (simp [*]; done), by repeat (first | exact Drawn0.refl _ | apply Drawn0.step)⟩
  · rw [if_neg c3] at H
    have c3b0 : decide (a1 < 0) = false := decide_eq_false c3
    clear c3
    by_cases c4 : a1 ≥ 1048576
    · rw [if_pos c4] at H
      have c4b0 : decide (1048576 ≤ a1) = true := decide_eq_true c4
      clear c4
      simp only [Option.some.injEq, Prod.mk.injEq] at H
      obtain ⟨rfl, rfl⟩ := H
      go_enter Try.func5, Try.ntmps5
      go_wp2
      go_ret2
      exact ⟨by first | rfl | (simp; done) | (simp [*]; done), by repeat (first | exact Drawn0.refl _ | apply Drawn0.step)⟩
    · rw [if_neg c4] at H
      have c4b0 : decide (1048576 ≤ a1) = false := decide_eq_false c4
      clear c4
      simp only [Option.some.injEq, Prod.mk.injEq] at H
      obtain ⟨rfl, rfl⟩ := H
      go_enter Try.func5, Try.ntmps5
      go_wp2
      go_ret2
      exact ⟨by first | rfl | (simp; done) | (simp [*]; done), by repeat (first | exact Drawn0.refl _ | apply Drawn0.step)⟩

/-! ### edges_Weight: function 6 -/
def edges_Weight.f (a0 : Int) : Option (Int) := some (wrap32 (a0 / 1048576))
set_option maxHeartbeats 8000000 in
set_option maxRecDepth 100000 in
theorem edges_Weight.calls (a0 : Int) (r : Int) (w : World) (h : edges_Weight.f a0 = some r) :
    Calls Try.prog 6 #[.int .i64 a0] w fun e w' => e = .returned (.int .i32 r) ∧ Drawn0 w w' := by
  have H : (some (wrap32 (a0 / 1048576))) = some r := h
  clear h
  obtain rfl := Option.some.inj H
  go_enter Try.func6, Try.ntmps6
  go_wp2
  go_ret
  exact ⟨by first | rfl | (simp; done) | (simp [*]; done), by repeat (first | exact Drawn0.refl _ | apply Drawn0.step)⟩

/-! ### edges_Slot: function 7 -/
def edges_Slot.f (a0 : Int) : Option (Int) := some (Go.bits .and .i64 a0 1048575)
set_option maxHeartbeats 8000000 in
set_option maxRecDepth 100000 in
theorem edges_Slot.calls (a0 : Int) (r : Int) (w : World) (h : edges_Slot.f a0 = some r) :
    Calls Try.prog 7 #[.int .i64 a0] w fun e w' => e = .returned (.int .i64 r) ∧ Drawn0 w w' := by
  have H : (some (Go.bits .and .i64 a0 1048575)) = some r := h
  clear h
  obtain rfl := Option.some.inj H
  go_enter Try.func7, Try.ntmps7
  go_wp2
  go_ret
  exact ⟨by first | rfl | (simp; done) | (simp [*]; done), by repeat (first | exact Drawn0.refl _ | apply Drawn0.step)⟩

/-! ### edges_Valid: function 8 -/
def edges_Valid.f (a0 : Int) : Option (Bool) := if (a0 / 1048576) ≥ (-2147483648) then (some (decide ((a0 / 1048576) ≤ 2147483647))) else (some false)
set_option maxHeartbeats 8000000 in
set_option maxRecDepth 100000 in
theorem edges_Valid.calls (a0 : Int) (r : Bool) (w : World) (h : edges_Valid.f a0 = some r) :
    Calls Try.prog 8 #[.int .i64 a0] w fun e w' => e = .returned (.bool r) ∧ Drawn0 w w' := by
  have H : (if (a0 / 1048576) ≥ (-2147483648) then (some (decide ((a0 / 1048576) ≤ 2147483647))) else (some false)) = some r := h
  clear h
  by_cases c2 : (a0 / 1048576) ≥ (-2147483648)
  · rw [if_pos c2] at H
    have c2b0 : decide ((-2147483648) ≤ (a0 / 1048576)) = true := decide_eq_true c2
    clear c2
    obtain rfl := Option.some.inj H
    go_enter Try.func8, Try.ntmps8
    go_wp2
    go_ret
    exact ⟨by first | rfl | (simp; done) | (simp [*]; done), by repeat (first | exact Drawn0.refl _ | apply Drawn0.step)⟩
  · rw [if_neg c2] at H
    have c2b0 : decide ((-2147483648) ≤ (a0 / 1048576)) = false := decide_eq_false c2
    clear c2
    obtain rfl := Option.some.inj H
    go_enter Try.func8, Try.ntmps8
    go_wp2
    go_ret
    exact ⟨by first | rfl | (simp; done) | (simp [*]; done), by repeat (first | exact Drawn0.refl _ | apply Drawn0.step)⟩

/-! ### edges_Least: function 9 -/
def edges_Least.f  : Option (Int) := some (-9223372036854775808)
set_option maxHeartbeats 8000000 in
set_option maxRecDepth 100000 in
theorem edges_Least.calls  (r : Int) (w : World) (h : edges_Least.f  = some r) :
    Calls Try.prog 9 #[] w fun e w' => e = .returned (.int .i64 r) ∧ Drawn0 w w' := by
  have H : (some (-9223372036854775808)) = some r := h
  clear h
  obtain rfl := Option.some.inj H
  go_enter Try.func9, Try.ntmps9
  go_wp2
  go_ret
  exact ⟨by first | rfl | (simp; done) | (simp [*]; done), by repeat (first | exact Drawn0.refl _ | apply Drawn0.step)⟩

/-! ### edges_Most: function 10 -/
def edges_Most.f  : Option (Int) := some 9223372036854775807
set_option maxHeartbeats 8000000 in
set_option maxRecDepth 100000 in
theorem edges_Most.calls  (r : Int) (w : World) (h : edges_Most.f  = some r) :
    Calls Try.prog 10 #[] w fun e w' => e = .returned (.int .i64 r) ∧ Drawn0 w w' := by
  have H : (some 9223372036854775807) = some r := h
  clear h
  obtain rfl := Option.some.inj H
  go_enter Try.func10, Try.ntmps10
  go_wp2
  go_ret
  exact ⟨by first | rfl | (simp; done) | (simp [*]; done), by repeat (first | exact Drawn0.refl _ | apply Drawn0.step)⟩

/-! ### plaitlaw13_sure: function 11 -/
def plaitlaw13_sure.f  : Option (Bool) := (edges_Key.f (-1) 5).bind fun bt101 => (if bt101.2.isNone = true then (if bt101.1 = (-1048571) then ((edges_Least.f).bind fun t104 => (if t104 = (-9223372036854775808) then ((edges_Most.f).bind fun t105 => (some (t105 == 9223372036854775807))) else (some false))) else (some false)) else (some false))
set_option maxHeartbeats 8000000 in
set_option maxRecDepth 100000 in
theorem plaitlaw13_sure.calls  (r : Bool) (w : World) (h : plaitlaw13_sure.f  = some r) :
    Calls Try.prog 11 #[] w fun e w' => e = .returned (.bool r) ∧ Drawn0 w w' := by
  have hu25 := Try.underlying25
  have hu35 := Try.underlying35
  have H : ((edges_Key.f (-1) 5).bind fun bt101 => (if bt101.2.isNone = true then (if bt101.1 = (-1048571) then ((edges_Least.f).bind fun t104 => (if t104 = (-9223372036854775808) then ((edges_Most.f).bind fun t105 => (some (t105 == 9223372036854775807))) else (some false))) else (some false)) else (some false))) = some r := h
  clear h
  replace H := Option.bind_eq_some_iff.mp H
  obtain ⟨⟨t101, t102⟩, A10, H⟩ := H
  replace H : (if t102.isNone = true then (if t101 = (-1048571) then ((edges_Least.f).bind fun t104 => (if t104 = (-9223372036854775808) then ((edges_Most.f).bind fun t105 => (some (t105 == 9223372036854775807))) else (some false))) else (some false)) else (some false)) = some r := H
  have A1 := Aside0.mk A10
  clear A10
  rcases t102 with _ | q103
  · have H1 : (if t101 = (-1048571) then ((edges_Least.f).bind fun t104 => (if t104 = (-9223372036854775808) then ((edges_Most.f).bind fun t105 => (some (t105 == 9223372036854775807))) else (some false))) else (some false)) = some r := by rw [if_pos (show (none : Option Int).isNone = true by rfl)] at H; exact H
    clear H
    have H := H1
    clear H1
    try simp only [errW_none, errW_some]
    by_cases c2 : t101 = (-1048571)
    · rw [if_pos c2] at H
      have c2b0 : (t101 == (-1048571)) = true := beq_iff_eq.mpr c2
      have c2b1 : (t101 != (-1048571)) = false := bne_eq_false_iff_eq.mpr c2
      clear c2
      replace H := Option.bind_eq_some_iff.mp H
      obtain ⟨t104, A30, H⟩ := H
      replace H : (if t104 = (-9223372036854775808) then ((edges_Most.f).bind fun t105 => (some (t105 == 9223372036854775807))) else (some false)) = some r := H
      have A3 := Aside0.mk A30
      clear A30
      by_cases c4 : t104 = (-9223372036854775808)
      · rw [if_pos c4] at H
        have c4b0 : (t104 == (-9223372036854775808)) = true := beq_iff_eq.mpr c4
        have c4b1 : (t104 != (-9223372036854775808)) = false := bne_eq_false_iff_eq.mpr c4
        clear c4
        replace H := Option.bind_eq_some_iff.mp H
        obtain ⟨t105, A50, H⟩ := H
        replace H : (some (t105 == 9223372036854775807)) = some r := H
        have A5 := Aside0.mk A50
        clear A50
        obtain rfl := Option.some.inj H
        go_enter Try.func11, Try.ntmps11
        go_wp2_with (first | ((with_reducible refine gate_callee (f := 5) rfl ?_); refine goesL_ (some 4) rfl rfl Try.func5 (by kernel_rfl) rfl #[.int .i32 (-1), .int .i64 5] rfl (by (try simp only [List.map_toArray, List.map_cons, List.map_nil]); first | done | rfl | (simp only [List.length_drop, List.length_take]; rfl)) ?_; (with_reducible refine (edges_Key.calls (-1) 5 t101 none _ A1.out).mono ?_); rintro e w' ⟨rfl, ⟨nd, rfl⟩⟩; refine ⟨_, rfl, ?_⟩; (try simp only [errW_none, errW_some])) | (go_at_call 9; (with_reducible refine (edges_Least.calls  t104 _ A3.out).mono ?_); rintro e w' ⟨rfl, ⟨nd, rfl⟩⟩) | (go_at_call 10; (with_reducible refine (edges_Most.calls  t105 _ A5.out).mono ?_); rintro e w' ⟨rfl, ⟨nd, rfl⟩⟩))
        go_ret
        exact ⟨by first | rfl | (simp; done) | (simp [*]; done), by repeat (first | exact Drawn0.refl _ | apply Drawn0.step)⟩
      · rw [if_neg c4] at H
        have c4b0 : (t104 == (-9223372036854775808)) = false := beq_eq_false_iff_ne.mpr c4
        have c4b1 : (t104 != (-9223372036854775808)) = true := bne_iff_ne.mpr c4
        obtain rfl := Option.some.inj H
        go_enter Try.func11, Try.ntmps11
        go_wp2_with (first | ((with_reducible refine gate_callee (f := 5) rfl ?_); refine goesL_ (some 4) rfl rfl Try.func5 (by kernel_rfl) rfl #[.int .i32 (-1), .int .i64 5] rfl (by (try simp only [List.map_toArray, List.map_cons, List.map_nil]); first | done | rfl | (simp only [List.length_drop, List.length_take]; rfl)) ?_; (with_reducible refine (edges_Key.calls (-1) 5 t101 none _ A1.out).mono ?_); rintro e w' ⟨rfl, ⟨nd, rfl⟩⟩; refine ⟨_, rfl, ?_⟩; (try simp only [errW_none, errW_some])) | (go_at_call 9; (with_reducible refine (edges_Least.calls  t104 _ A3.out).mono ?_); rintro e w' ⟨rfl, ⟨nd, rfl⟩⟩))
        go_ret
        exact ⟨by first | rfl | (simp; done) | (simp [*]; done), by repeat (first | exact Drawn0.refl _ | apply Drawn0.step)⟩
    · rw [if_neg c2] at H
      have c2b0 : (t101 == (-1048571)) = false := beq_eq_false_iff_ne.mpr c2
      have c2b1 : (t101 != (-1048571)) = true := bne_iff_ne.mpr c2
      obtain rfl := Option.some.inj H
      go_enter Try.func11, Try.ntmps11
      go_wp2_with (first | ((with_reducible refine gate_callee (f := 5) rfl ?_); refine goesL_ (some 4) rfl rfl Try.func5 (by kernel_rfl) rfl #[.int .i32 (-1), .int .i64 5] rfl (by (try simp only [List.map_toArray, List.map_cons, List.map_nil]); first | done | rfl | (simp only [List.length_drop, List.length_take]; rfl)) ?_; (with_reducible refine (edges_Key.calls (-1) 5 t101 none _ A1.out).mono ?_); rintro e w' ⟨rfl, ⟨nd, rfl⟩⟩; refine ⟨_, rfl, ?_⟩; (try simp only [errW_none, errW_some])))
      go_ret
      exact ⟨by first | rfl | (simp; done) | (simp [*]; done), by repeat (first | exact Drawn0.refl _ | apply Drawn0.step)⟩
  · have H1 : (some false) = some r := by rw [if_neg (show ¬ (some q103).isNone = true by simp)] at H; exact H
    clear H
    have H := H1
    clear H1
    try simp only [errW_none, errW_some]
    obtain rfl := Option.some.inj H
    go_enter Try.func11, Try.ntmps11
    go_wp2_with (first | ((with_reducible refine gate_callee (f := 5) rfl ?_); refine goesL_ (some 4) rfl rfl Try.func5 (by kernel_rfl) rfl #[.int .i32 (-1), .int .i64 5] rfl (by (try simp only [List.map_toArray, List.map_cons, List.map_nil]); first | done | rfl | (simp only [List.length_drop, List.length_take]; rfl)) ?_; (with_reducible refine (edges_Key.calls (-1) 5 t101 (some q103) _ A1.out).mono ?_); rintro e w' ⟨rfl, ⟨nd, rfl⟩⟩; refine ⟨_, rfl, ?_⟩; (try simp only [errW_none, errW_some])))
    go_ret
    exact ⟨by first | rfl | (simp; done) | (simp [*]; done), by repeat (first | exact Drawn0.refl _ | apply Drawn0.step)⟩

/-! ### plaitlaw13_EdgesNext: function 4 -/
def plaitlaw13_EdgesNext.f (a0 : Int) (a1 : Int) : Option (Bool) := (edges_Key.f a0 (wrap64 (Int.tmod (IntKind.u64.wrap (a1)) 1048576))).bind fun bt106 => (if bt106.2.isNone = true then (if (wrap64 (Int.tmod (IntKind.u64.wrap (a1)) 1048576)) < 1048575 then ((edges_Key.f a0 (wrap64 ((wrap64 (Int.tmod (IntKind.u64.wrap (a1)) 1048576)) + 1))).bind fun bt109 => (if bt109.2.isNone = true then (if bt109.1 = (wrap64 (bt106.1 + 1)) then ((edges_Weight.f (wrap64 (bt106.1 + 1))).bind fun t112 => (if t112 = a0 then ((edges_Slot.f (wrap64 (bt106.1 + 1))).bind fun t113 => (if t113 = (wrap64 ((wrap64 (Int.tmod (IntKind.u64.wrap (a1)) 1048576)) + 1)) then ((plaitlaw13_sure.f).bind fun t114 => (some t114)) else (some false))) else (some false))) else (some false)) else (some false))) else (if a0 = 2147483647 then ((edges_Valid.f (wrap64 (bt106.1 + 1))).bind fun t115 => (if t115 = true then (some false) else ((plaitlaw13_sure.f).bind fun t116 => (some t116)))) else ((edges_Key.f (wrap32 (a0 + 1)) 0).bind fun bt117 => (if bt117.2.isNone = true then (if bt117.1 = (wrap64 (bt106.1 + 1)) then ((edges_Weight.f (wrap64 (bt106.1 + 1))).bind fun t120 => (if t120 = (wrap32 (a0 + 1)) then ((edges_Slot.f (wrap64 (bt106.1 + 1))).bind fun t121 => (if t121 = 0 then ((plaitlaw13_sure.f).bind fun t122 => (some t122)) else (some false))) else (some false))) else (some false)) else (some false))))) else (some false))
set_option maxHeartbeats 8000000 in
set_option maxRecDepth 100000 in
theorem plaitlaw13_EdgesNext.calls (a0 : Int) (a1 : Int) (r : Bool) (w : World) (h : plaitlaw13_EdgesNext.f a0 a1 = some r) :
    Calls Try.prog 4 #[.int .i32 a0, .int .i64 a1] w fun e w' => e = .returned (.bool r) ∧ Drawn0 w w' := by
  have hu25 := Try.underlying25
  have hu35 := Try.underlying35
  have H : ((edges_Key.f a0 (wrap64 (Int.tmod (IntKind.u64.wrap (a1)) 1048576))).bind fun bt106 => (if bt106.2.isNone = true then (if (wrap64 (Int.tmod (IntKind.u64.wrap (a1)) 1048576)) < 1048575 then ((edges_Key.f a0 (wrap64 ((wrap64 (Int.tmod (IntKind.u64.wrap (a1)) 1048576)) + 1))).bind fun bt109 => (if bt109.2.isNone = true then (if bt109.1 = (wrap64 (bt106.1 + 1)) then ((edges_Weight.f (wrap64 (bt106.1 + 1))).bind fun t112 => (if t112 = a0 then ((edges_Slot.f (wrap64 (bt106.1 + 1))).bind fun t113 => (if t113 = (wrap64 ((wrap64 (Int.tmod (IntKind.u64.wrap (a1)) 1048576)) + 1)) then ((plaitlaw13_sure.f).bind fun t114 => (some t114)) else (some false))) else (some false))) else (some false)) else (some false))) else (if a0 = 2147483647 then ((edges_Valid.f (wrap64 (bt106.1 + 1))).bind fun t115 => (if t115 = true then (some false) else ((plaitlaw13_sure.f).bind fun t116 => (some t116)))) else ((edges_Key.f (wrap32 (a0 + 1)) 0).bind fun bt117 => (if bt117.2.isNone = true then (if bt117.1 = (wrap64 (bt106.1 + 1)) then ((edges_Weight.f (wrap64 (bt106.1 + 1))).bind fun t120 => (if t120 = (wrap32 (a0 + 1)) then ((edges_Slot.f (wrap64 (bt106.1 + 1))).bind fun t121 => (if t121 = 0 then ((plaitlaw13_sure.f).bind fun t122 => (some t122)) else (some false))) else (some false))) else (some false)) else (some false))))) else (some false))) = some r := h
  clear h
  replace H := Option.bind_eq_some_iff.mp H
  obtain ⟨⟨t106, t107⟩, A30, H⟩ := H
  replace H : (if t107.isNone = true then (if (wrap64 (Int.tmod (IntKind.u64.wrap (a1)) 1048576)) < 1048575 then ((edges_Key.f a0 (wrap64 ((wrap64 (Int.tmod (IntKind.u64.wrap (a1)) 1048576)) + 1))).bind fun bt109 => (if bt109.2.isNone = true then (if bt109.1 = (wrap64 (t106 + 1)) then ((edges_Weight.f (wrap64 (t106 + 1))).bind fun t112 => (if t112 = a0 then ((edges_Slot.f (wrap64 (t106 + 1))).bind fun t113 => (if t113 = (wrap64 ((wrap64 (Int.tmod (IntKind.u64.wrap (a1)) 1048576)) + 1)) then ((plaitlaw13_sure.f).bind fun t114 => (some t114)) else (some false))) else (some false))) else (some false)) else (some false))) else (if a0 = 2147483647 then ((edges_Valid.f (wrap64 (t106 + 1))).bind fun t115 => (if t115 = true then (some false) else ((plaitlaw13_sure.f).bind fun t116 => (some t116)))) else ((edges_Key.f (wrap32 (a0 + 1)) 0).bind fun bt117 => (if bt117.2.isNone = true then (if bt117.1 = (wrap64 (t106 + 1)) then ((edges_Weight.f (wrap64 (t106 + 1))).bind fun t120 => (if t120 = (wrap32 (a0 + 1)) then ((edges_Slot.f (wrap64 (t106 + 1))).bind fun t121 => (if t121 = 0 then ((plaitlaw13_sure.f).bind fun t122 => (some t122)) else (some false))) else (some false))) else (some false)) else (some false))))) else (some false)) = some r := H
  have A3 := Aside0.mk A30
  clear A30
  rcases t107 with _ | q108
  · have H1 : (if (wrap64 (Int.tmod (IntKind.u64.wrap (a1)) 1048576)) < 1048575 then ((edges_Key.f a0 (wrap64 ((wrap64 (Int.tmod (IntKind.u64.wrap (a1)) 1048576)) + 1))).bind fun bt109 => (if bt109.2.isNone = true then (if bt109.1 = (wrap64 (t106 + 1)) then ((edges_Weight.f (wrap64 (t106 + 1))).bind fun t112 => (if t112 = a0 then ((edges_Slot.f (wrap64 (t106 + 1))).bind fun t113 => (if t113 = (wrap64 ((wrap64 (Int.tmod (IntKind.u64.wrap (a1)) 1048576)) + 1)) then ((plaitlaw13_sure.f).bind fun t114 => (some t114)) else (some false))) else (some false))) else (some false)) else (some false))) else (if a0 = 2147483647 then ((edges_Valid.f (wrap64 (t106 + 1))).bind fun t115 => (if t115 = true then (some false) else ((plaitlaw13_sure.f).bind fun t116 => (some t116)))) else ((edges_Key.f (wrap32 (a0 + 1)) 0).bind fun bt117 => (if bt117.2.isNone = true then (if bt117.1 = (wrap64 (t106 + 1)) then ((edges_Weight.f (wrap64 (t106 + 1))).bind fun t120 => (if t120 = (wrap32 (a0 + 1)) then ((edges_Slot.f (wrap64 (t106 + 1))).bind fun t121 => (if t121 = 0 then ((plaitlaw13_sure.f).bind fun t122 => (some t122)) else (some false))) else (some false))) else (some false)) else (some false))))) = some r := by rw [if_pos (show (none : Option Int).isNone = true by rfl)] at H; exact H
    clear H
    have H := H1
    clear H1
    try simp only [errW_none, errW_some]
    by_cases c4 : (wrap64 (Int.tmod (IntKind.u64.wrap (a1)) 1048576)) < 1048575
    · rw [if_pos c4] at H
      have c4b0 : decide ((wrap64 (Int.tmod (IntKind.u64.wrap (a1)) 1048576)) < 1048575) = true := decide_eq_true c4
      clear c4
      replace H := Option.bind_eq_some_iff.mp H
      obtain ⟨⟨t109, t110⟩, A50, H⟩ := H
      replace H : (if t110.isNone = true then (if t109 = (wrap64 (t106 + 1)) then ((edges_Weight.f (wrap64 (t106 + 1))).bind fun t112 => (if t112 = a0 then ((edges_Slot.f (wrap64 (t106 + 1))).bind fun t113 => (if t113 = (wrap64 ((wrap64 (Int.tmod (IntKind.u64.wrap (a1)) 1048576)) + 1)) then ((plaitlaw13_sure.f).bind fun t114 => (some t114)) else (some false))) else (some false))) else (some false)) else (some false)) = some r := H
      have A5 := Aside0.mk A50
      clear A50
      rcases t110 with _ | q111
      · have H1 : (if t109 = (wrap64 (t106 + 1)) then ((edges_Weight.f (wrap64 (t106 + 1))).bind fun t112 => (if t112 = a0 then ((edges_Slot.f (wrap64 (t106 + 1))).bind fun t113 => (if t113 = (wrap64 ((wrap64 (Int.tmod (IntKind.u64.wrap (a1)) 1048576)) + 1)) then ((plaitlaw13_sure.f).bind fun t114 => (some t114)) else (some false))) else (some false))) else (some false)) = some r := by rw [if_pos (show (none : Option Int).isNone = true by rfl)] at H; exact H
        clear H
        have H := H1
        clear H1
        try simp only [errW_none, errW_some]
        by_cases c6 : t109 = (wrap64 (t106 + 1))
        · rw [if_pos c6] at H
          have c6b0 : (t109 == (wrap64 (t106 + 1))) = true := beq_iff_eq.mpr c6
          have c6b1 : (t109 != (wrap64 (t106 + 1))) = false := bne_eq_false_iff_eq.mpr c6
          clear c6
          replace H := Option.bind_eq_some_iff.mp H
          obtain ⟨t112, A70, H⟩ := H
          replace H : (if t112 = a0 then ((edges_Slot.f (wrap64 (t106 + 1))).bind fun t113 => (if t113 = (wrap64 ((wrap64 (Int.tmod (IntKind.u64.wrap (a1)) 1048576)) + 1)) then ((plaitlaw13_sure.f).bind fun t114 => (some t114)) else (some false))) else (some false)) = some r := H
          have A7 := Aside0.mk A70
          clear A70
          by_cases c8 : t112 = a0
          · rw [if_pos c8] at H
            have c8b0 : (t112 == a0) = true := beq_iff_eq.mpr c8
            have c8b1 : (t112 != a0) = false := bne_eq_false_iff_eq.mpr c8
            clear c8
            replace H := Option.bind_eq_some_iff.mp H
            obtain ⟨t113, A90, H⟩ := H
            replace H : (if t113 = (wrap64 ((wrap64 (Int.tmod (IntKind.u64.wrap (a1)) 1048576)) + 1)) then ((plaitlaw13_sure.f).bind fun t114 => (some t114)) else (some false)) = some r := H
            have A9 := Aside0.mk A90
            clear A90
            by_cases c10 : t113 = (wrap64 ((wrap64 (Int.tmod (IntKind.u64.wrap (a1)) 1048576)) + 1))
            · rw [if_pos c10] at H
              have c10b0 : (t113 == (wrap64 ((wrap64 (Int.tmod (IntKind.u64.wrap (a1)) 1048576)) + 1))) = true := beq_iff_eq.mpr c10
              have c10b1 : (t113 != (wrap64 ((wrap64 (Int.tmod (IntKind.u64.wrap (a1)) 1048576)) + 1))) = false := bne_eq_false_iff_eq.mpr c10
              clear c10
              replace H := Option.bind_eq_some_iff.mp H
              obtain ⟨t114, A110, H⟩ := H
              replace H : (some t114) = some r := H
              have A11 := Aside0.mk A110
              clear A110
              obtain rfl := Option.some.inj H
              go_enter Try.func4, Try.ntmps4
              go_wp2_with (first | ((with_reducible refine gate_callee (f := 5) rfl ?_); refine goesL_ (some 20) rfl rfl Try.func5 (by kernel_rfl) rfl #[.int .i32 a0, .int .i64 (wrap64 (Int.tmod (IntKind.u64.wrap (a1)) 1048576))] rfl (by (try simp only [List.map_toArray, List.map_cons, List.map_nil]); first | done | rfl | (simp only [List.length_drop, List.length_take]; rfl)) ?_; (with_reducible refine (edges_Key.calls a0 (wrap64 (Int.tmod (IntKind.u64.wrap (a1)) 1048576)) t106 none _ A3.out).mono ?_); rintro e w' ⟨rfl, ⟨nd, rfl⟩⟩; refine ⟨_, rfl, ?_⟩; (try simp only [errW_none, errW_some])) | ((with_reducible refine gate_callee (f := 5) rfl ?_); refine goesL_ (some 33) rfl rfl Try.func5 (by kernel_rfl) rfl #[.int .i32 a0, .int .i64 (wrap64 ((wrap64 (Int.tmod (IntKind.u64.wrap (a1)) 1048576)) + 1))] rfl (by (try simp only [List.map_toArray, List.map_cons, List.map_nil]); first | done | rfl | (simp only [List.length_drop, List.length_take]; rfl)) ?_; (with_reducible refine (edges_Key.calls a0 (wrap64 ((wrap64 (Int.tmod (IntKind.u64.wrap (a1)) 1048576)) + 1)) t109 none _ A5.out).mono ?_); rintro e w' ⟨rfl, ⟨nd, rfl⟩⟩; refine ⟨_, rfl, ?_⟩; (try simp only [errW_none, errW_some])) | (go_at_call 6; (with_reducible refine (edges_Weight.calls (wrap64 (t106 + 1)) t112 _ A7.out).mono ?_); rintro e w' ⟨rfl, ⟨nd, rfl⟩⟩) | (go_at_call 7; (with_reducible refine (edges_Slot.calls (wrap64 (t106 + 1)) t113 _ A9.out).mono ?_); rintro e w' ⟨rfl, ⟨nd, rfl⟩⟩) | (go_at_call 11; (with_reducible refine (plaitlaw13_sure.calls  t114 _ A11.out).mono ?_); rintro e w' ⟨rfl, ⟨nd, rfl⟩⟩))
              go_ret
              exact ⟨by first | rfl | (simp; done) | (simp [*]; done), by repeat (first | exact Drawn0.refl _ | apply Drawn0.step)⟩
            · rw [if_neg c10] at H
              have c10b0 : (t113 == (wrap64 ((wrap64 (Int.tmod (IntKind.u64.wrap (a1)) 1048576)) + 1))) = false := beq_eq_false_iff_ne.mpr c10
              have c10b1 : (t113 != (wrap64 ((wrap64 (Int.tmod (IntKind.u64.wrap (a1)) 1048576)) + 1))) = true := bne_iff_ne.mpr c10
              obtain rfl := Option.some.inj H
              go_enter Try.func4, Try.ntmps4
              go_wp2_with (first | ((with_reducible refine gate_callee (f := 5) rfl ?_); refine goesL_ (some 20) rfl rfl Try.func5 (by kernel_rfl) rfl #[.int .i32 a0, .int .i64 (wrap64 (Int.tmod (IntKind.u64.wrap (a1)) 1048576))] rfl (by (try simp only [List.map_toArray, List.map_cons, List.map_nil]); first | done | rfl | (simp only [List.length_drop, List.length_take]; rfl)) ?_; (with_reducible refine (edges_Key.calls a0 (wrap64 (Int.tmod (IntKind.u64.wrap (a1)) 1048576)) t106 none _ A3.out).mono ?_); rintro e w' ⟨rfl, ⟨nd, rfl⟩⟩; refine ⟨_, rfl, ?_⟩; (try simp only [errW_none, errW_some])) | ((with_reducible refine gate_callee (f := 5) rfl ?_); refine goesL_ (some 33) rfl rfl Try.func5 (by kernel_rfl) rfl #[.int .i32 a0, .int .i64 (wrap64 ((wrap64 (Int.tmod (IntKind.u64.wrap (a1)) 1048576)) + 1))] rfl (by (try simp only [List.map_toArray, List.map_cons, List.map_nil]); first | done | rfl | (simp only [List.length_drop, List.length_take]; rfl)) ?_; (with_reducible refine (edges_Key.calls a0 (wrap64 ((wrap64 (Int.tmod (IntKind.u64.wrap (a1)) 1048576)) + 1)) t109 none _ A5.out).mono ?_); rintro e w' ⟨rfl, ⟨nd, rfl⟩⟩; refine ⟨_, rfl, ?_⟩; (try simp only [errW_none, errW_some])) | (go_at_call 6; (with_reducible refine (edges_Weight.calls (wrap64 (t106 + 1)) t112 _ A7.out).mono ?_); rintro e w' ⟨rfl, ⟨nd, rfl⟩⟩) | (go_at_call 7; (with_reducible refine (edges_Slot.calls (wrap64 (t106 + 1)) t113 _ A9.out).mono ?_); rintro e w' ⟨rfl, ⟨nd, rfl⟩⟩))
              go_ret
              exact ⟨by first | rfl | (simp; done) | (simp [*]; done), by repeat (first | exact Drawn0.refl _ | apply Drawn0.step)⟩
          · rw [if_neg c8] at H
            have c8b0 : (t112 == a0) = false := beq_eq_false_iff_ne.mpr c8
            have c8b1 : (t112 != a0) = true := bne_iff_ne.mpr c8
            obtain rfl := Option.some.inj H
            go_enter Try.func4, Try.ntmps4
            go_wp2_with (first | ((with_reducible refine gate_callee (f := 5) rfl ?_); refine goesL_ (some 20) rfl rfl Try.func5 (by kernel_rfl) rfl #[.int .i32 a0, .int .i64 (wrap64 (Int.tmod (IntKind.u64.wrap (a1)) 1048576))] rfl (by (try simp only [List.map_toArray, List.map_cons, List.map_nil]); first | done | rfl | (simp only [List.length_drop, List.length_take]; rfl)) ?_; (with_reducible refine (edges_Key.calls a0 (wrap64 (Int.tmod (IntKind.u64.wrap (a1)) 1048576)) t106 none _ A3.out).mono ?_); rintro e w' ⟨rfl, ⟨nd, rfl⟩⟩; refine ⟨_, rfl, ?_⟩; (try simp only [errW_none, errW_some])) | ((with_reducible refine gate_callee (f := 5) rfl ?_); refine goesL_ (some 33) rfl rfl Try.func5 (by kernel_rfl) rfl #[.int .i32 a0, .int .i64 (wrap64 ((wrap64 (Int.tmod (IntKind.u64.wrap (a1)) 1048576)) + 1))] rfl (by (try simp only [List.map_toArray, List.map_cons, List.map_nil]); first | done | rfl | (simp only [List.length_drop, List.length_take]; rfl)) ?_; (with_reducible refine (edges_Key.calls a0 (wrap64 ((wrap64 (Int.tmod (IntKind.u64.wrap (a1)) 1048576)) + 1)) t109 none _ A5.out).mono ?_); rintro e w' ⟨rfl, ⟨nd, rfl⟩⟩; refine ⟨_, rfl, ?_⟩; (try simp only [errW_none, errW_some])) | (go_at_call 6; (with_reducible refine (edges_Weight.calls (wrap64 (t106 + 1)) t112 _ A7.out).mono ?_); rintro e w' ⟨rfl, ⟨nd, rfl⟩⟩))
            go_ret
            exact ⟨by first | rfl | (simp; done) | (simp [*]; done), by repeat (first | exact Drawn0.refl _ | apply Drawn0.step)⟩
        · rw [if_neg c6] at H
          have c6b0 : (t109 == (wrap64 (t106 + 1))) = false := beq_eq_false_iff_ne.mpr c6
          have c6b1 : (t109 != (wrap64 (t106 + 1))) = true := bne_iff_ne.mpr c6
          obtain rfl := Option.some.inj H
          go_enter Try.func4, Try.ntmps4
          go_wp2_with (first | ((with_reducible refine gate_callee (f := 5) rfl ?_); refine goesL_ (some 20) rfl rfl Try.func5 (by kernel_rfl) rfl #[.int .i32 a0, .int .i64 (wrap64 (Int.tmod (IntKind.u64.wrap (a1)) 1048576))] rfl (by (try simp only [List.map_toArray, List.map_cons, List.map_nil]); first | done | rfl | (simp only [List.length_drop, List.length_take]; rfl)) ?_; (with_reducible refine (edges_Key.calls a0 (wrap64 (Int.tmod (IntKind.u64.wrap (a1)) 1048576)) t106 none _ A3.out).mono ?_); rintro e w' ⟨rfl, ⟨nd, rfl⟩⟩; refine ⟨_, rfl, ?_⟩; (try simp only [errW_none, errW_some])) | ((with_reducible refine gate_callee (f := 5) rfl ?_); refine goesL_ (some 33) rfl rfl Try.func5 (by kernel_rfl) rfl #[.int .i32 a0, .int .i64 (wrap64 ((wrap64 (Int.tmod (IntKind.u64.wrap (a1)) 1048576)) + 1))] rfl (by (try simp only [List.map_toArray, List.map_cons, List.map_nil]); first | done | rfl | (simp only [List.length_drop, List.length_take]; rfl)) ?_; (with_reducible refine (edges_Key.calls a0 (wrap64 ((wrap64 (Int.tmod (IntKind.u64.wrap (a1)) 1048576)) + 1)) t109 none _ A5.out).mono ?_); rintro e w' ⟨rfl, ⟨nd, rfl⟩⟩; refine ⟨_, rfl, ?_⟩; (try simp only [errW_none, errW_some])))
          go_ret
          exact ⟨by first | rfl | (simp; done) | (simp [*]; done), by repeat (first | exact Drawn0.refl _ | apply Drawn0.step)⟩
      · have H1 : (some false) = some r := by rw [if_neg (show ¬ (some q111).isNone = true by simp)] at H; exact H
        clear H
        have H := H1
        clear H1
        try simp only [errW_none, errW_some]
        obtain rfl := Option.some.inj H
        go_enter Try.func4, Try.ntmps4
        go_wp2_with (first | ((with_reducible refine gate_callee (f := 5) rfl ?_); refine goesL_ (some 20) rfl rfl Try.func5 (by kernel_rfl) rfl #[.int .i32 a0, .int .i64 (wrap64 (Int.tmod (IntKind.u64.wrap (a1)) 1048576))] rfl (by (try simp only [List.map_toArray, List.map_cons, List.map_nil]); first | done | rfl | (simp only [List.length_drop, List.length_take]; rfl)) ?_; (with_reducible refine (edges_Key.calls a0 (wrap64 (Int.tmod (IntKind.u64.wrap (a1)) 1048576)) t106 none _ A3.out).mono ?_); rintro e w' ⟨rfl, ⟨nd, rfl⟩⟩; refine ⟨_, rfl, ?_⟩; (try simp only [errW_none, errW_some])) | ((with_reducible refine gate_callee (f := 5) rfl ?_); refine goesL_ (some 33) rfl rfl Try.func5 (by kernel_rfl) rfl #[.int .i32 a0, .int .i64 (wrap64 ((wrap64 (Int.tmod (IntKind.u64.wrap (a1)) 1048576)) + 1))] rfl (by (try simp only [List.map_toArray, List.map_cons, List.map_nil]); first | done | rfl | (simp only [List.length_drop, List.length_take]; rfl)) ?_; (with_reducible refine (edges_Key.calls a0 (wrap64 ((wrap64 (Int.tmod (IntKind.u64.wrap (a1)) 1048576)) + 1)) t109 (some q111) _ A5.out).mono ?_); rintro e w' ⟨rfl, ⟨nd, rfl⟩⟩; refine ⟨_, rfl, ?_⟩; (try simp only [errW_none, errW_some])))
        go_ret
        exact ⟨by first | rfl | (simp; done) | (simp [*]; done), by repeat (first | exact Drawn0.refl _ | apply Drawn0.step)⟩
    · rw [if_neg c4] at H
      have c4b0 : decide ((wrap64 (Int.tmod (IntKind.u64.wrap (a1)) 1048576)) < 1048575) = false := decide_eq_false c4
      clear c4
      by_cases c12 : a0 = 2147483647
      · rw [if_pos c12] at H
        have c12b0 : (a0 == 2147483647) = true := beq_iff_eq.mpr c12
        have c12b1 : (a0 != 2147483647) = false := bne_eq_false_iff_eq.mpr c12
        clear c12
        replace H := Option.bind_eq_some_iff.mp H
        obtain ⟨t115, A130, H⟩ := H
        replace H : (if t115 = true then (some false) else ((plaitlaw13_sure.f).bind fun t116 => (some t116))) = some r := H
        have A13 := Aside0.mk A130
        clear A130
        by_cases c14 : t115 = true
        · subst c14
          have H1 : (some false) = some r := by rw [if_pos rfl] at H; exact H
          clear H
          have H := H1
          clear H1
          obtain rfl := Option.some.inj H
          go_enter Try.func4, Try.ntmps4
          go_wp2_with (first | ((with_reducible refine gate_callee (f := 5) rfl ?_); refine goesL_ (some 20) rfl rfl Try.func5 (by kernel_rfl) rfl #[.int .i32 a0, .int .i64 (wrap64 (Int.tmod (IntKind.u64.wrap (a1)) 1048576))] rfl (by (try simp only [List.map_toArray, List.map_cons, List.map_nil]); first | done | rfl | (simp only [List.length_drop, List.length_take]; rfl)) ?_; (with_reducible refine (edges_Key.calls a0 (wrap64 (Int.tmod (IntKind.u64.wrap (a1)) 1048576)) t106 none _ A3.out).mono ?_); rintro e w' ⟨rfl, ⟨nd, rfl⟩⟩; refine ⟨_, rfl, ?_⟩; (try simp only [errW_none, errW_some])) | ((with_reducible refine gate_callee (f := 8) rfl ?_); refine goesL_ (some 62) rfl rfl Try.func8 (by kernel_rfl) rfl #[.int .i64 (wrap64 (t106 + 1))] rfl (by (try simp only [List.map_toArray, List.map_cons, List.map_nil]); first | done | rfl | (simp only [List.length_drop, List.length_take]; rfl)) ?_; (with_reducible refine (edges_Valid.calls (wrap64 (t106 + 1)) true _ A13.out).mono ?_); rintro e w' ⟨rfl, ⟨nd, rfl⟩⟩; refine ⟨_, rfl, ?_⟩))
          go_ret
          exact ⟨by first | rfl | (simp; done) | (simp [*]; done), by repeat (first | exact Drawn0.refl _ | apply Drawn0.step)⟩
        · replace c14 := Bool.eq_false_iff.mpr c14
          subst c14
          have H1 : ((plaitlaw13_sure.f).bind fun t116 => (some t116)) = some r := by rw [if_neg (show ¬ (false = true) by decide)] at H; exact H
          clear H
          have H := H1
          clear H1
          replace H := Option.bind_eq_some_iff.mp H
          obtain ⟨t116, A150, H⟩ := H
          replace H : (some t116) = some r := H
          have A15 := Aside0.mk A150
          clear A150
          obtain rfl := Option.some.inj H
          go_enter Try.func4, Try.ntmps4
          go_wp2_with (first | ((with_reducible refine gate_callee (f := 5) rfl ?_); refine goesL_ (some 20) rfl rfl Try.func5 (by kernel_rfl) rfl #[.int .i32 a0, .int .i64 (wrap64 (Int.tmod (IntKind.u64.wrap (a1)) 1048576))] rfl (by (try simp only [List.map_toArray, List.map_cons, List.map_nil]); first | done | rfl | (simp only [List.length_drop, List.length_take]; rfl)) ?_; (with_reducible refine (edges_Key.calls a0 (wrap64 (Int.tmod (IntKind.u64.wrap (a1)) 1048576)) t106 none _ A3.out).mono ?_); rintro e w' ⟨rfl, ⟨nd, rfl⟩⟩; refine ⟨_, rfl, ?_⟩; (try simp only [errW_none, errW_some])) | ((with_reducible refine gate_callee (f := 8) rfl ?_); refine goesL_ (some 62) rfl rfl Try.func8 (by kernel_rfl) rfl #[.int .i64 (wrap64 (t106 + 1))] rfl (by (try simp only [List.map_toArray, List.map_cons, List.map_nil]); first | done | rfl | (simp only [List.length_drop, List.length_take]; rfl)) ?_; (with_reducible refine (edges_Valid.calls (wrap64 (t106 + 1)) false _ A13.out).mono ?_); rintro e w' ⟨rfl, ⟨nd, rfl⟩⟩; refine ⟨_, rfl, ?_⟩) | (go_at_call 11; (with_reducible refine (plaitlaw13_sure.calls  t116 _ A15.out).mono ?_); rintro e w' ⟨rfl, ⟨nd, rfl⟩⟩))
          go_ret
          exact ⟨by first | rfl | (simp; done) | (simp [*]; done), by repeat (first | exact Drawn0.refl _ | apply Drawn0.step)⟩
      · rw [if_neg c12] at H
        have c12b0 : (a0 == 2147483647) = false := beq_eq_false_iff_ne.mpr c12
        have c12b1 : (a0 != 2147483647) = true := bne_iff_ne.mpr c12
        replace H := Option.bind_eq_some_iff.mp H
        obtain ⟨⟨t117, t118⟩, A160, H⟩ := H
        replace H : (if t118.isNone = true then (if t117 = (wrap64 (t106 + 1)) then ((edges_Weight.f (wrap64 (t106 + 1))).bind fun t120 => (if t120 = (wrap32 (a0 + 1)) then ((edges_Slot.f (wrap64 (t106 + 1))).bind fun t121 => (if t121 = 0 then ((plaitlaw13_sure.f).bind fun t122 => (some t122)) else (some false))) else (some false))) else (some false)) else (some false)) = some r := H
        have A16 := Aside0.mk A160
        clear A160
        rcases t118 with _ | q119
        · have H1 : (if t117 = (wrap64 (t106 + 1)) then ((edges_Weight.f (wrap64 (t106 + 1))).bind fun t120 => (if t120 = (wrap32 (a0 + 1)) then ((edges_Slot.f (wrap64 (t106 + 1))).bind fun t121 => (if t121 = 0 then ((plaitlaw13_sure.f).bind fun t122 => (some t122)) else (some false))) else (some false))) else (some false)) = some r := by rw [if_pos (show (none : Option Int).isNone = true by rfl)] at H; exact H
          clear H
          have H := H1
          clear H1
          try simp only [errW_none, errW_some]
          by_cases c17 : t117 = (wrap64 (t106 + 1))
          · rw [if_pos c17] at H
            have c17b0 : (t117 == (wrap64 (t106 + 1))) = true := beq_iff_eq.mpr c17
            have c17b1 : (t117 != (wrap64 (t106 + 1))) = false := bne_eq_false_iff_eq.mpr c17
            clear c17
            replace H := Option.bind_eq_some_iff.mp H
            obtain ⟨t120, A180, H⟩ := H
            replace H : (if t120 = (wrap32 (a0 + 1)) then ((edges_Slot.f (wrap64 (t106 + 1))).bind fun t121 => (if t121 = 0 then ((plaitlaw13_sure.f).bind fun t122 => (some t122)) else (some false))) else (some false)) = some r := H
            have A18 := Aside0.mk A180
            clear A180
            by_cases c19 : t120 = (wrap32 (a0 + 1))
            · rw [if_pos c19] at H
              have c19b0 : (t120 == (wrap32 (a0 + 1))) = true := beq_iff_eq.mpr c19
              have c19b1 : (t120 != (wrap32 (a0 + 1))) = false := bne_eq_false_iff_eq.mpr c19
              clear c19
              replace H := Option.bind_eq_some_iff.mp H
              obtain ⟨t121, A200, H⟩ := H
              replace H : (if t121 = 0 then ((plaitlaw13_sure.f).bind fun t122 => (some t122)) else (some false)) = some r := H
              have A20 := Aside0.mk A200
              clear A200
              by_cases c21 : t121 = 0
              · rw [if_pos c21] at H
                have c21b0 : (t121 == 0) = true := beq_iff_eq.mpr c21
                have c21b1 : (t121 != 0) = false := bne_eq_false_iff_eq.mpr c21
                clear c21
                replace H := Option.bind_eq_some_iff.mp H
                obtain ⟨t122, A220, H⟩ := H
                replace H : (some t122) = some r := H
                have A22 := Aside0.mk A220
                clear A220
                obtain rfl := Option.some.inj H
                go_enter Try.func4, Try.ntmps4
                go_wp2_with (first | ((with_reducible refine gate_callee (f := 5) rfl ?_); refine goesL_ (some 20) rfl rfl Try.func5 (by kernel_rfl) rfl #[.int .i32 a0, .int .i64 (wrap64 (Int.tmod (IntKind.u64.wrap (a1)) 1048576))] rfl (by (try simp only [List.map_toArray, List.map_cons, List.map_nil]); first | done | rfl | (simp only [List.length_drop, List.length_take]; rfl)) ?_; (with_reducible refine (edges_Key.calls a0 (wrap64 (Int.tmod (IntKind.u64.wrap (a1)) 1048576)) t106 none _ A3.out).mono ?_); rintro e w' ⟨rfl, ⟨nd, rfl⟩⟩; refine ⟨_, rfl, ?_⟩; (try simp only [errW_none, errW_some])) | ((with_reducible refine gate_callee (f := 5) rfl ?_); refine goesL_ (some 70) rfl rfl Try.func5 (by kernel_rfl) rfl #[.int .i32 (wrap32 (a0 + 1)), .int .i64 0] rfl (by (try simp only [List.map_toArray, List.map_cons, List.map_nil]); first | done | rfl | (simp only [List.length_drop, List.length_take]; rfl)) ?_; (with_reducible refine (edges_Key.calls (wrap32 (a0 + 1)) 0 t117 none _ A16.out).mono ?_); rintro e w' ⟨rfl, ⟨nd, rfl⟩⟩; refine ⟨_, rfl, ?_⟩; (try simp only [errW_none, errW_some])) | (go_at_call 6; (with_reducible refine (edges_Weight.calls (wrap64 (t106 + 1)) t120 _ A18.out).mono ?_); rintro e w' ⟨rfl, ⟨nd, rfl⟩⟩) | (go_at_call 7; (with_reducible refine (edges_Slot.calls (wrap64 (t106 + 1)) t121 _ A20.out).mono ?_); rintro e w' ⟨rfl, ⟨nd, rfl⟩⟩) | (go_at_call 11; (with_reducible refine (plaitlaw13_sure.calls  t122 _ A22.out).mono ?_); rintro e w' ⟨rfl, ⟨nd, rfl⟩⟩))
                go_ret
                exact ⟨by first | rfl | (simp; done) | (simp [*]; done), by repeat (first | exact Drawn0.refl _ | apply Drawn0.step)⟩
              · rw [if_neg c21] at H
                have c21b0 : (t121 == 0) = false := beq_eq_false_iff_ne.mpr c21
                have c21b1 : (t121 != 0) = true := bne_iff_ne.mpr c21
                obtain rfl := Option.some.inj H
                go_enter Try.func4, Try.ntmps4
                go_wp2_with (first | ((with_reducible refine gate_callee (f := 5) rfl ?_); refine goesL_ (some 20) rfl rfl Try.func5 (by kernel_rfl) rfl #[.int .i32 a0, .int .i64 (wrap64 (Int.tmod (IntKind.u64.wrap (a1)) 1048576))] rfl (by (try simp only [List.map_toArray, List.map_cons, List.map_nil]); first | done | rfl | (simp only [List.length_drop, List.length_take]; rfl)) ?_; (with_reducible refine (edges_Key.calls a0 (wrap64 (Int.tmod (IntKind.u64.wrap (a1)) 1048576)) t106 none _ A3.out).mono ?_); rintro e w' ⟨rfl, ⟨nd, rfl⟩⟩; refine ⟨_, rfl, ?_⟩; (try simp only [errW_none, errW_some])) | ((with_reducible refine gate_callee (f := 5) rfl ?_); refine goesL_ (some 70) rfl rfl Try.func5 (by kernel_rfl) rfl #[.int .i32 (wrap32 (a0 + 1)), .int .i64 0] rfl (by (try simp only [List.map_toArray, List.map_cons, List.map_nil]); first | done | rfl | (simp only [List.length_drop, List.length_take]; rfl)) ?_; (with_reducible refine (edges_Key.calls (wrap32 (a0 + 1)) 0 t117 none _ A16.out).mono ?_); rintro e w' ⟨rfl, ⟨nd, rfl⟩⟩; refine ⟨_, rfl, ?_⟩; (try simp only [errW_none, errW_some])) | (go_at_call 6; (with_reducible refine (edges_Weight.calls (wrap64 (t106 + 1)) t120 _ A18.out).mono ?_); rintro e w' ⟨rfl, ⟨nd, rfl⟩⟩) | (go_at_call 7; (with_reducible refine (edges_Slot.calls (wrap64 (t106 + 1)) t121 _ A20.out).mono ?_); rintro e w' ⟨rfl, ⟨nd, rfl⟩⟩))
                go_ret
                exact ⟨by first | rfl | (simp; done) | (simp [*]; done), by repeat (first | exact Drawn0.refl _ | apply Drawn0.step)⟩
            · rw [if_neg c19] at H
              have c19b0 : (t120 == (wrap32 (a0 + 1))) = false := beq_eq_false_iff_ne.mpr c19
              have c19b1 : (t120 != (wrap32 (a0 + 1))) = true := bne_iff_ne.mpr c19
              obtain rfl := Option.some.inj H
              go_enter Try.func4, Try.ntmps4
              go_wp2_with (first | ((with_reducible refine gate_callee (f := 5) rfl ?_); refine goesL_ (some 20) rfl rfl Try.func5 (by kernel_rfl) rfl #[.int .i32 a0, .int .i64 (wrap64 (Int.tmod (IntKind.u64.wrap (a1)) 1048576))] rfl (by (try simp only [List.map_toArray, List.map_cons, List.map_nil]); first | done | rfl | (simp only [List.length_drop, List.length_take]; rfl)) ?_; (with_reducible refine (edges_Key.calls a0 (wrap64 (Int.tmod (IntKind.u64.wrap (a1)) 1048576)) t106 none _ A3.out).mono ?_); rintro e w' ⟨rfl, ⟨nd, rfl⟩⟩; refine ⟨_, rfl, ?_⟩; (try simp only [errW_none, errW_some])) | ((with_reducible refine gate_callee (f := 5) rfl ?_); refine goesL_ (some 70) rfl rfl Try.func5 (by kernel_rfl) rfl #[.int .i32 (wrap32 (a0 + 1)), .int .i64 0] rfl (by (try simp only [List.map_toArray, List.map_cons, List.map_nil]); first | done | rfl | (simp only [List.length_drop, List.length_take]; rfl)) ?_; (with_reducible refine (edges_Key.calls (wrap32 (a0 + 1)) 0 t117 none _ A16.out).mono ?_); rintro e w' ⟨rfl, ⟨nd, rfl⟩⟩; refine ⟨_, rfl, ?_⟩; (try simp only [errW_none, errW_some])) | (go_at_call 6; (with_reducible refine (edges_Weight.calls (wrap64 (t106 + 1)) t120 _ A18.out).mono ?_); rintro e w' ⟨rfl, ⟨nd, rfl⟩⟩))
              go_ret
              exact ⟨by first | rfl | (simp; done) | (simp [*]; done), by repeat (first | exact Drawn0.refl _ | apply Drawn0.step)⟩
          · rw [if_neg c17] at H
            have c17b0 : (t117 == (wrap64 (t106 + 1))) = false := beq_eq_false_iff_ne.mpr c17
            have c17b1 : (t117 != (wrap64 (t106 + 1))) = true := bne_iff_ne.mpr c17
            obtain rfl := Option.some.inj H
            go_enter Try.func4, Try.ntmps4
            go_wp2_with (first | ((with_reducible refine gate_callee (f := 5) rfl ?_); refine goesL_ (some 20) rfl rfl Try.func5 (by kernel_rfl) rfl #[.int .i32 a0, .int .i64 (wrap64 (Int.tmod (IntKind.u64.wrap (a1)) 1048576))] rfl (by (try simp only [List.map_toArray, List.map_cons, List.map_nil]); first | done | rfl | (simp only [List.length_drop, List.length_take]; rfl)) ?_; (with_reducible refine (edges_Key.calls a0 (wrap64 (Int.tmod (IntKind.u64.wrap (a1)) 1048576)) t106 none _ A3.out).mono ?_); rintro e w' ⟨rfl, ⟨nd, rfl⟩⟩; refine ⟨_, rfl, ?_⟩; (try simp only [errW_none, errW_some])) | ((with_reducible refine gate_callee (f := 5) rfl ?_); refine goesL_ (some 70) rfl rfl Try.func5 (by kernel_rfl) rfl #[.int .i32 (wrap32 (a0 + 1)), .int .i64 0] rfl (by (try simp only [List.map_toArray, List.map_cons, List.map_nil]); first | done | rfl | (simp only [List.length_drop, List.length_take]; rfl)) ?_; (with_reducible refine (edges_Key.calls (wrap32 (a0 + 1)) 0 t117 none _ A16.out).mono ?_); rintro e w' ⟨rfl, ⟨nd, rfl⟩⟩; refine ⟨_, rfl, ?_⟩; (try simp only [errW_none, errW_some])))
            go_ret
            exact ⟨by first | rfl | (simp; done) | (simp [*]; done), by repeat (first | exact Drawn0.refl _ | apply Drawn0.step)⟩
        · have H1 : (some false) = some r := by rw [if_neg (show ¬ (some q119).isNone = true by simp)] at H; exact H
          clear H
          have H := H1
          clear H1
          try simp only [errW_none, errW_some]
          obtain rfl := Option.some.inj H
          go_enter Try.func4, Try.ntmps4
          go_wp2_with (first | ((with_reducible refine gate_callee (f := 5) rfl ?_); refine goesL_ (some 20) rfl rfl Try.func5 (by kernel_rfl) rfl #[.int .i32 a0, .int .i64 (wrap64 (Int.tmod (IntKind.u64.wrap (a1)) 1048576))] rfl (by (try simp only [List.map_toArray, List.map_cons, List.map_nil]); first | done | rfl | (simp only [List.length_drop, List.length_take]; rfl)) ?_; (with_reducible refine (edges_Key.calls a0 (wrap64 (Int.tmod (IntKind.u64.wrap (a1)) 1048576)) t106 none _ A3.out).mono ?_); rintro e w' ⟨rfl, ⟨nd, rfl⟩⟩; refine ⟨_, rfl, ?_⟩; (try simp only [errW_none, errW_some])) | ((with_reducible refine gate_callee (f := 5) rfl ?_); refine goesL_ (some 70) rfl rfl Try.func5 (by kernel_rfl) rfl #[.int .i32 (wrap32 (a0 + 1)), .int .i64 0] rfl (by (try simp only [List.map_toArray, List.map_cons, List.map_nil]); first | done | rfl | (simp only [List.length_drop, List.length_take]; rfl)) ?_; (with_reducible refine (edges_Key.calls (wrap32 (a0 + 1)) 0 t117 (some q119) _ A16.out).mono ?_); rintro e w' ⟨rfl, ⟨nd, rfl⟩⟩; refine ⟨_, rfl, ?_⟩; (try simp only [errW_none, errW_some])))
          go_ret
          exact ⟨by first | rfl | (simp; done) | (simp [*]; done), by repeat (first | exact Drawn0.refl _ | apply Drawn0.step)⟩
  · have H1 : (some false) = some r := by rw [if_neg (show ¬ (some q108).isNone = true by simp)] at H; exact H
    clear H
    have H := H1
    clear H1
    try simp only [errW_none, errW_some]
    obtain rfl := Option.some.inj H
    go_enter Try.func4, Try.ntmps4
    go_wp2_with (first | ((with_reducible refine gate_callee (f := 5) rfl ?_); refine goesL_ (some 20) rfl rfl Try.func5 (by kernel_rfl) rfl #[.int .i32 a0, .int .i64 (wrap64 (Int.tmod (IntKind.u64.wrap (a1)) 1048576))] rfl (by (try simp only [List.map_toArray, List.map_cons, List.map_nil]); first | done | rfl | (simp only [List.length_drop, List.length_take]; rfl)) ?_; (with_reducible refine (edges_Key.calls a0 (wrap64 (Int.tmod (IntKind.u64.wrap (a1)) 1048576)) t106 (some q108) _ A3.out).mono ?_); rintro e w' ⟨rfl, ⟨nd, rfl⟩⟩; refine ⟨_, rfl, ?_⟩; (try simp only [errW_none, errW_some])))
    go_ret
    exact ⟨by first | rfl | (simp; done) | (simp [*]; done), by repeat (first | exact Drawn0.refl _ | apply Drawn0.step)⟩

/-- THE ONE PURE STATEMENT of plaitlaw13_EdgesNext: yours. -/
def plaitlaw13_EdgesNext.Pure : Prop := ∀ (a0 : Int) (a1 : Int), (Lit.int .i32 a0).wf = true → (Lit.int .i64 a1).wf = true → plaitlaw13_EdgesNext.f a0 a1 = some true
theorem plaitlaw13_EdgesNext.walk (P : plaitlaw13_EdgesNext.Pure) (a0 : Int) (a1 : Int) (w : World) (w0 : (Lit.int .i32 a0).wf = true) (w1 : (Lit.int .i64 a1).wf = true) :
    Calls Try.prog 4 #[.int .i32 a0, .int .i64 a1] w fun e w' => e = .returned (.bool true) ∧ Below w.heap.size w w' := by
  have h := P a0 a1 w0 w1
  refine (plaitlaw13_EdgesNext.calls a0 a1 true w h).mono ?_
  rintro e w' ⟨rfl, hd⟩
  exact ⟨rfl, hd.below⟩

end Go.Proofs.Ytphfhbhdpkekmaa.PEdgesNext
