import Derived.Test.YtndaokjifafhkaaGreatDoorTwV
import Derived.Test.YtndaokjifafhkaaGreatDoorTwU
import Derived.Test.YtndaokjifafhkaaGreatDoorTwN2
import Derived.Test.YtndaokjifafhkaaGreatDoorTwN3
import Derived.Test.YtndaokjifafhkaaGreatDoorTwN4
import Derived.Test.YtndaokjifafhkaaGreatDoorTwN5
import Derived.Test.YtndaokjifafhkaaGreatDoorTwN6
import Derived.Test.YtndaokjifafhkaaGreatDoorTwN7
import Derived.Test.YtndaokjifafhkaaGreatDoorTwNs
/- The law at every argument, by a contract. -/
namespace Go.Proofs.Tw
set_option linter.unusedSectionVars false
set_option linter.unusedSimpArgs false
set_option linter.unusedVariables false
open Go Go.Vm Go.Vx
set_option maxRecDepth 100000
theorem callA_ok : CallerOk Tryz.prog callA := exe_sound tab_holds sp_ok spc_holds 60
theorem r_7 : FnOk Tryz.prog SpD 7 19 q_7 [.t 0] := ⟨_, _, Tryz.func7, by kernel_rfl, by kernel_rfl, by kernel_rfl, Nat.le_of_ble_eq_true (by kernel_rfl), comp_den spd_any q_7 (Tryz.f7.body.getD .skip) (by kernel_rfl) (by kernel_rfl)⟩
theorem land_low {r n : Nat} (h : Nat.land r (2 ^ n - 1) = 0) {id : Nat} (hid : inM r id) : n ≤ id := by
  rcases Nat.lt_or_ge id n with hlt | h2
  · exfalso
    have h1 : (Nat.land r (2 ^ n - 1)).testBit id = true := by
      show (r &&& (2 ^ n - 1)).testBit id = true
      rw [Nat.testBit_and, Nat.testBit_two_pow_sub_one]
      simp [hlt]
      exact hid
    rw [h] at h1
    simp at h1
  · exact h2
theorem ble_high {r n : Nat} (h : r ≤ 2 ^ n - 1) {id : Nat} (hid : inM r id) : id < n := by
  rcases Nat.lt_or_ge id n with h2 | h2
  · exact h2
  · exfalso
    have h3 := Nat.ge_two_pow_of_testBit hid
    have h4 : 2 ^ n ≤ 2 ^ id := Nat.pow_le_pow_right (by decide) h2
    have h5 : 0 < 2 ^ n := Nat.two_pow_pos n
    omega
theorem sure_step : ∃ m' nb' r w, CallS Tryz.prog 7 [] .nil NB0 (.b true) m' nb' r w ∧ nb' ≤ NB1 ∧ (∀ id, inM r id → NB0 ≤ id ∧ id < NB1) ∧ ∀ id, inM w id → NB0 ≤ id ∧ id < NB1 := by
  have h := sure_run
  unfold sureK fxCode at h
  rw [bK_eq, argsK_eq] at h
  split at h
  · rw [exK_eq callA callAK callA_eq spc (spcF callAK) (spcF_eq callA callAK callA_eq)] at h
    cases e : exeS spc 4000 callA q_7 ⟨argL 0 [], .nil, NB0, 0, 0⟩ with
    | none => rw [e] at h; cases h
    | some y =>
      obtain ⟨ex, s⟩ := y
      rw [e] at h
      have hex : ex = .normal ∨ ex = .ret := by
        cases ex with
        | normal => exact .inl rfl
        | ret => exact .inr rfl
        | _ => cases h
      have h2 : kcO (fun v m nb r w => isB v fun b => bK b (Nat.ble nb NB1 && (Nat.beq (Nat.land r (2 ^ NB0 - 1)) 0 && (Nat.ble r (2 ^ NB1 - 1) && (Nat.beq (Nat.land w (2 ^ NB0 - 1)) 0 && Nat.ble w (2 ^ NB1 - 1))))) false) (resP [.t 0] s) = true := by
        rw [← resK_eq]
        rcases hex with rfl | rfl
        · exact h
        · exact h
      cases er : resP [.t 0] s with
      | none => rw [er] at h2; cases h2
      | some z =>
        obtain ⟨v, m', nb', r, w⟩ := z
        rw [er] at h2
        simp only [kcO, orD_some, kcC] at h2
        unfold isB at h2
        split at h2
        · rename_i t
          change bK t _ false = true at h2
          rw [bK_eq] at h2
          split at h2
          · rename_i ht
            subst ht
            simp only [Bool.and_eq_true, beq_if] at h2
            obtain ⟨a1, a2, a3, a4, a5⟩ := h2
            obtain ⟨fn, c, f1, f2, f3, f4, f5, f6⟩ := r_7
            have hcode := exeS_sound mix callA_ok spc_holds q_7 _ _ _ e c f6
            exact ⟨m', nb', r, w, call_sound hex f1 f2 f3 f4 (Nat.zero_le _) hcode er, Nat.le_of_ble_eq_true a1, fun id hid => ⟨land_low a2 hid, ble_high (Nat.le_of_ble_eq_true a3) hid⟩, fun id hid => ⟨land_low a4 hid, ble_high (Nat.le_of_ble_eq_true a5) hid⟩⟩
          · cases h2
        · cases h2
  · cases h
theorem RL0 : RL 0 = [] := by simp [RL]
theorem EL0 (m : Tr) : EL m 0 = [] := by simp [EL]
theorem callM_ok : CallerOk Tryz.prog callM := by
  intro f xs m nb v m' nb' r w h
  unfold callM at h
  rw [bK_eq] at h
  split at h
  · rename_i e
    obtain rfl := Nat.eq_of_beq_eq_true e
    rw [bK_eq] at h
    split at h
    · rename_i e2
      simp only [Bool.and_eq_true, beq_if] at e2
      cases h
      obtain rfl : xs = [] := List.length_eq_zero_iff.1 e2.1
      have hnb := Nat.le_of_ble_eq_true e2.2
      obtain ⟨m2, nb2, r2, w2, hS, hn, hr, hw⟩ := sure_step
      refine ⟨Nat.le_trans hnb (by decide), fun _ _ => rfl, fun hZ => ?_⟩
      obtain ⟨k, hk⟩ := hS.ok (Nat.le_trans hn hZ)
      refine ⟨k, fun wz hwz => ?_⟩
      have h1 := hk wz hwz
      have h2 : CallW Tryz.prog 7 [] (fun _ => none) (Vx.Fn NB0 NB1 wz (wz + k)) ⟨.b true, EL m2 w2, RL r2⟩ := by
        have : (Tr.nil.get : Mem) = fun _ => none := by funext id; rfl
        rw [this] at h1
        exact h1.mono fun id hid => by simp only [Vx.Fn] at hid ⊢; omega
      have h3 := callW_fresh h2 (fun id hid => .inl (hw id (EL_ids.1 hid))) (fun id hid => .inl (hr id (mem_RL.1 hid))) m.get
      rw [EL0, RL0]
      exact h3.mono fun id hid => by simp only [Vx.Fn] at hid ⊢; omega
    · cases h
  · exact callA_ok f xs m nb v m' nb' r w h
end Go.Proofs.Tw

/- TopWorn returns true at every argument: by a contract. -/
namespace Go.Proofs.Tw
set_option linter.unusedSectionVars false
set_option linter.unusedSimpArgs false
set_option linter.unusedVariables false
set_option maxRecDepth 100000
open Go Go.Vm Go.Vx
theorem mains (k : Nat) (h : mainK k = true) : ∃ s', exeS spc 4000 callM rest3 ⟨[(3, .i .i64 (Int.ofNat k))], .nil, 0, 0, 0⟩ = some (.ret, s') ∧ lkT s'.l 2 = .b true ∧ s'.nb ≤ Z := by
  unfold mainK at h
  rw [exK_eq callM callMK callM_eq spc (spcF callMK) (spcF_eq callM callMK callM_eq)] at h
  cases e : exeS spc 4000 callM rest3 ⟨[(3, .i .i64 (Int.ofNat k))], .nil, 0, 0, 0⟩ with
  | none => rw [e] at h; cases h
  | some y =>
    obtain ⟨ex, s⟩ := y
    rw [e] at h
    cases ex with
    | ret =>
      change lk s.l 2 (fun v => isB v fun b => bK b (Nat.ble s.nb Z) false) = true at h
      rw [lk_eq] at h
      cases hv : lkT s.l 2 with
      | b t =>
        rw [hv] at h
        change bK t (Nat.ble s.nb Z) false = true at h
        cases t with
        | true => exact ⟨s, rfl, hv, Nat.le_of_ble_eq_true h⟩
        | false => cases h
      | _ => rw [hv] at h; cases h
    | normal => cases h
    | _ => cases h
theorem all_runs (k : Nat) (h1 : 2 ≤ k) (h2 : k ≤ 7) : mainK k = true := by
  have : k = 2 ∨ k = 3 ∨ k = 4 ∨ k = 5 ∨ k = 6 ∨ k = 7 := by omega
  rcases this with rfl | rfl | rfl | rfl | rfl | rfl
  · exact run_2
  · exact run_3
  · exact run_4
  · exact run_5
  · exact run_6
  · exact run_7
def kOf (n : Int) : Int := IntKind.i64.wrap (2 + IntKind.i64.wrap (Int.tmod (IntKind.u64.wrap n) 6))
theorem kOf_nat (n : Int) : ∃ k : Nat, kOf n = Int.ofNat k ∧ 2 ≤ k ∧ k ≤ 7 := by
  have h0 : 0 ≤ IntKind.u64.wrap n := by
    show 0 ≤ (if (IntKind.u64.signed && decide (n % (2 ^ IntKind.u64.bits : Int) ≥ (2 ^ (IntKind.u64.bits - 1) : Int))) = true then n % (2 ^ IntKind.u64.bits : Int) - (2 ^ IntKind.u64.bits : Int) else n % (2 ^ IntKind.u64.bits : Int))
    rw [if_neg (by simp [IntKind.signed])]
    exact Int.emod_nonneg _ (by decide)
  unfold kOf
  generalize IntKind.u64.wrap n = m at h0
  have h1 : 0 ≤ m.tmod 6 := Int.tmod_nonneg _ h0
  have h2 : m.tmod 6 < 6 := Int.tmod_lt_of_pos _ (by decide)
  generalize m.tmod 6 = r at h1 h2
  have : r = 0 ∨ r = 1 ∨ r = 2 ∨ r = 3 ∨ r = 4 ∨ r = 5 := by omega
  rcases this with rfl | rfl | rfl | rfl | rfl | rfl
  · exact ⟨2, by decide, by decide, by decide⟩
  · exact ⟨3, by decide, by decide, by decide⟩
  · exact ⟨4, by decide, by decide, by decide⟩
  · exact ⟨5, by decide, by decide, by decide⟩
  · exact ⟨6, by decide, by decide, by decide⟩
  · exact ⟨7, by decide, by decide, by decide⟩
theorem q3_seq : q_3 = .seq (iL q_3) (.seq (iL (iR q_3)) rest3) := rfl
theorem q3_r0 (n : Int) : exeS spc 4000 callM (iL q_3) ⟨argL 0 [.i .i64 n], .nil, 0, 0, 0⟩ = some (.normal, ⟨[(0, .i .i64 n)], .nil, 0, 0, 0⟩) := by kernel_rfl
theorem q3_r1 (n : Int) : exeS spc 4000 callM (iL (iR q_3)) ⟨[(0, .i .i64 n)], .nil, 0, 0, 0⟩ = some (.normal, ⟨[(3, .i .i64 (kOf n))], .nil, 0, 0, 0⟩) := by kernel_rfl
theorem q3_head (n : Int) : exeS spc 4000 callM q_3 ⟨argL 0 [.i .i64 n], .nil, 0, 0, 0⟩ = exeS spc 4000 callM rest3 ⟨[(3, .i .i64 (kOf n))], .nil, 0, 0, 0⟩ := by
  rw [q3_seq, exeS, q3_r0]
  show exeS spc 4000 callM (.seq (iL (iR q_3)) rest3) _ = _
  rw [exeS, q3_r1]
theorem main_callS (n : Int) : ∃ m' nb' r w, CallS Tryz.prog 3 [.i .i64 n] .nil 0 (.b true) m' nb' r w ∧ nb' ≤ Z := by
  obtain ⟨k, e, h1, h2⟩ := kOf_nat n
  obtain ⟨s', hs, hv, hZ⟩ := mains k (all_runs k h1 h2)
  have hq := q3_head n
  rw [e, hs] at hq
  obtain ⟨fn, c, f1, f2, f3, f4, f5, f6⟩ := r_3
  have hcode := exeS_sound mix callM_ok spc_holds q_3 _ _ _ hq c f6
  have hr : resP [.t 2] s' = some (.b true, s'.m, s'.nb, Nat.lor s'.R (mask ([RV.t 2].flatMap (RV.row s'.l))), s'.W) := by
    unfold resP
    have : resRV [.t 2] (lkT s'.l) s'.m.get = some (.b true) := by
      show some (lkT s'.l 2) = _
      rw [hv]
    rw [this]
    rfl
  exact ⟨_, _, _, _, call_sound (.inr rfl) f1 f2 f3 f4 (by show 1 ≤ _; omega) hcode hr, hZ⟩
end Go.Proofs.Tw
