import Derived.Test.YtndaokjifafhkaaGreatDoorTwQ1
import Derived.KernelRfl
/- What the executor's special pieces stand for: whatever is not come to; lift's range over the road, from its end on. -/
namespace Go.Proofs.Tw
set_option linter.unusedSectionVars false
set_option linter.unusedSimpArgs false
set_option linter.unusedVariables false
open Go Go.Vm Go.Vx
set_option maxRecDepth 100000
def body : List Ins := [.ld 39 (.tmp 2), .mv 40 (.tmp 7), .ca (some 41) 272 [.tmp 39, .tmp 40]]
def RngC (N : Nat) (c : Code) : Prop := ∃ ida idb blk osa osb, N = 74 ∧ c = .rangeFunc (.tmp 36) #[37, 38] (.region ida osa false) (.block blk (.region idb osb false)) ∧
  osa.toList.mapM (compOper Tryz.prog 74 osa) = some [⟨some 7, .mov (.tmp 38), none⟩] ∧ osb.toList.mapM (compOper Tryz.prog 74 osb) = some (body.map den)
def SpD (N : Nat) (c : Code) (k : Nat) : Prop := k = 999 ∨ (k = 1 ∧ RngC N c)
theorem spd_any {N : Nat} (k : Nat) (c : Code) (h : (fun k => Nat.beq k 999) k = true) : SpD N c k := .inl (Nat.eq_of_beq_eq_true h)
def sL : Code → Code | .seq a _ => a | c => c
def sR : Code → Code | .seq _ b => b | c => c
def bC : Code → Code | .block _ c => c | c => c
def iL : IC → IC | .seq a _ => a | c => c
def iR : IC → IC | .seq _ b => b | c => c
theorem den_seq {N : Nat} {c : Code} {q : IC} (hc : c = .seq (sL c) (sR c)) (hq : q = .seq (iL q) (iR q)) (h1 : Den Tryz.prog SpD N (sL c) (iL q)) (h2 : Den Tryz.prog SpD N (sR c) (iR q)) : Den Tryz.prog SpD N c q := by
  rw [hc, hq]; exact .seq h1 h2
noncomputable abbrev c263 : Code := Tryz.f263.body.getD .skip
noncomputable abbrev c6 : Code := sL (sR (sR (sR c263)))
theorem rng_code : RngC 74 (bC (sR c6)) := by
  refine ⟨_, _, _, _, _, rfl, rfl, ?_, ?_⟩
  · kernel_rfl
  · kernel_rfl
theorem r_263 : FnOk Tryz.prog SpD 263 74 q_263 [] := by
  refine ⟨_, _, Tryz.func263, (by kernel_rfl : Tryz.f263.body = some c263), by kernel_rfl, by kernel_rfl, Nat.le_of_ble_eq_true (by kernel_rfl), ?_⟩
  refine den_seq (by kernel_rfl) (by kernel_rfl) (comp_den spd_any _ _ (by kernel_rfl) (by kernel_rfl)) ?_
  refine den_seq (by kernel_rfl) (by kernel_rfl) (comp_den spd_any _ _ (by kernel_rfl) (by kernel_rfl)) ?_
  refine den_seq (by kernel_rfl) (by kernel_rfl) (comp_den spd_any _ _ (by kernel_rfl) (by kernel_rfl)) ?_
  refine den_seq (by kernel_rfl) (by kernel_rfl) ?_ (comp_den spd_any _ _ (by kernel_rfl) (by kernel_rfl))
  refine den_seq (by kernel_rfl) (by kernel_rfl) (comp_den spd_any _ _ (by kernel_rfl) (by kernel_rfl)) ?_
  have e1 : sR c6 = .block 2 (bC (sR c6)) := by kernel_rfl
  have e2 : iR (iL (iR (iR (iR q_263)))) = .block 2 (.sp 1) := by kernel_rfl
  show Den Tryz.prog SpD 74 (sR c6) (iR (iL (iR (iR (iR q_263)))))
  rw [e1, e2]
  exact .block (.sp (.inr ⟨rfl, rng_code⟩))
end Go.Proofs.Tw
