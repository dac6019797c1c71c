import Derived.Test.YtndaokjifafhkaaGreatDoorTwT
import Derived.Test.YtndaokjifafhkaaGreatDoorTwQ1
/- The runs that the kernel is to make: sure() in fresh names; the law at each of its six sizes. -/
namespace Go.Proofs.Tw
set_option linter.unusedSectionVars false
set_option linter.unusedSimpArgs false
set_option linter.unusedVariables false
open Go Go.Vm Go.Vx
set_option maxRecDepth 100000
noncomputable section
def callA : Caller := exCall tab sp spc 4000 60
def callAK : CallK := callK tab spF spcF 4000 60
theorem callA_eq : CEq callA callAK := callK_eq tab sp spc spF spcF 4000 spF_eq spcF_eq 60
def NB0 : Nat := 4000
def NB1 : Nat := 8000
def sureK : Bool := fxCode spcF 4000 callAK 19 q_7 [.t 0] [] .nil NB0 fun v m nb r w => isB v fun b => bK b (Nat.ble nb NB1 && (Nat.beq (Nat.land r (2 ^ NB0 - 1)) 0 && (Nat.ble r (2 ^ NB1 - 1) && (Nat.beq (Nat.land w (2 ^ NB0 - 1)) 0 && Nat.ble w (2 ^ NB1 - 1))))) false
def callM : Caller := fun f xs m nb => bK (Nat.beq f 7) (bK (Nat.beq xs.length 0 && Nat.ble nb NB0) (some (.b true, m, NB1, 0, 0)) none) (callA f xs m nb)
def callMK : CallK := fun f xs m nb kc => bK (Nat.beq f 7) (bK (Nat.beq xs.length 0 && Nat.ble nb NB0) (kc (.b true) m NB1 0 0) false) (callAK f xs m nb kc)
theorem callM_eq : CEq callM callMK := by
  intro f xs m nb k
  unfold callM callMK
  simp only [bK_eq]
  split
  · split <;> rfl
  · exact callA_eq f xs m nb k
def rest3 : IC := iR (iR q_3)
def endK (ex : Exit) : KS := match ex with
  | .ret => fun l m nb R W => lk l 2 fun v => isB v fun b => bK b (Nat.ble nb Z) false
  | _ => fun _ _ _ _ _ => false
def mainK (k : Nat) : Bool := exK callMK (spcF callMK) 4000 rest3 (fun _ _ _ _ _ => false) endK [(3, .i .i64 (Int.ofNat k))] .nil 0 0 0
end
end Go.Proofs.Tw
