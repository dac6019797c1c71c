import Derived.Test.YtndaokjifafhkaaGreatDoorTwE
import Derived.Test.YtndaokjifafhkaaGreatDoorVxW
import Derived.RangeFuncBox
import Derived.RangeFuncLeaves
import Derived.Shelf.Abstract
import Derived.WalkKit
import Derived.OwnWalkIn
import Derived.TacticsInMore
import Derived.LoopNIn
import Derived.LoopIn
/- slices.Backward's closure. -/
namespace Go.Proofs.Tw
set_option linter.unusedSectionVars false
set_option linter.unusedSimpArgs false
set_option linter.unusedVariables false
open Go Go.Vm Go.Vx
open Go.RowKit Go.Shelf
attribute [local go_sem] Oper.semAt_some
set_option maxRecDepth 100000 in
set_option maxHeartbeats 2000000 in
theorem back_ok : ClosureOk Tryz.prog 341 := by
  intro L n pu J W hn1 hn0 h0 hrd
  obtain ⟨b0, off0, c0, z0, d1, d2, d3, _⟩ := hrd (n - 1) W (by omega) (by rw [Nat.sub_add_cancel hn0]; exact h0)
  refine callsIn_of_wp Tryz.func341 rfl trivial ?_ rfl
  simp only [Tryz.ntmps341, List.size_toArray, List.length_cons, List.length_nil, Nat.reduceAdd, Nat.reduceSub, Array.replicate_succ, Array.replicate_zero, List.push_toArray, List.append_toArray, List.nil_append, List.cons_append]
  gi_wp2
  gi_loopw [3] (fun i wr => ∃ k : Nat, k ≤ n ∧ i = .int .i64 ((k : Int) - 1) ∧ J k wr) (fun i _ => (intOf i + 1).toNat)
  case atStart => exact ⟨n, Nat.le_refl _, rfl, h0⟩
  case round =>
    obtain ⟨k, hk, rfl, hJs⟩ := hrel
    cases k with
    | zero =>
      gi_wp2
      go_end0
      exact ⟨⟨_, rfl⟩, hJs⟩
    | succ k =>
      obtain ⟨b, off, c, z, c1, c2, c3, fn, tmps, assign, body, hy, hR⟩ := hrd k wr (by omega) hJs
      gi_wp2
      refine ⟨rfl, hR.mono ?_⟩
      rintro e W3 ⟨rfl, hJ3⟩
      gi_wp2
      go_roundw
      case rel => exact ⟨k, by omega, by simp, hJ3⟩
      case measure => simp [intOf]
end Go.Proofs.Tw
