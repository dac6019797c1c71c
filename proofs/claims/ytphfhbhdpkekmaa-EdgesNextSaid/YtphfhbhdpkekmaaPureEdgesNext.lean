/- EdgesNext: for every weight and slot the key of the next slot (or of the next weight's first slot) is one more, and gives weight and slot back; behind the last key none is valid. No condition. -/
import Derived.Test.YtphfhbhdpkekmaaPEdgesNextx1
namespace Go.Proofs.Ytphfhbhdpkekmaa.Pure
open Go.RowKit Go.Proofs.Ytphfhbhdpkekmaa.PEdgesNext Go.Proofs.YtphfhbhdpkekmaaW.PrintWords Go.Proofs.YtphfhbhdpkekmaaW.PrintLast

theorem and_mask (x : Int) : Go.bits .and .i64 x 1048575 = x % 1048576 := by
  have e : (1048575 : Int) = ((1048575 : Nat) : Int) := rfl
  simp only [Go.bits]
  rw [e, BitVec.ofInt_natCast, BitVec.toNat_and, BitVec.toNat_ofInt, BitVec.toNat_ofNat]
  have hm : (1048575 % 2 ^ IntKind.i64.bits : Nat) = 2 ^ 20 - 1 := by decide
  rw [hm, Nat.and_two_pow_sub_one_eq_mod]
  have hb : IntKind.i64.bits = 64 := rfl
  rw [IntKind.wrap_i64, hb]
  omega

theorem key_some (w s : Int) (h0 : 0 ≤ s) (h1 : s < 1048576) (hw0 : -2147483648 ≤ w) (hw1 : w ≤ 2147483647) :
    edges_Key.f w s = some (w * 1048576 + s, none) := by
  unfold edges_Key.f
  rw [if_neg (by omega), if_neg (by omega)]
  congr 3
  unfold wrap64
  omega

theorem sure_true : plaitlaw13_sure.f = some true := by
  unfold plaitlaw13_sure.f
  rw [key_some (-1) 5 (by omega) (by omega) (by omega) (by omega)]
  rfl

theorem EdgesNext : plaitlaw13_EdgesNext.Pure := by
  intro w n hw hn
  have hw' : -2147483648 ≤ w ∧ w ≤ 2147483647 := by
    simp only [Lit.wf, IntKind.min, IntKind.max, IntKind.signed, IntKind.bits, Bool.and_eq_true, decide_eq_true_eq, if_true] at hw
    omega
  have ha : ∃ a, wrap64 (Int.tmod (IntKind.u64.wrap n) 1048576) = a ∧ 0 ≤ a ∧ a < 1048576 := by
    refine ⟨_, rfl, ?_⟩
    have hu : 0 ≤ IntKind.u64.wrap n := by
      simp [IntKind.wrap, IntKind.bits, IntKind.signed]
      omega
    have hm := Int.tmod_eq_emod_of_nonneg (b := 1048576) hu
    rw [hm]
    unfold wrap64
    omega
  obtain ⟨a, ha, h0, h1⟩ := ha
  unfold plaitlaw13_EdgesNext.f
  rw [ha, key_some w a h0 h1 hw'.1 hw'.2]
  simp only [Option.bind_some, Option.isNone_none, if_true]
  have hy : wrap64 (w * 1048576 + a + 1) = w * 1048576 + a + 1 := by unfold wrap64; omega
  rw [hy]
  by_cases hl : a < 1048575
  · rw [if_pos hl]
    have hs : wrap64 (a + 1) = a + 1 := by unfold wrap64; omega
    rw [hs, key_some w (a + 1) (by omega) (by omega) hw'.1 hw'.2]
    simp only [Option.bind_some, Option.isNone_none, if_true]
    rw [if_pos (by omega)]
    unfold edges_Weight.f edges_Slot.f
    rw [and_mask]
    simp only [Option.bind_some]
    rw [if_pos (by unfold wrap32; omega), if_pos (by omega), sure_true]
    rfl
  · rw [if_neg hl]
    by_cases hm : w = 2147483647
    · rw [if_pos hm]
      unfold edges_Valid.f
      rw [if_pos (by omega)]
      simp only [Option.bind_some]
      rw [if_neg (by simp; omega), sure_true]
      rfl
    · rw [if_neg hm]
      have hs : wrap32 (w + 1) = w + 1 := by unfold wrap32; omega
      rw [hs, key_some (w + 1) 0 (by omega) (by omega) (by omega) (by omega)]
      simp only [Option.bind_some, Option.isNone_none, if_true]
      rw [if_pos (by omega)]
      unfold edges_Weight.f edges_Slot.f
      rw [and_mask]
      simp only [Option.bind_some]
      rw [if_pos (by unfold wrap32; omega), if_pos (by omega), sure_true]
      rfl

end Go.Proofs.Ytphfhbhdpkekmaa.Pure
