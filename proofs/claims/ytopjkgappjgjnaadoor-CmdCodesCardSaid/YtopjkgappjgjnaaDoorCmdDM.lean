/- Numbers and their bytes, in plain words. -/
import Derived.Test.YtopjkgappjgjnaaDoorCmdD1
namespace Go.Proofs.YtopjkgappjgjnaaDoor
open Go Go.Vm
set_option linter.unusedSectionVars false
set_option linter.unusedSimpArgs false
theorem pow256 (m : Nat) : ((256 ^ m : Nat) : Int) = 256 ^ m := by simp
theorem putL_num (V n : Nat) : ∀ j, j ≤ n → numB (putL V n j) = ((V / 256 ^ (n - j) % 256 ^ j : Nat) : Int)
  | 0, _ => by simp [putL, numB, Nat.mod_one]
  | j + 1, h => by
    rw [putL_succ, numB_snoc, putL_num V n j (by omega)]
    have e1 : n - j = (n - 1 - j) + 1 := by omega
    have e2 : V / 256 ^ (n - j) = V / 256 ^ (n - 1 - j) / 256 := by rw [e1, Nat.pow_succ, Nat.div_div_eq_div_mul]
    have e3 : n - (j + 1) = n - 1 - j := by omega
    have e6 : ((V : Int) / 256 ^ (n - 1 - j) % 256) = ((V / 256 ^ (n - 1 - j) % 256 : Nat) : Int) := by
      rw [← pow256]
      rfl
    have e4 := Nat.mod_mul (a := 256) (b := 256 ^ j) (x := V / 256 ^ (n - 1 - j))
    have e5 : 256 ^ (j + 1) = 256 * 256 ^ j := by rw [Nat.pow_succ, Nat.mul_comm]
    rw [e6, e2, e3, e5, e4]
    omega
theorem putL_val {V n : Nat} : numB (putL V n n) = ((V % 256 ^ n : Nat) : Int) := by
  rw [putL_num V n n (Nat.le_refl _), Nat.sub_self, Nat.pow_zero, Nat.div_one]
theorem numB_cons_aux (l : List Int) : ∀ x : Int, l.foldl (fun v c => v * 256 + c) x = x * 256 ^ l.length + numB l := by
  induction l with
  | nil => intro x; simp [numB]
  | cons c l ih =>
    intro x
    rw [List.foldl_cons, ih, show numB (c :: l) = l.foldl (fun v c => v * 256 + c) (0 * 256 + c) from rfl, ih, List.length_cons, Int.pow_succ]
    have : (x * 256 + c) * 256 ^ l.length = x * (256 ^ l.length * 256) + (0 * 256 + c) * 256 ^ l.length := by
      rw [Int.add_mul, Int.mul_assoc, Int.mul_comm 256 (256 ^ l.length)]
      simp
    omega
theorem numB_cons (c : Int) (l : List Int) : numB (c :: l) = c * 256 ^ l.length + numB l := by
  have : numB (c :: l) = l.foldl (fun v c => v * 256 + c) (0 * 256 + c) := rfl
  rw [this, numB_cons_aux]
  simp
theorem numB_lt (l : List Int) (h : Byt l) : 0 ≤ numB l ∧ numB l < 256 ^ l.length := numB_bound l.length l (Nat.le_refl _) h
theorem mul_lt_step {x y p a b : Int} (h : x < y) (ha : a < p) (hb : 0 ≤ b) (hp : 0 < p) : x * p + a < y * p + b := by
  have h1 : (x + 1) * p ≤ y * p := Int.mul_le_mul_of_nonneg_right (by omega) (by omega)
  rw [Int.add_mul] at h1
  omega
theorem less_num : ∀ {a b : List Int}, a.length = b.length → Byt a → Byt b → Op.bytesLess (str a) (str b) = decide (numB a < numB b) ∧ (numB a = numB b → a = b)
  | [], [], _, _, _ => by simp [str, Op.bytesLess, numB]
  | [], _ :: _, h, _, _ => by cases h
  | _ :: _, [], h, _, _ => by cases h
  | x :: a, y :: b, h, ha, hb => by
    have hl : a.length = b.length := by simpa using h
    have ha' : Byt a := fun n hn => ha n (List.mem_cons_of_mem _ hn)
    have hb' : Byt b := fun n hn => hb n (List.mem_cons_of_mem _ hn)
    obtain ⟨ih1, ih2⟩ := less_num hl ha' hb'
    have hx := ha x (by simp)
    have hy := hb y (by simp)
    have na := numB_lt a ha'
    have nb := numB_lt b hb'
    rw [← hl] at nb
    have hp : (0 : Int) < 256 ^ a.length := Int.pow_pos (by omega)
    rw [numB_cons, numB_cons, ← hl]
    have e : Op.bytesLess (str (x :: a)) (str (y :: b)) = (decide (UInt8.ofNat x.toNat < UInt8.ofNat y.toNat) || (UInt8.ofNat x.toNat == UInt8.ofNat y.toNat && Op.bytesLess (str a) (str b))) := rfl
    have el : (UInt8.ofNat x.toNat < UInt8.ofNat y.toNat) = (x < y) := by
      rw [UInt8.lt_iff_toNat_lt, UInt8.toNat_ofNat', UInt8.toNat_ofNat', Nat.mod_eq_of_lt (by omega), Nat.mod_eq_of_lt (by omega)]
      exact propext (by omega)
    have ee : (UInt8.ofNat x.toNat == UInt8.ofNat y.toNat) = decide (x = y) := by
      rw [Bool.eq_iff_iff, beq_iff_eq, decide_eq_true_eq, ← UInt8.toNat_inj, UInt8.toNat_ofNat', UInt8.toNat_ofNat', Nat.mod_eq_of_lt (by omega), Nat.mod_eq_of_lt (by omega)]
      omega
    rw [e, ih1]
    simp only [el, ee]
    rcases Int.lt_trichotomy x y with h1 | h1 | h1
    · have := mul_lt_step (p := 256 ^ a.length) h1 na.2 nb.1 hp
      refine ⟨by simp [h1, this], fun h2 => by omega⟩
    · subst h1
      refine ⟨by simp, fun h2 => ?_⟩
      rw [ih2 (by omega)]
    · have := mul_lt_step (p := 256 ^ a.length) h1 nb.2 na.1 hp
      refine ⟨by simp [show ¬ x < y by omega, show ¬ x = y by omega]; omega, fun h2 => by omega⟩
end Go.Proofs.YtopjkgappjgjnaaDoor
