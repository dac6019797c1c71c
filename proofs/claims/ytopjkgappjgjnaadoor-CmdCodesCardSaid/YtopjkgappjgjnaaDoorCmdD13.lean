/- Commands and their bytes, in plain words: there and back. -/
import Derived.Test.YtopjkgappjgjnaaDoorCmdD12
import Derived.Test.YtopjkgappjgjnaaDoorCmdD9
namespace Go.Proofs.YtopjkgappjgjnaaDoor
open Go Go.Vm Go.CmdM
set_option linter.unusedSectionVars false
set_option linter.unusedSimpArgs false
def dec : List Int → Cm × Int
  | [] => (cZ, 10)
  | co :: r =>
    if isC co = false then (cZ, 10) else if da co = true then (⟨co, 0, 0, 0, 0, 0, 0, 0, r⟩, 0)
    else if r.length ≠ szF (fm co) then (cZ, 11) else if chk (prs (fm co) co r) = 0 then (prs (fm co) co r, 0) else (cZ, 3)
structure In (c : Cm) : Prop extends In32 c where
  w : -2147483648 ≤ c.w ∧ c.w ≤ 2147483647
theorem numP {a : Int} (h : 0 ≤ a ∧ a < 4294967296) : numB (putL a 4 4) = a := by
  obtain ⟨A, rfl⟩ : ∃ A : Nat, a = A := ⟨a.toNat, by omega⟩
  rw [putL_val, Nat.mod_eq_of_lt (by omega)]
theorem u32i {a : Int} (h : 0 ≤ a ∧ a < 4294967296) : IntKind.u32.wrap a = a := by
  simp [IntKind.wrap, IntKind.bits, IntKind.signed]
  omega
theorem u32n (x : Int) : 0 ≤ IntKind.u32.wrap x ∧ IntKind.u32.wrap x < 4294967296 := u32b
theorem i32u {w : Int} (h : -2147483648 ≤ w ∧ w ≤ 2147483647) : IntKind.i32.wrap (IntKind.u32.wrap w) = w := by
  simp [IntKind.wrap, IntKind.bits, IntKind.signed, IntKind.wrap_i32]
  omega
theorem u32i32 {x : Int} : IntKind.u32.wrap (IntKind.i32.wrap (IntKind.u32.wrap x)) = IntKind.u32.wrap x := by
  simp [IntKind.wrap, IntKind.bits, IntKind.signed]
  omega
theorem u8i {x : Int} (h : 0 ≤ x ∧ x ≤ 255) : IntKind.u8.wrap x = x := by
  simp [IntKind.wrap, IntKind.bits, IntKind.signed]
  omega
theorem i64u8 {x : Int} (h : 0 ≤ x ∧ x ≤ 255) : IntKind.i64.wrap (IntKind.u8.wrap x) = x := by
  rw [u8i h, IntKind.wrap_i64]
  omega
theorem tkP {a : Int} {z : List Int} : (putL a 4 4 ++ z).take 4 = putL a 4 4 := List.take_left' (putL_length _ _ _)
theorem dpP {a : Int} {z : List Int} : (putL a 4 4 ++ z).drop 4 = z := List.drop_left' (putL_length _ _ _)
theorem tkP0 {a : Int} : (putL a 4 4).take 4 = putL a 4 4 := List.take_of_length_le (by rw [putL_length]; decide)
theorem dpP0 {a : Int} : (putL a 4 4).drop 4 = [] := List.drop_of_length_le (by rw [putL_length]; decide)
theorem putNum {l : List Int} (hl : l.length = 4) (hb : Byt l) : putL (numB l) 4 4 = l := by
  have h := numB_lt l hb
  rw [hl] at h
  refine (less_num (a := putL (numB l) 4 4) (b := l) (by rw [putL_length, hl]) (putL_byt _ _ _) hb).2 ?_
  exact numP ⟨h.1, h.2⟩
theorem sd_le (c : Int) : sd c ≤ 2 := by
  unfold sd
  split
  · exact Nat.le_refl _
  · split <;> omega
theorem chk_split {c : Cm} (h : chk c = 0) : isC c.co = true ∧ bad3 (fm c.co) c = false ∧ bad1 (fm c.co) c = false := by
  have h3 := chk0 h
  unfold chk at h
  split at h
  · cases h
  · rename_i h1
    split at h
    · cases h
    · refine ⟨by simpa using h1, h3, ?_⟩
      unfold rest at h
      split at h
      · cases h
      · rename_i h4; simpa using h4
theorem da_fm {co : Int} (h : da co = true) : fm co = ⟨0, 0, false, true⟩ := by
  simp [da] at h
  subst h
  rfl
theorem body_len {f : Fm} {c : Cm} (hh : f.h ≤ 2) : (bodyB f c).length = szF f := by
  obtain ⟨h, s, w, d⟩ := f
  have h0' : h = 0 ∨ h = 1 ∨ h = 2 := by simp only at hh; omega
  have hz : s = 0 ∨ 0 < s := by omega
  rcases hz with rfl | hs
  · rcases h0' with rfl | rfl | rfl <;> cases w <;> simp [bodyB, szF, sB, hB, wB, putL_length]
  · have hs2 : s ≠ 0 := by omega
    rcases h0' with rfl | rfl | rfl <;> cases w <;> simp [bodyB, szF, sB, hB, wB, putL_length, hs, hs2]
theorem prs_body {c : Cm} (hi : In c) (h0 : chk c = 0) (hd : da c.co = false) : prs (fm c.co) c.co (bodyB (fm c.co) c) = c := by
  obtain ⟨hc, h3, h1⟩ := chk_split h0
  clear h0
  have hh := fm_h c.co
  have hs2 : (fm c.co).s ≤ 2 := sd_le c.co
  have hfd : (fm c.co).d = false := hd
  generalize fm c.co = f at *
  obtain ⟨h, s, w, d⟩ := f
  simp only at hh hs2 hfd
  subst hfd
  obtain ⟨co, a0, t0, a1, t1, s0, s1, wv, dd⟩ := c
  obtain ⟨⟨ha0, ht0, ha1, ht1⟩, hw⟩ := hi
  simp only at ha0 ht0 ha1 ht1 hw
  simp only [bad3, bad1, decide_eq_false_iff_not] at h3 h1
  have hdd : dd = [] := by
    rcases dd with _ | ⟨x, y⟩
    · rfl
    · exfalso
      apply h1
      simp
      try omega
  subst hdd
  have h0' : h = 0 ∨ h = 1 ∨ h = 2 := by omega
  have hz : s = 0 ∨ 0 < s := by omega
  rcases hz with rfl | hs
  · rcases h0' with rfl | rfl | rfl <;> cases w <;> simp at h1 h3 <;>
      simp [prs, bodyB, sB, hB, wB, sAt, aAt, tAt, hAt, more, wAt, tkP, dpP, tkP0, dpP0, numP, u32i, i32u, u32n, ha0, ht0, ha1, ht1, hw] <;> omega
  · have hs3 : s ≠ 0 := by omega
    have hq : ∀ x : Int, 0 ≤ x → x ≤ s → IntKind.i64.wrap (IntKind.u8.wrap x) = x := fun x p q => i64u8 ⟨p, by omega⟩
    rcases h0' with rfl | rfl | rfl <;> cases w <;> simp [hs, hs3] at h1 h3 <;>
      simp [prs, bodyB, sB, hB, wB, sAt, aAt, tAt, hAt, more, wAt, tkP, dpP, tkP0, dpP0, numP, u32i, i32u, u32n, ha0, ht0, ha1, ht1, hw, hs, hs3, numB_one, hq, h3] <;> omega
end Go.Proofs.YtopjkgappjgjnaaDoor
