/- Commands and their bytes, in plain words: back and there. -/
import Derived.Test.YtopjkgappjgjnaaDoorCmdD13
namespace Go.Proofs.YtopjkgappjgjnaaDoor
open Go Go.Vm Go.CmdM
set_option linter.unusedSectionVars false
set_option linter.unusedSimpArgs false
theorem part {r x y : List Int} {n : Nat} (h1 : x = r.take n) (h2 : y = r.drop n) : x ++ y = r := by rw [h1, h2, List.take_append_drop]
theorem put4 {r : List Int} (hl : 4 ≤ r.length) (hb : Byt r) : putL (IntKind.u32.wrap (numB (r.take 4))) 4 4 = r.take 4 := by
  have hlt : (r.take 4).length = 4 := by rw [List.length_take]; omega
  have h := numB_lt (r.take 4) (hb.take 4)
  rw [hlt] at h
  rw [u32i ⟨h.1, h.2⟩, putNum hlt (hb.take 4)]
theorem put1 {r : List Int} (hl : 1 ≤ r.length) (hb : Byt r) : [IntKind.u8.wrap (IntKind.i64.wrap (numB (r.take 1)))] = r.take 1 := by
  cases r with
  | nil => simp at hl
  | cons x r =>
    have hx := hb x (List.mem_cons_self ..)
    rw [List.take_succ_cons, List.take_zero, numB_one, show IntKind.i64.wrap x = x by rw [IntKind.wrap_i64]; omega, u8i hx]
theorem w4 {r : List Int} (hl : r.length = 4) (hb : Byt r) : putL (IntKind.u32.wrap (IntKind.i32.wrap (IntKind.u32.wrap (numB (r.take 4))))) 4 4 = r := by
  rw [u32i32, put4 (by omega) hb, List.take_of_length_le (by omega)]
def fstB (f : Fm) (x : List Int) : List Int := sB f.s (sAt f x) ++ hB (aAt f x) (tAt f x)
theorem fst_ok {f : Fm} {x : List Int} (hl : (if 0 < f.s then 9 else 8) ≤ x.length) (hb : Byt x) : fstB f x ++ more f x = x := by
  by_cases hs : 0 < f.s
  · rw [if_pos hs] at hl
    have hne : f.s ≠ 0 := by omega
    simp only [fstB, more, sB, hne, if_false, sAt, hs, if_true, aAt, tAt, hAt, hB, List.append_assoc]
    refine part (n := 1) (put1 (by omega) hb) ?_
    have hb1 := hb.drop 1
    have hl1 : 8 ≤ (x.drop 1).length := by rw [List.length_drop]; omega
    refine part (n := 4) (put4 (by omega) hb1) ?_
    refine part (n := 4) (put4 (by rw [List.length_drop]; omega) (hb1.drop 4)) rfl
  · rw [if_neg hs] at hl
    have h0 : f.s = 0 := by omega
    simp only [fstB, more, sB, h0, if_true, sAt, hs, if_false, aAt, tAt, hAt, hB, List.append_assoc, List.nil_append, Nat.lt_irrefl]
    refine part (n := 4) (put4 (by omega) hb) ?_
    exact part (n := 4) (put4 (by rw [List.length_drop]; omega) (hb.drop 4)) rfl
theorem more_len {f : Fm} {x : List Int} : (more f x).length = x.length - (if 0 < f.s then 9 else 8) := by
  unfold more hAt
  split <;> simp only [List.length_drop] <;> omega
theorem more_byt {f : Fm} {x : List Int} (hb : Byt x) : Byt (more f x) := by
  unfold more hAt
  split <;> (repeat (first | exact hb | apply Byt.drop))
theorem wB_ok {f : Fm} {x : List Int} (hl : x.length = if f.w = true then 4 else 0) (hb : Byt x) : wB f (wAt f x) = x := by
  unfold wB wAt
  split
  · rename_i h
    rw [if_pos h] at hl
    exact w4 hl hb
  · rename_i h
    rw [if_neg h] at hl
    exact (List.length_eq_zero_iff.1 hl).symm
theorem body_prs {f : Fm} {co : Int} {r : List Int} (hh : f.h ≤ 2) (hr : r.length = szF f) (hb : Byt r) : bodyB f (prs f co r) = r := by
  have hsz : szF f = f.h * (if 0 < f.s then 9 else 8) + if f.w = true then 4 else 0 := by
    unfold szF
    have h0' : f.h = 0 ∨ f.h = 1 ∨ f.h = 2 := by omega
    rcases h0' with h | h | h <;> rw [h] <;> split <;> split <;> rfl
  have h0' : f.h = 0 ∨ f.h = 1 ∨ f.h = 2 := by omega
  rcases h0' with h | h | h
  · rw [hsz, h] at hr
    simp only [bodyB, prs, h, Nat.lt_irrefl, if_false, if_true, List.nil_append, Nat.not_lt_zero, show ¬ 1 < 0 by decide]
    exact wB_ok (by omega) hb
  · rw [hsz, h] at hr
    simp only [bodyB, prs, h, Nat.lt_irrefl, if_false, if_true, List.append_nil, Nat.one_ne_zero, Nat.zero_lt_one]
    have h1 := fst_ok (f := f) (x := r) (by omega) hb
    have h2 := wB_ok (f := f) (x := more f r) (by rw [more_len]; omega) (more_byt hb)
    rw [h2]
    exact h1
  · rw [hsz, h] at hr
    simp only [bodyB, prs, h, if_false, if_true, show 0 < 2 by decide, show 1 < 2 by decide, show ¬ 2 = 0 by decide, show ¬ 2 = 1 by decide]
    have h1 := fst_ok (f := f) (x := r) (by omega) hb
    have h3 := fst_ok (f := f) (x := more f r) (by rw [more_len]; omega) (more_byt hb)
    have h2 := wB_ok (f := f) (x := more f (more f r)) (by rw [more_len, more_len]; omega) (more_byt (more_byt hb))
    rw [h2, List.append_assoc]
    unfold fstB at h1 h3
    rw [h3]
    exact h1
theorem prs_in {f : Fm} {co : Int} {r : List Int} : In (prs f co r) := by
  have hz : (0 : Int) ≤ 0 ∧ (0 : Int) < 4294967296 := by decide
  have hw : ∀ x, -2147483648 ≤ wAt f x ∧ wAt f x ≤ 2147483647 := by
    intro x
    unfold wAt
    split
    · rw [IntKind.wrap_i32]
      omega
    · decide
  unfold prs
  split
  · exact ⟨⟨hz, hz, hz, hz⟩, hw _⟩
  · split
    · exact ⟨⟨u32n _, u32n _, hz, hz⟩, hw _⟩
    · exact ⟨⟨u32n _, u32n _, u32n _, u32n _⟩, hw _⟩
theorem z_in (co : Int) (r : List Int) : In ⟨co, 0, 0, 0, 0, 0, 0, 0, r⟩ :=
  have hz : (0 : Int) ≤ 0 ∧ (0 : Int) < 4294967296 := by decide
  ⟨⟨hz, hz, hz, hz⟩, (by decide : (-2147483648 : Int) ≤ 0 ∧ (0 : Int) ≤ 2147483647)⟩
theorem cZ_in : In cZ := ⟨⟨by decide, by decide, by decide, by decide⟩, by decide⟩
theorem isC_le {co : Int} (h : isC co = true) : 1 ≤ co ∧ co ≤ 17 := by simpa [isC] using h
theorem dec_cases {co : Int} {r : List Int} (P : Cm × Int → Prop) (h1 : isC co = false → P (cZ, 10)) (h2 : isC co = true → da co = true → P (⟨co, 0, 0, 0, 0, 0, 0, 0, r⟩, 0))
    (h3 : isC co = true → da co = false → r.length ≠ szF (fm co) → P (cZ, 11)) (h4 : isC co = true → da co = false → r.length = szF (fm co) → chk (prs (fm co) co r) = 0 → P (prs (fm co) co r, 0))
    (h5 : isC co = true → da co = false → r.length = szF (fm co) → chk (prs (fm co) co r) ≠ 0 → P (cZ, 3)) : P (dec (co :: r)) := by
  show P (if isC co = false then (cZ, 10) else if da co = true then (⟨co, 0, 0, 0, 0, 0, 0, 0, r⟩, 0)
    else if r.length ≠ szF (fm co) then (cZ, 11) else if chk (prs (fm co) co r) = 0 then (prs (fm co) co r, 0) else (cZ, 3))
  by_cases hc : isC co = false
  · rw [if_pos hc]; exact h1 hc
  · rw [if_neg hc]
    have hc' : isC co = true := by simpa using hc
    by_cases hd : da co = true
    · rw [if_pos hd]; exact h2 hc' hd
    · rw [if_neg hd]
      have hd' : da co = false := by simpa using hd
      by_cases hr : r.length ≠ szF (fm co)
      · rw [if_pos hr]; exact h3 hc' hd' hr
      · rw [if_neg hr]
        have hr' : r.length = szF (fm co) := Classical.not_not.1 hr
        by_cases hk : chk (prs (fm co) co r) = 0
        · rw [if_pos hk]; exact h4 hc' hd' hr' hk
        · rw [if_neg hk]; exact h5 hc' hd' hr' hk
theorem dec_enc {c : Cm} (hi : In c) (h : chk c = 0) : dec (encB1 c ++ c.d) = (c, 0) := by
  obtain ⟨hc, h3, h1⟩ := chk_split h
  have hco := isC_le hc
  have e1 : IntKind.u8.wrap c.co = c.co := u8i ⟨by omega, by omega⟩
  unfold encB1
  rw [e1, List.cons_append]
  have hdd : da c.co = false → c.d = [] := by
    intro hd'
    have hf : (fm c.co).d = false := hd'
    simp only [bad1, decide_eq_false_iff_not] at h1
    rcases e : c.d with _ | ⟨x, y⟩
    · rfl
    · exfalso
      apply h1
      rw [e]
      simp [hf]
      try omega
  refine dec_cases (fun p => p = (c, 0)) (fun h => ?_) (fun _ hd => ?_) (fun _ hd hr => ?_) (fun _ hd hr hk => ?_) (fun _ hd hr hk => ?_)
  · rw [hc] at h; cases h
  · rw [da_fm hd] at h1 ⊢
    simp only [bodyB, wB, Nat.lt_irrefl, if_false, Bool.false_eq_true, List.nil_append, Nat.not_lt_zero]
    obtain ⟨co, a0, t0, a1, t1, s0, s1, wv, dd⟩ := c
    simp [bad1] at h1 ⊢
    omega
  · rw [hdd hd, List.append_nil] at hr
    exact absurd (body_len (fm_h c.co)) hr
  · have e := hdd hd
    rw [e, List.append_nil, prs_body hi h hd]
  · rw [hdd hd, List.append_nil, prs_body hi h hd] at hk
    exact absurd h hk
theorem nil_byt : Byt [] := fun n hn => by cases hn
theorem prs_d {f : Fm} {co : Int} {r : List Int} : (prs f co r).d = [] := by unfold prs; split <;> (try split) <;> rfl
theorem dec_codes {b : List Int} : (dec b).2 = 0 ∨ ((dec b).1 = cZ ∧ ((dec b).2 = 10 ∨ (dec b).2 = 11 ∨ (dec b).2 = 3)) := by
  cases b with
  | nil => exact .inr ⟨rfl, .inl rfl⟩
  | cons co r =>
    exact dec_cases (fun p => p.2 = 0 ∨ (p.1 = cZ ∧ (p.2 = 10 ∨ p.2 = 11 ∨ p.2 = 3))) (fun _ => .inr ⟨rfl, .inl rfl⟩) (fun _ _ => .inl rfl) (fun _ _ _ => .inr ⟨rfl, .inr (.inl rfl)⟩) (fun _ _ _ _ => .inl rfl) (fun _ _ _ _ => .inr ⟨rfl, .inr (.inr rfl)⟩)
theorem dec_in {b : List Int} : In (dec b).1 := by
  cases b with
  | nil => exact cZ_in
  | cons co r =>
    exact dec_cases (fun p => In p.1) (fun _ => cZ_in) (fun _ _ => z_in _ _) (fun _ _ _ => cZ_in) (fun _ _ _ _ => prs_in) (fun _ _ _ _ => cZ_in)
theorem dec_d {b : List Int} : (dec b).1.d.length ≤ b.length ∧ (Byt b → Byt (dec b).1.d) := by
  cases b with
  | nil => exact ⟨Nat.le_refl _, fun _ => nil_byt⟩
  | cons co r =>
    exact dec_cases (fun p => p.1.d.length ≤ (co :: r).length ∧ (Byt (co :: r) → Byt p.1.d)) (fun _ => ⟨Nat.zero_le _, fun _ => nil_byt⟩) (fun _ _ => ⟨Nat.le_succ _, fun h n hn => h n (List.mem_cons_of_mem _ hn)⟩) (fun _ _ _ => ⟨Nat.zero_le _, fun _ => nil_byt⟩)
      (fun _ _ _ _ => by rw [prs_d]; exact ⟨Nat.zero_le _, fun _ => nil_byt⟩) (fun _ _ _ _ => ⟨Nat.zero_le _, fun _ => nil_byt⟩)
theorem enc_dec {b : List Int} (hb : Byt b) (hl : b.length ≤ 5000) (h : (dec b).2 = 0) : chk (dec b).1 = 0 ∧ encB1 (dec b).1 ++ (dec b).1.d = b := by
  cases b with
  | nil => cases h
  | cons co r =>
    have hco := hb co (List.mem_cons_self ..)
    have hbr : Byt r := fun n hn => hb n (List.mem_cons_of_mem _ hn)
    rw [List.length_cons] at hl
    revert h
    refine dec_cases (fun p => p.2 = 0 → chk p.1 = 0 ∧ encB1 p.1 ++ p.1.d = co :: r) (fun _ h => by cases h) (fun hc' hd _ => ?_) (fun _ _ _ h => by cases h) (fun _ hd hr hk _ => ?_) (fun _ _ _ _ h => by cases h)
    · have hf := da_fm hd
      have e1 : IntKind.u8.wrap co = co := u8i hco
      have hl2 : ¬ (67108863 : Int) < r.length := by omega
      constructor
      · simp [chk, hc', hf, bad3, rest, bad1, hl2]
      · simp [encB1, hf, bodyB, wB, e1]
    · refine ⟨hk, ?_⟩
      show encB1 (prs (fm co) co r) ++ (prs (fm co) co r).d = co :: r
      rw [prs_d, List.append_nil]
      unfold encB1
      rw [prs_co, u8i hco, body_prs (fm_h co) hr hbr]
/-- One byte more, or less. -/
theorem dec_more {c : Cm} (hi : In c) (h : chk c = 0) {x : Int} : if da c.co = true then (dec (encB1 c ++ c.d ++ [x])).2 = 0 else (dec (encB1 c ++ c.d ++ [x])) = (cZ, 11) := by
  obtain ⟨hc, h3, h1⟩ := chk_split h
  have hco := isC_le hc
  have e1 : IntKind.u8.wrap c.co = c.co := u8i ⟨by omega, by omega⟩
  unfold encB1
  rw [e1, List.cons_append, List.cons_append]
  by_cases hd0 : da c.co = true
  · rw [if_pos hd0]
    refine dec_cases (fun p => p.2 = 0) (fun h => ?_) (fun _ hd => rfl) (fun _ hd hr => ?_) (fun _ hd hr hk => rfl) (fun _ hd hr hk => ?_)
    · rw [hc] at h; cases h
    · rw [hd0] at hd; cases hd
    · rw [hd0] at hd; cases hd
  · rw [if_neg hd0]
    refine dec_cases (fun p => p = (cZ, 11)) (fun h => ?_) (fun _ hd => absurd hd hd0) (fun _ hd hr => rfl) (fun _ hd hr hk => ?_) (fun _ hd hr hk => ?_)
    · rw [hc] at h; cases h
    · exfalso
      have := body_len (f := fm c.co) (c := c) (fm_h c.co)
      rw [List.length_append, List.length_append, this, List.length_singleton] at hr
      omega
    · exfalso
      have := body_len (f := fm c.co) (c := c) (fm_h c.co)
      rw [List.length_append, List.length_append, this, List.length_singleton] at hr
      omega
theorem enc_len {c : Cm} : 0 < (encB1 c ++ c.d).length := by simp [encB1]
theorem dec_less {c : Cm} (hi : In c) (h : chk c = 0) (n : Nat) (hn : n + 1 = (encB1 c ++ c.d).length) : if da c.co = true then n = 0 ∨ (dec ((encB1 c ++ c.d).take n)).2 = 0 else (n = 0 ∧ dec ((encB1 c ++ c.d).take n) = (cZ, 10)) ∨ (n ≠ 0 ∧ dec ((encB1 c ++ c.d).take n) = (cZ, 11)) := by
  obtain ⟨hc, h3, h1⟩ := chk_split h
  have hco := isC_le hc
  have e1 : IntKind.u8.wrap c.co = c.co := u8i ⟨by omega, by omega⟩
  unfold encB1 at hn ⊢
  rw [e1, List.cons_append] at hn ⊢
  cases n with
  | zero =>
    split
    · exact .inl rfl
    · exact .inl ⟨rfl, rfl⟩
  | succ m =>
    rw [List.take_succ_cons]
    rw [List.length_cons] at hn
    by_cases hd0 : da c.co = true
    · rw [if_pos hd0]
      refine .inr (dec_cases (fun p => p.2 = 0) (fun h => ?_) (fun _ hd => rfl) (fun _ hd hr => ?_) (fun _ hd hr hk => rfl) (fun _ hd hr hk => ?_))
      · rw [hc] at h; cases h
      · rw [hd0] at hd; cases hd
      · rw [hd0] at hd; cases hd
    · rw [if_neg hd0]
      have hdd : c.d = [] := by
        have hf : (fm c.co).d = false := by
          have : da c.co = false := by simpa using hd0
          exact this
        simp only [bad1, decide_eq_false_iff_not] at h1
        rcases e : c.d with _ | ⟨x, y⟩
        · rfl
        · exfalso
          apply h1
          rw [e]
          simp [hf]
          try omega
      rw [hdd, List.append_nil] at hn ⊢
      have hbl := body_len (f := fm c.co) (c := c) (fm_h c.co)
      refine .inr ⟨by omega, ?_⟩
      refine dec_cases (fun p => p = (cZ, 11)) (fun h => ?_) (fun _ hd => absurd hd hd0) (fun _ hd hr => rfl) (fun _ hd hr hk => ?_) (fun _ hd hr hk => ?_)
      · rw [hc] at h; cases h
      · exfalso
        rw [List.length_take, hbl] at hr
        omega
      · exfalso
        rw [List.length_take, hbl] at hr
        omega
/-- Another code. -/
theorem dec_code {x : Int} {r : List Int} : ((dec (x :: r)).2 = 0 ∧ (dec (x :: r)).1.co = x) ∨ ((dec (x :: r)).2 ≠ 0 ∧ (dec (x :: r)).1.co = 0 ∧ ((dec (x :: r)).2 = 10 ↔ ¬ (1 ≤ x ∧ x ≤ 17))) := by
  refine dec_cases (fun p => (p.2 = 0 ∧ p.1.co = x) ∨ (p.2 ≠ 0 ∧ p.1.co = 0 ∧ (p.2 = 10 ↔ ¬ (1 ≤ x ∧ x ≤ 17)))) (fun h => ?_) (fun _ hd => .inl ⟨rfl, rfl⟩) (fun hc hd hr => ?_) (fun _ hd hr hk => .inl ⟨rfl, prs_co⟩) (fun hc hd hr hk => ?_)
  · refine .inr ⟨by decide, rfl, ?_⟩
    simp [isC] at h
    simp
    exact h
  · refine .inr ⟨by decide, rfl, ?_⟩
    have := isC_le hc
    simp
    omega
  · refine .inr ⟨by decide, rfl, ?_⟩
    have := isC_le hc
    simp
    omega
end Go.Proofs.YtopjkgappjgjnaaDoor
