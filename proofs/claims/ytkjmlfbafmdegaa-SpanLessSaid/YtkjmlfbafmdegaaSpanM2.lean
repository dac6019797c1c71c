import Derived.Test.YtkjmlfbafmdegaaSpanM
/- Greedy by sorting is what takes each time the least edge that joins two parts. -/
namespace Go.SpanM
open Go.UniteM
def bt (gr : Bool) (l : List E) (i j : Nat) : Bool := lessB l i j != gr
def cand (l : List E) (L : List Nat) (i : Nat) : Bool := g L (ea l i) != g L (eb l i)
def look (gr : Bool) (l : List E) (L : List Nat) (a : Option Nat) (i : Nat) : Option Nat :=
  if cand l L i = true then match a with | none => some i | some j => if bt gr l i j = true then some i else a else a
def pick (gr : Bool) (l : List E) (L : List Nat) (k : Nat) : Option Nat := (List.range k).foldl (look gr l L) none
theorem pick_succ (gr : Bool) (l : List E) (L : List Nat) (k : Nat) : pick gr l L (k + 1) = look gr l L (pick gr l L k) k := by simp [pick, List.range_succ]
theorem less_iff {l : List E} {i j : Nat} : lessB l i j = true ↔ ew l i < ew l j ∨ ew l i = ew l j ∧ i < j := by simp [lessB]
theorem less_iff' {l : List E} {i j : Nat} : lessB l i j = false ↔ ¬ (ew l i < ew l j ∨ ew l i = ew l j ∧ i < j) := by rw [← less_iff]; simp
theorem bt_f {l : List E} {i j : Nat} : bt false l i j = true ↔ ew l i < ew l j ∨ ew l i = ew l j ∧ i < j := by rw [← less_iff]; simp [bt]
theorem bt_t {l : List E} {i j : Nat} : bt true l i j = true ↔ ¬ (ew l i < ew l j ∨ ew l i = ew l j ∧ i < j) := by rw [← less_iff]; simp [bt]
theorem bt_trans {gr : Bool} {l : List E} {i j k : Nat} (h1 : bt gr l i j = true) (h2 : bt gr l j k = true) : bt gr l i k = true := by
  cases gr
  · rw [bt_f] at *; omega
  · rw [bt_t] at *; omega
theorem bt_tot {gr : Bool} {l : List E} {i j : Nat} (h : i ≠ j) (h1 : ¬ bt gr l i j = true) : bt gr l j i = true := by
  cases gr
  · rw [bt_f] at *; omega
  · rw [bt_t] at *; omega
theorem bt_anti {gr : Bool} {l : List E} {i j : Nat} (h : i ≠ j) (h1 : bt gr l i j = true) : ¬ bt gr l j i = true := by
  cases gr
  · rw [bt_f] at *; omega
  · rw [bt_t] at *; omega
def Best (gr : Bool) (l : List E) (L : List Nat) (k : Nat) : Option Nat → Prop
  | none => ∀ j, j < k → cand l L j = false
  | some i => i < k ∧ cand l L i = true ∧ ∀ j, j < k → cand l L j = true → j ≠ i → bt gr l i j = true
theorem pick_best (gr : Bool) (l : List E) (L : List Nat) : ∀ k, Best gr l L k (pick gr l L k)
  | 0 => fun j h => by omega
  | k + 1 => by
    have ih := pick_best gr l L k
    rw [pick_succ]
    unfold look
    by_cases hc : cand l L k = true
    · rw [if_pos hc]
      cases e : pick gr l L k with
      | none =>
        rw [e] at ih
        refine ⟨by omega, hc, fun j hj hcj hne => ?_⟩
        have := ih j (by omega)
        rw [hcj] at this
        cases this
      | some i =>
        rw [e] at ih
        obtain ⟨h1, h2, h3⟩ := ih
        simp only
        by_cases hb : bt gr l k i = true
        · rw [if_pos hb]
          refine ⟨by omega, hc, fun j hj hcj hne => ?_⟩
          by_cases e2 : j = i
          · rw [e2]; exact hb
          · exact bt_trans hb (h3 j (by omega) hcj e2)
        · rw [if_neg hb]
          refine ⟨by omega, h2, fun j hj hcj hne => ?_⟩
          by_cases e2 : j = k
          · rw [e2]; exact bt_tot (by omega) hb
          · exact h3 j (by omega) hcj hne
    · rw [if_neg hc]
      have hc : cand l L k = false := by simpa using hc
      cases e : pick gr l L k with
      | none =>
        rw [e] at ih
        intro j hj
        by_cases e2 : j = k
        · rw [e2]; exact hc
        · exact ih j (by omega)
      | some i =>
        rw [e] at ih
        obtain ⟨h1, h2, h3⟩ := ih
        refine ⟨by omega, h2, fun j hj hcj hne => ?_⟩
        have : j ≠ k := fun h => by rw [h, hc] at hcj; cases hcj
        exact h3 j (by omega) hcj hne
theorem pick_none {gr : Bool} {l : List E} {L : List Nat} {k : Nat} (h : ∀ j, j < k → cand l L j = false) : pick gr l L k = none := by
  have hb := pick_best gr l L k
  cases e : pick gr l L k with
  | none => rfl
  | some i =>
    rw [e] at hb
    have := h i hb.1
    rw [hb.2.1] at this
    cases this
theorem pick_some {gr : Bool} {l : List E} {L : List Nat} {k i : Nat} (h1 : i < k) (h2 : cand l L i = true) (h3 : ∀ j, j < k → cand l L j = true → j ≠ i → bt gr l i j = true) : pick gr l L k = some i := by
  have hb := pick_best gr l L k
  cases e : pick gr l L k with
  | none =>
    rw [e] at hb
    have := hb i h1
    rw [h2] at this
    cases this
  | some i' =>
    rw [e] at hb
    by_cases hne : i' = i
    · rw [hne]
    · exact absurd (h3 i' hb.1 hb.2.1 hne) (bt_anti hne (hb.2.2 i h1 h2 fun h => hne h.symm))
theorem pick_skip {gr : Bool} {l : List E} {L : List Nat} {k : Nat} (h : cand l L k = false) : pick gr l L (k + 1) = pick gr l L k := by
  rw [pick_succ]
  simp [look, h]
theorem pick_new {gr : Bool} {l : List E} {L : List Nat} {k : Nat} (h : cand l L k = true) (hp : pick gr l L k = none) : pick gr l L (k + 1) = some k := by
  rw [pick_succ]
  simp [look, h, hp]
theorem pick_bet {gr : Bool} {l : List E} {L : List Nat} {k j : Nat} (h : cand l L k = true) (hp : pick gr l L k = some j) (hb : bt gr l k j = true) : pick gr l L (k + 1) = some k := by
  rw [pick_succ]
  simp [look, h, hp, hb]
theorem pick_stay {gr : Bool} {l : List E} {L : List Nat} {k j : Nat} (h : cand l L k = true) (hp : pick gr l L k = some j) (hb : ¬ bt gr l k j = true) : pick gr l L (k + 1) = some j := by
  rw [pick_succ]
  simp [look, h, hp, hb]
inductive Steps (gr : Bool) (l : List E) : Nat → St → St → Prop
  | done {s : St} : pick gr l s.L l.length = none → Steps gr l 0 s s
  | more {k i : Nat} {s t : St} : pick gr l s.L l.length = some i → Steps gr l k (takeE l s i) t → Steps gr l (k + 1) s t
def Wide (l : List E) (L : List Nat) : Prop := ∀ i, i < l.length → ea l i < L.length ∧ eb l i < L.length
theorem joinL_len (L : List Nat) (p q : Nat) : (joinL L p q).length = L.length := by simp [joinL]
theorem cand_f {l : List E} {L : List Nat} {i : Nat} : cand l L i = false ↔ g L (ea l i) = g L (eb l i) := by simp [cand]
theorem cand_t {l : List E} {L : List Nat} {i : Nat} : cand l L i = true ↔ ¬ g L (ea l i) = g L (eb l i) := by simp [cand]
theorem join_keep {L : List Nat} {a b p q : Nat} (ha : a < L.length) (hb : b < L.length) (h : g L a = g L b) : g (joinL L p q) a = g (joinL L p q) b := by
  rw [joinL_at ha, joinL_at hb, h]
theorem join_one {L : List Nat} {a b : Nat} (ha : a < L.length) (hb : b < L.length) : g (joinL L (g L a) (g L b)) a = g (joinL L (g L a) (g L b)) b := by
  rw [joinL_at ha, joinL_at hb]
  split <;> split <;> omega
theorem greedy {gr : Bool} {l : List E} : ∀ (o : List Nat) (s : St), Wide l s.L → (∀ j, j < l.length → j ∉ o → cand l s.L j = false) → o.Pairwise (fun i j => bt gr l i j = true) → (∀ i ∈ o, i < l.length) →
    ∃ k, k ≤ o.length ∧ Steps gr l k s (run l s o)
  | [], s, _, h, _, _ => ⟨0, Nat.le_refl _, .done (pick_none fun j hj => h j hj (by simp))⟩
  | i :: o, s, hW, h, hp, ho => by
    have hi := ho i (by simp)
    obtain ⟨hp1, hp2⟩ := List.pairwise_cons.1 hp
    have hrun : run l s (i :: o) = run l (takeE l s i) o := rfl
    rw [hrun]
    by_cases hc : g s.L (ea l i) = g s.L (eb l i)
    · have e : takeE l s i = s := if_pos hc
      rw [e]
      obtain ⟨k, h1, h2⟩ := greedy o s hW (fun j hj hjo => by
        by_cases e : j = i
        · rw [e]; exact cand_f.2 hc
        · exact h j hj (by simp [e, hjo])) hp2 (fun j hj => ho j (by simp [hj]))
      exact ⟨k, by simp; omega, h2⟩
    · have e := takeE_ne hc
      have hw := hW i hi
      have hL : (takeE l s i).L = joinL s.L (g s.L (ea l i)) (g s.L (eb l i)) := by rw [e]
      obtain ⟨k, h1, h2⟩ := greedy o (takeE l s i) (by rw [hL]; intro j hj; rw [joinL_len]; exact hW j hj) (fun j hj hjo => by
        rw [hL, cand_f]
        by_cases e : j = i
        · rw [e]; exact join_one hw.1 hw.2
        · exact join_keep (hW j hj).1 (hW j hj).2 (cand_f.1 (h j hj (by simp [e, hjo])))) hp2 (fun j hj => ho j (by simp [hj]))
      refine ⟨k + 1, by simp; omega, .more (pick_some hi (cand_t.2 hc) fun j hj hcj hne => ?_) h2⟩
      refine hp1 j ?_
      by_cases hjo : j ∈ o
      · exact hjo
      · have := h j hj (by simp [hne, hjo])
        rw [hcj] at this
        cases this
theorem order_pair (l : List E) : (order l).Pairwise (fun i j => bt false l i j = true) := by
  have h1 : (order l).Pairwise (fun i j => (!lessB l j i) = true) := List.pairwise_mergeSort (fun a b c h1 h2 => by
      simp only [Bool.not_eq_true', less_iff'] at *
      omega) (fun a b => by
      simp only [Bool.or_eq_true, Bool.not_eq_true', less_iff']
      omega) _
  have h2 : (order l).Nodup := (order_perm l).nodup_iff.2 List.nodup_range
  refine (h1.and h2).imp ?_
  intro a b ⟨h3, h4⟩
  simp only [Bool.not_eq_true', less_iff'] at h3
  rw [bt_f]
  omega
theorem order_pair_r (l : List E) : (order l).reverse.Pairwise (fun i j => bt true l i j = true) := by
  rw [List.pairwise_reverse]
  refine (order_pair l).imp ?_
  intro a b h
  rw [bt_f] at h
  rw [bt_t]
  omega
theorem wide0 {n : Nat} {l : List E} (h : chk n l = 0) : Wide l (s0 n l).L := fun i hi => by
  show _ < (List.range n).length ∧ _ < (List.range n).length
  rw [List.length_range]
  exact ⟨ea_lt h hi, eb_lt h hi⟩
theorem order_all {l : List E} {j : Nat} (h : j < l.length) : j ∈ order l := (order_perm l).mem_iff.2 (List.mem_range.2 h)
theorem tree_steps {n : Nat} {l : List E} (h : chk n l = 0) : ∃ k, k ≤ l.length ∧ Steps false l k (s0 n l) (tree n l) := by
  obtain ⟨k, h1, h2⟩ := greedy (gr := false) (l := l) (order l) (s0 n l) (wide0 h) (fun j hj hjo => absurd (order_all hj) hjo) (order_pair l) (order_lt l)
  exact ⟨k, by rw [order_len] at h1; exact h1, h2⟩
theorem most_steps {n : Nat} {l : List E} (h : chk n l = 0) : ∃ k, k ≤ l.length ∧ Steps true l k (s0 n l) (most n l) := by
  obtain ⟨k, h1, h2⟩ := greedy (gr := true) (l := l) (order l).reverse (s0 n l) (wide0 h) (fun j hj hjo => absurd (List.mem_reverse.2 (order_all hj)) hjo) (order_pair_r l) (fun i hi => order_lt l i (List.mem_reverse.1 hi))
  exact ⟨k, by rw [List.length_reverse, order_len] at h1; exact h1, h2⟩
end Go.SpanM
