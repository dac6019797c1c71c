import Derived.Test.YtkjmlfbafmdegaaSpanM4
/- The marked edges by themselves. -/
namespace Go.SpanM
open Go.UniteM
theorem wide_fold {l : List E} : ∀ (o L : List Nat), Wide l L → Wide l (o.foldl (jl l) L)
  | [], _, h => h
  | _ :: o, _, h => wide_fold o _ (wide_jl h)
theorem fold_perm {l : List E} {o o' : List Nat} (h : o.Perm o') : ∀ L, Wide l L → (∀ i ∈ o, i < l.length) → o.foldl (jl l) L = o'.foldl (jl l) L := by
  induction h with
  | nil => intro _ _ _; rfl
  | cons a _ ih => intro L hW hl; exact ih _ (wide_jl hW) fun i hi => hl i (by simp [hi])
  | swap a b o =>
    intro L hW hl
    show List.foldl (jl l) (jl l (jl l L b) a) o = List.foldl (jl l) (jl l (jl l L a) b) o
    rw [jl_comm hW (hl b (by simp)) (hl a (by simp))]
  | trans h1 _ ih1 ih2 => intro L hW hl; exact (ih1 L hW hl).trans (ih2 L hW fun i hi => hl i (h1.mem_iff.2 hi))
theorem fold_taken {l : List E} : ∀ (o L : List Nat), (taken l L o).foldl (jl l) L = o.foldl (jl l) L
  | [], _ => rfl
  | i :: o, L => by
    rw [taken]
    by_cases h : cand l L i = true
    · rw [if_pos h]
      exact fold_taken o (jl l L i)
    · rw [if_neg h]
      have e : jl l L i = L := jl_no (by simpa using h)
      show _ = o.foldl (jl l) (jl l L i)
      rw [e]
      exact fold_taken o L
theorem taken_idem {l : List E} : ∀ (o L : List Nat), taken l L (taken l L o) = taken l L o
  | [], _ => rfl
  | i :: o, L => by
    rw [taken]
    by_cases h : cand l L i = true
    · rw [if_pos h, taken, if_pos h, taken_idem o]
    · rw [if_neg h]
      have e : jl l L i = L := jl_no (by simpa using h)
      rw [e]
      exact taken_idem o L
theorem taken_sub (l : List E) : ∀ (o L : List Nat), (taken l L o).Sublist o
  | [], _ => List.Sublist.refl _
  | i :: o, L => by
    rw [taken]
    split
    · exact (taken_sub l o _).cons_cons i
    · exact (taken_sub l o _).cons i
theorem taken_cand {l : List E} : ∀ (o L : List Nat) (i : Nat), Wide l L → i < l.length → cand l L i = false → i ∉ taken l L o
  | [], _, _, _, _, _ => by simp [taken]
  | j :: o, L, i, hW, hi, hc => by
    rw [taken]
    have ih := taken_cand o (jl l L j) i (wide_jl hW) hi (cand_keep hW hi hc)
    split
    · rename_i h
      intro hm
      rcases List.mem_cons.1 hm with rfl | hm
      · rw [hc] at h; cases h
      · exact ih hm
    · exact ih
theorem taken_nodup {l : List E} : ∀ (o L : List Nat), Wide l L → (∀ i ∈ o, i < l.length) → (taken l L o).Nodup
  | [], _, _, _ => by simp [taken]
  | i :: o, L, hW, hl => by
    rw [taken]
    have ih := taken_nodup o (jl l L i) (wide_jl hW) fun j hj => hl j (by simp [hj])
    have hi := hl i (by simp)
    split
    · exact List.nodup_cons.2 ⟨taken_cand o _ i (wide_jl hW) hi (cand_own hW hi), ih⟩
    · exact ih
/-- What is marked, in the order of places. -/
def mkd (n : Nat) (l : List E) (j : Nat) : Bool := (tree n l).mks.getD j false
def pre (n : Nat) (l : List E) (i : Nat) : List Nat := (List.range i).filter (mkd n l)
theorem mkd_iff {n : Nat} {l : List E} {j : Nat} (hj : j < l.length) : mkd n l j = true ↔ j ∈ taken l (List.range n) (order l) := mk0 hj
theorem pre_succ (n : Nat) (l : List E) (i : Nat) : pre n l (i + 1) = if mkd n l i = true then pre n l i ++ [i] else pre n l i := by
  unfold pre
  rw [List.range_succ, List.filter_append]
  by_cases h : mkd n l i = true
  · simp [h]
  · have h : mkd n l i = false := by simpa using h
    simp [h]
theorem nodup_filter_range (p : Nat → Bool) (m : Nat) : ((List.range m).filter p).Nodup := List.nodup_range.filter p
theorem perm_of {a b : List Nat} (ha : a.Nodup) (hb : b.Nodup) (h : ∀ j, j ∈ a ↔ j ∈ b) : a.Perm b := (List.perm_ext_iff_of_nodup ha hb).2 h
theorem pre_perm {n : Nat} {l : List E} (h : chk n l = 0) : (pre n l l.length).Perm (taken l (List.range n) (order l)) := by
  refine perm_of (nodup_filter_range _ _) (taken_nodup _ _ (wide0 h) (order_lt l)) fun j => ?_
  rw [pre, List.mem_filter, List.mem_range]
  constructor
  · exact fun ⟨h1, h2⟩ => (mkd_iff h1).1 h2
  · exact fun h1 => by
      have := order_lt l j ((taken_sub l _ _).mem h1)
      exact ⟨this, (mkd_iff this).2 h1⟩
theorem pre_lt {n : Nat} {l : List E} {i : Nat} : ∀ j ∈ pre n l i, j < i := fun j hj => List.mem_range.1 (List.mem_filter.1 hj).1
/-- All the marked are taken, in the order of places too. -/
theorem pre_taken {n : Nat} {l : List E} (h : chk n l = 0) : taken l (List.range n) (pre n l l.length) = pre n l l.length := by
  refine (taken_sub l _ _).eq_of_length ?_
  have hp := pre_perm h
  rw [taken_same (L := List.range n) (wide0 h) (fun j => hp.mem_iff) (fun j hj => pre_lt j hj), taken_idem]
  exact hp.length_eq.symm
theorem taken_app (l : List E) : ∀ (o o2 L : List Nat), taken l L (o ++ o2) = taken l L o ++ taken l (o.foldl (jl l) L) o2
  | [], _, _ => rfl
  | i :: o, o2, L => by
    show taken l L (i :: (o ++ o2)) = _
    rw [taken, taken, taken_app l o o2]
    split <;> rfl
theorem taken_le (l : List E) (o L : List Nat) : (taken l L o).length ≤ o.length := (taken_sub l o L).length_le
theorem taken_all {l : List E} {p q L : List Nat} {i : Nat} (h : taken l L (p ++ i :: q) = p ++ i :: q) : cand l (p.foldl (jl l) L) i = true := by
  have h1 := congrArg List.length h
  rw [taken_app, List.length_append, List.length_append, taken] at h1
  have h2 := taken_le l p L
  have h3 := taken_le l q (jl l (p.foldl (jl l) L) i)
  by_cases hc : cand l (p.foldl (jl l) L) i = true
  · exact hc
  · rw [if_neg hc] at h1
    simp only [List.length_cons] at h1
    omega
theorem pre_split {n : Nat} {l : List E} {i : Nat} (hi : i < l.length) (hm : mkd n l i = true) : ∃ q, pre n l l.length = pre n l i ++ i :: q := by
  have : ∀ k, ∃ q, pre n l (i + 1 + k) = pre n l i ++ i :: q := by
    intro k
    induction k with
    | zero => exact ⟨[], by rw [Nat.add_zero, pre_succ, if_pos hm]⟩
    | succ k ih =>
      obtain ⟨q, hq⟩ := ih
      rw [← Nat.add_assoc, pre_succ]
      split
      · exact ⟨q ++ [i + 1 + k], by rw [hq]; simp⟩
      · exact ⟨q, hq⟩
  obtain ⟨q, hq⟩ := this (l.length - (i + 1))
  rw [show i + 1 + (l.length - (i + 1)) = l.length by omega] at hq
  exact ⟨q, hq⟩
theorem pre_cand {n : Nat} {l : List E} (h : chk n l = 0) {i : Nat} (hi : i < l.length) (hm : mkd n l i = true) : cand l ((pre n l i).foldl (jl l) (List.range n)) i = true := by
  obtain ⟨q, hq⟩ := pre_split hi hm
  have := pre_taken h
  rw [hq] at this
  exact taken_all this
theorem pre_all {n : Nat} {l : List E} (h : chk n l = 0) : (pre n l l.length).foldl (jl l) (List.range n) = (List.range l.length).foldl (jl l) (List.range n) := by
  rw [fold_perm (pre_perm h) (List.range n) (wide0 h) fun i hi => pre_lt i hi, fold_taken]
  exact fold_perm (order_perm l) _ (wide0 h) (order_lt l)
theorem perm_sum {a b : List Int} (h : a.Perm b) : a.sum = b.sum := by
  induction h with
  | nil => rfl
  | cons x _ ih => simp only [List.sum_cons, ih]
  | swap x y _ => simp only [List.sum_cons]; omega
  | trans _ _ h1 h2 => exact h1.trans h2
theorem pre_sum {n : Nat} {l : List E} (h : chk n l = 0) : ((pre n l l.length).map (ew l)).sum = (tree n l).sum := by
  rw [tree, run_sum]
  show _ = (0 : Int) + ((taken l (List.range n) (order l)).map (ew l)).sum
  rw [perm_sum ((pre_perm h).map (ew l))]
  omega
end Go.SpanM
