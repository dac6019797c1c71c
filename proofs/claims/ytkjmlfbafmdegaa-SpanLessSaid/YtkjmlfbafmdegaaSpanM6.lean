import Derived.Test.YtkjmlfbafmdegaaSpanM5
/- An edge that is not marked: the marked ones that are less join its ends. -/
namespace Go.SpanM
open Go.UniteM
def low (n : Nat) (l : List E) (i : Nat) (j : Nat) : Bool := mkd n l j && lessB l j i
theorem order_split {l : List E} {i : Nat} (hi : i < l.length) : ∃ p q, order l = p ++ i :: q ∧ (∀ j, j < l.length → (j ∈ p ↔ lessB l j i = true)) ∧ i ∉ p := by
  obtain ⟨p, q, hpq⟩ := List.append_of_mem (order_all hi)
  have hn := order_nodup l
  have hs := order_pair l
  rw [hpq] at hn hs
  obtain ⟨s1, s2, s3⟩ := List.pairwise_append.1 hs
  obtain ⟨n1, n2, n3⟩ := List.pairwise_append.1 hn
  refine ⟨p, q, hpq, fun j hj => ?_, fun h => n3 i h i (by simp) rfl⟩
  constructor
  · intro h
    have := s3 j h i (by simp)
    rw [bt_f] at this
    rw [less_iff]
    exact this
  · intro h
    have hm : j ∈ p ++ i :: q := hpq ▸ order_all hj
    rcases List.mem_append.1 hm with h1 | h1
    · exact h1
    · rw [less_iff] at h
      rcases List.mem_cons.1 h1 with rfl | h1
      · omega
      · have := (List.pairwise_cons.1 s2).1 j h1
        rw [bt_f] at this
        omega
theorem mem_taken {l : List E} {p q L : List Nat} {i : Nat} (h : (p ++ i :: q).Nodup) : i ∈ taken l L (p ++ i :: q) ↔ cand l (p.foldl (jl l) L) i = true := by
  obtain ⟨n1, n2, n3⟩ := List.pairwise_append.1 h
  have hp : i ∉ p := fun h => n3 i h i (by simp) rfl
  have hq : i ∉ q := (List.nodup_cons.1 n2).1
  rw [taken_app, List.mem_append, taken]
  have h1 : i ∉ taken l L p := fun h => hp ((taken_sub l _ _).mem h)
  by_cases hc : cand l (p.foldl (jl l) L) i = true
  · rw [if_pos hc]
    simp [hc]
  · rw [if_neg hc]
    have h2 : i ∉ taken l (jl l (p.foldl (jl l) L) i) q := fun h => hq ((taken_sub l _ _).mem h)
    simp [h1, h2, hc]
theorem low_fold {n : Nat} {l : List E} (h : chk n l = 0) {i : Nat} (hi : i < l.length) (hm : mkd n l i = false) : cand l (((List.range l.length).filter (low n l i)).foldl (jl l) (List.range n)) i = false := by
  obtain ⟨p, q, hpq, hp, hip⟩ := order_split hi
  have hnd : (p ++ i :: q).Nodup := hpq ▸ order_nodup l
  have hlt : ∀ j ∈ p, j < l.length := fun j hj => order_lt l j (by rw [hpq]; simp [hj])
  have hc : cand l (p.foldl (jl l) (List.range n)) i = false := by
    rw [Bool.eq_false_iff]
    intro hc
    have := (mem_taken hnd).2 hc
    rw [← hpq] at this
    rw [(mkd_iff hi).2 this] at hm
    cases hm
  rw [← fold_taken] at hc
  rw [← hc]
  congr 1
  refine fold_perm (perm_of (nodup_filter_range _ _) (taken_nodup _ _ (wide0 h) hlt) fun j => ?_) (List.range n) (wide0 h) fun j hj => List.mem_range.1 (List.mem_filter.1 hj).1
  rw [List.mem_filter, List.mem_range, low, Bool.and_eq_true]
  have key : ∀ j, j ∈ p → (j ∈ taken l (List.range n) (order l) ↔ j ∈ taken l (List.range n) p) := by
    intro j hj
    rw [hpq, taken_app, List.mem_append]
    constructor
    · intro h2
      rcases h2 with h2 | h2
      · exact h2
      · have h3 := (taken_sub l _ _).mem h2
        exact absurd rfl ((List.pairwise_append.1 hnd).2.2 j hj j h3)
    · exact .inl
  constructor
  · rintro ⟨h1, h2, h3⟩
    have hj := (hp j h1).2 h3
    exact (key j hj).1 ((mkd_iff h1).1 h2)
  · intro h1
    have hj := (taken_sub l _ _).mem h1
    have hl := hlt j hj
    exact ⟨hl, (mkd_iff hl).2 ((key j hj).2 h1), (hp j hl).1 hj⟩
end Go.SpanM
