import Derived.Test.YtkjmlfbafmdegaaSpanM7
/- An edge made the least. -/
namespace Go.SpanM
open Go.UniteM
def lw (l : List E) (k : Nat) : List E := l.set k { l.getD k default with w := -2147483648 }
theorem lw_len (l : List E) (k : Nat) : (lw l k).length = l.length := by simp [lw]
theorem lw_get {l : List E} {k i : Nat} (hk : k < l.length) : (lw l k).getD i default = if i = k then { l.getD k default with w := -2147483648 } else l.getD i default := by
  unfold lw
  by_cases e : i = k
  · subst e
    rw [if_pos rfl, List.getD_eq_getElem?_getD, List.getElem?_set_self hk]
    rfl
  · rw [if_neg e, List.getD_eq_getElem?_getD, List.getElem?_set_ne (Ne.symm e), ← List.getD_eq_getElem?_getD]
theorem lw_ea {l : List E} {k i : Nat} (hk : k < l.length) : ea (lw l k) i = ea l i := by
  unfold ea
  rw [lw_get hk]
  split
  · rename_i e; subst e; rfl
  · rfl
theorem lw_eb {l : List E} {k i : Nat} (hk : k < l.length) : eb (lw l k) i = eb l i := by
  unfold eb
  rw [lw_get hk]
  split
  · rename_i e; subst e; rfl
  · rfl
theorem lw_ew {l : List E} {k i : Nat} (hk : k < l.length) : ew (lw l k) i = if i = k then -2147483648 else ew l i := by
  unfold ew
  rw [lw_get hk]
  split <;> rfl
theorem lw_in {l : List E} {k : Nat} (hw : In32 l) : In32 (lw l k) := fun e he => by
  rcases List.mem_or_eq_of_mem_set he with h | h
  · exact hw e h
  · rw [h]; exact ⟨Int.le_refl _, by show (-2147483648 : Int) ≤ 2147483647; decide⟩
theorem ew_in {l : List E} (hw : In32 l) {i : Nat} (hi : i < l.length) : -2147483648 ≤ ew l i := (hw _ (getD_mem hi)).1
theorem lw_jl {l : List E} {k : Nat} (hk : k < l.length) : jl (lw l k) = jl l := by
  funext L i
  unfold jl
  rw [lw_ea hk, lw_eb hk]
theorem lw_cand {l : List E} {k : Nat} (hk : k < l.length) (L : List Nat) (i : Nat) : cand (lw l k) L i = cand l L i := by
  unfold cand
  rw [lw_ea hk, lw_eb hk]
theorem cand_fold {l : List E} {j : Nat} (hj : j < l.length) : ∀ (o L : List Nat), Wide l L → cand l L j = false → cand l (o.foldl (jl l) L) j = false
  | [], _, _, h => h
  | i :: o, L, hW, h => cand_fold hj o _ (wide_jl hW) (cand_keep hW hj h)
theorem lw_mark {n : Nat} {l : List E} {k : Nat} (h : chk n l = 0) (hw : In32 l) (hk : k < l.length) (hm : mkd n l k = true) : mkd n (lw l k) k = true := by
  have hk2 : k < (lw l k).length := by rw [lw_len]; exact hk
  obtain ⟨p, q, hpq, hp, hkp⟩ := order_split hk
  obtain ⟨p2, q2, hpq2, hp2, hkp2⟩ := order_split hk2
  have hnd : (p ++ k :: q).Nodup := hpq ▸ order_nodup l
  have hnd2 : (p2 ++ k :: q2).Nodup := hpq2 ▸ order_nodup _
  rw [mkd_iff hk2, hpq2, mem_taken hnd2, lw_jl hk, lw_cand hk]
  have hc := (mkd_iff hk).1 hm
  rw [hpq, mem_taken hnd] at hc
  have hlt : ∀ j ∈ p, j < l.length := fun j hj => order_lt l j (by rw [hpq]; simp [hj])
  have hlt2 : ∀ j ∈ p2, j < l.length := fun j hj => by have := order_lt (lw l k) j (by rw [hpq2]; simp [hj]); rwa [lw_len] at this
  have hsub : ∀ j ∈ p2, j ∈ p := fun j hj => by
    have hjl := hlt2 j hj
    have h1 := (hp2 j (by rw [lw_len]; exact hjl)).1 hj
    rw [hp j hjl]
    rw [less_iff, lw_ew hk, lw_ew hk, if_pos rfl] at h1
    rw [less_iff]
    have hne : j ≠ k := fun e => hkp2 (e ▸ hj)
    rw [if_neg hne] at h1
    have b1 := ew_in hw hjl
    have b2 := ew_in hw hk
    omega
  have hperm : p.Perm (p2 ++ p.filter fun j => decide (j ∉ p2)) := by
    refine perm_of (List.pairwise_append.1 hnd).1 ?_ fun j => ?_
    · refine List.nodup_append.2 ⟨(List.pairwise_append.1 hnd2).1, (List.pairwise_append.1 hnd).1.filter _, fun a ha b hb e => ?_⟩
      have := (List.mem_filter.1 hb).2
      rw [← e] at this
      simp [ha] at this
    · rw [List.mem_append, List.mem_filter]
      constructor
      · intro hj
        by_cases hj2 : j ∈ p2
        · exact .inl hj2
        · exact .inr ⟨hj, by simpa using hj2⟩
      · rintro (hj | hj)
        · exact hsub j hj
        · exact hj.1
  cases hc2 : cand l (p2.foldl (jl l) (List.range n)) k
  · rw [fold_perm hperm (List.range n) (wide0 h) hlt, List.foldl_append, cand_fold hk (p.filter fun j => decide (j ∉ p2)) (p2.foldl (jl l) (List.range n)) (wide_fold p2 (List.range n) (wide0 h)) hc2] at hc
    cases hc
  · rfl
theorem lw_chk {n : Int} {l : List E} {k : Nat} (h : chk n l = 0) (hk : k < l.length) : chk n (lw l k) = 0 := by
  have hn := chk0_n h
  refine chk_0 (by omega) (by omega) ?_ fun j hj => ?_
  · rw [lw_len]
    unfold chk at h
    split at h
    · cases h
    · split at h
      · cases h
      · assumption
  · rw [lw_len] at hj
    have h1 := chk0_lt h hj
    have h2 := chk0_lt h hk
    rw [lw_get hk]
    simp only [odd, Bool.or_eq_false_iff, decide_eq_false_iff_not]
    split
    · simp only; omega
    · omega
theorem wo_chk {n : Int} {l : List E} {k : Nat} (h : chk n l = 0) (hk : k < l.length) : chk n (wo l k) = 0 := by
  have hn := chk0_n h
  have hl := wo_len hk
  refine chk_0 (by omega) (by omega) ?_ fun j hj => ?_
  · unfold chk at h
    split at h
    · cases h
    · split at h
      · cases h
      · omega
  · have h1 := chk0_lt h (i := sh k j) (sh_lt (by omega))
    rw [wo_get hk]
    simp only [odd, Bool.or_eq_false_iff, decide_eq_false_iff_not]
    omega
end Go.SpanM
