import Derived.Test.YtkjmlfbafmdegaaSpanM6
/- An edge left out; an edge made the least. -/
namespace Go.SpanM
open Go.UniteM
theorem sorted_uniq {R : Nat → Nat → Prop} (hR : ∀ x y, R x y → ¬ R y x) : ∀ {a b : List Nat}, a.Pairwise R → b.Pairwise R → (∀ x, x ∈ a ↔ x ∈ b) → a = b
  | [], [], _, _, _ => rfl
  | [], y :: b, _, _, h => absurd ((h y).2 (by simp)) (by simp)
  | x :: a, [], _, _, h => absurd ((h x).1 (by simp)) (by simp)
  | x :: a, y :: b, ha, hb, h => by
    obtain ⟨a1, a2⟩ := List.pairwise_cons.1 ha
    obtain ⟨b1, b2⟩ := List.pairwise_cons.1 hb
    have e : x = y := by
      by_cases e : x = y
      · exact e
      · have h1 : x ∈ b := by simpa [e] using (h x).1 (by simp)
        have h2 : y ∈ a := by simpa [Ne.symm e] using (h y).2 (by simp)
        exact absurd (a1 y h2) (hR _ _ (b1 x h1))
    subst e
    have hx1 : x ∉ a := fun h => hR x x (a1 x h) (a1 x h)
    have hx2 : x ∉ b := fun h => hR x x (b1 x h) (b1 x h)
    rw [sorted_uniq hR a2 b2 fun z => ?_]
    by_cases e : z = x
    · subst e
      simp [hx1, hx2]
    · simpa [e] using h z
/-- Without the k-th. -/
def wo (l : List E) (k : Nat) : List E := l.take k ++ l.drop (k + 1)
def sh (k i : Nat) : Nat := if i < k then i else i + 1
theorem sh_inj {k i j : Nat} (h : sh k i = sh k j) : i = j := by unfold sh at h; split at h <;> split at h <;> omega
theorem sh_ne (k i : Nat) : sh k i ≠ k := by unfold sh; split <;> omega
theorem sh_lt {k i m : Nat} (h : i + 1 < m) : sh k i < m := by unfold sh; split <;> omega
theorem sh_sur {k j m : Nat} (hk : k < m) (hj : j < m) (h : j ≠ k) : ∃ i, i + 1 < m ∧ sh k i = j := by
  rcases Nat.lt_or_ge j k with h1 | h1
  · exact ⟨j, by omega, if_pos h1⟩
  · exact ⟨j - 1, by omega, by unfold sh; rw [if_neg (by omega)]; omega⟩
theorem wo_len {l : List E} {k : Nat} (hk : k < l.length) : (wo l k).length + 1 = l.length := by simp [wo]; omega
theorem wo_get {l : List E} {k i : Nat} (hk : k < l.length) : (wo l k).getD i default = l.getD (sh k i) default := by
  simp only [List.getD_eq_getElem?_getD, wo, sh]
  congr 1
  by_cases h : i < k
  · rw [if_pos h, List.getElem?_append_left (by simp; omega), List.getElem?_take_of_lt h]
  · rw [if_neg h, List.getElem?_append_right (by simp; omega), List.getElem?_drop]
    congr 1
    simp
    omega
theorem wo_less {l : List E} {k i j : Nat} (hk : k < l.length) : lessB (wo l k) i j = lessB l (sh k i) (sh k j) := by
  rw [Bool.eq_iff_iff, less_iff, less_iff]
  unfold ew
  rw [wo_get hk, wo_get hk]
  have : i < j ↔ sh k i < sh k j := by unfold sh; split <;> split <;> omega
  rw [this]
theorem wo_order {l : List E} {k : Nat} (hk : k < l.length) : (order (wo l k)).map (sh k) = (order l).filter (fun j => decide (j ≠ k)) := by
  refine sorted_uniq (R := fun i j => lessB l i j = true) (fun x y h1 h2 => by rw [less_iff] at h1 h2; omega) ?_ ?_ fun z => ?_
  · rw [List.pairwise_map]
    refine (order_pair (wo l k)).imp fun h => ?_
    rw [bt_f, ← less_iff, wo_less hk] at h
    exact h
  · exact ((order_pair l).imp fun h => by rw [bt_f, ← less_iff] at h; exact h).filter _
  · have hl := wo_len hk
    rw [List.mem_map, List.mem_filter, order_mem]
    constructor
    · rintro ⟨i, hi, rfl⟩
      have := order_lt _ i hi
      exact ⟨sh_lt (by omega), by simpa using sh_ne k i⟩
    · rintro ⟨h1, h2⟩
      obtain ⟨i, hi, rfl⟩ := sh_sur hk h1 (by simpa using h2)
      exact ⟨i, order_all (by omega), rfl⟩
theorem wo_ea {l : List E} {k i : Nat} (hk : k < l.length) : ea (wo l k) i = ea l (sh k i) := by unfold ea; rw [wo_get hk]
theorem wo_eb {l : List E} {k i : Nat} (hk : k < l.length) : eb (wo l k) i = eb l (sh k i) := by unfold eb; rw [wo_get hk]
theorem wo_ew {l : List E} {k i : Nat} (hk : k < l.length) : ew (wo l k) i = ew l (sh k i) := by unfold ew; rw [wo_get hk]
theorem wo_taken {l : List E} {k : Nat} (hk : k < l.length) : ∀ (o L : List Nat), (taken (wo l k) L o).map (sh k) = taken l L (o.map (sh k))
  | [], _ => rfl
  | i :: o, L => by
    have hc : cand (wo l k) L i = cand l L (sh k i) := by unfold cand; rw [wo_ea hk, wo_eb hk]
    have hj : jl (wo l k) L i = jl l L (sh k i) := by unfold jl; rw [wo_ea hk, wo_eb hk]
    rw [List.map_cons, taken, taken, hc, hj]
    split
    · rw [List.map_cons, wo_taken hk o]
    · exact wo_taken hk o _
theorem taken_filter {l : List E} {k : Nat} : ∀ (o L : List Nat), k ∉ taken l L o → taken l L (o.filter fun j => decide (j ≠ k)) = taken l L o
  | [], _, _ => rfl
  | i :: o, L, h => by
    rw [taken] at h
    by_cases e : i = k
    · subst e
      have hc : ¬ cand l L i = true := fun hc => by rw [if_pos hc] at h; exact h (by simp)
      rw [if_neg hc] at h
      rw [List.filter_cons_of_neg (by simp), taken, if_neg hc]
      have hj : jl l L i = L := jl_no (by simpa using hc)
      rw [hj] at h ⊢
      exact taken_filter o L h
    · rw [List.filter_cons_of_pos (by simpa using e), taken, taken]
      have h' : k ∉ taken l (jl l L i) o := fun hm => h (by split <;> simp [hm])
      rw [taken_filter o _ h']
theorem wo_all {n : Nat} {l : List E} {k : Nat} (hk : k < l.length) (hm : mkd n l k = false) : (taken (wo l k) (List.range n) (order (wo l k))).map (sh k) = taken l (List.range n) (order l) := by
  rw [wo_taken hk, wo_order hk, taken_filter _ _ fun h => by rw [(mkd_iff hk).2 h] at hm; cases hm]
theorem wo_sum {n : Nat} {l : List E} {k : Nat} (hk : k < l.length) (hm : mkd n l k = false) : (tree n (wo l k)).sum = (tree n l).sum := by
  rw [tree, tree, run_sum, run_sum]
  show (0 : Int) + ((taken (wo l k) (List.range n) (order (wo l k))).map (ew (wo l k))).sum = (0 : Int) + ((taken l (List.range n) (order l)).map (ew l)).sum
  rw [← wo_all hk hm, List.map_map]
  congr 2
  exact List.map_congr_left fun i _ => wo_ew hk
theorem wo_mks {n : Nat} {l : List E} {k : Nat} (hk : k < l.length) (hm : mkd n l k = false) : (tree n (wo l k)).mks = (tree n l).mks.take k ++ (tree n l).mks.drop (k + 1) := by
  have hl := wo_len hk
  have t1 := tree_mks n l
  have t2 := tree_mks n (wo l k)
  refine List.ext_getElem? fun i => ?_
  have e : ((tree n l).mks.take k ++ (tree n l).mks.drop (k + 1))[i]? = (tree n l).mks[sh k i]? := by
    unfold sh
    by_cases h : i < k
    · rw [if_pos h, List.getElem?_append_left (by simp; omega), List.getElem?_take_of_lt h]
    · rw [if_neg h, List.getElem?_append_right (by simp; omega), List.getElem?_drop]
      congr 1
      simp
      omega
  rw [e]
  by_cases h : i < (wo l k).length
  · have h1 : sh k i < l.length := sh_lt (by omega)
    have g : ∀ (m : List Bool) (j : Nat), j < m.length → m[j]? = some (m.getD j false) := fun m j h => by simp [List.getD_eq_getElem?_getD, h]
    rw [g _ _ (by omega), g _ _ (by omega)]
    congr 1
    rw [Bool.eq_iff_iff]
    have m1 := mkd_iff (n := n) (l := wo l k) h
    have m2 := mkd_iff (n := n) (l := l) h1
    unfold mkd at m1 m2
    rw [m1, m2, ← wo_all hk hm, List.mem_map]
    exact ⟨fun h => ⟨i, h, rfl⟩, fun ⟨j, h, e⟩ => sh_inj e ▸ h⟩
  · have h1 : l.length ≤ sh k i := by unfold sh; split <;> omega
    rw [List.getElem?_eq_none (by omega), List.getElem?_eq_none (by omega)]
end Go.SpanM
