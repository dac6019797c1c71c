import Derived.Test.YtkjmlfbafmdegaaSpanM3
/- How many are marked; whose sum is least. -/
namespace Go.SpanM
open Go.UniteM
theorem count_set_true : ∀ (m : List Bool) (i : Nat), i < m.length → m.getD i false = false → (m.set i true).count true = m.count true + 1
  | [], i, h, _ => by simp at h
  | b :: m, 0, _, h => by
    have : b = false := by simpa using h
    subst this
    simp
  | b :: m, i + 1, h, h2 => by
    have ih := count_set_true m i (by simpa using h) (by simpa using h2)
    rw [List.set_cons_succ, List.count_cons, List.count_cons, ih]
    omega
theorem run_count (l : List E) : ∀ (o : List Nat) (s : St), o.Nodup → (∀ i ∈ o, i < s.mks.length ∧ s.mks.getD i false = false) → (run l s o).mks.count true = s.mks.count true + (taken l s.L o).length
  | [], s, _, _ => by simp [run, taken]
  | i :: o, s, hn, h => by
    obtain ⟨hn1, hn2⟩ := List.nodup_cons.1 hn
    have hi := h i (by simp)
    show (run l (takeE l s i) o).mks.count true = _
    have hl : (takeE l s i).mks.length = s.mks.length := by rw [takeE_mks]; split <;> simp
    rw [run_count l o _ hn2 (fun j hj => by
      have hj' := h j (by simp [hj])
      refine ⟨by rw [hl]; exact hj'.1, ?_⟩
      have e : i ≠ j := fun e => hn1 (e ▸ hj)
      rw [takeE_mks]
      split
      · rw [List.getD_eq_getElem?_getD, List.getElem?_set_ne e, ← List.getD_eq_getElem?_getD]; exact hj'.2
      · exact hj'.2), takeE_L, takeE_mks, taken]
    split
    · rw [count_set_true _ _ hi.1 hi.2, List.length_cons]
      omega
    · rfl
theorem order_nodup (l : List E) : (order l).Nodup := (order_perm l).nodup_iff.2 List.nodup_range
theorem cost_one (l : List E) (L o : List Nat) : cost (fun _ => 1) l L o = (taken l L o).length := by
  unfold cost
  induction taken l L o with
  | nil => rfl
  | cons a t ih => simp only [List.map_cons, List.sum_cons, ih, List.length_cons]; omega
theorem cost_mone (l : List E) (L o : List Nat) : cost (fun _ => -1) l L o = -((taken l L o).length : Int) := by
  unfold cost
  induction taken l L o with
  | nil => rfl
  | cons a t ih => simp only [List.map_cons, List.sum_cons, ih, List.length_cons]; omega
/-- The same number are taken in all orders. -/
theorem taken_same {l : List E} {L o o' : List Nat} (hW : Wide l L) (h : ∀ j, j ∈ o ↔ j ∈ o') (hl : ∀ j ∈ o, j < l.length) : (taken l L o).length = (taken l L o').length := by
  have pw : ∀ (R : Nat → Nat → Prop), (∀ x y, R x y) → ∀ o : List Nat, o.Pairwise R := fun R hR o => by
    induction o with
    | nil => exact List.Pairwise.nil
    | cons a t ih => exact List.pairwise_cons.2 ⟨fun b _ => hR a b, ih⟩
  have h1 := cost_least (f := fun _ => 1) (l := l) o L o' hW (pw _ (fun _ _ => by simp) o) (fun j hj => (h j).1 hj) (fun j hj => ⟨hl j ((h j).2 hj), .inl ((h j).2 hj)⟩)
  have h2 := cost_least (f := fun _ => -1) (l := l) o L o' hW (pw _ (fun _ _ => by simp) o) (fun j hj => (h j).1 hj) (fun j hj => ⟨hl j ((h j).2 hj), .inl ((h j).2 hj)⟩)
  rw [cost_one, cost_one] at h1
  rw [cost_mone, cost_mone] at h2
  omega
theorem run_count0 {n : Nat} {l : List E} (h : chk n l = 0) {o : List Nat} (hn : o.Nodup) (hm : ∀ j, j ∈ o ↔ j < l.length) : (run l (s0 n l) o).mks.count true = (taken l (List.range n) (List.range l.length)).length := by
  rw [run_count l o _ hn (fun i hi => by
    have := (hm i).1 hi
    show i < (List.replicate l.length false).length ∧ (List.replicate l.length false).getD i false = false
    simp [this, List.getD_eq_getElem?_getD])]
  have e : (s0 n l).mks.count true = 0 := by
    show (List.replicate l.length false).count true = 0
    simp [List.count_replicate]
  rw [e, Nat.zero_add]
  exact taken_same (wide0 h) (fun j => by rw [hm, List.mem_range]) (fun j hj => (hm j).1 hj)
theorem order_mem (l : List E) (j : Nat) : j ∈ order l ↔ j < l.length := ⟨order_lt l j, order_all⟩
theorem tree_count {n : Nat} {l : List E} (h : chk n l = 0) : (tree n l).mks.count true = (taken l (List.range n) (List.range l.length)).length := run_count0 h (order_nodup l) (order_mem l)
theorem most_count {n : Nat} {l : List E} (h : chk n l = 0) : (most n l).mks.count true = (taken l (List.range n) (List.range l.length)).length := run_count0 h ((List.reverse_perm (order l)).nodup_iff.2 (order_nodup l)) (fun j => by rw [List.mem_reverse, order_mem])
theorem order_ew (l : List E) : (order l).Pairwise (fun i j => ew l i ≤ ew l j) := (order_pair l).imp fun h => by rw [bt_f] at h; omega
/-- No order that all edges stand in gives less. -/
theorem tree_least {n : Nat} {l : List E} (h : chk n l = 0) {o' : List Nat} (h1 : ∀ j, j < l.length → j ∈ o') (h2 : ∀ j ∈ o', j < l.length) : (tree n l).sum ≤ cost (ew l) l (List.range n) o' := by
  have := cost_least (f := ew l) (l := l) (order l) (List.range n) o' (wide0 h) (order_ew l) (fun j hj => h1 j (order_lt l j hj)) (fun j hj => ⟨h2 j hj, .inl (order_all (h2 j hj))⟩)
  rw [tree, run_sum]
  show (0 : Int) + cost (ew l) l (List.range n) (order l) ≤ _
  omega
theorem tree_most {n : Nat} {l : List E} (h : chk n l = 0) : (tree n l).sum ≤ (most n l).sum := by
  have := tree_least h (o' := (order l).reverse) (fun j hj => List.mem_reverse.2 (order_all hj)) (fun j hj => order_lt l j (List.mem_reverse.1 hj))
  rw [most, run_sum]
  show _ ≤ (0 : Int) + cost (ew l) l (List.range n) (order l).reverse
  omega
theorem taken_ne {l : List E} : ∀ (o L : List Nat) (i : Nat), i ∈ taken l L o → ea l i ≠ eb l i
  | [], _, _, h => by simp [taken] at h
  | j :: o, L, i, h => by
    rw [taken] at h
    split at h
    · rename_i hc
      rcases List.mem_cons.1 h with rfl | h
      · exact fun e => cand_t.1 hc (by rw [e])
      · exact taken_ne o _ i h
    · exact taken_ne o _ i h
theorem mk0 {n : Nat} {l : List E} {o : List Nat} {j : Nat} (hj : j < l.length) : (run l (s0 n l) o).mks.getD j false = true ↔ j ∈ taken l (List.range n) o := by
  rw [run_mk l o _ j (by show j < (List.replicate l.length false).length; simp [hj])]
  show ((List.replicate l.length false).getD j false = true ∨ _) ↔ _
  have : (List.replicate l.length false).getD j false = false := by simp [List.getD_eq_getElem?_getD, hj]
  rw [this]
  simp
  exact Iff.rfl
theorem mk_ne {n : Nat} {l : List E} {o : List Nat} {j : Nat} (hj : j < l.length) (h : ea l j = eb l j) : (run l (s0 n l) o).mks.getD j false = false := by
  rw [Bool.eq_false_iff]
  exact fun h2 => taken_ne o _ j ((mk0 hj).1 h2) h
end Go.SpanM
