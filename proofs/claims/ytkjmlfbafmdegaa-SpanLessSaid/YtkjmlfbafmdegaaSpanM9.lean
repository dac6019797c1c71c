import Derived.Test.YtkjmlfbafmdegaaSpanM8
/- What SpanLess's loops keep. -/
namespace Go.SpanM
open Go.UniteM
theorem fold_len (l : List E) : ∀ (o L : List Nat), (o.foldl (jl l) L).length = L.length
  | [], _ => rfl
  | i :: o, L => by
    rw [List.foldl_cons, fold_len l o, jl_len]
def LA (n : Nat) (l : List E) (i : Nat) : List Nat := (List.range i).foldl (jl l) (List.range n)
theorem LA_succ (n : Nat) (l : List E) (i : Nat) : LA n l (i + 1) = jl l (LA n l i) i := by simp [LA, List.range_succ]
theorem LA_len (n : Nat) (l : List E) (i : Nat) : (LA n l i).length = n := by rw [LA, fold_len, List.length_range]
def GA (n : Nat) (l : List E) (i : Nat) : List Nat := (pre n l i).foldl (jl l) (List.range n)
theorem GA_len (n : Nat) (l : List E) (i : Nat) : (GA n l i).length = n := by rw [GA, fold_len, List.length_range]
theorem GA_t {n : Nat} {l : List E} {i : Nat} (h : mkd n l i = true) : GA n l (i + 1) = jl l (GA n l i) i := by
  rw [GA, pre_succ, if_pos h, List.foldl_append]; rfl
theorem GA_f {n : Nat} {l : List E} {i : Nat} (h : mkd n l i = false) : GA n l (i + 1) = GA n l i := by
  rw [GA, pre_succ, if_neg (by rw [h]; decide)]; rfl
theorem GA_all {n : Nat} {l : List E} (h : chk n l = 0) : GA n l l.length = LA n l l.length := pre_all h
theorem GA_cand {n : Nat} {l : List E} (h : chk n l = 0) {i : Nat} (hi : i < l.length) (hm : mkd n l i = true) : cand l (GA n l i) i = true := pre_cand h hi hm
def TA (n : Nat) (l : List E) (i : Nat) : Int := ((pre n l i).map (ew l)).sum
theorem TA_t {n : Nat} {l : List E} {i : Nat} (h : mkd n l i = true) : TA n l (i + 1) = TA n l i + ew l i := by
  rw [TA, pre_succ, if_pos h, List.map_append, List.sum_append]; simp [TA]
theorem TA_f {n : Nat} {l : List E} {i : Nat} (h : mkd n l i = false) : TA n l (i + 1) = TA n l i := by
  rw [TA, pre_succ, if_neg (by rw [h]; decide)]; rfl
theorem TA_all {n : Nat} {l : List E} (h : chk n l = 0) : TA n l l.length = (tree n l).sum := pre_sum h
theorem ewIn {l : List E} (hw : In32 l) {i : Nat} (hi : i < l.length) : -2147483648 ≤ ew l i ∧ ew l i ≤ 2147483647 := hw _ (getD_mem hi)
theorem sum_in {l : List E} (hw : In32 l) : ∀ (o : List Nat), (∀ j ∈ o, j < l.length) → -(2147483648 * o.length : Int) ≤ (o.map (ew l)).sum ∧ (o.map (ew l)).sum ≤ 2147483648 * o.length
  | [], _ => by simp
  | i :: o, h => by
    have h1 := sum_in hw o (fun j hj => h j (List.mem_cons_of_mem _ hj))
    have h2 := ewIn hw (h i (List.mem_cons_self ..))
    simp only [List.map_cons, List.sum_cons, List.length_cons]
    omega
theorem pre_len (n : Nat) (l : List E) (i : Nat) : (pre n l i).length ≤ i := by
  have := List.length_filter_le (mkd n l) (List.range i)
  rw [List.length_range] at this
  exact this
theorem TA_in {n : Nat} {l : List E} (hw : In32 l) {i : Nat} (hi : i ≤ l.length) (hl : l.length ≤ 30) : -64424509440 ≤ TA n l i ∧ TA n l i ≤ 64424509440 := by
  have h1 := sum_in hw (pre n l i) (fun j hj => by have := pre_lt j hj; omega)
  have h2 := pre_len n l i
  unfold TA
  omega
def HA (n : Nat) (l : List E) (i j : Nat) : List Nat := ((List.range j).filter (low n l i)).foldl (jl l) (List.range n)
theorem HA_len (n : Nat) (l : List E) (i j : Nat) : (HA n l i j).length = n := by rw [HA, fold_len, List.length_range]
theorem HA_t {n : Nat} {l : List E} {i j : Nat} (h1 : mkd n l j = true) (h2 : lessB l j i = true) : HA n l i (j + 1) = jl l (HA n l i j) j := by
  have : low n l i j = true := by simp [low, h1, h2]
  simp [HA, List.range_succ, List.filter_append, List.foldl_append, this]
theorem HA_f {n : Nat} {l : List E} {i j : Nat} (h : low n l i j = false) : HA n l i (j + 1) = HA n l i j := by
  simp [HA, List.range_succ, List.filter_append, h]
theorem HA_f1 {n : Nat} {l : List E} {i j : Nat} (h : mkd n l j = false) : HA n l i (j + 1) = HA n l i j := HA_f (by simp [low, h])
theorem HA_f2 {n : Nat} {l : List E} {i j : Nat} (h : lessB l j i = false) : HA n l i (j + 1) = HA n l i j := HA_f (by simp [low, h])
theorem HA_end {n : Nat} {l : List E} (h : chk n l = 0) {i : Nat} (hi : i < l.length) (hm : mkd n l i = false) : g (HA n l i l.length) (ea l i) = g (HA n l i l.length) (eb l i) := cand_f.1 (low_fold h hi hm)
/-! another order -/
def jo (l : List E) (o : List Nat) (i : Nat) : Nat := if i < o.length then o.getD i 0 else i - o.length
def ord (l : List E) (o : List Nat) (i : Nat) : List Nat := if l.length = 0 then [] else (List.range i).map (jo l o)
theorem ord_succ {l : List E} {o : List Nat} {i : Nat} (h : l.length ≠ 0) : ord l o (i + 1) = ord l o i ++ [jo l o i] := by
  simp [ord, h, List.range_succ]
theorem jo_lt {l : List E} {o : List Nat} {i : Nat} (ho : ∀ j, j < o.length → o.getD j 0 < l.length) (hi : i < o.length + l.length) : jo l o i < l.length := by
  unfold jo
  split
  · exact ho _ ‹_›
  · omega
theorem ord_lt {l : List E} {o : List Nat} {i : Nat} (ho : l.length ≠ 0 → ∀ j, j < o.length → o.getD j 0 < l.length) (hi : i ≤ o.length + l.length) : ∀ j ∈ ord l o i, j < l.length := by
  intro j hj
  unfold ord at hj
  split at hj
  · cases hj
  · rename_i h
    obtain ⟨x, hx, rfl⟩ := List.mem_map.1 hj
    have := List.mem_range.1 hx
    exact jo_lt (ho h) (by omega)
theorem ord_all {l : List E} {o : List Nat} : ∀ j, j < l.length → j ∈ ord l o (o.length + l.length) := by
  intro j hj
  unfold ord
  rw [if_neg (by omega)]
  refine List.mem_map.2 ⟨o.length + j, List.mem_range.2 (by omega), ?_⟩
  unfold jo
  rw [if_neg (by omega)]
  omega
theorem cost_snoc {f : Nat → Int} {l : List E} : ∀ {o L : List Nat} {i : Nat}, cost f l L (o ++ [i]) = cost f l L o + if cand l (o.foldl (jl l) L) i = true then f i else 0 := by
  intro o L i
  unfold cost
  rw [taken_app, List.map_append, List.sum_append]
  congr 1
  simp only [taken]
  split <;> simp
theorem nodup_len {o : List Nat} {n : Nat} (hn : o.Nodup) (h : ∀ j ∈ o, j < n) : o.length ≤ n := by
  have hp : o.Perm ((List.range n).filter (fun j => decide (j ∈ o))) := perm_of hn (nodup_filter_range _ _) fun j => by
    rw [List.mem_filter, List.mem_range]
    exact ⟨fun hj => ⟨h j hj, by simpa using hj⟩, fun hj => by simpa using hj.2⟩
  rw [hp.length_eq]
  have := List.length_filter_le (fun j => decide (j ∈ o)) (List.range n)
  rwa [List.length_range] at this
def OA (n : Nat) (l : List E) (o : List Nat) (i : Nat) : List Nat := (ord l o i).foldl (jl l) (List.range n)
theorem OA_len (n : Nat) (l : List E) (o : List Nat) (i : Nat) : (OA n l o i).length = n := by rw [OA, fold_len, List.length_range]
theorem OA_succ {n : Nat} {l : List E} {o : List Nat} {i : Nat} (h : l.length ≠ 0) : OA n l o (i + 1) = jl l (OA n l o i) (jo l o i) := by
  rw [OA, ord_succ h, List.foldl_append]; rfl
def RA (n : Nat) (l : List E) (o : List Nat) (i : Nat) : Int := cost (ew l) l (List.range n) (ord l o i)
theorem RA_t {n : Nat} {l : List E} {o : List Nat} {i : Nat} (h : l.length ≠ 0) (hc : cand l (OA n l o i) (jo l o i) = true) : RA n l o (i + 1) = RA n l o i + ew l (jo l o i) := by
  rw [RA, ord_succ h, cost_snoc, if_pos (show cand l ((ord l o i).foldl (jl l) (List.range n)) (jo l o i) = true from hc)]; rfl
theorem RA_f {n : Nat} {l : List E} {o : List Nat} {i : Nat} (h : l.length ≠ 0) (hc : cand l (OA n l o i) (jo l o i) = false) : RA n l o (i + 1) = RA n l o i := by
  rw [RA, ord_succ h, cost_snoc, if_neg (by have : cand l ((ord l o i).foldl (jl l) (List.range n)) (jo l o i) = false := hc; rw [this]; decide)]
  exact Int.add_zero _
theorem RA_in {n : Nat} {l : List E} (h : chk n l = 0) (hw : In32 l) {o : List Nat} {i : Nat} (ho : l.length ≠ 0 → ∀ j, j < o.length → o.getD j 0 < l.length) (hi : i ≤ o.length + l.length) (hl : l.length ≤ 30) : -64424509440 ≤ RA n l o i ∧ RA n l o i ≤ 64424509440 := by
  have h0 := ord_lt ho hi
  have hs := (taken_sub l (ord l o i) (List.range n))
  have h1 := sum_in hw (taken l (List.range n) (ord l o i)) (fun j hj => h0 j (hs.subset hj))
  have h2 := nodup_len (taken_nodup (ord l o i) (List.range n) (wide0 h) h0) (fun j hj => h0 j (hs.subset hj))
  unfold RA cost
  omega
theorem RA_end {n : Nat} {l : List E} (h : chk n l = 0) {o : List Nat} (ho : l.length ≠ 0 → ∀ j, j < o.length → o.getD j 0 < l.length) : (tree n l).sum ≤ RA n l o (o.length + l.length) :=
  tree_least h ord_all (ord_lt ho (Nat.le_refl _))
theorem RA_0 {n : Nat} {l : List E} {o : List Nat} : RA n l o 0 = 0 := by
  unfold RA ord
  split <;> rfl
theorem OA_0 {n : Nat} {l : List E} {o : List Nat} : OA n l o 0 = List.range n := by
  unfold OA ord
  split <;> rfl
theorem RA_e {n : Nat} {l : List E} {o : List Nat} {i : Nat} (h : l.length = 0) : RA n l o i = 0 := by
  unfold RA ord; rw [if_pos h]; rfl
theorem OA_e {n : Nat} {l : List E} {o : List Nat} {i : Nat} (h : l.length = 0) : OA n l o i = List.range n := by
  unfold OA ord; rw [if_pos h]; rfl
end Go.SpanM
