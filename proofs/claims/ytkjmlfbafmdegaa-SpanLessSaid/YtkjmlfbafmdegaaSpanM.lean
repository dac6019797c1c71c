import Derived.Test.YtkjmlfbafmdegaaUniteM
import Derived.Test.YtkjmlfbafmdegaaPermM
/- Least trees, in plain words. -/
namespace Go.SpanM
open Go.UniteM
structure E where
  a : Int
  b : Int
  w : Int
deriving DecidableEq
instance : Inhabited E := ⟨⟨0, 0, 0⟩⟩
def odd (n : Int) (e : E) : Bool := decide (e.a < 0) || decide (n ≤ e.a) || decide (e.b < 0) || decide (n ≤ e.b)
def chk (n : Int) (l : List E) : Nat := if n < 0 ∨ 1048576 < n then 1 else if 1048576 < l.length then 2 else if l.any (odd n) then 12 else 0
def In32 (l : List E) : Prop := ∀ e ∈ l, -2147483648 ≤ e.w ∧ e.w ≤ 2147483647
def cmp3 (a b : Int) : Int := if a < b then -1 else if b < a then 1 else 0
def ew (l : List E) (i : Nat) : Int := (l.getD i default).w
def cf (l : List E) {m : Nat} (x y : Fin m) : Int := if cmp3 (ew l x.val) (ew l y.val) = 0 then cmp3 (x.val : Int) (y.val : Int) else cmp3 (ew l x.val) (ew l y.val)
/-- One edge taken: labels, marks, sum. -/
structure St where
  L : List Nat
  mks : List Bool
  sum : Int
def ea (l : List E) (i : Nat) : Nat := (l.getD i default).a.toNat
def eb (l : List E) (i : Nat) : Nat := (l.getD i default).b.toNat
def takeE (l : List E) (s : St) (i : Nat) : St :=
  if g s.L (ea l i) = g s.L (eb l i) then s else ⟨joinL s.L (g s.L (ea l i)) (g s.L (eb l i)), s.mks.set i true, s.sum + ew l i⟩
def run (l : List E) (s : St) (o : List Nat) : St := o.foldl (takeE l) s
def s0 (n : Nat) (l : List E) : St := ⟨List.range n, List.replicate l.length false, 0⟩
/-- The order of edges: the least first. -/
def lessB (l : List E) (i j : Nat) : Bool := decide (ew l i < ew l j) || (decide (ew l i = ew l j) && decide (i < j))
def order (l : List E) : List Nat := (List.range l.length).mergeSort fun i j => !lessB l j i
theorem takeE_ne {l : List E} {s : St} {i : Nat} (h : ¬ g s.L (ea l i) = g s.L (eb l i)) : takeE l s i = ⟨joinL s.L (g s.L (ea l i)) (g s.L (eb l i)), s.mks.set i true, s.sum + ew l i⟩ := if_neg h
theorem run_snoc (l : List E) (s : St) (o : List Nat) (i : Nat) : run l s (o ++ [i]) = takeE l (run l s o) i := by simp [run]
theorem take_step {o : List Nat} {k : Nat} (h : k < o.length) : o.take (k + 1) = o.take k ++ [g o k] := by
  rw [List.take_add_one, g_get h]
  rfl
theorem run_step {l : List E} {s : St} {o : List Nat} {k : Nat} (h : k < o.length) : run l s (o.take (k + 1)) = takeE l (run l s (o.take k)) (g o k) := by rw [take_step h, run_snoc]
theorem g_mem {o : List Nat} {k : Nat} (h : k < o.length) : g o k ∈ o := by
  have : g o k = o[k] := by simp [g, h]
  rw [this]
  exact List.getElem_mem h
theorem getD_mem {l : List E} {i : Nat} (h : i < l.length) : l.getD i default ∈ l := by
  have : l.getD i default = l[i] := by simp [List.getD_eq_getElem?_getD, h]
  rw [this]
  exact List.getElem_mem h
theorem chk_12 {n : Int} {l : List E} {i : Nat} (h1 : ¬ n < 0) (h2 : ¬ 1048576 < n) (h3 : ¬ 1048576 < l.length) (hi : i < l.length) (h : odd n (l.getD i default) = true) : chk n l = 12 := by
  have h4 : l.any (odd n) = true := List.any_eq_true.2 ⟨_, getD_mem hi, h⟩
  simp [chk, h1, h2, h3, h4]
theorem chk_0 {n : Int} {l : List E} (h1 : ¬ n < 0) (h2 : ¬ 1048576 < n) (h3 : ¬ 1048576 < l.length) (h : ∀ j, j < l.length → odd n (l.getD j default) = false) : chk n l = 0 := by
  have h4 : l.any (odd n) = false := by
    rw [Bool.eq_false_iff]
    intro h2
    obtain ⟨e, he, hp⟩ := List.any_eq_true.1 h2
    obtain ⟨j, hj, rfl⟩ := List.mem_iff_getElem.1 he
    have := h j hj
    rw [List.getD_eq_getElem?_getD, List.getElem?_eq_getElem hj] at this
    simp [hp] at this
  simp [chk, h1, h2, h3, h4]
theorem chk0_lt {n : Int} {l : List E} (h : chk n l = 0) {i : Nat} (hi : i < l.length) : (0 ≤ (l.getD i default).a ∧ (l.getD i default).a < n) ∧ 0 ≤ (l.getD i default).b ∧ (l.getD i default).b < n := by
  unfold chk at h
  split at h
  · cases h
  · split at h
    · cases h
    · split at h
      · cases h
      · rename_i h1
        have h2 : odd n (l.getD i default) = false := by
          rw [Bool.eq_false_iff]
          exact fun h3 => h1 (List.any_eq_true.2 ⟨_, getD_mem hi, h3⟩)
        simp only [odd, Bool.or_eq_false_iff, decide_eq_false_iff_not] at h2
        omega
theorem ea_eq {n : Int} {l : List E} (h : chk n l = 0) {i : Nat} (hi : i < l.length) : (l.getD i default).a = ((ea l i : Nat) : Int) := by
  have := chk0_lt h hi
  unfold ea
  omega
theorem eb_eq {n : Int} {l : List E} (h : chk n l = 0) {i : Nat} (hi : i < l.length) : (l.getD i default).b = ((eb l i : Nat) : Int) := by
  have := chk0_lt h hi
  unfold eb
  omega
theorem ea_lt {n : Nat} {l : List E} (h : chk n l = 0) {i : Nat} (hi : i < l.length) : ea l i < n := by
  have := chk0_lt h hi
  unfold ea
  omega
theorem eb_lt {n : Nat} {l : List E} (h : chk n l = 0) {i : Nat} (hi : i < l.length) : eb l i < n := by
  have := chk0_lt h hi
  unfold eb
  omega
def tree (n : Nat) (l : List E) : St := run l (s0 n l) (order l)
def most (n : Nat) (l : List E) : St := run l (s0 n l) (order l).reverse
theorem order_perm (l : List E) : (order l).Perm (List.range l.length) := List.mergeSort_perm ..
theorem order_len (l : List E) : (order l).length = l.length := by rw [(order_perm l).length_eq, List.length_range]
theorem order_lt (l : List E) : ∀ i ∈ order l, i < l.length := fun i h => List.mem_range.1 ((order_perm l).mem_iff.1 h)
theorem chk0_n {n : Int} {l : List E} (h : chk n l = 0) : 0 ≤ n ∧ n ≤ 1048576 := by
  unfold chk at h
  split at h
  · cases h
  · omega
theorem chk0_pos {n : Nat} {l : List E} (h : chk n l = 0) (hl : l.length ≠ 0) : 0 < n := by
  have := chk0_lt (i := 0) h (by omega)
  omega
theorem run_mks (l : List E) : ∀ (o : List Nat) (s : St), (run l s o).mks.length = s.mks.length
  | [], _ => rfl
  | i :: o, s => by
    show (run l (takeE l s i) o).mks.length = _
    rw [run_mks l o]
    unfold takeE
    split
    · rfl
    · simp
theorem tree_mks (n : Nat) (l : List E) : (tree n l).mks.length = l.length := by rw [tree, run_mks]; simp [s0]
theorem most_mks (n : Nat) (l : List E) : (most n l).mks.length = l.length := by rw [most, run_mks]; simp [s0]
/-- A list of which the first i and the last i have changed places. -/
def rv (l : List Nat) (i : Nat) : List Nat := (List.range l.length).map fun j => if j < i ∨ l.length ≤ j + i then g l (l.length - 1 - j) else g l j
theorem rv_length (l : List Nat) (i : Nat) : (rv l i).length = l.length := by simp [rv]
theorem rv_at {l : List Nat} {i j : Nat} (h : j < l.length) : g (rv l i) j = if j < i ∨ l.length ≤ j + i then g l (l.length - 1 - j) else g l j := by
  unfold rv
  rw [g_map (by simpa using h), g_range h]
theorem g_ext {a b : List Nat} (hl : a.length = b.length) (h : ∀ j, j < a.length → g a j = g b j) : a = b := by
  refine List.ext_getElem hl fun j h1 h2 => ?_
  have := h j h1
  rw [show g a j = a[j] by simp [g, h1], show g b j = b[j] by simp [g, h2]] at this
  exact this
theorem rv_zero (l : List Nat) : rv l 0 = l := by
  refine g_ext (rv_length l 0) fun j hj => ?_
  rw [rv_length] at hj
  rw [rv_at hj, if_neg (by omega)]
theorem rv_end {l : List Nat} {i : Nat} (h : l.length ≤ 2 * i + 1) : rv l i = l.reverse := by
  refine g_ext (by rw [rv_length, List.length_reverse]) fun j hj => ?_
  rw [rv_length] at hj
  rw [rv_at hj]
  have e : g l.reverse j = g l (l.length - 1 - j) := by
    simp only [g, List.getD_eq_getElem?_getD]
    rw [List.getElem?_reverse hj]
  rw [e]
  split
  · rfl
  · congr 1
    omega
theorem rv_step {l : List Nat} {i : Nat} (h : 2 * i + 1 < l.length) : ((rv l i).set i (g (rv l i) (l.length - 1 - i))).set (l.length - 1 - i) (g (rv l i) i) = rv l (i + 1) := by
  refine g_ext (by simp [rv_length]) fun j hj => ?_
  simp only [List.length_set, rv_length] at hj
  rw [g_set (by rw [List.length_set, rv_length]; omega), g_set (by rw [rv_length]; omega), rv_at hj, rv_at (j := i) (by omega), rv_at (j := l.length - 1 - i) (by omega), rv_at hj]
  by_cases e1 : j = l.length - 1 - i
  · subst e1
    rw [if_pos rfl, if_neg (by omega), if_pos (by omega)]
    congr 1
    omega
  · rw [if_neg e1]
    by_cases e2 : j = i
    · subst e2
      rw [if_pos rfl, if_neg (by omega), if_pos (by omega)]
    · rw [if_neg e2]
      by_cases e3 : j < i ∨ l.length ≤ j + i
      · rw [if_pos e3, if_pos (by omega)]
      · rw [if_neg e3, if_neg (by omega)]
end Go.SpanM
