import Derived.Test.YtkjmlfbafmdegaaSpanM2
/- What no order changes, and what the least order makes least. -/
namespace Go.SpanM
open Go.UniteM
def mg (p q v : Nat) : Nat := if v = max p q then min p q else v
theorem joinL_map (L : List Nat) (p q : Nat) : joinL L p q = L.map (mg p q) := rfl
def jl (l : List E) (L : List Nat) (i : Nat) : List Nat := joinL L (g L (ea l i)) (g L (eb l i))
theorem mg_self (p v : Nat) : mg p p v = v := by unfold mg; split <;> omega
theorem joinL_self (L : List Nat) (p : Nat) : joinL L p p = L := by
  rw [joinL_map]
  have : mg p p = id := funext fun v => mg_self p v
  rw [this, List.map_id]
theorem mg_comm (p q v : Nat) : mg p q v = mg q p v := by unfold mg; rw [Nat.max_comm, Nat.min_comm]
theorem mg_lt {p q v : Nat} (h : p < q) : mg p q v = if v = q then p else v := by
  unfold mg
  rw [Nat.max_eq_right (Nat.le_of_lt h), Nat.min_eq_left (Nat.le_of_lt h)]
theorem mg_min (p q : Nat) : mg p q p = min p q ∧ mg p q q = min p q := by
  unfold mg
  constructor <;> split <;> omega
theorem mg_core {p q r s : Nat} (h1 : p < q) (h2 : r < s) (h3 : q ≤ s) (v : Nat) : mg (mg p q r) (mg p q s) (mg p q v) = mg (mg r s p) (mg r s q) (mg r s v) := by
  rcases Nat.lt_or_ge q s with h | h
  · have e1 : mg p q s = s := by rw [mg_lt h1, if_neg (by omega)]
    have e2 : mg r s p = p := by rw [mg_lt h2, if_neg (by omega)]
    have e3 : mg r s q = q := by rw [mg_lt h2, if_neg (by omega)]
    have e4 : mg p q r < s := by rw [mg_lt h1]; split <;> omega
    rw [e1, e2, e3, mg_lt e4]
    by_cases e : v = s
    · subst e
      rw [e1, if_pos rfl, mg_lt h2, if_pos rfl]
    · have e5 : mg p q v ≠ s := by rw [mg_lt h1]; split <;> omega
      rw [if_neg e5, mg_lt h2, if_neg e]
  · obtain rfl : q = s := by omega
    have e1 : mg p q r = r := by rw [mg_lt h1, if_neg (by omega)]
    have e2 : mg p q q = p := by rw [mg_lt h1, if_pos rfl]
    have e3 : mg r q p = p := by rw [mg_lt h2, if_neg (by omega)]
    have e4 : mg r q q = r := by rw [mg_lt h2, if_pos rfl]
    rw [e1, e2, e3, e4]
    by_cases e : v = q
    · subst e
      rw [e2, e4, (mg_min r p).2, (mg_min p r).2, Nat.min_comm]
    · rw [mg_lt h1, mg_lt h2, if_neg e, if_neg e, mg_comm]
theorem mg_half {p q r s : Nat} (h1 : p < q) (h2 : r < s) (v : Nat) : mg (mg p q r) (mg p q s) (mg p q v) = mg (mg r s p) (mg r s q) (mg r s v) := by
  rcases Nat.le_total q s with h | h
  · exact mg_core h1 h2 h v
  · exact (mg_core h2 h1 h v).symm
theorem mg_mg (p q r s v : Nat) : mg (mg p q r) (mg p q s) (mg p q v) = mg (mg r s p) (mg r s q) (mg r s v) := by
  rcases Nat.lt_trichotomy p q with h | rfl | h
  · rcases Nat.lt_trichotomy r s with h2 | rfl | h2
    · exact mg_half h h2 v
    · simp only [mg_self]
    · rw [mg_comm (mg p q r)]
      simp only [mg_comm r s]
      exact mg_half h h2 v
  · simp only [mg_self]
  · rcases Nat.lt_trichotomy r s with h2 | rfl | h2
    · rw [mg_comm (mg r s p)]
      simp only [mg_comm p q]
      exact mg_half h h2 v
    · simp only [mg_self]
    · rw [mg_comm (mg p q r), mg_comm (mg r s p)]
      simp only [mg_comm p q, mg_comm r s]
      exact mg_half h h2 v
theorem mg_cand {p q r s : Nat} (h1 : p ≠ q) (h2 : r ≠ s) : mg p q r = mg p q s ↔ mg r s p = mg r s q := by
  unfold mg
  simp only [Nat.max_def, Nat.min_def]
  constructor
  all_goals
    repeat' split
    all_goals omega
theorem jl_len (l : List E) (L : List Nat) (i : Nat) : (jl l L i).length = L.length := joinL_len ..
theorem jl_at {l : List E} {L : List Nat} {i x : Nat} (hx : x < L.length) : g (jl l L i) x = mg (g L (ea l i)) (g L (eb l i)) (g L x) := joinL_at hx
theorem wide_jl {l : List E} {L : List Nat} {i : Nat} (h : Wide l L) : Wide l (jl l L i) := fun j hj => by rw [jl_len]; exact h j hj
theorem jl_comm {l : List E} {L : List Nat} {i j : Nat} (h : Wide l L) (hi : i < l.length) (hj : j < l.length) : jl l (jl l L i) j = jl l (jl l L j) i := by
  refine g_ext (by simp [jl_len]) fun x hx => ?_
  simp only [jl_len] at hx
  have h1 := h i hi
  have h2 := h j hj
  rw [jl_at (L := jl l L i) (by rw [jl_len]; exact hx), jl_at (L := jl l L j) (by rw [jl_len]; exact hx), jl_at hx, jl_at hx, jl_at h1.1, jl_at h1.2, jl_at h2.1, jl_at h2.2]
  exact mg_mg ..
theorem cand_jl {l : List E} {L : List Nat} {i j : Nat} (h : Wide l L) (hi : i < l.length) (hj : j < l.length) (c1 : cand l L i = true) (c2 : cand l L j = true) : cand l (jl l L i) j = cand l (jl l L j) i := by
  have h1 := h i hi
  have h2 := h j hj
  rw [Bool.eq_iff_iff, cand_t, cand_t, jl_at h1.1, jl_at h1.2, jl_at h2.1, jl_at h2.2, mg_cand (cand_t.1 c1) (cand_t.1 c2)]
theorem jl_no {l : List E} {L : List Nat} {i : Nat} (h : cand l L i = false) : jl l L i = L := by
  unfold jl
  rw [cand_f.1 h, joinL_self]
theorem cand_keep {l : List E} {L : List Nat} {i j : Nat} (h : Wide l L) (hj : j < l.length) (c : cand l L j = false) : cand l (jl l L i) j = false := by
  have h2 := h j hj
  rw [cand_f, jl_at h2.1, jl_at h2.2, cand_f.1 c]
theorem cand_own {l : List E} {L : List Nat} {i : Nat} (h : Wide l L) (hi : i < l.length) : cand l (jl l L i) i = false := by
  have h2 := h i hi
  rw [cand_f]
  exact join_one h2.1 h2.2
/-- The edges that are taken. -/
def taken (l : List E) : List Nat → List Nat → List Nat
  | _, [] => []
  | L, i :: o => if cand l L i = true then i :: taken l (jl l L i) o else taken l (jl l L i) o
def cost (f : Nat → Int) (l : List E) (L : List Nat) (o : List Nat) : Int := ((taken l L o).map f).sum
theorem cost_nil {f : Nat → Int} {l : List E} {L : List Nat} : cost f l L [] = 0 := rfl
theorem cost_cons {f : Nat → Int} {l : List E} {L : List Nat} {i : Nat} {o : List Nat} : cost f l L (i :: o) = (if cand l L i = true then f i else 0) + cost f l (jl l L i) o := by
  unfold cost
  rw [taken]
  split <;> simp
theorem takeE_L {l : List E} {s : St} {i : Nat} : (takeE l s i).L = jl l s.L i := by
  unfold takeE
  split
  · rename_i h
    rw [jl, h, joinL_self]
  · rfl
theorem takeE_sum {l : List E} {s : St} {i : Nat} : (takeE l s i).sum = s.sum + if cand l s.L i = true then ew l i else 0 := by
  unfold takeE
  by_cases h : g s.L (ea l i) = g s.L (eb l i)
  · rw [if_pos h, if_neg (by rw [cand_f.2 h]; simp)]; omega
  · rw [if_neg h, if_pos (cand_t.2 h)]
theorem takeE_mks {l : List E} {s : St} {i : Nat} : (takeE l s i).mks = if cand l s.L i = true then s.mks.set i true else s.mks := by
  unfold takeE
  by_cases h : g s.L (ea l i) = g s.L (eb l i)
  · rw [if_pos h, if_neg (by rw [cand_f.2 h]; simp)]
  · rw [if_neg h, if_pos (cand_t.2 h)]
theorem run_L (l : List E) : ∀ (o : List Nat) (s : St), (run l s o).L = o.foldl (jl l) s.L
  | [], _ => rfl
  | i :: o, s => by
    show (run l (takeE l s i) o).L = _
    rw [run_L l o, takeE_L]
    rfl
theorem run_sum (l : List E) : ∀ (o : List Nat) (s : St), (run l s o).sum = s.sum + cost (ew l) l s.L o
  | [], s => by rw [cost_nil]; show s.sum = _; omega
  | i :: o, s => by
    show (run l (takeE l s i) o).sum = _
    rw [run_sum l o, takeE_L, takeE_sum, cost_cons]
    omega
theorem run_mk (l : List E) : ∀ (o : List Nat) (s : St) (j : Nat), j < s.mks.length → ((run l s o).mks.getD j false = true ↔ s.mks.getD j false = true ∨ j ∈ taken l s.L o)
  | [], s, j, _ => by simp [run, taken]
  | i :: o, s, j, hj => by
    show ((run l (takeE l s i) o).mks.getD j false = true ↔ _)
    have hl : (takeE l s i).mks.length = s.mks.length := by rw [takeE_mks]; split <;> simp
    rw [run_mk l o _ j (by rw [hl]; exact hj), takeE_L, takeE_mks, taken]
    by_cases hc : cand l s.L i = true
    · rw [if_pos hc, if_pos hc, List.mem_cons]
      by_cases e : j = i
      · subst e
        simp [List.getD_eq_getElem?_getD, hj]
      · have : (s.mks.set i true).getD j false = s.mks.getD j false := by
          rw [List.getD_eq_getElem?_getD, List.getD_eq_getElem?_getD, List.getElem?_set_ne (Ne.symm e)]
        rw [this]
        simp [e]
    · rw [if_neg hc, if_neg hc]
/-- A swap. -/
theorem cost_swap {f : Nat → Int} {l : List E} {L : List Nat} {i j : Nat} {o : List Nat} (h : Wide l L) (hi : i < l.length) (hj : j < l.length) (hf : f i ≤ f j ∨ cand l L j = false) : cost f l L (i :: j :: o) ≤ cost f l L (j :: i :: o) := by
  simp only [cost_cons]
  rw [jl_comm h hi hj]
  cases c1 : cand l L i
  · rw [jl_no c1, cand_keep h hi c1]
    simp
  · cases c2 : cand l L j
    · rw [jl_no c2, cand_keep h hj c2, c1]
      simp
    · rw [cand_jl h hi hj c1 c2]
      rw [c2] at hf
      have hf : f i ≤ f j := by simpa using hf
      cases cand l (jl l L j) i
      · simp; omega
      · simp; omega
theorem cost_front {f : Nat → Int} {l : List E} {i : Nat} (hi : i < l.length) : ∀ (o : List Nat) (L : List Nat), Wide l L → i ∈ o → (∀ j ∈ o, j < l.length ∧ (f i ≤ f j ∨ cand l L j = false)) → cost f l L (i :: o) ≤ cost f l L o
  | [], _, _, h, _ => by cases h
  | j :: q, L, hW, h, hj => by
    by_cases e : i = j
    · subst e
      rw [cost_cons, cost_cons, cost_cons, cand_own hW hi, jl_no (cand_own hW hi)]
      simp
    · have hq : i ∈ q := by simpa [e] using h
      have h1 := hj j (by simp)
      have h2 := cost_swap (f := f) (o := q) hW hi h1.1 h1.2
      have h3 := cost_front (f := f) hi q (jl l L j) (wide_jl hW) hq (fun k hk => by
        have hk' := hj k (by simp [hk])
        exact ⟨hk'.1, hk'.2.imp id fun c => cand_keep hW hk'.1 c⟩)
      rw [cost_cons (i := j) (o := i :: q)] at h2
      rw [cost_cons (i := j) (o := q)]
      omega
theorem cost_no {f : Nat → Int} {l : List E} : ∀ (o : List Nat) (L : List Nat), (∀ j ∈ o, cand l L j = false) → cost f l L o = 0
  | [], _, _ => rfl
  | i :: o, L, h => by
    have hi := h i (by simp)
    rw [cost_cons, hi, jl_no hi, cost_no o L fun j hj => h j (by simp [hj])]
    simp
/-- The least order costs least. -/
theorem cost_least {f : Nat → Int} {l : List E} : ∀ (o : List Nat) (L o' : List Nat), Wide l L → o.Pairwise (fun i j => f i ≤ f j) → (∀ j ∈ o, j ∈ o') → (∀ j ∈ o', j < l.length ∧ (j ∈ o ∨ cand l L j = false)) → cost f l L o ≤ cost f l L o'
  | [], L, o', _, _, _, h => by
    rw [cost_nil, cost_no o' L fun j hj => ((h j hj).2.resolve_left (by simp))]
    omega
  | i :: o, L, o', hW, hp, hs, h => by
    obtain ⟨hp1, hp2⟩ := List.pairwise_cons.1 hp
    have hio := hs i (by simp)
    have hi := (h i hio).1
    have h1 := cost_front (f := f) hi o' L hW hio (fun j hj => ⟨(h j hj).1, (h j hj).2.imp (fun hm => by
      rcases List.mem_cons.1 hm with rfl | hm
      · omega
      · exact hp1 j hm) id⟩)
    have h2 := cost_least (f := f) o (jl l L i) o' (wide_jl hW) hp2 (fun j hj => hs j (by simp [hj])) (fun j hj => by
      have hj' := h j hj
      refine ⟨hj'.1, ?_⟩
      rcases hj'.2 with hm | hc
      · rcases List.mem_cons.1 hm with rfl | hm
        · exact .inr (cand_own hW hi)
        · exact .inl hm
      · exact .inr (cand_keep hW hj'.1 hc))
    rw [cost_cons] at h1 ⊢
    omega
end Go.SpanM
