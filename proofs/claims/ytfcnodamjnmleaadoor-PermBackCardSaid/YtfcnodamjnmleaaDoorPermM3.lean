/- The order of cycles, in plain words. -/
import Derived.Test.YtfcnodamjnmleaaDoorPermM2
namespace Go.PermM
def markI (s : List Bool) (l : List Int) : List Bool := l.foldl (fun s x => s.set x.toNat true) s
theorem markI_length (l : List Int) : ∀ s, (markI s l).length = s.length := by
  induction l with
  | nil => intro s; rfl
  | cons x l ih => intro s; show (markI (s.set x.toNat true) l).length = _; rw [ih]; simp
theorem markI_append (s : List Bool) (a b : List Int) : markI s (a ++ b) = markI (markI s a) b := by simp [markI, List.foldl_append]
theorem ckL_append (n : Nat) : ∀ (a b : List Int) (s : List Bool), ckL n (a ++ b) s = (ckL n a s && ckL n b (markI s a))
  | [], b, s => by simp [ckL, markI]
  | x :: a, b, s => by
    simp only [List.cons_append, ckL]
    by_cases h1 : x < 0
    · simp [h1]
    · by_cases h2 : (n : Int) ≤ x
      · simp [h1, h2]
      · by_cases h3 : s[x.toNat]? = some true
        · simp [h1, h2, h3]
        · simp only [if_neg h1, if_neg h2, if_neg h3, ckL_append n a b]
          rfl
/-- No list is empty, and the numbers are each below n, and each once. -/
def okC (n : Nat) (C : List (List Int)) : Bool := C.all (fun c => !c.isEmpty) && ckL n C.flatten (List.replicate n false)
def okD (n : Nat) (C : List (List Int)) (s : List Bool) : Bool := C.all (fun c => !c.isEmpty) && ckL n C.flatten s
theorem okD_cons (n : Nat) (c : List Int) (C : List (List Int)) (s : List Bool) : okD n (c :: C) s = if c.length = 0 then false else (ckL n c s && okD n C (markI s c)) := by
  unfold okD
  rw [List.flatten_cons, ckL_append, List.all_cons]
  cases c with
  | nil => rfl
  | cons x c =>
    rw [if_neg (by simp)]
    simp only [List.isEmpty_cons, Bool.not_false, Bool.true_and]
    cases ckL n (x :: c) s <;> simp
def pr (c : List Int) : List (Int × Int) := (List.range c.length).map fun i => (c.getD i 0, c.getD ((i + 1) % c.length) 0)
def prs (C : List (List Int)) : List (Int × Int) := (C.map pr).flatten
theorem pr_length (c : List Int) : (pr c).length = c.length := by simp [pr]
theorem pr_get {c : List Int} {i : Nat} {x y : Int} (h1 : c[i]? = some x) (h2 : c[(i + 1) % c.length]? = some y) : (pr c)[i]? = some (x, y) := by
  obtain ⟨h, h3⟩ := List.getElem?_eq_some_iff.1 h1
  simp [pr, h, List.getD_eq_getElem?_getD, h2, h3]
theorem prs_take {C : List (List Int)} {i : Nat} {c : List Int} (h : C[i]? = some c) : prs (C.take (i + 1)) = prs (C.take i) ++ pr c := by
  simp [prs, List.take_add_one, h]
theorem pr_take {c : List Int} {i : Nat} {p : Int × Int} (h : (pr c)[i]? = some p) : (pr c).take (i + 1) = (pr c).take i ++ [p] := by
  rw [List.take_add_one, h]
  rfl
theorem flat_take {C : List (List Int)} {i : Nat} {c : List Int} (h : C[i]? = some c) : (C.take (i + 1)).flatten = (C.take i).flatten ++ c := by
  simp [List.take_add_one, h]
def setF (out : List Int) (ps : List (Int × Int)) : List Int := ps.foldl (fun o p => o.set p.1.toNat p.2) out
def tof (x : Int) (ps : List (Int × Int)) (t : Int) : Int := ps.foldl (fun t p => if p.1 = x then p.2 else t) t
theorem setF_append (out : List Int) (a b : List (Int × Int)) : setF out (a ++ b) = setF (setF out a) b := by simp [setF, List.foldl_append]
theorem tof_append (x : Int) (a b : List (Int × Int)) (t : Int) : tof x (a ++ b) t = tof x b (tof x a t) := by simp [tof, List.foldl_append]
theorem setF_length (ps : List (Int × Int)) : ∀ out, (setF out ps).length = out.length := by
  induction ps with
  | nil => intro out; rfl
  | cons p ps ih => intro out; show (setF (out.set p.1.toNat p.2) ps).length = _; rw [ih]; simp
theorem setF_get : ∀ (ps : List (Int × Int)), (∀ p ∈ ps, 0 ≤ p.1) → ∀ (out : List Int) (x : Nat), (setF out ps)[x]? = (out[x]?).map (tof x ps)
  | [], _, out, x => by
    have : tof (x : Int) [] = id := rfl
    rw [this, Option.map_id]
    rfl
  | p :: ps, h, out, x => by
    have h0 := h p (by simp)
    show (setF (out.set p.1.toNat p.2) ps)[x]? = _
    rw [setF_get ps (fun q hq => h q (List.mem_cons_of_mem _ hq)), List.getElem?_set]
    by_cases e : p.1 = x
    · have e1 : p.1.toNat = x := by omega
      rw [if_pos e1]
      by_cases hx : x < out.length
      · simp [e1, hx, tof, e]
      · simp [e1, hx]
    · have e1 : ¬ p.1.toNat = x := by omega
      rw [if_neg e1]
      have : tof (x : Int) (p :: ps) = tof x ps := by
        funext t
        show tof x ps (if p.1 = x then p.2 else t) = _
        rw [if_neg e]
      rw [this]
def idL (n : Nat) : List Int := nats (List.range n)
theorem idL_length (n : Nat) : (idL n).length = n := by simp [idL, nats]
theorem idL_get {n x : Nat} (h : x < n) : (idL n)[x]? = some (x : Int) := by simp [idL, nats, h]
def ofL (n : Nat) (C : List (List Int)) : List Int := setF (idL n) (prs C)
def ofR (n : Nat) (C : List (List Int)) (x : Nat) : List Int := (List.range x).map fun x : Nat => tof x (prs C) x
theorem ofL_length (n : Nat) (C : List (List Int)) : (ofL n C).length = n := by rw [ofL, setF_length, idL_length]
theorem mem_pr {c : List Int} {p : Int × Int} (h : p ∈ pr c) : ∃ i, i < c.length ∧ p = (c.getD i 0, c.getD ((i + 1) % c.length) 0) := by
  unfold pr at h
  obtain ⟨i, hi, rfl⟩ := List.mem_map.1 h
  exact ⟨i, List.mem_range.1 hi, rfl⟩
theorem key_mem {C : List (List Int)} {p : Int × Int} (h : p ∈ prs C) : p.1 ∈ C.flatten := by
  simp only [prs, List.mem_flatten, List.mem_map] at h
  obtain ⟨_, ⟨c, hc, rfl⟩, hp⟩ := h
  simp only [pr, List.mem_map, List.mem_range] at hp
  obtain ⟨i, hi, rfl⟩ := hp
  refine List.mem_flatten.2 ⟨c, hc, ?_⟩
  show c.getD i 0 ∈ c
  rw [List.getD_eq_getElem?_getD, List.getElem?_eq_getElem hi]
  exact List.getElem_mem hi
theorem ofL_eq {n : Nat} {C : List (List Int)} (h : ∀ x ∈ C.flatten, 0 ≤ x) : ofL n C = ofR n C n := by
  refine List.ext_getElem? fun x => ?_
  rw [ofL, setF_get _ (fun p hp => h _ (key_mem hp))]
  by_cases hx : x < n
  · rw [idL_get hx]
    simp [ofR, hx]
  · rw [List.getElem?_eq_none (by rw [idL_length]; omega), List.getElem?_eq_none (by simp [ofR]; omega)]
    rfl
theorem tof_one {x v : Int} : ∀ (ps : List (Int × Int)) (t : Int), (∀ p ∈ ps, p.1 = x → p.2 = v) → (t = v ∨ ∃ p ∈ ps, p.1 = x) → tof x ps t = v
  | [], t, _, h => by
    rcases h with h | ⟨p, hp, _⟩
    · exact h
    · cases hp
  | p :: ps, t, h1, h2 => by
    show tof x ps (if p.1 = x then p.2 else t) = v
    refine tof_one ps _ (fun q hq => h1 q (List.mem_cons_of_mem _ hq)) ?_
    by_cases e : p.1 = x
    · rw [if_pos e]
      exact .inl (h1 p (by simp) e)
    · rw [if_neg e]
      rcases h2 with h | ⟨r, hr, er⟩
      · exact .inl h
      · rcases List.mem_cons.1 hr with rfl | hr
        · exact absurd er e
        · exact .inr ⟨r, hr, er⟩
/-! the cycles of an order -/
def cyI (q : List Nat) : List (List Int) := (cyL q).map nats
theorem nats_flat (ls : List (List Nat)) : (ls.map nats).flatten = nats ls.flatten := by
  induction ls with
  | nil => rfl
  | cons l ls ih => simp [nats] at ih ⊢; rw [ih]
theorem mem_cyL {q : List Nat} {l : List Nat} : l ∈ cyL q ↔ ∃ y, y < q.length ∧ isLead q y = true ∧ orb q y = l := by
  simp [cyL, and_assoc]
theorem lead_of {q : List Nat} (hq : IsP q) {x : Nat} (hx : x < q.length) : ∃ y, y < q.length ∧ isLead q y = true ∧ x ∈ orb q y := by
  have key : ∀ d x, x < q.length → x ≤ d → ∃ y, y < q.length ∧ isLead q y = true ∧ x ∈ orb q y := by
    intro d
    induction d with
    | zero =>
      intro x hx hd
      obtain rfl : x = 0 := by omega
      exact ⟨0, hx, rfl, orb_self hq hx⟩
    | succ d ih =>
      intro x hx hd
      cases h : isLead q x with
      | true => exact ⟨x, hx, h, orb_self hq hx⟩
      | false =>
        simp only [isLead, Bool.eq_false_iff, ne_eq, List.all_eq_true, List.mem_range, Bool.not_eq_true', List.contains_eq_mem, decide_eq_false_iff_not, Classical.not_forall, Decidable.not_not] at h
        obtain ⟨y, hy, hm⟩ := h
        obtain ⟨z, hz, h2, h3⟩ := ih y (by omega) (by omega)
        exact ⟨z, hz, h2, orb_trans hq hz h3 (by simpa using hm)⟩
  exact key x x hx (Nat.le_refl _)
theorem orb_nodup {q : List Nat} (hq : IsP q) {x : Nat} (hx : x < q.length) : (orb q x).Nodup := steps_nodup hq hx (per_ok hq hx).2.2
theorem cyL_nodup {q : List Nat} (hq : IsP q) : (cyL q).flatten.Nodup := by
  rw [List.Nodup, List.pairwise_flatten]
  refine ⟨?_, ?_⟩
  · intro l hl
    obtain ⟨y, hy, _, rfl⟩ := mem_cyL.1 hl
    exact orb_nodup hq hy
  · rw [cyL, List.pairwise_map]
    refine List.Pairwise.imp_of_mem ?_ (List.Pairwise.filter _ (List.pairwise_lt_range (n := q.length)))
    intro a b ha hb hab z hza z' hzb e
    subst e
    simp only [List.mem_filter, List.mem_range] at ha hb
    have h1 := orb_symm hq hb.1 hzb
    have h2 := orb_trans hq ha.1 hza h1
    have h3 := hb.2
    simp only [isLead, List.all_eq_true, List.mem_range, Bool.not_eq_true', List.contains_eq_mem, decide_eq_false_iff_not] at h3
    exact h3 a hab h2
theorem cyL_mem {q : List Nat} (hq : IsP q) {x : Nat} : x ∈ (cyL q).flatten ↔ x < q.length := by
  rw [List.mem_flatten]
  constructor
  · rintro ⟨l, hl, hx⟩
    obtain ⟨y, hy, _, rfl⟩ := mem_cyL.1 hl
    exact orb_lt hq hy hx
  · intro hx
    obtain ⟨y, hy, h1, h2⟩ := lead_of hq hx
    exact ⟨orb q y, mem_cyL.2 ⟨y, hy, h1, rfl⟩, h2⟩
theorem cyL_many {q : List Nat} (hq : IsP q) : (cyL q).flatten.length = q.length := by
  have : (cyL q).flatten.Perm (List.range q.length) := (List.perm_ext_iff_of_nodup (cyL_nodup hq) List.nodup_range).2 fun x => by rw [cyL_mem hq, List.mem_range]
  simpa using this.length_eq
theorem okC_cy {q : List Nat} (hq : IsP q) : okC q.length (cyI q) = true := by
  simp only [okC, Bool.and_eq_true, List.all_eq_true]
  refine ⟨?_, ?_⟩
  · intro c hc
    simp only [cyI, List.mem_map] at hc
    obtain ⟨l, hl, rfl⟩ := hc
    obtain ⟨y, hy, _, rfl⟩ := mem_cyL.1 hl
    have h1 := (per_ok hq hy).1
    have h2 : (nats (orb q y)).length = per q y := by rw [nats_length, orb_length]
    cases e : nats (orb q y) with
    | nil => rw [e] at h2; simp at h2; omega
    | cons => rfl
  · rw [ckL_iff _ _ _ (by simp)]
    refine ⟨(cyL q).flatten, by rw [cyI, nats_flat], fun x hx => ?_, cyL_nodup hq⟩
    have := (cyL_mem hq).1 hx
    exact ⟨this, by simp [this]⟩
theorem prs_cy {q : List Nat} (hq : IsP q) {p : Int × Int} (h : p ∈ prs (cyI q)) : ∃ x : Nat, x < q.length ∧ p = ((x : Int), ((ap q x : Nat) : Int)) := by
  simp only [prs, cyI, List.mem_flatten, List.mem_map] at h
  obtain ⟨_, ⟨_, ⟨l, hl, rfl⟩, rfl⟩, hp⟩ := h
  obtain ⟨y, hy, _, rfl⟩ := mem_cyL.1 hl
  simp only [pr, List.mem_map, List.mem_range] at hp
  obtain ⟨i, hi, rfl⟩ := hp
  rw [nats_length, orb_length] at hi
  have hp := per_ok hq hy
  have e1 : (nats (orb q y)).length = per q y := by rw [nats_length, orb_length]
  have e2 : ∀ j, j < per q y → (nats (orb q y)).getD j 0 = ((it q j y : Nat) : Int) := by
    intro j hj
    rw [List.getD_eq_getElem?_getD, nats_get, orb, steps_get q hj]
    rfl
  refine ⟨it q i y, it_lt hq hy i, ?_⟩
  rw [e1, e2 i hi, e2 _ (Nat.mod_lt _ hp.1), ← it_mod hp.2.1]
  rfl
theorem ofL_cy {q : List Nat} (hq : IsP q) : ofL q.length (cyI q) = nats q := by
  have h0 : ∀ x ∈ (cyI q).flatten, (0 : Int) ≤ x := by
    rw [cyI, nats_flat]
    intro x hx
    simp only [nats, List.mem_map] at hx
    obtain ⟨y, _, rfl⟩ := hx
    omega
  rw [ofL_eq h0]
  refine List.ext_getElem? fun x => ?_
  by_cases hx : x < q.length
  · have e : tof x (prs (cyI q)) x = ((ap q x : Nat) : Int) := by
      refine tof_one _ _ ?_ (.inr ?_)
      · intro p hp e
        obtain ⟨y, _, rfl⟩ := prs_cy hq hp
        have : y = x := by have e' : (y : Int) = x := e; omega
        rw [this]
      · obtain ⟨y, hy, h1, h2⟩ := lead_of hq hx
        obtain ⟨i, hi⟩ := List.mem_iff_getElem?.1 h2
        have hlt : i < per q y := by
          obtain ⟨h, _⟩ := List.getElem?_eq_some_iff.1 hi
          rwa [orb_length] at h
        have hn : i < (nats (orb q y)).length := by rw [nats_length, orb_length]; exact hlt
        refine ⟨((nats (orb q y)).getD i 0, (nats (orb q y)).getD ((i + 1) % (nats (orb q y)).length) 0), ?_, ?_⟩
        · simp only [prs, cyI, List.mem_flatten, List.mem_map]
          refine ⟨_, ⟨_, ⟨_, mem_cyL.2 ⟨y, hy, h1, rfl⟩, rfl⟩, rfl⟩, ?_⟩
          simp only [pr, List.mem_map, List.mem_range]
          exact ⟨i, hn, rfl⟩
        · show (nats (orb q y)).getD i 0 = x
          rw [List.getD_eq_getElem?_getD, nats_get, hi]
          rfl
    rw [nats_get, get_of hx]
    simp [ofR, hx, e]
  · rw [List.getElem?_eq_none (by simp [ofR]; omega), List.getElem?_eq_none (by rw [nats_length]; omega)]
/-! the reference's check -/
theorem okC_iff (n : Nat) (C : List (List Int)) : okC n C = true ↔ (∀ c ∈ C, 0 < c.length) ∧ (∀ x ∈ C.flatten, 0 ≤ x ∧ x < n) ∧ C.flatten.Nodup := by
  simp only [okC, Bool.and_eq_true, List.all_eq_true]
  refine and_congr ?_ ?_
  · refine forall_congr' fun c => imp_congr_right fun _ => ?_
    cases c <;> simp
  · rw [ckL_iff _ _ _ (by simp)]
    constructor
    · rintro ⟨Q, e, h1, h2⟩
      rw [e]
      refine ⟨?_, ?_⟩
      · intro x hx
        simp only [nats, List.mem_map] at hx
        obtain ⟨y, hy, rfl⟩ := hx
        have := (h1 y hy).1
        omega
      · rw [nats, List.Nodup, List.pairwise_map]
        exact h2.imp fun h e => h (by omega)
    · rintro ⟨h1, h2⟩
      refine ⟨C.flatten.map Int.toNat, ?_, ?_, ?_⟩
      · rw [nats, List.map_map]
        conv => lhs; rw [← List.map_id C.flatten]
        refine List.map_congr_left fun x hx => ?_
        have := h1 x hx
        simp only [id, Function.comp]
        omega
      · intro x hx
        simp only [List.mem_map] at hx
        obtain ⟨y, hy, rfl⟩ := hx
        have := h1 y hy
        have h3 : y.toNat < n := by omega
        exact ⟨h3, by simp [h3]⟩
      · rw [List.Nodup, List.pairwise_map]
        refine List.Pairwise.imp_of_mem ?_ h2
        intro a b ha hb hab e
        have := h1 a ha
        have := h1 b hb
        exact hab (by omega)
end Go.PermM
