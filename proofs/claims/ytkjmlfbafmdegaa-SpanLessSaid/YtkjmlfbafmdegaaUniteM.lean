/- Groups that are united and parted again, in plain words: a forest whose roots bear sizes and least members; each member's label is its group's least member. -/
namespace Go.UniteM
def g (l : List Nat) (i : Nat) : Nat := l.getD i 0
theorem g_get {l : List Nat} {i : Nat} (h : i < l.length) : l[i]? = some (g l i) := by simp [g, List.getD_eq_getElem?_getD, h]
theorem g_set {l : List Nat} {i j v : Nat} (h : i < l.length) : g (l.set i v) j = if j = i then v else g l j := by
  simp only [g, List.getD_eq_getElem?_getD, List.getElem?_set]
  by_cases e : i = j
  · subst e
    simp [h]
  · rw [if_neg e, if_neg fun h => e h.symm]
theorem g_map {l : List Nat} {f : Nat → Nat} {i : Nat} (h : i < l.length) : g (l.map f) i = f (g l i) := by
  simp [g, List.getD_eq_getElem?_getD, List.getElem?_eq_getElem h]
theorem set_self {l : List Nat} {i : Nat} : l.set i (g l i) = l := by
  refine List.ext_getElem? fun j => ?_
  rw [List.getElem?_set]
  by_cases e : i = j
  · subst e
    by_cases h : i < l.length
    · rw [if_pos rfl, if_pos h, g_get h]
    · rw [if_pos rfl, if_neg h, List.getElem?_eq_none (by omega)]
  · rw [if_neg e]
/-- Who is above each; sizes and leasts, at roots; what the joins did. -/
structure U where
  ab : List Nat
  sz : List Nat
  le : List Nat
  st : List (Nat × Nat × Nat)
/-- Numbers below n that are their own labels. -/
def fx (L : List Nat) (n : Nat) : Nat := ((List.range n).filter fun x => g L x == x).length
structure Ok (n : Nat) (u : U) (L : List Nat) (r d : Nat → Nat) : Prop where
  la : u.ab.length = n
  ls : u.sz.length = n
  ll : u.le.length = n
  lL : L.length = n
  rlt : ∀ x, x < n → r x < n
  rr : ∀ x, x < n → r (r x) = r x
  top : ∀ x, x < n → (g u.ab x = x ↔ r x = x)
  up : ∀ x, x < n → g u.ab x ≠ x → g u.ab x < n ∧ r (g u.ab x) = r x ∧ d (g u.ab x) < d x
  lab : ∀ x, x < n → g L x = g u.le (r x)
  same : ∀ x y, x < n → y < n → (r x = r y ↔ g L x = g L y)
  low : ∀ x, x < n → g L x ≤ x ∧ g L (g L x) = g L x
  siz : ∀ x, x < n → g u.sz (r x) = L.count (g L x)
  num : fx L n + u.st.length = n
  stk : ∀ s ∈ u.st, s.1 < n ∧ s.2.1 < n ∧ s.2.2 < n
  szn : ∀ x, x < n → g u.sz x ≤ n
  len : ∀ x, x < n → g u.le x < n
def joinU (u : U) (x y : Nat) : U := ⟨u.ab.set x y, u.sz.set y (g u.sz y + g u.sz x), u.le.set y (min (g u.le y) (g u.le x)), u.st ++ [(x, y, g u.le y)]⟩
def joinL (L : List Nat) (p q : Nat) : List Nat := L.map fun v => if v = max p q then min p q else v
def newU (n : Nat) : U := ⟨List.range n, List.replicate n 1, List.range n, []⟩
theorem g_range {n i : Nat} (h : i < n) : g (List.range n) i = i := by simp [g, List.getD_eq_getElem?_getD, h]
theorem g_rep {n i v : Nat} (h : i < n) : g (List.replicate n v) i = v := by simp [g, List.getD_eq_getElem?_getD, h]
theorem count_range : ∀ {n x : Nat}, x < n → (List.range n).count x = 1 := by
  intro n x h
  have := (List.nodup_range (n := n)).count (a := x)
  rw [this]
  simp [h]
theorem new_ok (n : Nat) : Ok n (newU n) (List.range n) (fun x => x) (fun _ => 0) where
  la := by simp [newU]
  ls := by simp [newU]
  ll := by simp [newU]
  lL := by simp
  rlt x h := h
  rr x _ := rfl
  top x h := by simp [newU, g_range h]
  up x h h2 := absurd (g_range h) h2
  lab x h := by simp [newU, g_range h]
  same x y h1 h2 := by rw [g_range h1, g_range h2]
  low x h := by rw [g_range h, g_range h]; exact ⟨Nat.le_refl _, rfl⟩
  siz x h := by
    rw [g_range h, count_range h]
    exact g_rep h
  num := by
    have : (List.range n).filter (fun x => g (List.range n) x == x) = List.range n := List.filter_eq_self.2 fun x hx => by
      rw [g_range (List.mem_range.1 hx)]
      simp
    simp only [fx, this, List.length_range]
    rfl
  stk s h := by cases h
  szn x h := by
    rw [show g (newU n).sz x = 1 from g_rep h]
    omega
  len x h := by
    rw [show g (newU n).le x = x from g_range h]
    exact h
theorem count_map (p q : Nat) (h : p < q) (v : Nat) : ∀ L : List Nat, (L.map fun v => if v = q then p else v).count v = if v = q then 0 else if v = p then L.count p + L.count q else L.count v
  | [] => by simp
  | x :: L => by
    have ih := count_map p q h v L
    simp only [List.map_cons, List.count_cons, ih]
    by_cases e1 : x = q
    · subst e1
      by_cases e2 : v = x
      · subst e2
        simp [show ¬ p = v by omega]
      · by_cases e3 : v = p
        · subst e3
          simp [e2, show ¬ x = v by omega]
          omega
        · simp [e2, e3, show ¬ p = v from fun h => e3 h.symm, show ¬ x = v from fun h => e2 h.symm]
    · by_cases e2 : v = q
      · subst e2
        simp [e1]
      · by_cases e3 : v = p
        · subst e3
          simp [e1, e2]
          omega
        · simp [e1, e2, e3]
theorem fx_join {L : List Nat} {n p q : Nat} (hL : L.length = n) (h : p < q) (hq : q < n) (hqq : g L q = q) (low : ∀ x, x < n → g L x ≤ x) :
    fx (L.map fun v => if v = q then p else v) n + 1 = fx L n := by
  have key : ∀ m, m ≤ n → ((List.range m).filter fun x => g (L.map fun v => if v = q then p else v) x == x).length + (if q < m then 1 else 0) = ((List.range m).filter fun x => g L x == x).length := by
    intro m
    induction m with
    | zero => intro _; rfl
    | succ m ih =>
      intro hm
      have ih := ih (by omega)
      rw [List.range_succ, List.filter_append, List.filter_append, List.length_append, List.length_append]
      have hg : g (L.map fun v => if v = q then p else v) m = if g L m = q then p else g L m := g_map (by omega)
      have hlow := low m (by omega)
      by_cases e1 : m = q
      · subst e1
        have : ¬ p = m := by omega
        rw [if_neg (by omega)] at ih
        simp [hg, hqq, this]
        omega
      · by_cases e2 : g L m = q
        · have e3 : ¬ p = m := by omega
          have e4 : ¬ q = m := fun h => e1 h.symm
          have e5 : (q < m + 1) = (q < m) := propext (by omega)
          simp [hg, e2, e3, e4, e5]
          exact ih
        · have e5 : (q < m + 1) = (q < m) := propext (by omega)
          rw [if_neg e2] at hg
          by_cases e6 : g L m = m
          · simp [hg, e6, e5]
            omega
          · simp [hg, e6, e5]
            exact ih
  have := key n (Nat.le_refl _)
  rw [if_pos hq] at this
  exact this
set_option maxHeartbeats 2000000 in
theorem join_ok {n : Nat} {u : U} {L : List Nat} {r d : Nat → Nat} (o : Ok n u L r d) {a b : Nat} (ha : a < n) (hb : b < n) (h : r a ≠ r b) :
    Ok n (joinU u (r a) (r b)) (joinL L (g L a) (g L b)) (fun z => if r z = r a then r b else r z) (fun z => d z + if r z = r a then d (r b) + 1 else 0) := by
  have hra := o.rlt a ha
  have hrb := o.rlt b hb
  have hrra := o.rr a ha
  have hrrb := o.rr b hb
  have hne : g L a ≠ g L b := fun e => h ((o.same a b ha hb).2 e)
  obtain ⟨p, q, hpq, hp, hq⟩ : ∃ p q, p < q ∧ min (g L a) (g L b) = p ∧ max (g L a) (g L b) = q := ⟨_, _, by omega, rfl, rfl⟩
  have hcase : (g L a = p ∧ g L b = q) ∨ (g L a = q ∧ g L b = p) := by omega
  have hqn : q < n := by
    have h1 := (o.low a ha).1
    have h2 := (o.low b hb).1
    omega
  have hpn : p < n := by omega
  have hqq : g L q = q := by
    rcases hcase with ⟨_, e⟩ | ⟨e, _⟩
    · rw [← e]; exact (o.low b hb).2
    · rw [← e]; exact (o.low a ha).2
  have hpp : g L p = p := by
    rcases hcase with ⟨e, _⟩ | ⟨_, e⟩
    · rw [← e]; exact (o.low a ha).2
    · rw [← e]; exact (o.low b hb).2
  have hJ : joinL L (g L a) (g L b) = L.map fun v => if v = q then p else v := by simp only [joinL, hp, hq]
  have hg : ∀ z, z < n → g (L.map fun v => if v = q then p else v) z = if g L z = q then p else g L z := fun z hz => g_map (by rw [o.lL]; exact hz)
  have hsa : ∀ z, z < n → (r z = r a ↔ g L z = g L a) := fun z hz => o.same z a hz ha
  have hsb : ∀ z, z < n → (r z = r b ↔ g L z = g L b) := fun z hz => o.same z b hz hb
  have hm : ∀ z, z < n → (r z = r a ∨ r z = r b) → (g L z = p ∨ g L z = q) := by
    intro z hz h'
    rcases h' with h' | h'
    · have := (hsa z hz).1 h'; omega
    · have := (hsb z hz).1 h'; omega
  have hm2 : ∀ z, z < n → (g L z = p ∨ g L z = q) → (r z = r a ∨ r z = r b) := by
    intro z hz h'
    have : g L z = g L a ∨ g L z = g L b := by omega
    rcases this with h' | h'
    · exact .inl ((hsa z hz).2 h')
    · exact .inr ((hsb z hz).2 h')
  have hla := o.lab a ha
  have hlb := o.lab b hb
  have hsza := o.siz a ha
  have hszb := o.siz b hb
  have hcnt : L.count p + L.count q ≤ n := by
    have h1 := count_map p q hpq p L
    rw [if_neg (by omega), if_pos rfl] at h1
    rw [← h1]
    have := List.count_le_length (a := p) (l := L.map fun v => if v = q then p else v)
    simpa [o.lL] using this
  have hsum : g u.sz (r b) + g u.sz (r a) = L.count p + L.count q := by
    rw [hsza, hszb]
    rcases hcase with ⟨e1, e2⟩ | ⟨e1, e2⟩ <;> rw [e1, e2] <;> omega
  have hmin : min (g u.le (r b)) (g u.le (r a)) = p := by rw [← hla, ← hlb]; omega
  rw [hJ]
  refine
    { la := by simp [joinU, o.la]
      ls := by simp [joinU, o.ls]
      ll := by simp [joinU, o.ll]
      lL := by simp [o.lL]
      rlt := fun x hx => ?_
      rr := fun x hx => ?_
      top := fun x hx => ?_
      up := fun x hx hx2 => ?_
      lab := fun x hx => ?_
      same := fun x y hx hy => ?_
      low := fun x hx => ?_
      siz := fun x hx => ?_
      num := ?_
      stk := fun s hs => ?_
      szn := fun x hx => ?_
      len := fun x hx => ?_ }
  · show (if r x = r a then r b else r x) < n
    split
    · exact hrb
    · exact o.rlt x hx
  · show (if r (if r x = r a then r b else r x) = r a then r b else r (if r x = r a then r b else r x)) = if r x = r a then r b else r x
    by_cases e : r x = r a
    · simp only [if_pos e, hrrb]
      rw [if_neg fun h' => h h'.symm]
    · simp only [if_neg e, o.rr x hx]
  · show g (u.ab.set (r a) (r b)) x = x ↔ _
    rw [g_set (by rw [o.la]; exact hra)]
    have ht := o.top x hx
    by_cases e : x = r a
    · subst e
      simp only [if_true, hrra]
    · rw [if_neg e, ht]
      by_cases e2 : r x = r a
      · rw [if_pos e2]
        constructor
        · intro h'; exact absurd (h'.symm.trans e2) e
        · intro h'
          subst h'
          exact absurd (hrrb.symm.trans e2).symm h
      · rw [if_neg e2]
  · have hE : g (joinU u (r a) (r b)).ab x = if x = r a then r b else g u.ab x := g_set (by rw [o.la]; exact hra)
    rw [hE] at hx2
    simp only [hE]
    by_cases e : x = r a
    · subst e
      simp only [if_true, hrra, hrrb]
      refine ⟨hrb, ?_, ?_⟩
      · rw [if_neg fun h' => h h'.symm]
      · rw [if_neg fun h' => h h'.symm]
        omega
    · rw [if_neg e] at hx2
      simp only [if_neg e]
      obtain ⟨h1, h2, h3⟩ := o.up x hx hx2
      refine ⟨h1, ?_, ?_⟩
      · simp only [h2]
      · simp only [h2]
        omega
  · rw [hg x hx]
    show _ = g (u.le.set (r b) (min (g u.le (r b)) (g u.le (r a)))) (if r x = r a then r b else r x)
    rw [g_set (by rw [o.ll]; exact hrb), hmin]
    by_cases e : r x = r a
    · have := hm x hx (.inl e)
      rw [if_pos e, if_pos rfl]
      split <;> omega
    · rw [if_neg e]
      by_cases e2 : r x = r b
      · have := hm x hx (.inr e2)
        rw [if_pos e2]
        split <;> omega
      · rw [if_neg e2, ← o.lab x hx, if_neg]
        intro h'
        rcases hm2 x hx (.inr h') with h' | h'
        · exact e h'
        · exact e2 h'
  · show (if r x = r a then r b else r x) = (if r y = r a then r b else r y) ↔ _
    rw [hg x hx, hg y hy]
    have hxa := hsa x hx
    have hxb := hsb x hx
    have hya := hsa y hy
    have hyb := hsb y hy
    have hxy := o.same x y hx hy
    by_cases e1 : r x = r a
    · rw [if_pos e1]
      have e1' := hxa.1 e1
      by_cases e2 : r y = r a
      · rw [if_pos e2]
        have e2' := hya.1 e2
        simp [e1', e2']
      · rw [if_neg e2]
        have e2' : ¬ g L y = g L a := fun h => e2 (hya.2 h)
        constructor
        · intro h'
          have e3 := hyb.1 h'.symm
          split <;> split <;> omega
        · intro h'
          refine (hyb.2 ?_).symm
          split at h' <;> split at h' <;> omega
    · rw [if_neg e1]
      have e1' : ¬ g L x = g L a := fun h => e1 (hxa.2 h)
      by_cases e2 : r y = r a
      · rw [if_pos e2]
        have e2' := hya.1 e2
        constructor
        · intro h'
          have e3 := hxb.1 h'
          split <;> split <;> omega
        · intro h'
          refine hxb.2 ?_
          split at h' <;> split at h' <;> omega
      · rw [if_neg e2, hxy]
        have e2' : ¬ g L y = g L a := fun h => e2 (hya.2 h)
        constructor
        · intro h'
          rw [h']
        · intro h'
          split at h' <;> split at h' <;> omega
  · rw [hg x hx]
    have h1 := o.low x hx
    by_cases e : g L x = q
    · rw [if_pos e]
      have hpx : p < n := by omega
      rw [hg p hpx, hpp, if_neg (by omega)]
      omega
    · rw [if_neg e]
      refine ⟨h1.1, ?_⟩
      rw [hg _ (by omega), h1.2, if_neg e]
  · show g (u.sz.set (r b) (g u.sz (r b) + g u.sz (r a))) (if r x = r a then r b else r x) = _
    rw [g_set (by rw [o.ls]; exact hrb), hg x hx, hsum, count_map p q hpq]
    by_cases e : r x = r a
    · have := hm x hx (.inl e)
      have e1 : (if g L x = q then p else g L x) = p := by split <;> omega
      rw [if_pos e, if_pos rfl, e1, if_neg (by omega), if_pos rfl]
    · rw [if_neg e]
      by_cases e2 : r x = r b
      · have := hm x hx (.inr e2)
        have e1 : (if g L x = q then p else g L x) = p := by split <;> omega
        rw [if_pos e2, e1, if_neg (by omega), if_pos rfl]
      · have hn : ¬ (g L x = p ∨ g L x = q) := fun h' => by
          rcases hm2 x hx h' with h' | h'
          · exact e h'
          · exact e2 h'
        have e1 : (if g L x = q then p else g L x) = g L x := if_neg fun h => hn (.inr h)
        rw [if_neg e2, e1, o.siz x hx, if_neg fun h => hn (.inr h), if_neg fun h => hn (.inl h)]
  · have h1 := fx_join o.lL hpq hqn hqq fun x hx => (o.low x hx).1
    have h2 := o.num
    simp only [joinU, List.length_append, List.length_cons, List.length_nil]
    omega
  · rcases List.mem_append.1 hs with hs | hs
    · exact o.stk s hs
    · simp at hs
      subst hs
      exact ⟨hra, hrb, o.len _ hrb⟩
  · show g (u.sz.set (r b) (g u.sz (r b) + g u.sz (r a))) x ≤ n
    rw [g_set (by rw [o.ls]; exact hrb), hsum]
    split
    · exact hcnt
    · exact o.szn x hx
  · show g (u.le.set (r b) (min (g u.le (r b)) (g u.le (r a)))) x < n
    rw [g_set (by rw [o.ll]; exact hrb), hmin]
    split
    · exact hpn
    · exact o.len x hx
/-- The last join undone. -/
def undo (u : U) (s : Nat × Nat × Nat) : U := ⟨u.ab.set s.1 s.1, u.sz.set s.2.1 (g u.sz s.2.1 - g u.sz s.1), u.le.set s.2.1 s.2.2, u.st.take (u.st.length - 1)⟩
theorem undo_join {u : U} {x y : Nat} (hx : x < u.ab.length) (hxs : x < u.sz.length) (hys : y < u.sz.length) (hyl : y < u.le.length) (h : x ≠ y) (ht : g u.ab x = x) : undo (joinU u x y) (x, y, g u.le y) = u := by
  cases u with
  | mk ab sz le st =>
    simp only [undo, joinU] at *
    rw [g_set hys, g_set hys, if_pos rfl, if_neg h, Nat.add_sub_cancel]
    have e1 : (ab.set x y).set x x = ab := by
      rw [List.set_set]
      have := set_self (l := ab) (i := x)
      rwa [ht] at this
    have e2 : (sz.set y (g sz y + g sz x)).set y (g sz y) = sz := by rw [List.set_set]; exact set_self
    have e3 : (le.set y (min (g le y) (g le x))).set y (g le y) = le := by rw [List.set_set]; exact set_self
    rw [e1, e2, e3]
    simp
/-- A join: the less group comes beneath the greater one. -/
def jn (u : U) (r : Nat → Nat) (a b : Nat) : U := if g u.sz (r b) < g u.sz (r a) then joinU u (r b) (r a) else joinU u (r a) (r b)
theorem joinL_comm (L : List Nat) (p q : Nat) : joinL L p q = joinL L q p := by simp only [joinL, Nat.max_comm p q, Nat.min_comm p q]
theorem joinL_at {L : List Nat} {a p q : Nat} (ha : a < L.length) : g (joinL L p q) a = if g L a = max p q then min p q else g L a := g_map ha
theorem jn_ok {n : Nat} {u : U} {L : List Nat} {r d : Nat → Nat} (o : Ok n u L r d) {a b : Nat} (ha : a < n) (hb : b < n) (h : g L a ≠ g L b) :
    ∃ r' d', Ok n (jn u r a b) (joinL L (g L a) (g L b)) r' d' ∧ r' b = r' a := by
  have hr : r a ≠ r b := fun e => h ((o.same a b ha hb).1 e)
  have hl : g (joinL L (g L a) (g L b)) b = g (joinL L (g L a) (g L b)) a := by
    rw [joinL_at (by rw [o.lL]; exact hb), joinL_at (by rw [o.lL]; exact ha)]
    split <;> split <;> omega
  unfold jn
  split
  · have o' := join_ok o hb ha (Ne.symm hr)
    rw [joinL_comm] at o'
    exact ⟨_, _, o', (o'.same b a hb ha).2 hl⟩
  · have o' := join_ok o ha hb hr
    exact ⟨_, _, o', (o'.same b a hb ha).2 hl⟩
/-- What stood behind each number of joins. -/
structure Hist (n : Nat) (u : U) (h : Nat → U) : Prop where
  top : h u.st.length = u
  ok : ∀ t, t ≤ u.st.length → ∃ L r d, Ok n (h t) L r d
  st : ∀ t, t ≤ u.st.length → (h t).st = u.st.take t
  step : ∀ t, t < u.st.length → ∃ x y, x < n ∧ y < n ∧ x ≠ y ∧ g (h t).ab x = x ∧ h (t + 1) = joinU (h t) x y
theorem Hist.new (n : Nat) : Hist n (newU n) (fun _ => newU n) where
  top := rfl
  ok t _ := ⟨_, _, _, new_ok n⟩
  st t _ := by simp [newU]
  step t h := by simp [newU] at h
theorem Hist.join {n : Nat} {u : U} {h : Nat → U} (H : Hist n u h) {L : List Nat} {r d : Nat → Nat} (o : Ok n u L r d) {a b : Nat} (ha : a < n) (hb : b < n) (hab : r a ≠ r b) :
    Hist n (joinU u (r a) (r b)) (fun t => if t = u.st.length + 1 then joinU u (r a) (r b) else h t) := by
  have hl : (joinU u (r a) (r b)).st.length = u.st.length + 1 := by simp [joinU]
  refine ⟨?_, fun t ht => ?_, fun t ht => ?_, fun t ht => ?_⟩
  · simp [hl]
  · rw [hl] at ht
    by_cases e : t = u.st.length + 1
    · rw [if_pos e]
      exact ⟨_, _, _, join_ok o ha hb hab⟩
    · rw [if_neg e]
      exact H.ok t (by omega)
  · rw [hl] at ht
    by_cases e : t = u.st.length + 1
    · rw [if_pos e, List.take_of_length_le (by omega)]
    · rw [if_neg e, H.st t (by omega)]
      show u.st.take t = (u.st ++ [(r a, r b, g u.le (r b))]).take t
      rw [List.take_append_of_le_length (by omega)]
  · rw [hl] at ht
    simp only [if_neg (show ¬ t = u.st.length + 1 by omega)]
    by_cases e : t = u.st.length
    · subst e
      rw [if_pos rfl, H.top]
      exact ⟨r a, r b, o.rlt a ha, o.rlt b hb, hab, (o.top _ (o.rlt a ha)).2 (o.rr a ha), rfl⟩
    · rw [if_neg (by omega)]
      exact H.step t (by omega)
theorem Hist.jn {n : Nat} {u : U} {h : Nat → U} (H : Hist n u h) {L : List Nat} {r d : Nat → Nat} (o : Ok n u L r d) {a b : Nat} (ha : a < n) (hb : b < n) (hab : g L a ≠ g L b) :
    Hist n (jn u r a b) (fun t => if t = u.st.length + 1 then jn u r a b else h t) := by
  have hr : r a ≠ r b := fun e => hab ((o.same a b ha hb).1 e)
  unfold UniteM.jn
  split
  · exact H.join o hb ha (Ne.symm hr)
  · exact H.join o ha hb hr
theorem jn_len (u : U) (r : Nat → Nat) (a b : Nat) : (jn u r a b).st.length = u.st.length + 1 := by
  unfold jn
  split <;> simp [joinU]
theorem Hist.back {n : Nat} {u : U} {h : Nat → U} (H : Hist n u h) {k : Nat} (hk : k ≤ u.st.length) : Hist n (h k) h := by
  have hl : (h k).st.length = k := by rw [H.st k hk, List.length_take]; omega
  refine ⟨by rw [hl], fun t ht => H.ok t (by omega), fun t ht => ?_, fun t ht => H.step t (by omega)⟩
  rw [hl] at ht
  rw [H.st t (by omega), H.st k hk, List.take_take, Nat.min_eq_left ht]
/-! the groups' sizes, each counted at its least member -/
def sc (L : List Nat) : Nat → Nat
  | 0 => 0
  | n + 1 => sc L n + L.count n
theorem sc_cons (v : Nat) (L : List Nat) : ∀ n, sc (v :: L) n = sc L n + if v < n then 1 else 0
  | 0 => by simp [sc]
  | n + 1 => by
    simp only [sc, sc_cons v L n, List.count_cons]
    by_cases h1 : v = n
    · subst h1
      simp
      omega
    · by_cases h2 : v < n
      · simp [h1, h2, show v < n + 1 by omega]
        omega
      · simp [h1, h2, show ¬ v < n + 1 by omega]
theorem sc_nil : ∀ n, sc [] n = 0
  | 0 => rfl
  | n + 1 => by simp [sc, sc_nil n]
theorem sc_all {n : Nat} : ∀ {L : List Nat}, (∀ v ∈ L, v < n) → sc L n = L.length
  | [], _ => sc_nil n
  | v :: L, h => by
    rw [sc_cons, sc_all fun w hw => h w (List.mem_cons_of_mem _ hw), if_pos (h v (List.mem_cons_self ..))]
    rfl
theorem sc_mono (L : List Nat) {a : Nat} : ∀ {b : Nat}, a ≤ b → sc L a ≤ sc L b
  | 0, h => by
    obtain rfl : a = 0 := by omega
    exact Nat.le_refl _
  | b + 1, h => by
    by_cases e : a = b + 1
    · rw [e]; exact Nat.le_refl _
    · exact Nat.le_trans (sc_mono L (by omega : a ≤ b)) (Nat.le_add_right _ _)
theorem count_zero {n : Nat} {u : U} {L : List Nat} {r d : Nat → Nat} (o : Ok n u L r d) {x : Nat} (h : g L x ≠ x) : L.count x = 0 := by
  rw [List.count_eq_zero]
  intro hm
  obtain ⟨z, hz⟩ := List.mem_iff_getElem?.1 hm
  obtain ⟨h1, _⟩ := List.getElem?_eq_some_iff.1 hz
  rw [g_get h1] at hz
  have h2 := (o.low z (by rw [← o.lL]; exact h1)).2
  rw [Option.some.inj hz] at h2
  exact h h2
theorem sc_lt {n : Nat} {u : U} {L : List Nat} {r d : Nat → Nat} (o : Ok n u L r d) : sc L n = n := by
  rw [sc_all, o.lL]
  intro v hv
  obtain ⟨z, hz⟩ := List.mem_iff_getElem?.1 hv
  obtain ⟨h1, _⟩ := List.getElem?_eq_some_iff.1 hz
  rw [g_get h1] at hz
  have hzn : z < n := by rw [← o.lL]; exact h1
  have h2 := (o.low z hzn).1
  rw [Option.some.inj hz] at h2
  omega
theorem fx_yes {L : List Nat} {x : Nat} (h : g L x = x) : fx L (x + 1) = fx L x + 1 := by simp [fx, List.range_succ, h]
theorem fx_no {L : List Nat} {x : Nat} (h : ¬ g L x = x) : fx L (x + 1) = fx L x := by simp [fx, List.range_succ, h]
theorem fx_le (L : List Nat) (x : Nat) : fx L x ≤ x := Nat.le_trans (List.length_filter_le _ _) (by simp)
end Go.UniteM
