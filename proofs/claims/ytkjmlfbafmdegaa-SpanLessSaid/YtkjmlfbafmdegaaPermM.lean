/- Orders that turn round, in plain words: lists of numbers, each once; their iterates, periods and orbits. -/
namespace Go.PermM

def IsP (q : List Nat) : Prop := (∀ x ∈ q, x < q.length) ∧ q.Nodup
def ap (q : List Nat) (i : Nat) : Nat := q.getD i 0
def it (q : List Nat) : Nat → Nat → Nat
  | 0, x => x
  | k + 1, x => ap q (it q k x)

theorem pigeon : ∀ (n : Nat) (l : List Nat), l.Nodup → (∀ x ∈ l, x < n) → l.length ≤ n
  | 0, l, _, h => by
    cases l with
    | nil => exact Nat.le_refl _
    | cons x l => exact absurd (h x (by simp)) (by omega)
  | n + 1, l, hn, h => by
    by_cases hm : n ∈ l
    · have h1 := pigeon n (l.erase n) (hn.erase n) (fun x hx => by
        have h2 := h x (List.mem_of_mem_erase hx)
        have : x ≠ n := fun e => by
          subst e
          exact absurd hx (List.Nodup.not_mem_erase hn)
        omega)
      rw [List.length_erase_of_mem hm] at h1
      omega
    · have h1 := pigeon n l hn (fun x hx => by
        have := h x hx
        have : x ≠ n := fun e => hm (e ▸ hx)
        omega)
      omega

theorem getD_of {q : List Nat} {i x : Nat} (h : q[i]? = some x) : ap q i = x := by simp [ap, List.getD_eq_getElem?_getD, h]
theorem get_of {q : List Nat} {i : Nat} (h : i < q.length) : q[i]? = some (ap q i) := by simp [ap, List.getD_eq_getElem?_getD, h]
section
variable {q : List Nat} (hq : IsP q)
include hq
theorem ap_lt {i : Nat} (h : i < q.length) : ap q i < q.length := hq.1 _ (List.mem_of_getElem? (get_of h))
theorem ap_inj {i j : Nat} (hi : i < q.length) (hj : j < q.length) (h : ap q i = ap q j) : i = j := by
  have h1 := get_of hi
  have h2 := get_of hj
  rw [h] at h1
  obtain ⟨_, h3⟩ := List.getElem?_eq_some_iff.1 h1
  obtain ⟨_, h4⟩ := List.getElem?_eq_some_iff.1 h2
  have hp := List.pairwise_iff_getElem.1 hq.2
  rcases Nat.lt_trichotomy i j with e | e | e
  · exact absurd (h3.trans h4.symm) (hp i j hi hj e)
  · exact e
  · exact absurd (h4.trans h3.symm) (hp j i hj hi e)
theorem it_lt {x : Nat} (h : x < q.length) : ∀ k, it q k x < q.length
  | 0 => h
  | k + 1 => ap_lt hq (it_lt h k)
theorem it_inj {x y : Nat} (hx : x < q.length) (hy : y < q.length) : ∀ k, it q k x = it q k y → x = y
  | 0, h => h
  | k + 1, h => it_inj hx hy k (ap_inj hq (it_lt hq hx k) (it_lt hq hy k) h)
end
theorem it_add (q : List Nat) (b x : Nat) : ∀ a, it q (a + b) x = it q a (it q b x)
  | 0 => by rw [Nat.zero_add]; rfl
  | a + 1 => by rw [Nat.add_right_comm]; simp only [it]; rw [it_add q b x a]
theorem it_succ (q : List Nat) (k x : Nat) : it q (k + 1) x = it q k (ap q x) := it_add q 1 x k

/-- The first k steps from x on. -/
def steps (q : List Nat) (k x : Nat) : List Nat := (List.range k).map fun i => it q i x
theorem steps_length (q : List Nat) (k x : Nat) : (steps q k x).length = k := by simp [steps]
theorem steps_get (q : List Nat) {k x i : Nat} (h : i < k) : (steps q k x)[i]? = some (it q i x) := by simp [steps, h]
theorem steps_succ (q : List Nat) (k x : Nat) : steps q (k + 1) x = steps q k x ++ [it q k x] := by simp [steps, List.range_succ]
theorem mem_steps {q : List Nat} {k x y : Nat} : y ∈ steps q k x ↔ ∃ i, i < k ∧ it q i x = y := by simp [steps]

theorem steps_nodup {q : List Nat} (hq : IsP q) {k x : Nat} (hx : x < q.length) (h : ∀ i, 0 < i → i < k → it q i x ≠ x) : (steps q k x).Nodup := by
  rw [steps, List.Nodup, List.pairwise_map]
  refine List.Pairwise.imp_of_mem ?_ (List.pairwise_lt_range (n := k))
  intro a b ha hb hab e
  simp at ha hb
  have e2 : it q a x = it q a (it q (b - a) x) := by rw [← it_add]; rw [e]; congr 1; omega
  have := it_inj hq hx (it_lt hq hx _) a e2
  exact h (b - a) (by omega) (by omega) this.symm
theorem steps_le {q : List Nat} (hq : IsP q) {k x : Nat} (hx : x < q.length) (h : ∀ i, 0 < i → i < k → it q i x ≠ x) : k ≤ q.length := by
  have := pigeon q.length (steps q k x) (steps_nodup hq hx h) (by
    intro y hy
    obtain ⟨i, _, rfl⟩ := mem_steps.1 hy
    exact it_lt hq hx i)
  rwa [steps_length] at this

/-- The least number of steps that lead back. -/
def IsPer (q : List Nat) (x m : Nat) : Prop := 0 < m ∧ it q m x = x ∧ ∀ i, 0 < i → i < m → it q i x ≠ x
theorem per_exists {q : List Nat} (hq : IsP q) {x : Nat} (hx : x < q.length) : ∃ m, IsPer q x m := by
  have key : ∀ d k, 0 < k → (∀ i, 0 < i → i < k → it q i x ≠ x) → q.length + 1 - k ≤ d → ∃ m, IsPer q x m := by
    intro d
    induction d with
    | zero => intro k hk h hd; have := steps_le hq hx h; omega
    | succ d ih =>
      intro k hk h hd
      by_cases e : it q k x = x
      · exact ⟨k, hk, e, h⟩
      · refine ih (k + 1) (by omega) ?_ (by omega)
        intro i h1 h2
        by_cases e2 : i = k
        · rw [e2]; exact e
        · exact h i h1 (by omega)
  exact key _ 1 (by omega) (by intro i h1 h2; omega) (Nat.le_refl _)
theorem IsPer.uniq {q : List Nat} {x m m' : Nat} (h : IsPer q x m) (h' : IsPer q x m') : m = m' := by
  rcases Nat.lt_trichotomy m m' with e | e | e
  · exact absurd h.2.1 (h'.2.2 m h.1 e)
  · exact e
  · exact absurd h'.2.1 (h.2.2 m' h'.1 e)
def perF (q : List Nat) (x : Nat) : Nat → Nat → Nat
  | 0, k => k
  | f + 1, k => if it q k x = x then k else perF q x f (k + 1)
def per (q : List Nat) (x : Nat) : Nat := perF q x q.length 1
theorem per_ok {q : List Nat} (hq : IsP q) {x : Nat} (hx : x < q.length) : IsPer q x (per q x) := by
  have key : ∀ f k, 0 < k → f + k = q.length + 1 → (∀ i, 0 < i → i < k → it q i x ≠ x) → IsPer q x (perF q x f k) := by
    intro f
    induction f with
    | zero => intro k hk e h; have := steps_le hq hx h; omega
    | succ f ih =>
      intro k hk e h
      unfold perF
      by_cases e2 : it q k x = x
      · rw [if_pos e2]; exact ⟨hk, e2, h⟩
      · rw [if_neg e2]
        refine ih (k + 1) (by omega) (by omega) fun i h1 h2 => ?_
        by_cases e3 : i = k
        · rw [e3]; exact e2
        · exact h i h1 (by omega)
  exact key _ 1 (by omega) rfl (by intro i h1 h2; omega)
theorem per_eq {q : List Nat} (hq : IsP q) {x m : Nat} (hx : x < q.length) (h : IsPer q x m) : per q x = m := (per_ok hq hx).uniq h
theorem per_le {q : List Nat} (hq : IsP q) {x : Nat} (hx : x < q.length) : per q x ≤ q.length := steps_le hq hx (per_ok hq hx).2.2
def orb (q : List Nat) (x : Nat) : List Nat := steps q (per q x) x

theorem it_per_mul {q : List Nat} {x m : Nat} (h : it q m x = x) : ∀ k, it q (k * m) x = x
  | 0 => by simp [it]
  | k + 1 => by rw [Nat.add_mul, Nat.one_mul, it_add, h, it_per_mul h k]
theorem it_mod {q : List Nat} {x m : Nat} (h : it q m x = x) (i : Nat) : it q i x = it q (i % m) x := by
  have e : i = i % m + (i / m) * m := by rw [Nat.mul_comm]; exact (Nat.mod_add_div i m).symm
  rw [e, it_add, it_per_mul h]
  simp
/-- Of a member of an orbit the period is the same. -/
theorem per_it {q : List Nat} (hq : IsP q) {x : Nat} (hx : x < q.length) (k : Nat) : per q (it q k x) = per q x := by
  have hp := per_ok hq hx
  refine per_eq hq (it_lt hq hx k) ⟨hp.1, ?_, ?_⟩
  · rw [← it_add, Nat.add_comm, it_add, hp.2.1]
  · intro i h1 h2 e
    refine hp.2.2 i h1 h2 ?_
    refine it_inj hq (it_lt hq hx i) hx k ?_
    rw [← it_add, Nat.add_comm, it_add, e]
theorem it_back {q : List Nat} (hq : IsP q) {x : Nat} (hx : x < q.length) (k : Nat) : ∃ j, it q j (it q k x) = x := by
  have hp := per_ok hq hx
  refine ⟨k * per q x - k, ?_⟩
  rw [← it_add]
  have hk : k ≤ k * per q x := Nat.le_mul_of_pos_right _ hp.1
  rw [Nat.sub_add_cancel hk]
  exact it_per_mul hp.2.1 k

/-! ### is it an order? -/
def ckL (n : Nat) : List Int → List Bool → Bool
  | [], _ => true
  | x :: r, seen => if x < 0 then false else if (n : Int) ≤ x then false else if seen[x.toNat]? = some true then false else ckL n r (seen.set x.toNat true)
def nats (q : List Nat) : List Int := q.map fun x : Nat => (x : Int)
theorem ckL_iff (n : Nat) : ∀ (p : List Int) (seen : List Bool), seen.length = n →
    (ckL n p seen = true ↔ ∃ q : List Nat, p = nats q ∧ (∀ x ∈ q, x < n ∧ seen[x]? = some false) ∧ q.Nodup)
  | [], seen, _ => by simp [ckL, nats]
  | x :: r, seen, hs => by
    unfold ckL
    by_cases h1 : x < 0
    · rw [if_pos h1]
      refine ⟨fun h => (by cases h), ?_⟩
      rintro ⟨q, e, h2, _⟩
      cases q with
      | nil => cases e
      | cons y q => simp [nats] at e; omega
    · rw [if_neg h1]
      by_cases h2 : (n : Int) ≤ x
      · rw [if_pos h2]
        refine ⟨fun h => (by cases h), ?_⟩
        rintro ⟨q, e, h3, _⟩
        cases q with
        | nil => cases e
        | cons y q =>
          have := (h3 y (by simp)).1
          simp [nats] at e
          omega
      · rw [if_neg h2]
        obtain ⟨y, rfl⟩ : ∃ y : Nat, x = y := ⟨x.toNat, by omega⟩
        have hy : y < n := by omega
        simp only [Int.toNat_natCast]
        by_cases h3 : seen[y]? = some true
        · rw [if_pos h3]
          refine ⟨fun h => (by cases h), ?_⟩
          rintro ⟨q, e, h4, _⟩
          cases q with
          | nil => cases e
          | cons z q =>
            have h5 := (h4 z (by simp)).2
            simp [nats] at e
            obtain ⟨e, _⟩ := e
            obtain rfl : y = z := by omega
            rw [h3] at h5
            cases h5
        · rw [if_neg h3, ckL_iff n r _ (by simp [hs])]
          have hf : seen[y]? = some false := by
            have : y < seen.length := by omega
            rw [List.getElem?_eq_getElem this] at h3 ⊢
            cases hb : seen[y] with
            | true => rw [hb] at h3; exact absurd rfl h3
            | false => rfl
          constructor
          · rintro ⟨q, rfl, h4, h5⟩
            refine ⟨y :: q, rfl, ?_, ?_⟩
            · intro z hz
              rcases List.mem_cons.1 hz with rfl | hz
              · exact ⟨hy, hf⟩
              · obtain ⟨h6, h7⟩ := h4 z hz
                refine ⟨h6, ?_⟩
                rw [List.getElem?_set] at h7
                split at h7
                · split at h7 <;> cases h7
                · exact h7
            · rw [List.nodup_cons]
              refine ⟨fun hz => ?_, h5⟩
              have := (h4 y hz).2
              rw [List.getElem?_set] at this
              simp [hs, hy] at this
          · rintro ⟨q, e, h4, h5⟩
            cases q with
            | nil => cases e
            | cons z q =>
              have e' : (y : Int) = z ∧ r = nats q := by simpa [nats] using e
              obtain ⟨e1, rfl⟩ := e'
              obtain rfl : y = z := by omega
              rw [List.nodup_cons] at h5
              refine ⟨q, rfl, fun u hu => ?_, h5.2⟩
              obtain ⟨h6, h7⟩ := h4 u (List.mem_cons_of_mem _ hu)
              refine ⟨h6, ?_⟩
              rw [List.getElem?_set]
              have : y ≠ u := fun e => h5.1 (e ▸ hu)
              simp [this, h7]
def okP (p : List Int) : Bool := ckL p.length p (List.replicate p.length false)
theorem nats_length (q : List Nat) : (nats q).length = q.length := by simp [nats]
theorem nats_get (q : List Nat) (i : Nat) : (nats q)[i]? = (q[i]?).map fun x : Nat => (x : Int) := by simp [nats]
theorem nats_inj {a b : List Nat} (h : nats a = nats b) : a = b := by
  induction a generalizing b with
  | nil => cases b with
    | nil => rfl
    | cons y b => cases h
  | cons x a ih => cases b with
    | nil => cases h
    | cons y b =>
      have h' : (x : Int) = y ∧ nats a = nats b := by simpa [nats] using h
      obtain rfl : x = y := by omega
      rw [ih h'.2]
theorem okP_iff (p : List Int) : okP p = true ↔ ∃ q : List Nat, p = nats q ∧ IsP q := by
  unfold okP
  rw [ckL_iff _ _ _ (by simp)]
  constructor
  · rintro ⟨q, rfl, h1, h2⟩
    refine ⟨q, rfl, fun x hx => ?_, h2⟩
    have := (h1 x hx).1
    rwa [nats_length] at this
  · rintro ⟨q, rfl, h1, h2⟩
    refine ⟨q, rfl, fun x hx => ⟨by rw [nats_length]; exact h1 x hx, ?_⟩, h2⟩
    rw [nats_length, List.getElem?_replicate, if_pos (h1 x hx)]
theorem okP_nats {q : List Nat} (h : IsP q) : okP (nats q) = true := (okP_iff _).2 ⟨q, rfl, h⟩
theorem isP_of {q : List Nat} (h : okP (nats q) = true) : IsP q := by
  obtain ⟨q', e, h⟩ := (okP_iff _).1 h
  exact nats_inj e ▸ h
end Go.PermM
namespace Go.PermM
theorem drop_of {α : Type} {l : List α} {i : Nat} {x : α} (h : l[i]? = some x) : l.drop i = x :: l.drop (i + 1) := by
  obtain ⟨h1, rfl⟩ := List.getElem?_eq_some_iff.1 h
  exact List.drop_eq_getElem_cons h1
theorem get_some {α : Type} {l : List α} {i : Nat} (h : i < l.length) : ∃ x, l[i]? = some x := ⟨l[i], List.getElem?_eq_getElem h⟩
end Go.PermM
namespace Go.PermM
theorem mem_orb {q : List Nat} (hq : IsP q) {x y : Nat} (hx : x < q.length) : y ∈ orb q x ↔ ∃ i, it q i x = y := by
  unfold orb
  rw [mem_steps]
  refine ⟨fun ⟨i, _, h⟩ => ⟨i, h⟩, fun ⟨i, h⟩ => ?_⟩
  have hp := per_ok hq hx
  exact ⟨i % per q x, Nat.mod_lt _ hp.1, by rw [← it_mod hp.2.1]; exact h⟩
theorem orb_self {q : List Nat} (hq : IsP q) {x : Nat} (hx : x < q.length) : x ∈ orb q x := (mem_orb hq hx).2 ⟨0, rfl⟩
theorem orb_lt {q : List Nat} (hq : IsP q) {x y : Nat} (hx : x < q.length) (h : y ∈ orb q x) : y < q.length := by
  obtain ⟨i, rfl⟩ := (mem_orb hq hx).1 h
  exact it_lt hq hx i
theorem orb_trans {q : List Nat} (hq : IsP q) {x y z : Nat} (hx : x < q.length) (h : y ∈ orb q x) (h2 : z ∈ orb q y) : z ∈ orb q x := by
  have hy := orb_lt hq hx h
  obtain ⟨i, rfl⟩ := (mem_orb hq hx).1 h
  obtain ⟨j, rfl⟩ := (mem_orb hq hy).1 h2
  exact (mem_orb hq hx).2 ⟨j + i, it_add q i x j⟩
theorem orb_symm {q : List Nat} (hq : IsP q) {x y : Nat} (hx : x < q.length) (h : y ∈ orb q x) : x ∈ orb q y := by
  have hy := orb_lt hq hx h
  obtain ⟨i, rfl⟩ := (mem_orb hq hx).1 h
  obtain ⟨j, hj⟩ := it_back hq hx i
  exact (mem_orb hq hy).2 ⟨j, hj⟩
theorem orb_length {q : List Nat} {x : Nat} : (orb q x).length = per q x := steps_length _ _ _

def isLead (q : List Nat) (x : Nat) : Bool := (List.range x).all fun y => !(orb q y).contains x
def cyL (q : List Nat) : List (List Nat) := ((List.range q.length).filter (isLead q)).map (orb q)
def cyTo (q : List Nat) (i : Nat) : List (List Nat) := ((List.range i).filter (isLead q)).map (orb q)
def seenL (q : List Nat) (i : Nat) : List Bool := (List.range q.length).map fun z => (List.range i).any fun y => (orb q y).contains z
def markL : List Bool → List Nat → List Bool
  | s, [] => s
  | s, y :: l => markL (s.set y true) l
theorem markL_append : ∀ (l m : List Nat) (s : List Bool), markL s (l ++ m) = markL (markL s l) m
  | [], _, _ => rfl
  | x :: l, m, s => by simp only [List.cons_append, markL]; exact markL_append l m _
theorem markL_length : ∀ (l : List Nat) (s : List Bool), (markL s l).length = s.length
  | [], _ => rfl
  | x :: l, s => by simp only [markL]; rw [markL_length l]; simp
theorem markL_get : ∀ (l : List Nat) (s : List Bool) (z : Nat), (markL s l)[z]? = if z ∈ l then (s[z]?).map fun _ => true else s[z]?
  | [], _, _ => by simp [markL]
  | x :: l, s, z => by
    simp only [markL]
    rw [markL_get l, List.getElem?_set]
    by_cases h1 : x = z
    · subst h1
      by_cases h2 : x < s.length
      · simp [h2]
      · simp [h2]
    · simp only [if_neg h1, List.mem_cons]
      by_cases h2 : z ∈ l
      · simp [h2]
      · simp [h2, show ¬ z = x from fun h => h1 h.symm]
theorem seenL_length (q : List Nat) (i : Nat) : (seenL q i).length = q.length := by simp [seenL]
theorem seenL_get {q : List Nat} {i z : Nat} (h : z < q.length) : (seenL q i)[z]? = some ((List.range i).any fun y => (orb q y).contains z) := by simp [seenL, h]
theorem seenL_lead {q : List Nat} {i : Nat} (h : i < q.length) : (seenL q i)[i]? = some (!isLead q i) := by
  rw [seenL_get h]
  simp [isLead, List.any_eq_not_all_not]
theorem seenL_zero (q : List Nat) : seenL q 0 = List.replicate q.length false := by
  refine List.ext_getElem? fun z => ?_
  by_cases h : z < q.length
  · rw [seenL_get h]; simp [h]
  · simp [seenL, h]
theorem seenL_mark {q : List Nat} {i : Nat} (h : i < q.length) : markL (seenL q i) (orb q i) = seenL q (i + 1) := by
  refine List.ext_getElem? fun z => ?_
  rw [markL_get]
  by_cases hz : z < q.length
  · rw [seenL_get hz, seenL_get hz, List.range_succ]
    by_cases h2 : z ∈ orb q i
    · simp [h2]
    · simp [h2]
  · simp [seenL, hz]
theorem seenL_skip {q : List Nat} (hq : IsP q) {i : Nat} (h : i < q.length) (hs : isLead q i = false) : seenL q i = seenL q (i + 1) := by
  refine List.ext_getElem? fun z => ?_
  by_cases hz : z < q.length
  · rw [seenL_get hz, seenL_get hz, List.range_succ]
    by_cases h2 : z ∈ orb q i
    · have : ∃ y, y < i ∧ i ∈ orb q y := by
        simp only [isLead, List.all_eq_false, List.mem_range, Bool.not_eq_true', Bool.not_eq_false] at hs
        obtain ⟨y, h3, h4⟩ := hs
        exact ⟨y, h3, by simpa using h4⟩
      obtain ⟨y, h3, h4⟩ := this
      have h5 := orb_trans hq (by omega) h4 h2
      have : ((List.range i).any fun y => (orb q y).contains z) = true := by
        rw [List.any_eq_true]
        exact ⟨y, by simpa using h3, by simpa using h5⟩
      simp only [List.any_append, this, Bool.true_or]
    · simp [h2]
  · simp [seenL, hz]
theorem cyTo_lead {q : List Nat} {i : Nat} (h : isLead q i = true) : cyTo q (i + 1) = cyTo q i ++ [orb q i] := by simp [cyTo, List.range_succ, List.filter_append, h]
theorem cyTo_skip {q : List Nat} {i : Nat} (h : isLead q i = false) : cyTo q (i + 1) = cyTo q i := by simp [cyTo, List.range_succ, List.filter_append, h]
theorem cyTo_length (q : List Nat) (i : Nat) : (cyTo q i).length ≤ i := by
  unfold cyTo
  rw [List.length_map]
  exact Nat.le_trans (List.length_filter_le _ _) (by simp)
theorem nats_append (a b : List Nat) : nats (a ++ b) = nats a ++ nats b := by simp [nats]
end Go.PermM
namespace Go.PermM
theorem steps_one (q : List Nat) (x : Nat) : nats (steps q 1 x) = [(x : Int)] := rfl
end Go.PermM
namespace Go.PermM
theorem cyTo_zero (q : List Nat) : cyTo q 0 = [] := rfl
theorem cyTo_all (q : List Nat) : cyTo q q.length = cyL q := rfl
end Go.PermM
namespace Go.PermM
theorem orb_get {q : List Nat} {k i : Nat} (h : i < per q k) : (nats (orb q k))[i]? = some ((it q i k : Nat) : Int) := by
  rw [nats_get, orb, steps_get q h]
  rfl
theorem nats_ap {q : List Nat} {x : Nat} (h : x < q.length) : (nats q)[x]? = some ((ap q x : Nat) : Int) := by rw [nats_get, get_of h]; rfl
end Go.PermM
namespace Go.PermM
theorem nats_nil : nats [] = [] := rfl
theorem nats_one (x : Nat) : nats [x] = [(x : Int)] := rfl
end Go.PermM
