import Derived.Test.YtfcnodamjnmleaaDoorPermM
/- Orders turned back, and one behind the other; the reference's ways to the same. -/
namespace Go.PermM

theorem surj {q : List Nat} (hq : IsP q) {x : Nat} (hx : x < q.length) : x ∈ q := by
  by_cases h : x ∈ q
  · exact h
  · have := pigeon q.length (x :: q) (List.nodup_cons.2 ⟨h, hq.2⟩) (fun y hy => by
      rcases List.mem_cons.1 hy with rfl | hy
      · exact hx
      · exact hq.1 y hy)
    simp at this
    omega

/-! turned back -/
def setAll : List Nat → List Nat → Nat → List Nat
  | out, [], _ => out
  | out, x :: r, i => setAll (out.set x i) r (i + 1)
theorem setAll_append : ∀ (l m out : List Nat) (i : Nat), setAll out (l ++ m) i = setAll (setAll out l i) m (i + l.length)
  | [], m, out, i => rfl
  | x :: l, m, out, i => by
    simp only [List.cons_append, setAll, List.length_cons]
    rw [setAll_append l m _ (i + 1)]
    congr 1
    omega
theorem setAll_length : ∀ (l out : List Nat) (i : Nat), (setAll out l i).length = out.length
  | [], _, _ => rfl
  | x :: l, out, i => by simp only [setAll]; rw [setAll_length l]; simp
theorem setAll_other : ∀ (l out : List Nat) (i z : Nat), z ∉ l → (setAll out l i)[z]? = out[z]?
  | [], _, _, _, _ => rfl
  | x :: l, out, i, z, h => by
    simp only [List.mem_cons, not_or] at h
    simp only [setAll]
    rw [setAll_other l _ _ z h.2, List.getElem?_set, if_neg (fun e => h.1 e.symm)]
theorem setAll_get : ∀ (l out : List Nat) (i k z : Nat), l.Nodup → z < out.length → l[k]? = some z → (setAll out l i)[z]? = some (i + k)
  | [], _, _, k, _, _, _, h => by simp at h
  | x :: l, out, i, 0, z, hn, hz, h => by
    obtain rfl : x = z := by simpa using h
    simp only [setAll]
    rw [setAll_other _ _ _ _ (List.nodup_cons.1 hn).1, List.getElem?_set]
    simp [hz]
  | x :: l, out, i, k + 1, z, hn, hz, h => by
    simp only [setAll]
    rw [setAll_get l _ (i + 1) k z (List.nodup_cons.1 hn).2 (by simp [hz]) (by simpa using h)]
    congr 1
    omega
def invL (q : List Nat) : List Nat := setAll (List.replicate q.length 0) q 0
theorem invL_length (q : List Nat) : (invL q).length = q.length := by simp [invL, setAll_length]
theorem invL_get {q : List Nat} (hq : IsP q) {k : Nat} (hk : k < q.length) : (invL q)[ap q k]? = some k := by
  have := setAll_get q (List.replicate q.length 0) 0 k (ap q k) hq.2 (by simpa using ap_lt hq hk) (get_of hk)
  simpa [invL] using this
theorem ap_inv {q : List Nat} (hq : IsP q) {k : Nat} (hk : k < q.length) : ap (invL q) (ap q k) = k := getD_of (invL_get hq hk)
theorem pre {q : List Nat} (hq : IsP q) {x : Nat} (hx : x < q.length) : ∃ k, k < q.length ∧ ap q k = x := by
  obtain ⟨k, hk⟩ := List.mem_iff_getElem?.1 (surj hq hx)
  obtain ⟨h, _⟩ := List.getElem?_eq_some_iff.1 hk
  exact ⟨k, h, getD_of hk⟩
theorem inv_ap {q : List Nat} (hq : IsP q) {x : Nat} (hx : x < q.length) : ap q (ap (invL q) x) = x := by
  obtain ⟨k, hk, rfl⟩ := pre hq hx
  rw [ap_inv hq hk]
theorem ap_inv_lt {q : List Nat} (hq : IsP q) {x : Nat} (hx : x < q.length) : ap (invL q) x < q.length := by
  obtain ⟨k, hk, rfl⟩ := pre hq hx
  rw [ap_inv hq hk]
  exact hk
/-- A list told by its places. -/
theorem list_ext {a b : List Nat} (hl : a.length = b.length) (h : ∀ i, i < a.length → ap a i = ap b i) : a = b := by
  refine List.ext_getElem? fun i => ?_
  by_cases hi : i < a.length
  · rw [get_of hi, get_of (by omega), h i hi]
  · simp [List.getElem?_eq_none (by omega : a.length ≤ i), List.getElem?_eq_none (by omega : b.length ≤ i)]
theorem isP_of_ap {q : List Nat} (h1 : ∀ i, i < q.length → ap q i < q.length) (h2 : ∀ i j, i < q.length → j < q.length → ap q i = ap q j → i = j) : IsP q := by
  refine ⟨fun x hx => ?_, ?_⟩
  · obtain ⟨i, hi⟩ := List.mem_iff_getElem?.1 hx
    obtain ⟨h, _⟩ := List.getElem?_eq_some_iff.1 hi
    rw [← getD_of hi]
    exact h1 i h
  · rw [List.Nodup, List.pairwise_iff_getElem]
    intro i j hi hj hij e
    have e1 : ap q i = q[i] := getD_of (List.getElem?_eq_getElem hi)
    have e2 : ap q j = q[j] := getD_of (List.getElem?_eq_getElem hj)
    have := h2 i j hi hj (by rw [e1, e2, e])
    omega
theorem isP_inv {q : List Nat} (hq : IsP q) : IsP (invL q) := by
  refine isP_of_ap (fun i hi => ?_) (fun i j hi hj e => ?_)
  · rw [invL_length] at hi ⊢
    exact ap_inv_lt hq hi
  · rw [invL_length] at hi hj
    rw [← inv_ap hq hi, ← inv_ap hq hj, e]
theorem inv_inv {q : List Nat} (hq : IsP q) : invL (invL q) = q := by
  refine list_ext (by rw [invL_length, invL_length]) fun i hi => ?_
  rw [invL_length, invL_length] at hi
  have h1 := inv_ap (isP_inv hq) (by rw [invL_length]; exact hi)
  have h2 := ap_inv_lt (isP_inv hq) (x := i) (by rw [invL_length]; exact hi)
  rw [invL_length] at h2
  have h3 := inv_ap hq h2
  rw [← h3, h1]
/-! one behind the other -/
def thenL (p q : List Nat) : List Nat := p.map (ap q)
theorem thenL_length (p q : List Nat) : (thenL p q).length = p.length := by simp [thenL]
theorem ap_then {p q : List Nat} {i : Nat} (hi : i < p.length) : ap (thenL p q) i = ap q (ap p i) := by
  refine getD_of ?_
  rw [thenL, List.getElem?_map, get_of hi]
  rfl
theorem isP_then {p q : List Nat} (hp : IsP p) (hq : IsP q) (hl : p.length = q.length) : IsP (thenL p q) := by
  refine isP_of_ap (fun i hi => ?_) (fun i j hi hj e => ?_)
  · rw [thenL_length] at hi ⊢
    rw [ap_then hi, hl]
    exact ap_lt hq (by rw [← hl]; exact ap_lt hp hi)
  · rw [thenL_length] at hi hj
    rw [ap_then hi, ap_then hj] at e
    exact ap_inj hp hi hj (ap_inj hq (by rw [← hl]; exact ap_lt hp hi) (by rw [← hl]; exact ap_lt hp hj) e)
theorem then_assoc {p q r : List Nat} (hp : IsP p) (hl : p.length = q.length) : thenL (thenL p q) r = thenL p (thenL q r) := by
  refine list_ext (by simp [thenL_length]) fun i hi => ?_
  simp only [thenL_length] at hi
  rw [ap_then (by rw [thenL_length]; exact hi), ap_then hi, ap_then hi, ap_then (by rw [← hl]; exact ap_lt hp hi)]
theorem then_inv {q : List Nat} (hq : IsP q) {i : Nat} (hi : i < q.length) : ap (thenL q (invL q)) i = i := by rw [ap_then hi, ap_inv hq hi]

/-! the reference's check -/
theorem cover : ∀ (n : Nat) (p : List Int), p.length ≤ n → (∀ x : Nat, x < n → (x : Int) ∈ p) → ∃ q : List Nat, p = nats q ∧ (∀ x ∈ q, x < n) ∧ q.Nodup
  | 0, p, hl, _ => ⟨[], by simpa [nats] using hl, by simp, List.nodup_nil⟩
  | n + 1, p, hl, h => by
    have hm := h n (by omega)
    have hlen := List.length_erase_of_mem hm
    obtain ⟨q, e, h1, h2⟩ := cover n (p.erase n) (by omega) (fun x hx => (List.mem_erase_of_ne (by omega)).2 (h x (by omega)))
    have hperm := List.perm_cons_erase hm
    rw [e] at hperm
    have hp : p.Perm (nats (n :: q)) := hperm
    have hmem : ∀ z ∈ p, ∃ x : Nat, z = x ∧ x ∈ n :: q := by
      intro z hz
      have := hp.mem_iff.1 hz
      simp only [nats, List.mem_map] at this
      obtain ⟨x, h3, rfl⟩ := this
      exact ⟨x, rfl, h3⟩
    have hnd : (n :: q).Nodup := List.nodup_cons.2 ⟨fun h => absurd (h1 n h) (by omega), h2⟩
    have hq' : ∃ q' : List Nat, p = nats q' := by
      clear hperm hp e hlen hm h hl
      induction p with
      | nil => exact ⟨[], rfl⟩
      | cons z p ih =>
        obtain ⟨x, rfl, _⟩ := hmem z (by simp)
        obtain ⟨q', e⟩ := ih fun w hw => hmem w (List.mem_cons_of_mem _ hw)
        exact ⟨x :: q', by rw [e]; rfl⟩
    obtain ⟨q', rfl⟩ := hq'
    have hperm2 : q'.Perm (n :: q) := by
      have h5 : (nats q').Perm (nats (n :: q)) := hp
      have h6 := h5.map Int.toNat
      have h7 : ∀ l : List Nat, (nats l).map Int.toNat = l := fun l => by simp [nats, Function.comp_def]
      rw [h7, h7] at h6
      exact h6
    refine ⟨q', rfl, fun x hx => ?_, hperm2.nodup_iff.2 hnd⟩
    have := hperm2.mem_iff.1 hx
    rcases List.mem_cons.1 this with rfl | h
    · omega
    · have := h1 x h
      omega
def cnt (x : Int) : List Int → Nat
  | [] => 0
  | y :: l => (if y = x then 1 else 0) + cnt x l
theorem cnt_le (x : Int) : ∀ l : List Int, cnt x l ≤ l.length
  | [] => Nat.le_refl _
  | y :: l => by
    simp only [cnt, List.length_cons]
    have := cnt_le x l
    split <;> omega
theorem cnt_append (x : Int) : ∀ a b : List Int, cnt x (a ++ b) = cnt x a + cnt x b
  | [], b => by simp [cnt]
  | y :: a, b => by simp only [List.cons_append, cnt, cnt_append x a b]; omega
theorem cnt_mem {x : Int} : ∀ {l : List Int}, 0 < cnt x l → x ∈ l
  | [], h => by simp [cnt] at h
  | y :: l, h => by
    simp only [cnt] at h
    by_cases e : y = x
    · simp [e]
    · rw [if_neg e, Nat.zero_add] at h
      exact List.mem_cons_of_mem _ (cnt_mem h)
theorem cnt_zero {x : Int} : ∀ {l : List Int}, x ∉ l → cnt x l = 0
  | [], _ => rfl
  | y :: l, h => by
    simp only [List.mem_cons, not_or] at h
    simp only [cnt, if_neg (fun e : y = x => h.1 e.symm), cnt_zero h.2]
theorem cnt_one {q : List Nat} (hn : q.Nodup) {x : Nat} (h : x ∈ q) : cnt x (nats q) = 1 := by
  induction q with
  | nil => cases h
  | cons y q ih =>
    have e : nats (y :: q) = (y : Int) :: nats q := rfl
    rw [e]
    simp only [cnt]
    rw [List.nodup_cons] at hn
    by_cases e2 : y = x
    · subst e2
      have : ((y : Nat) : Int) ∉ nats q := fun h => by
        simp only [nats, List.mem_map] at h
        obtain ⟨z, h1, h2⟩ := h
        have : z = y := by omega
        exact hn.1 (this ▸ h1)
      rw [cnt_zero this]
      simp
    · rw [ih hn.2 ((List.mem_cons.1 h).resolve_left fun h => e2 h.symm), if_neg (by omega)]
/-- Each number below n just once. -/
theorem okP_cnt (p : List Int) : okP p = true ↔ ∀ x : Nat, x < p.length → cnt x p = 1 := by
  rw [okP_iff]
  constructor
  · rintro ⟨q, rfl, hq⟩ x hx
    rw [nats_length] at hx
    exact cnt_one hq.2 (surj hq hx)
  · intro h
    obtain ⟨q, rfl, h1, h2⟩ := cover p.length p (Nat.le_refl _) fun x hx => cnt_mem (by rw [h x hx]; omega)
    refine ⟨q, rfl, fun x hx => ?_, h2⟩
    have := h1 x hx
    rwa [nats_length] at this
/-- How far the reference's check goes well. -/
def ckR (p : List Int) : Nat → Nat → Bool
  | 0, _ => true
  | d + 1, x => if cnt x p = 1 then ckR p d (x + 1) else false
theorem ckR_iff (p : List Int) : ∀ d x, ckR p d x = true ↔ ∀ y, x ≤ y → y < x + d → cnt y p = 1
  | 0, x => by
    simp only [ckR, true_iff]
    intro y h1 h2
    omega
  | d + 1, x => by
    simp only [ckR]
    by_cases e : cnt x p = 1
    · rw [if_pos e, ckR_iff p d (x + 1)]
      constructor
      · intro h y h1 h2
        by_cases e2 : y = x
        · rw [e2]; exact e
        · exact h y (by omega) (by omega)
      · intro h y h1 h2
        exact h y (by omega) (by omega)
    · rw [if_neg e]
      constructor
      · intro h; cases h
      · intro h; exact absurd (h x (by omega) (by omega)) e
theorem ckR_ok (p : List Int) : ckR p p.length 0 = okP p := by
  rw [Bool.eq_iff_iff, ckR_iff, okP_cnt]
  exact ⟨fun h x hx => h x (by omega) (by omega), fun h x _ hx => h x (by omega)⟩
/-! the reference's inverse, orbit and cycles -/
def invR (q : List Nat) (x : Nat) : List Nat := (List.range q.length).filter fun i => ap q i == x
theorem invR_one {q : List Nat} (hq : IsP q) {x : Nat} (hx : x < q.length) : invR q x = [ap (invL q) x] := by
  obtain ⟨k, hk, rfl⟩ := pre hq hx
  rw [ap_inv hq hk]
  have key : ∀ n, n ≤ q.length → (List.range n).filter (fun i => ap q i == ap q k) = if k < n then [k] else [] := by
    intro n
    induction n with
    | zero => intro _; rfl
    | succ n ih =>
      intro hn
      rw [List.range_succ, List.filter_append, ih (by omega)]
      by_cases e : n = k
      · subst e
        simp
      · have : ¬ ap q n = ap q k := fun h => e (ap_inj hq (by omega) hk h)
        by_cases h2 : k < n
        · simp [this, h2, show k < n + 1 by omega]
        · simp [this, h2, show ¬ k < n + 1 by omega]
  rw [invR, key _ (Nat.le_refl _), if_pos hk]
/-- The inverse up to a place. -/
theorem inv_take {q : List Nat} {x : Nat} (hx : x < q.length) : (invL q).take (x + 1) = (invL q).take x ++ [ap (invL q) x] := by
  rw [List.take_add_one, get_of (by rw [invL_length]; exact hx)]
  rfl
theorem then_take {p q : List Nat} {i : Nat} (hi : i < p.length) : (thenL p q).take (i + 1) = (thenL p q).take i ++ [ap q (ap p i)] := by
  rw [List.take_add_one, get_of (by rw [thenL_length]; exact hi), ap_then hi]
  rfl
def minL (x : Nat) (l : List Nat) : Nat := l.foldl min x
theorem minL_le : ∀ (l : List Nat) (x : Nat), minL x l ≤ x ∧ (∀ y ∈ l, minL x l ≤ y) ∧ (minL x l = x ∨ minL x l ∈ l)
  | [], x => ⟨Nat.le_refl _, by simp, .inl rfl⟩
  | z :: l, x => by
    obtain ⟨h1, h2, h3⟩ := minL_le l (min x z)
    have e : minL x (z :: l) = minL (min x z) l := rfl
    rw [e]
    refine ⟨by omega, ?_, ?_⟩
    · intro y hy
      rcases List.mem_cons.1 hy with rfl | hy
      · omega
      · exact h2 y hy
    · rcases h3 with h | h
      · rw [h]
        by_cases h4 : x ≤ z
        · left; omega
        · right; simp; left; omega
      · exact .inr (List.mem_cons_of_mem _ h)
theorem lead_min {q : List Nat} (hq : IsP q) {x : Nat} (hx : x < q.length) : isLead q x = decide (minL x (orb q x) = x) := by
  obtain ⟨h1, h2, h3⟩ := minL_le (orb q x) x
  rw [Bool.eq_iff_iff]
  simp only [isLead, List.all_eq_true, List.mem_range, decide_eq_true_eq, Bool.not_eq_true', List.contains_eq_mem, decide_eq_false_iff_not]
  constructor
  · intro h
    rcases h3 with h4 | h4
    · exact h4
    · by_cases h5 : minL x (orb q x) < x
      · exact absurd (orb_symm hq hx h4) (h _ h5)
      · omega
  · intro h y hy hm
    have h6 := orb_symm hq (by omega : y < q.length) hm
    have := h2 y h6
    omega
end Go.PermM
namespace Go.PermM
def flt (q : List Nat) (x i : Nat) : List Nat := (List.range i).filter fun j => ap q j == x
theorem flt_yes {q : List Nat} {x i : Nat} (h : ap q i = x) : flt q x (i + 1) = flt q x i ++ [i] := by simp [flt, List.range_succ, h]
theorem flt_no {q : List Nat} {x i : Nat} (h : ¬ ap q i = x) : flt q x (i + 1) = flt q x i := by simp [flt, List.range_succ, h]
theorem flt_length (q : List Nat) (x i : Nat) : (flt q x i).length ≤ i := Nat.le_trans (List.length_filter_le _ _) (by simp)
theorem flt_zero (q : List Nat) (x : Nat) : flt q x 0 = [] := rfl
theorem minL_take {x : Nat} {l : List Nat} {j y : Nat} (h : l[j]? = some y) : minL x (l.take (j + 1)) = min (minL x (l.take j)) y := by
  rw [List.take_add_one, h]
  simp [minL, List.foldl_append]
end Go.PermM
