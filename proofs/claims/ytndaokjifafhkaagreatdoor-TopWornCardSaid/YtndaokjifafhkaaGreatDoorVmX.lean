import Derived.Test.YtndaokjifafhkaaGreatDoorVmN
import Derived.ProofKit
import Derived.OpenShut
import Derived.Carry
import Derived.SizedLaws
import Derived.ChangeOld
namespace Go.Vm
set_option linter.unusedSectionVars false
set_option linter.unusedSimpArgs false
set_option linter.unusedVariables false
open Go
variable [Inhabited LayT]

/-! ### what an input reads as -/
/-- Cells of a type, told. -/
def TyC (P : Program) : Nat → TypeId → List AV → Prop
  | 0, _, _ => False
  | f + 1, t, cs => match P.underlying t with
    | some .bool => ∃ x, cs = [.b x]
    | some (.int k) => ∃ n, cs = [.i k n] ∧ k.min ≤ n ∧ n ≤ k.max
    | some .string => ∃ l, cs = [.s l] ∧ l.length ≤ 140737488351232
    | some (.slice e) => ∃ xs, cs = [.deep (P.cellsOf e) xs] ∧ xs.length ≤ maxLen ∧ xs.length * P.bytesOf e ≤ 140737488351232 ∧ ∀ x ∈ xs, TyC P f e x
    | some (.struct fs) => cs.length = P.cellsOf t ∧ ∀ fd ∈ fs.toList, TyC P f fd.type ((cs.drop fd.offset).take (P.cellsOf fd.type))
    | some (.array n e) => cs.length = P.cellsOf t ∧ ∀ i, i < n → TyC P f e ((cs.drop (i * P.cellsOf e)).take (P.cellsOf e))
    | _ => False
def tilesB (P : Program) : Nat → List Field → Nat → Bool
  | o, [], total => o == total
  | o, f :: fs, total => f.offset == o && tilesB P (o + P.cellsOf f.type) fs total
def okTy (P : Program) : Nat → TypeId → Bool
  | 0, _ => false
  | f + 1, t => match P.underlying t with
    | some .bool | some (.int _) | some .string => true
    | some (.slice e) => okTy P f e && decide (0 < P.cellsOf e)
    | some (.struct fs) => fs.toList.all (fun fd => okTy P f fd.type) && tilesB P 0 fs.toList (P.cellsOf t)
    | some (.array n e) => okTy P f e && (P.cellsOf t == n * P.cellsOf e)
    | _ => false

/-- The world before the call: all that is there is read only. -/
def gh0 (W : World) : Gh := { at_ := fun _ => none, Z := fun b => b < W.heap.size, U := fun b => b < W.heap.size, L := fun _ => False }
def mem0 : Mem := fun _ => none
theorem mem0_rel (W : World) (hl : layOk (gh0 W) W) : MemRel (gh0 W) mem0 W :=
  { zu := fun _ h => h, lay := hl, ul := fun _ h => h, known := (fun _ _ h => absurd h (by simp [mem0])), row := (fun _ _ h => absurd h (by simp [mem0])), inj := (fun _ _ _ _ _ _ h => absurd h (by simp [mem0])) }

section
variable {g : Gh} {M : Mem} {W : World}
theorem relL_split {n : Nat} {l : List AV} {us : List Value} : RelL g M W (l.take n) (us.take n) → RelL g M W (l.drop n) (us.drop n) → RelL g M W l us := fun h1 h2 => by
  have := relL_append h1 h2
  simpa using this
theorem relM_of_relL {blk : Nat} : ∀ {cs : List AV} {us : List Value} {off : Nat}, RelL g M W cs us → (∀ i u, us[i]? = some u → W.cell? ⟨blk, off + i, none⟩ = some u) → (∀ u ∈ us, u.oneCell' = true) → RelM g M W blk off cs
  | [], _, _, _, _, _ => trivial
  | x :: xs, _, off, ⟨u, r, e, h1, h2⟩, hc, ho => by
    subst e
    refine ⟨⟨u, by simpa using hc 0 u (by simp), ho u (by simp), h1⟩, relM_of_relL h2 (fun i u' hu => ?_) fun u' hu => ho u' (by simp [hu])⟩
    have := hc (i + 1) u' (by simpa using hu)
    rwa [show off + (i + 1) = off + 1 + i by omega] at this
end

/-- Cells that lie one behind the other. -/
theorem cells_get {w : World} {base : Nat} {a : Addr} {n : Nat} {vs : List Value} (h : w.cells? base a n = some vs) : vs.length = n ∧ ∀ i u, vs[i]? = some u → w.cell? (a.add i) = some u := by
  unfold World.cells? at h
  split at h
  · have key : ∀ (l : List Nat) (vs : List Value), l.mapM (fun i => w.cell? (a.add i)) = some vs → vs.length = l.length ∧ ∀ (i : Nat) (u : Value), vs[i]? = some u → ∃ j : Nat, l[i]? = some j ∧ w.cell? (a.add j) = some u := by
      intro l
      induction l with
      | nil => intro vs h; simp at h; subst h; simp
      | cons x l ih =>
        intro vs h
        rw [List.mapM_cons] at h
        simp only [Option.bind_eq_bind, Option.bind_eq_some_iff] at h
        obtain ⟨y, h1, ys, h2, h3⟩ := h
        cases h3
        obtain ⟨k1, k2⟩ := ih ys h2
        refine ⟨by simp [k1], fun i u hu => ?_⟩
        cases i with
        | zero => simp at hu; subst hu; exact ⟨x, rfl, h1⟩
        | succ i => exact k2 i u (by simpa using hu)
    obtain ⟨k1, k2⟩ := key _ vs h
    refine ⟨by simpa using k1, fun i u hu => ?_⟩
    obtain ⟨j, h1, h2⟩ := k2 i u hu
    rw [List.getElem?_range] at h1
    · simp at h1; subst h1; exact h2
    · have := (List.getElem?_eq_some_iff.1 hu).1
      simp at k1
      omega
  · cases h

theorem cell_plain {w : World} {a : Addr} {u : Value} (h : w.cell? a = some u) : a = ⟨a.block, a.off, none⟩ ∧ a.block < w.heap.size := by
  obtain ⟨b, o, s⟩ := a
  unfold World.cell? at h
  split at h
  · rename_i c t f e
    cases s with
    | none => exact ⟨rfl, (Array.getElem?_eq_some_iff.1 e).1⟩
    | some x => simp at h
  · cases h

section
variable {H : Type} {enc : TypeId × Value → H} {P : Program} {W : World} {spare : Nat → Bool} {held : Bool}

theorem relD_of {g : Gh} {M : Mem} {blk sz : Nat} {Q : List AV → Prop} : ∀ (len off : Nat), (∀ i, i < len → ∃ avs, RelM g M W blk (off + i * sz) avs ∧ avs.length = sz ∧ Q avs) → ∃ xs, xs.length = len ∧ RelD g M W sz blk off xs ∧ ∀ x ∈ xs, Q x
  | 0, _, _ => ⟨[], rfl, trivial, by simp⟩
  | len + 1, off, h => by
    obtain ⟨a, h1, h2, h3⟩ := h 0 (by omega)
    obtain ⟨xs, k1, k2, k3⟩ := relD_of (g := g) (M := M) (blk := blk) (sz := sz) (Q := Q) len (off + sz) (fun i hi => by
      have := h (i + 1) (by omega)
      rwa [show off + (i + 1) * sz = off + sz + i * sz by rw [Nat.add_mul]; omega] at this)
    refine ⟨a :: xs, by simp [k1], ⟨⟨h2, by simpa using h1⟩, k2⟩, ?_⟩
    intro x hx
    rcases List.mem_cons.1 hx with rfl | hx
    · exact h3
    · exact k3 x hx
theorem tilesB_le {P : Program} : ∀ {fl : List Field} {o total : Nat}, tilesB P o fl total = true → o ≤ total
  | [], o, total, h => by simp [tilesB] at h; omega
  | f :: fl, o, total, h => by
    simp only [tilesB, Bool.and_eq_true, beq_iff_eq] at h
    have := tilesB_le h.2
    omega
theorem tilesB_ge {P : Program} : ∀ {fl : List Field} {o total : Nat}, tilesB P o fl total = true → ∀ fd ∈ fl, o ≤ fd.offset
  | [], o, total, h => by simp
  | f :: fl, o, total, h => by
    simp only [tilesB, Bool.and_eq_true, beq_iff_eq] at h
    intro fd hfd
    rcases List.mem_cons.1 hfd with rfl | hfd
    · omega
    · have := tilesB_ge h.2 fd hfd
      omega
theorem relL_tiles {P : Program} {g : Gh} {M : Mem} {Q : TypeId → List AV → Prop} {cs : List Value} : ∀ (fl : List Field) (o total : Nat), tilesB P o fl total = true → cs.length = total →
    (∀ fd ∈ fl, ∃ avs, RelL g M W avs ((cs.drop fd.offset).take (P.cellsOf fd.type)) ∧ Q fd.type avs ∧ ∀ c ∈ (cs.drop fd.offset).take (P.cellsOf fd.type), c.oneCell' = true) →
    ∃ avs, RelL g M W avs (cs.drop o) ∧ (∀ fd ∈ fl, Q fd.type ((avs.drop (fd.offset - o)).take (P.cellsOf fd.type))) ∧ ∀ c ∈ cs.drop o, c.oneCell' = true
  | [], o, total, ht, hl, _ => by
    simp [tilesB] at ht
    have : cs.drop o = [] := List.drop_eq_nil_of_le (by omega)
    rw [this]
    exact ⟨[], rfl, by simp, by simp⟩
  | f :: fl, o, total, ht, hl, h => by
    simp only [tilesB, Bool.and_eq_true, beq_iff_eq] at ht
    obtain ⟨rfl, ht⟩ := ht
    obtain ⟨a1, h1, h2, h3⟩ := h f (List.mem_cons_self ..)
    obtain ⟨a2, k1, k2, k3⟩ := relL_tiles fl _ total ht hl fun fd hfd => h fd (List.mem_cons_of_mem _ hfd)
    have hle := tilesB_le ht
    have hge := tilesB_ge ht
    have hlen : a1.length = P.cellsOf f.type := by
      have := relL_length h1
      simp at this
      omega
    have hsplit : cs.drop f.offset = (cs.drop f.offset).take (P.cellsOf f.type) ++ cs.drop (f.offset + P.cellsOf f.type) := by
      rw [← List.drop_drop, List.take_append_drop]
    refine ⟨a1 ++ a2, ?_, ?_, ?_⟩
    · rw [hsplit]; exact relL_append h1 k1
    · intro fd hfd
      rcases List.mem_cons.1 hfd with rfl | hfd
      · rw [Nat.sub_self, List.drop_zero, List.take_append_of_le_length (by omega), List.take_of_length_le (by omega)]
        exact h2
      · have := hge fd hfd
        have e : (a1 ++ a2).drop (fd.offset - f.offset) = a2.drop (fd.offset - (f.offset + P.cellsOf f.type)) := by
          rw [List.drop_append, List.drop_eq_nil_of_le (by omega), List.nil_append, hlen]
          congr 1
          omega
        rw [e]
        exact k2 fd hfd
    · intro c hc
      rw [hsplit] at hc
      rcases List.mem_append.1 hc with hc | hc
      · exact h3 c hc
      · exact k3 c hc
theorem relL_array {g : Gh} {M : Mem} {sz : Nat} {Q : List AV → Prop} {cs : List Value} : ∀ (n o : Nat), cs.length = o + n * sz →
    (∀ i, i < n → ∃ avs, RelL g M W avs ((cs.drop (o + i * sz)).take sz) ∧ Q avs ∧ ∀ c ∈ (cs.drop (o + i * sz)).take sz, c.oneCell' = true) →
    ∃ avs, RelL g M W avs (cs.drop o) ∧ (∀ i, i < n → Q ((avs.drop (i * sz)).take sz)) ∧ ∀ c ∈ cs.drop o, c.oneCell' = true
  | 0, o, hl, _ => by
    have : cs.drop o = [] := List.drop_eq_nil_of_le (by omega)
    rw [this]
    exact ⟨[], rfl, by simp, by simp⟩
  | n + 1, o, hl, h => by
    rw [Nat.add_mul] at hl
    obtain ⟨a1, h1, h2, h3⟩ := h 0 (by omega)
    simp only [Nat.zero_mul, Nat.add_zero] at h1 h3
    obtain ⟨a2, k1, k2, k3⟩ := relL_array (g := g) (M := M) (sz := sz) (Q := Q) (cs := cs) n (o + sz) (by omega) fun i hi => by
      have := h (i + 1) (by omega)
      rwa [show o + (i + 1) * sz = o + sz + i * sz by rw [Nat.add_mul]; omega] at this
    have hlen : a1.length = sz := by
      have := relL_length h1
      simp at this
      omega
    have hsplit : cs.drop o = (cs.drop o).take sz ++ cs.drop (o + sz) := by
      rw [← List.drop_drop, List.take_append_drop]
    refine ⟨a1 ++ a2, ?_, ?_, ?_⟩
    · rw [hsplit]; exact relL_append h1 k1
    · intro i hi
      cases i with
      | zero =>
        rw [Nat.zero_mul, List.drop_zero, List.take_append_of_le_length (by omega), List.take_of_length_le (by omega)]
        exact h2
      | succ i =>
        have e : (a1 ++ a2).drop ((i + 1) * sz) = a2.drop (i * sz) := by
          rw [Nat.add_mul, List.drop_append, List.drop_eq_nil_of_le (by omega), List.nil_append, hlen]
          congr 1
          omega
        rw [e]
        exact k2 i (by omega)
    · intro c hc
      rw [hsplit] at hc
      rcases List.mem_append.1 hc with hc | hc
      · exact h3 c hc
      · exact k3 c hc

theorem trod_read : ∀ (f : Nat) {t : TypeId} {fuel : Nat} {cs : List Value} {d : DataW H} {ps : List MemPlace}, okTy P f t = true → DataW.trod enc P W 0 spare held fuel t cs = some (d, ps) → (∀ m ∈ d.weights P t, m ≤ reachBytes) →
    ∃ avs, RelL (gh0 W) mem0 W avs cs ∧ TyC P f t avs ∧ ∀ c ∈ cs, c.oneCell' = true
  | 0, _, _, _, _, _, h, _, _ => by cases h
  | f + 1, t, fuel, cs, d, ps, h, hd, hw => by
    unfold okTy at h
    unfold TyC
    split at h
    · rename_i ht
      obtain ⟨b, rfl, _⟩ := DataW.trod_bool ht hd
      exact ⟨[.b b], ⟨_, _, rfl, rfl, rfl⟩, ⟨b, rfl⟩, by simp [Value.oneCell']⟩
    · rename_i k ht
      obtain ⟨n, rfl, _, hwf⟩ := DataW.trod_int ht hd
      simp only [Lit.wf, Bool.and_eq_true, decide_eq_true_eq] at hwf
      exact ⟨[.i k n], ⟨_, _, rfl, rfl, rfl⟩, ⟨n, rfl, hwf.1, hwf.2⟩, by simp [Value.oneCell']⟩
    · rename_i ht
      obtain ⟨s, rfl, hx, hlen⟩ := DataW.trod_string ht hd
      simp only [Prod.mk.injEq] at hx
      obtain ⟨rfl, rfl⟩ := hx
      refine ⟨[.s s.data.toList], ⟨_, _, rfl, ?_, rfl⟩, ⟨_, rfl, ?_⟩, by simp [Value.oneCell']⟩
      · cases s; simp [Rel]
      · have := hw s.data.toList.length (by simp [DataW.weights])
        simpa [reachBytes] using this
    · rename_i e ht
      rw [Bool.and_eq_true, decide_eq_true_eq] at h
      obtain ⟨he, hpos⟩ := h
      rcases DataW.trod_slice ht hd with ⟨rfl, _⟩ | ⟨a, len, cap, elems, rest, n, rfl, rfl, hx, _, hl, hm, hlen, hel, _⟩
      · exact ⟨[.deep (P.cellsOf e) []], ⟨_, _, rfl, ⟨none, 0, rfl, Nat.le_refl _, .inl rfl⟩, rfl⟩, ⟨[], rfl, by simp, by simp, by simp⟩, by simp [Value.oneCell']⟩
      · simp only [Prod.mk.injEq] at hx
        obtain ⟨rfl, rfl⟩ := hx
        simp only [DataW.weights, ht] at hw
        have hwall : ∀ (l : List (DataW H)) (x : DataW H), x ∈ l → ∀ m ∈ x.weights P e, m ∈ DataW.weightsAll P e l := by
          intro l
          induction l with
          | nil => intro x hx; cases hx
          | cons y l ih =>
            intro x hx m hm
            simp only [DataW.weightsAll, List.mem_append]
            rcases List.mem_cons.1 hx with rfl | hx
            · exact .inl hm
            · exact .inr (ih x hx m hm)
        have hbytes := hw _ (List.mem_cons_self ..)
        have hword : ∀ i, i < len → ∃ avs, RelM (gh0 W) mem0 W a.block (a.off + i * P.cellsOf e) avs ∧ avs.length = P.cellsOf e ∧ TyC P f e avs ∧ (i = 0 → a.spot = none ∧ a.block < W.heap.size) := by
          intro i hi
          have h1 := hel i hi
          have h2 : i < elems.length := by omega
          rw [List.getElem?_eq_getElem h2] at h1
          simp only [Option.bind_eq_some_iff] at h1
          obtain ⟨vs, h3, h4⟩ := h1
          obtain ⟨hvl, hvg⟩ := cells_get h3
          obtain ⟨avs, r1, r2, r3⟩ := trod_read f he h4 (fun m hm => hw m (List.mem_cons_of_mem _ (List.mem_append_left _ (hwall _ _ (List.mem_map.2 ⟨_, List.getElem_mem h2, rfl⟩) m hm))))
          have hrl := relL_length r1
          have eo : ∀ j, ((a.add (i * P.cellsOf e)).add j).off = a.off + i * P.cellsOf e + j := by intro j; unfold Addr.add; split <;> split <;> simp_all
          have eb : ∀ j, ((a.add (i * P.cellsOf e)).add j).block = a.block := by intro j; unfold Addr.add; split <;> split <;> simp_all
          have hpl : ∀ j u, vs[j]? = some u → W.cell? ⟨a.block, a.off + i * P.cellsOf e + j, none⟩ = some u := by
            intro j u hu
            have := hvg j u hu
            obtain ⟨e1, _⟩ := cell_plain this
            rw [e1, eo, eb] at this
            exact this
          refine ⟨avs, relM_of_relL r1 hpl r3, by omega, r2, ?_⟩
          rintro rfl
          have h0 := hvg 0 vs[0] (List.getElem?_eq_getElem (by omega))
          obtain ⟨e1, e2⟩ := cell_plain h0
          simp [Addr.add] at e1 e2
          exact ⟨by rw [e1], e2⟩
        obtain ⟨xs, x1, x2, x3⟩ := relD_of (Q := TyC P f e) len _ (fun i hi => by obtain ⟨avs, q1, q2, q3, _⟩ := hword i hi; exact ⟨avs, q1, q2, q3⟩)
        refine ⟨[.deep (P.cellsOf e) xs], ⟨_, _, rfl, ⟨some a, cap, by rw [x1], by omega, ?_⟩, rfl⟩, ⟨xs, rfl, by omega, ?_, x3⟩, by simp [Value.oneCell']⟩
        · by_cases hz : len = 0
          · left
            exact List.length_eq_zero_iff.1 (by omega)
          · obtain ⟨_, _, _, _, q⟩ := hword 0 (by omega)
            obtain ⟨q1, q2⟩ := q rfl
            refine .inr ⟨a.block, a.off, ?_, q2, x2⟩
            obtain ⟨b, o, sp⟩ := a
            simp at q1
            subst q1
            rfl
        · have : (elems.map (·.1)).length = len := by simp [hlen]
          rw [this] at hbytes
          rw [x1]
          refine Nat.le_trans (Nat.mul_le_mul_right _ (Nat.le_add_right _ _)) hbytes
    · rename_i fs ht
      rw [Bool.and_eq_true, List.all_eq_true] at h
      obtain ⟨he, htile⟩ := h
      obtain ⟨xs, n, rfl, hx, hcl, hxl, hxs⟩ := DataW.trod_struct ht hd
      simp only [Prod.mk.injEq] at hx
      obtain ⟨rfl, rfl⟩ := hx
      simp only [DataW.weights, ht] at hw
      have hwall : ∀ (l : List Field) (ys : List (DataW H)) (i : Nat) (fd : Field) (x : DataW H), l[i]? = some fd → ys[i]? = some x → ∀ m ∈ x.weights P fd.type, m ∈ DataW.weightsEach P (l.map (·.type)) ys := by
        intro l
        induction l with
        | nil => intro ys i fd x h; simp at h
        | cons y l ih =>
          intro ys i fd x h1 h2 m hm
          cases ys with
          | nil => simp at h2
          | cons z ys =>
            simp only [List.map_cons, DataW.weightsEach, List.mem_append]
            cases i with
            | zero => simp at h1 h2; subst h1; subst h2; exact .inl hm
            | succ i => exact .inr (ih ys i fd x (by simpa using h1) (by simpa using h2) m hm)
      obtain ⟨avs, q1, q2, q3⟩ := relL_tiles (Q := fun t => TyC P f t) fs.toList 0 (P.cellsOf t) htile hcl (by
        intro fd hfd
        obtain ⟨i, hi⟩ := List.mem_iff_getElem?.1 hfd
        have hi' : fs[i]? = some fd := by simpa using hi
        have hlt : i < xs.length := by rw [hxl]; exact (Array.getElem?_eq_some_iff.1 hi').1
        have h1 := hxs i fd hi'
        rw [List.getElem?_eq_getElem hlt] at h1
        exact trod_read f (he _ hfd) h1 fun m hm => hw m (hwall _ _ i fd _ hi (by simp [hlt]) m hm))
      simp only [List.drop_zero, Nat.sub_zero] at q1 q2 q3
      exact ⟨avs, q1, ⟨by rw [← hcl]; exact (relL_length q1).symm, q2⟩, q3⟩
    · rename_i n e ht
      rw [Bool.and_eq_true, beq_iff_eq] at h
      obtain ⟨he, hsz⟩ := h
      obtain ⟨xs, m, rfl, hx, hcl, hxl, hxs⟩ := DataW.trod_array ht hd
      simp only [Prod.mk.injEq] at hx
      obtain ⟨rfl, rfl⟩ := hx
      simp only [DataW.weights, ht] at hw
      have hwall : ∀ (l : List (DataW H)) (x : DataW H), x ∈ l → ∀ m ∈ x.weights P e, m ∈ DataW.weightsAll P e l := by
        intro l
        induction l with
        | nil => intro x hx; cases hx
        | cons y l ih =>
          intro x hx m hm
          simp only [DataW.weightsAll, List.mem_append]
          rcases List.mem_cons.1 hx with rfl | hx
          · exact .inl hm
          · exact .inr (ih x hx m hm)
      obtain ⟨avs, q1, q2, q3⟩ := relL_array (Q := TyC P f e) (sz := P.cellsOf e) n 0 (cs := cs) (by omega) (by
        intro i hi
        have hlt : i < xs.length := by omega
        have h1 := hxs i hi
        rw [List.getElem?_eq_getElem hlt] at h1
        rw [Nat.zero_add]
        exact trod_read f he h1 fun m hm => hw m (hwall _ _ (List.mem_map.2 ⟨_, List.getElem_mem hlt, rfl⟩) m hm))
      simp only [List.drop_zero] at q1 q3
      exact ⟨avs, q1, ⟨by rw [← hcl]; exact (relL_length q1).symm, q2⟩, q3⟩
    · cases h
end
end Go.Vm

namespace Go.Vm
set_option linter.unusedSectionVars false
set_option linter.unusedSimpArgs false
set_option linter.unusedVariables false
open Go Go.RowKit Go.ChangeShapes Go.WideShapes Go.ChangeAt
variable [Inhabited LayT]

def TyV (P : Program) (f : Nat) (t : TypeId) (a : AV) : Prop :=
  match P.underlying t with
  | some (.struct _) | some (.array _ _) => ∃ cs, a = .agg cs ∧ TyC P f t cs
  | _ => TyC P f t [a]
def TyVs (P : Program) (f : Nat) : List TypeId → List AV → Prop
  | [], as => as = []
  | t :: ts, as => ∃ a r, as = a :: r ∧ TyV P f t a ∧ TyVs P f ts r

section
variable {H : Type} {enc : TypeId × Value → H} {P : Program} {W : World} {spare : Nat → Bool} {held : Bool}
theorem trod_readV {f : Nat} {t : TypeId} {v : Value} {d : DataW H} {ps : List MemPlace} {r : Reach} {b : Nat} (h : okTy P f t = true) (hok : Value.okWide P W r b t v) (hd : DataW.Trod enc P W 0 spare held t v d ps)
    (hw : ∀ m ∈ d.weights P t, m ≤ reachBytes) : ∃ a, Rel (gh0 W) mem0 W a v ∧ TyV P f t a := by
  obtain ⟨fuel, hd⟩ := hd
  obtain ⟨avs, h1, h2, h3⟩ := trod_read f h hd hw
  cases f with
  | zero => cases h
  | succ f =>
    have one : v.cells = #[v] → TyC P (f + 1) t avs → ∃ a, Rel (gh0 W) mem0 W a v ∧ avs = [a] := by
      intro hv _
      rw [hv] at h1
      match avs, h1 with
      | [a], ⟨u, r, e, q1, q2⟩ =>
        cases e
        exact ⟨a, q1, rfl⟩
      | a :: b :: l, ⟨u, r, e, q1, q2⟩ =>
        cases e
        obtain ⟨_, _, e, _⟩ := q2
        cases e
      | [], h => cases h
    have agg : (∃ cs, v = .agg cs) → ∃ a, Rel (gh0 W) mem0 W a v ∧ ∃ cs, a = .agg cs ∧ TyC P (f + 1) t cs := by
      rintro ⟨cs, rfl⟩
      exact ⟨.agg avs, ⟨cs.toList, rfl, h1⟩, avs, rfl, h2⟩
    unfold TyV
    cases hu : P.underlying t with
    | none => unfold okTy at h; rw [hu] at h; cases h
    | some D =>
      have plain : v.cells = #[v] → ∃ a, Rel (gh0 W) mem0 W a v ∧ TyC P (f + 1) t [a] := by
        intro hv
        obtain ⟨a, q1, rfl⟩ := one hv h2
        exact ⟨a, q1, h2⟩
      cases D <;> (try (unfold okTy at h; rw [hu] at h; cases h; done))
      · obtain ⟨x, rfl⟩ := okWide_bool hu hok; exact plain rfl
      · obtain ⟨x, rfl⟩ := okWide_int hu hok; exact plain rfl
      · obtain ⟨x, rfl⟩ := okWide_string hu hok; exact plain rfl
      · obtain ⟨x, y, z, rfl⟩ := okWide_slice hu hok; exact plain rfl
      all_goals
        refine agg ?_
        unfold Value.okWide at hok
        rw [hu] at hok
        obtain ⟨cs, h, _⟩ := hok
        exact ⟨cs, h⟩

theorem trodAll_readV {f : Nat} {r : Reach} {b : Nat} : ∀ {ts : List TypeId} {vs : List Value} {ds : List (DataW H)} {ps : List MemPlace}, ts.all (okTy P f) = true →
    (∀ (j : Nat) t v, ts[j]? = some t → vs[j]? = some v → Value.okWide P W r b t v) → DataW.TrodAll enc P W 0 spare held ts vs ds ps → (∀ m ∈ DataW.weightsEach P ts ds, m ≤ reachBytes) →
    ds.length = ts.length ∧ ∃ as, RelL (gh0 W) mem0 W as vs ∧ TyVs P f ts as
  | [], [], [], ps, _, _, _, _ => ⟨rfl, [], rfl, rfl⟩
  | t :: ts, v :: vs, d :: ds, ps, h, hok, ⟨p, q, h1, h2, _⟩, hw => by
    rw [List.all_cons, Bool.and_eq_true] at h
    obtain ⟨a, q1, q2⟩ := trod_readV h.1 (hok 0 t v rfl rfl) h1 fun m hm => hw m (List.mem_append_left _ hm)
    obtain ⟨hl, as, q3, q4⟩ := trodAll_readV h.2 (fun j t' v' e1 e2 => hok (j + 1) t' v' (by simpa using e1) (by simpa using e2)) h2 fun m hm => hw m (List.mem_append_right _ hm)
    exact ⟨by simp [hl], a :: as, ⟨_, _, rfl, q1, q3⟩, _, _, rfl, q2, q4⟩
  | [], _ :: _, _, _, _, _, h, _ => h.elim
  | [], [], _ :: _, _, _, _, h, _ => h.elim
  | _ :: _, [], _, _, _, _, h, _ => h.elim
  | _ :: _, _ :: _, [], _, _, _, h, _ => h.elim

theorem trodAll_below {W' : World} (hl : laidOutB P = true) (hb : Below W.heap.size W W') : ∀ {ts : List TypeId} {vs : List Value} {ds : List (DataW H)} {ps : List MemPlace}, ts.all (fun t => P.readableRec t && decide (t < P.types.size)) = true →
    DataW.TrodAll enc P W 0 (fun _ => true) true ts vs ds ps → (∀ x ∈ ps, x.block < W.heap.size) → DataW.TrodAll enc P W' 0 (fun b => decide (b < W.heap.size)) true ts vs ds ps
  | [], [], [], ps, _, h, _ => h
  | t :: ts, v :: vs, d :: ds, ps, h, ⟨p, q, h1, h2, e⟩, hlt => by
    subst e
    rw [List.all_cons, Bool.and_eq_true, Bool.and_eq_true, decide_eq_true_eq] at h
    exact ⟨p, q, Below.trod hl h.1.1 h.1.2 h1 hb fun x hx => hlt x (List.mem_append_left _ hx), trodAll_below hl hb h.2 h2 fun x hx => hlt x (List.mem_append_right _ hx), rfl⟩
  | [], _ :: _, _, _, _, h, _ => h.elim
  | [], [], _ :: _, _, _, h, _ => h.elim
  | _ :: _, [], _, _, _, h, _ => h.elim
  | _ :: _, _ :: _, [], _, _, h, _ => h.elim

theorem Evo.below {g g' : Gh} {M M' : Mem} {W W' : World} (h : Evo g M W g' M' W') (hU : ∀ b, b < W.heap.size → g.U b) : Below W.heap.size W W' :=
  ⟨h.os, h.tape, h.output.1, h.size, fun k hk => h.keep k (hU k hk)⟩
end

/-- What is said of a call of a law, in words of the VM, gives what the row says. -/
theorem lifted_true {C : Checked} {f : FuncId} {fn : Func} {s : ChangeSpec} {os : Os} (started : os.Started) {H : Type} {enc : TypeId × Value → H} {tb : TypeId}
    (own : ownKnob C.prog.godebug = none) (noInit : C.prog.inits.idxOf? f = none) (hfn : C.prog.funcs[f]? = some fn)
    (witness : ∃ (w : World) (tape : Tape) (i : Input), w.os = os ∧ (w.forCall tape i).Shaped C.prog ∧ i.vars = [] ∧ Input.okWide C.prog (w.forCall tape i) .any w.heap.size f i ∧
      s.pre6 enc C.prog fn [] false (w.forCall tape i).memory i.args ∧ ({} : Assume).holds C.prog (lone (Frame.enter C.prog f i.args .normal) [] (w.forCall tape i)))
    (hlaid : laidOutB C.prog = true) (hpar : fn.params.toList.all (okTy C.prog 9) = true) (hpar2 : fn.params.toList.all (fun t => C.prog.readableRec t && decide (t < C.prog.types.size)) = true)
    (hres : fn.resultTypes = #[tb]) (htb : C.prog.underlying tb = some .bool) (hvars : s.vars = []) (hplain : s.plain.varTypes C.prog = [])
    (hspec : ∀ ds : List (DataW H), ds.length = fn.params.toList.length → (s.fn H ds).results = [.lit (.bool true)] ∧ (s.fn H ds).args = ds ∧ (s.fn H ds).vars = [])
    (hlay : ∀ W : World, layOk (gh0 W) W)
    (hmain : ∀ avs, TyVs C.prog 9 fn.params.toList avs → CallOk C.prog f avs mem0 0 { v := .b true }) :
    ReturnsInHanded {} C os f .any (s.pre6 enc C.prog fn [] false) (s.post enc C.prog fn false true false false) := by
  refine returnsInHanded_of_change_sized own started noInit hfn witness ?_
  intro W base args ds gs before hval hW _ hsz _
  have hW' := hW
  obtain ⟨p, q, hA, hV, rfl, hfz, hnd⟩ := hW
  rw [hvars] at hV
  obtain ⟨rfl, rfl⟩ := trodVars_none hV
  rw [hplain, List.append_nil, List.append_nil, List.all_eq_true] at hsz
  obtain ⟨hdl, as, r1, r2⟩ := trodAll_readV (f := 9) hpar (fun j t v e1 e2 => hval j t v (by simpa using e1) (by simpa using e2)) hA (fun m hm => by simpa using hsz m hm)
  obtain ⟨s1, s2, s3⟩ := hspec ds hdl
  have hcall := (hmain as r2).2 mem0 (fun _ _ => rfl) (gh0 W) W args.toList (mem0_rel W (hlay W)) r1 (fun _ _ _ h => h)
  refine hcall.mono ?_
  rintro e W' ⟨u, g', rfl, hu, _, hE, _⟩
  have hu' : u = .bool true := hu
  subst hu'
  have hb := hE.below (fun b h => h)
  refine ⟨_, rfl, ds, [], p ++ [], [], p, [], hW', ?_, ?_, ?_, hb.frame _, fun h => by cases h⟩
  · rw [List.append_nil, s1, hres]
    exact trodAll_mk1 (shut_bool htb _)
  · rw [List.append_nil, s2]
    exact trodAll_below hlaid hb hpar2 hA fun x hx => hW'.lt x (by simpa using hx)
  · rw [List.append_nil, s3, hvars]
    rfl
end Go.Vm
