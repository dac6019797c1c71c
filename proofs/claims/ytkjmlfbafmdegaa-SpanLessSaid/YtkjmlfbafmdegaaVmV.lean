import Derived.Test.YtkjmlfbafmdegaaVmU
namespace Go.Vm
set_option linter.unusedSectionVars false
set_option linter.unusedSimpArgs false
set_option linter.unusedVariables false
open Go
variable [Inhabited LayT]

/-! ### what is told of a value, told in other words -/
structure Sub where
  fo : Nat → Nat → Nat → Nat → AV
  fp : Nat → Nat → Nat → AV

section
variable (s : Sub)
mutual
def sub : AV → AV
  | .own id off n st => s.fo id off n st
  | .ptr id i o => s.fp id i o
  | .ifc t v => .ifc t (sub v)
  | .agg cs => .agg (subL cs)
  | .tup vs => .tup (subL vs)
  | .deep sz xs => .deep sz (subLL xs)
  | .dptr cs => .dptr (subL cs)
  | .fn f caps => .fn f (subL caps)
  | .k v => .k v
  | .i kd n => .i kd n
  | .b x => .b x
  | .s x => .s x
  | .undef => .undef
def subL : List AV → List AV
  | [] => []
  | x :: xs => sub x :: subL xs
def subLL : List (List AV) → List (List AV)
  | [] => []
  | x :: xs => subL x :: subLL xs
end
end
theorem subL_length (s : Sub) : ∀ l, (subL s l).length = l.length
  | [] => rfl
  | x :: xs => by simp [subL, subL_length s xs]
theorem subLL_length (s : Sub) : ∀ l, (subLL s l).length = l.length
  | [] => rfl
  | x :: xs => by simp [subLL, subLL_length s xs]
theorem subL_map (s : Sub) : ∀ l, subL s l = l.map (sub s)
  | [] => rfl
  | x :: xs => by simp [subL, subL_map s xs]
theorem subLL_map (s : Sub) : ∀ l, subLL s l = l.map (fun c => c.map (sub s))
  | [] => rfl
  | x :: xs => by simp [subLL, subLL_map s xs, subL_map]

/-- A change of words that keeps what holds. -/
structure SubOk (s : Sub) (g : Gh) (M : Mem) (w : World) (g' : Gh) (M' : Mem) (w' : World) : Prop where
  fo : ∀ id off n st u, Rel g M w (.own id off n st) u → Rel g' M' w' (s.fo id off n st) u
  fp : ∀ id i o u, Rel g M w (.ptr id i o) u → Rel g' M' w' (s.fp id i o) u
  Z : ∀ b, g.Z b → g'.Z b
  keep : ∀ b, g.Z b → w'.heap[b]? = w.heap[b]?

section
variable {s : Sub} {g g' : Gh} {M M' : Mem} {w w' : World} (E : SubOk s g M w g' M' w')
include E
mutual
theorem Rel.sub : ∀ (a : AV) (u : Value), Rel g M w a u → Rel g' M' w' (Go.Vm.sub s a) u
  | .k _, _, h => h
  | .i _ _, _, h => h
  | .b _, _, h => h
  | .s _, _, h => h
  | .ifc _ v, _, ⟨u', e, h⟩ => ⟨u', e, Rel.sub v u' h⟩
  | .agg cs, _, ⟨us, e, h⟩ => ⟨us, e, RelL.sub cs us h⟩
  | .tup vs, _, ⟨us, e, h⟩ => ⟨us, e, RelL.sub vs us h⟩
  | .own id off n st, u, h => E.fo id off n st u h
  | .ptr id i o, u, h => E.fp id i o u h
  | .deep sz xs, u, ⟨A, c, h1, h2, h3⟩ => by
    simp only [Go.Vm.sub]
    refine ⟨A, c, by rw [subLL_length]; exact h1, by rw [subLL_length]; exact h2, h3.imp ?_ fun ⟨blk, off, e, hb, h⟩ => ⟨blk, off, e, E.Z blk hb, RelD.sub sz blk off xs (E.keep blk hb) h⟩⟩
    rintro rfl; rfl
  | .dptr cs, _, ⟨blk, off, e, hb, h⟩ => ⟨blk, off, e, E.Z blk hb, RelM.sub blk off cs (E.keep blk hb) h⟩
  | .fn _ caps, _, ⟨us, e, h⟩ => ⟨us, e, RelL.sub caps us h⟩
  | .undef, _, _ => trivial
theorem RelL.sub : ∀ (xs : List AV) (us : List Value), RelL g M w xs us → RelL g' M' w' (subL s xs) us
  | [], _, h => h
  | x :: xs, _, ⟨u, r, e, h1, h2⟩ => ⟨u, r, e, Rel.sub x u h1, RelL.sub xs r h2⟩
theorem RelM.sub (blk off : Nat) : ∀ (xs : List AV), w'.heap[blk]? = w.heap[blk]? → RelM g M w blk off xs → RelM g' M' w' blk off (subL s xs)
  | [], _, _ => trivial
  | x :: xs, hb, ⟨⟨u, hu, h0, h1⟩, h2⟩ => ⟨⟨u, (World.cell?_of_block (w := w) (a := ⟨blk, off, none⟩) hb).trans hu, h0, Rel.sub x u h1⟩, RelM.sub blk (off + 1) xs hb h2⟩
theorem RelD.sub (sz blk off : Nat) : ∀ (xs : List (List AV)), w'.heap[blk]? = w.heap[blk]? → RelD g M w sz blk off xs → RelD g' M' w' sz blk off (subLL s xs)
  | [], _, _ => trivial
  | cs :: xs, hb, ⟨⟨h0, h1⟩, h2⟩ => ⟨⟨by rw [subL_length]; exact h0, RelM.sub blk off cs hb h1⟩, RelD.sub sz blk (off + sz) xs hb h2⟩
end
end

/-- Rows told anew, one by one. -/
def subRow (s : Sub) (r : Row) : Row := { r with el := subLL s r.el }

/-- Rows get other names, or none. -/
def ren (σ : Nat → Option Nat) : Sub where
  fo id off n st := match σ id with | some id' => .own id' off n st | none => .undef
  fp id i o := match σ id with | some id' => .ptr id' i o | none => .undef

/-- The rows of the other names. -/
theorem ren_ok {σ : Nat → Option Nat} {g g' : Gh} {M M' : Mem} {w w' : World}
    (hL : ∀ id id', σ id = some id' → g.L id → g'.L id')
    (hM : ∀ id id', σ id = some id' → g.L id → ∀ r', M' id' = some r' → ∃ r, M id = some r ∧ g'.at_ id' = g.at_ id ∧ r'.sz = r.sz ∧ r'.el.length = r.el.length)
    (hZ : ∀ b, g.Z b → g'.Z b) (hk : ∀ b, g.Z b → w'.heap[b]? = w.heap[b]?) : SubOk (ren σ) g M w g' M' w' where
  Z := hZ
  keep := hk
  fo id off n st u h := by
    simp only [ren]
    cases hs : σ id with
    | none => trivial
    | some id' =>
      obtain ⟨hl, h⟩ := h
      refine ⟨hL id id' hs hl, fun r' hr' => ?_⟩
      obtain ⟨r, hr, ha, hsz, hn⟩ := hM id id' hs hl r' hr'
      obtain ⟨h1, A, c, h2, h3, h4⟩ := h r hr
      exact ⟨by rw [hn]; exact h1, A, c, h2, h3, fun hc => by rw [ha, hsz]; exact h4 hc⟩
  fp id i o u h := by
    simp only [ren]
    cases hs : σ id with
    | none => trivial
    | some id' =>
      obtain ⟨hl, h⟩ := h
      refine ⟨hL id id' hs hl, fun r' hr' => ?_⟩
      obtain ⟨r, hr, ha, hsz, hn⟩ := hM id id' hs hl r' hr'
      rw [hn, ha, hsz]; exact h r hr

/-! ### slots and memory as lists -/
def lkM : List (Nat × Row) → Mem
  | [] => fun _ => none
  | (a, r) :: l => fun id => if id = a then some r else lkM l id

def subT (s : Sub) (l : List (Nat × AV)) : List (Nat × AV) := l.map fun x => (x.1, sub s x.2)
theorem subT_rel {s : Sub} {g g' : Gh} {M M' : Mem} {w w' : World} (E : SubOk s g M w g' M' w') {a : Act} : ∀ {l : List (Nat × AV)}, RelT g M w (lkT l) a → RelT g' M' w' (lkT (subT s l)) a := by
  intro l h t
  have key : ∀ l : List (Nat × AV), lkT (subT s l) t = sub s (lkT l t) := by
    intro l
    induction l with
    | nil => rfl
    | cons x l ih =>
      simp only [subT, List.map_cons, lkT] at ih ⊢
      split
      · rfl
      · exact ih
  rw [key]
  exact Rel.sub E _ _ (h t)

/-- Names anew: (old, new), rows that are kept; the first 'k' keep theirs. -/
def lkσ : List (Nat × Nat) → Nat → Option Nat
  | [] => fun _ => none
  | (a, b) :: l => fun id => if id = a then some b else lkσ l id
def renM (M : Mem) (σ : List (Nat × Nat)) : List (Nat × Row) :=
  σ.filterMap fun x => (M x.1).map fun r => (x.2, subRow (ren (lkσ σ)) r)
def unlk : List (Nat × Nat) → Nat → Option Nat
  | [] => fun _ => none
  | (a, b) :: l => fun id => if id = b then some a else unlk l id

theorem lkσ_mem : ∀ {l : List (Nat × Nat)} {a b : Nat}, lkσ l a = some b → (a, b) ∈ l
  | (x, y) :: l, a, b, h => by
    simp only [lkσ] at h
    split at h
    · rename_i e; cases h; subst e; exact List.mem_cons_self ..
    · exact List.mem_cons_of_mem _ (lkσ_mem h)
theorem unlk_of_mem : ∀ {l : List (Nat × Nat)} {a b : Nat}, (l.map (·.2)).Nodup → (a, b) ∈ l → unlk l b = some a
  | (x, y) :: l, a, b, hn, h => by
    simp only [unlk]
    rw [List.map_cons, List.nodup_cons] at hn
    rcases List.mem_cons.1 h with e | h'
    · cases e; simp
    · have : b ≠ y := by
        rintro rfl
        exact hn.1 (List.mem_map.2 ⟨(a, b), h', rfl⟩)
      rw [if_neg this]
      exact unlk_of_mem hn.2 h'
theorem unlk_mem : ∀ {l : List (Nat × Nat)} {a b : Nat}, unlk l b = some a → (a, b) ∈ l
  | (x, y) :: l, a, b, h => by
    simp only [unlk] at h
    split at h
    · rename_i e; cases h; subst e; exact List.mem_cons_self ..
    · exact List.mem_cons_of_mem _ (unlk_mem h)
theorem lkM_mem : ∀ {l : List (Nat × Row)} {a : Nat} {r : Row}, lkM l a = some r → (a, r) ∈ l
  | (x, y) :: l, a, r, h => by
    simp only [lkM] at h
    split at h
    · rename_i e; cases h; subst e; exact List.mem_cons_self ..
    · exact List.mem_cons_of_mem _ (lkM_mem h)

theorem lkσ_of_mem : ∀ {l : List (Nat × Nat)} {a b : Nat}, (l.map (·.1)).Nodup → (a, b) ∈ l → lkσ l a = some b
  | (x, y) :: l, a, b, hn, h => by
    simp only [lkσ]
    rw [List.map_cons, List.nodup_cons] at hn
    rcases List.mem_cons.1 h with e | h'
    · cases e; simp
    · have : a ≠ x := by
        rintro rfl
        exact hn.1 (List.mem_map.2 ⟨(a, b), h', rfl⟩)
      rw [if_neg this]
      exact lkσ_of_mem hn.2 h'
theorem renM_get {M : Mem} {σ : List (Nat × Nat)} {b : Nat} {r' : Row} (h : lkM (renM M σ) b = some r') : ∃ a r, (a, b) ∈ σ ∧ M a = some r ∧ r' = subRow (ren (lkσ σ)) r := by
  have := lkM_mem h
  simp only [renM, List.mem_filterMap, Option.map_eq_some_iff] at this
  obtain ⟨⟨x, y⟩, h1, r, h2, h3⟩ := this
  cases h3
  exact ⟨x, r, h1, h2, rfl⟩
theorem subRow_sz (s : Sub) (r : Row) : (subRow s r).sz = r.sz := rfl
theorem subRow_len (s : Sub) (r : Row) : (subRow s r).el.length = r.el.length := subLL_length s _
theorem nodup_snd {l : List (Nat × Nat)} (hn : (l.map (·.2)).Nodup) {a a' b : Nat} (h : (a, b) ∈ l) (h' : (a', b) ∈ l) : a = a' := by
  have h1 := unlk_of_mem hn h
  rw [unlk_of_mem hn h'] at h1
  exact (Option.some.inj h1).symm
theorem nodup_fst {l : List (Nat × Nat)} (hn : (l.map (·.1)).Nodup) {a b b' : Nat} (h : (a, b) ∈ l) (h' : (a, b') ∈ l) : b = b' := by
  have h1 := lkσ_of_mem hn h
  rw [lkσ_of_mem hn h'] at h1
  exact (Option.some.inj h1).symm

/-- Rows where they lie, under other names, and what may be touched made less. -/
theorem rowAt_ren {g g' : Gh} {M M' : Mem} {w w' : World} {s : Sub} (E : SubOk s g M w g' M' w') {id id' : Nat} {r : Row} (h : RowAt g M w id r) (ha : g'.at_ id' = g.at_ id)
    (hU : ∀ x, g.at_ id = some x → ¬ g.U x.1 → ¬ g'.U x.1) (hb : ∀ x, g.at_ id = some x → w'.heap[x.1]? = w.heap[x.1]?) : RowAt g' M' w' id' (subRow s r) := by
  rcases h with ⟨h1, h2⟩ | ⟨rb, ro, size, h1, h2, h3, h4, h5⟩
  · exact .inl ⟨by simp [subRow, h1, subLL], ha.trans h2⟩
  · have hb' := hb _ h1
    refine .inr ⟨rb, ro, size, ha.trans h1, hU _ h1 h2, ?_, ?_, ?_⟩
    · obtain ⟨arr, ty, fz, k1, k2, k3⟩ := h3
      exact ⟨arr, ty, fz, hb'.trans k1, k2, k3⟩
    · rw [subRow_sz, subRow_len]; exact h4
    · exact RelD.sub E _ _ _ _ hb' h5

theorem Wk.ren {n k : Nat} {l : List (Nat × AV)} {M : Mem} {nb : Nat} (σ : List (Nat × Nat)) (nb2 : Nat) (h1 : (σ.map (·.1)).Nodup) (h2 : (σ.map (·.2)).Nodup) (hk : ∀ x ∈ σ, x.2 < k → x.1 = x.2)
    (hnb : ∀ x ∈ σ, x.2 < nb2) (hkn : k ≤ nb2) : Wk n k (lkT l) M nb (lkT (subT (Go.Vm.ren (lkσ σ)) l)) (lkM (renM M σ)) nb2 := by
  intro g a w st
  let g2 : Gh := { at_ := fun b => (unlk σ b).bind g.at_, Z := g.Z, U := g.U, L := fun b => b < k ∨ ∃ a, (a, b) ∈ σ ∧ g.L a }
  have hat : ∀ {a b}, (a, b) ∈ σ → g2.at_ b = g.at_ a := fun h => by simp only [g2]; rw [unlk_of_mem h2 h]; rfl
  have E : SubOk (Go.Vm.ren (lkσ σ)) g M w g2 (lkM (renM M σ)) w := by
    refine ren_ok ?_ ?_ (fun _ h => h) (fun _ _ => rfl)
    · intro id id' hs hl
      exact .inr ⟨id, lkσ_mem hs, hl⟩
    · intro id id' hs hl r' hr'
      obtain ⟨a', r, m1, m2, rfl⟩ := renM_get hr'
      obtain rfl := nodup_snd h2 m1 (lkσ_mem hs)
      exact ⟨r, m2, hat m1, rfl, subRow_len _ _⟩
  refine ⟨g2, ⟨⟨st.mem.zu, st.mem.ul, ?_, ?_, st.mem.lay.st (fun _ h => h) (fun _ _ => rfl), ?_⟩, subT_rel E st.tm, ?_, fun id hid => .inl hid, st.size, st.defers⟩, ?_⟩
  · intro id r' hr'
    obtain ⟨a', r, m1, m2, rfl⟩ := renM_get hr'
    exact .inr ⟨a', m1, st.mem.known _ _ m2⟩
  · intro id r' hr'
    obtain ⟨a', r, m1, m2, rfl⟩ := renM_get hr'
    exact rowAt_ren E (st.mem.row _ _ m2) (hat m1) (fun _ _ h => h) (fun _ _ => rfl)
  · intro id id' r r' x x' e1 e2 e3 e4 e5
    obtain ⟨a1, r1, m1, m2, rfl⟩ := renM_get e1
    obtain ⟨a2, r2, m3, m4, rfl⟩ := renM_get e2
    rw [hat m1] at e3
    rw [hat m3] at e4
    obtain rfl := st.mem.inj _ _ _ _ _ _ m2 m4 e3 e4 e5
    exact nodup_fst h1 m1 m3
  · rintro id (h | ⟨a', h, _⟩)
    · omega
    · exact hnb _ h
  · refine ⟨fun _ h => h, fun _ h => .inl h, fun _ h => h, fun _ _ => rfl, Nat.le_refl _, rfl, rfl, ⟨rfl, Nat.le_refl _⟩, ?_⟩
    intro id hid r' hr'
    obtain ⟨a', r, m1, m2, rfl⟩ := renM_get hr'
    obtain rfl : a' = id := hk _ m1 hid
    exact ⟨r, m2, hat m1, rfl, subRow_len _ _⟩

/-- A slice that is nil is a slice of an empty row. -/
theorem Wk.nil {n k : Nat} {T : Tm} {M : Mem} {nb : Nat} (t id sz : Nat) (ht : T t = .k (.slice none 0 0)) (hid : nb ≤ id) (hk : k ≤ nb) : Wk n k T M nb (put T (some t) (.own id 0 0 1)) (upd M [(id, some ⟨sz, []⟩)]) (id + 1) := by
  intro g a w st
  have hnl : ¬ g.L id := fun h => by have := st.nb id h; omega
  have hMn : M id = none := by
    cases h : M id with
    | none => rfl
    | some r => exact absurd (st.mem.known _ _ h) hnl
  let g2 : Gh := { g with at_ := fun b => if b = id then none else g.at_ b, L := fun b => g.L b ∨ b = id }
  have hE : Evo g M w g2 (upd M [(id, some ⟨sz, []⟩)]) w := by
    refine ⟨fun _ h => .inl h, fun _ h => h, fun _ h => .inl h, fun _ h => h, fun _ _ => rfl, Nat.le_refl _, rfl, rfl, ⟨rfl, Nat.le_refl _⟩, ?_⟩
    intro i hi r' hr'
    have hne : i ≠ id := by rintro rfl; exact hnl hi
    simp only [upd, if_neg hne] at hr'
    exact ⟨r', hr', by simp [g2, hne], rfl, rfl⟩
  have hmem : MemRel g2 (upd M [(id, some ⟨sz, []⟩)]) w := by
    refine ⟨st.mem.zu, st.mem.ul, ?_, ?_, st.mem.lay.evo hE, ?_⟩
    · intro i r hr
      simp only [upd] at hr
      split at hr
      · rename_i e; exact .inr e
      · exact .inl (st.mem.known _ _ hr)
    · intro i r hr
      simp only [upd] at hr
      split at hr
      · rename_i e
        cases hr
        exact .inl ⟨rfl, by simp [g2, e]⟩
      · rename_i e
        have := st.mem.row i r hr
        rcases this with ⟨k1, k2⟩ | ⟨rb, ro, size, k1, k2, k3, k4, k5⟩
        · exact .inl ⟨k1, by simp [g2, e, k2]⟩
        · exact .inr ⟨rb, ro, size, by simp [g2, e, k1], k2, k3, k4, RelD.evo hE st.mem.zu _ _ _ _ rfl k5⟩
    · intro i i' r r' x x' e1 e2 e3 e4 e5
      simp only [g2] at e3 e4
      split at e3
      · cases e3
      · rename_i n1
        split at e4
        · cases e4
        · rename_i n2
          simp only [upd, if_neg n1] at e1
          simp only [upd, if_neg n2] at e2
          exact st.mem.inj _ _ _ _ _ _ e1 e2 e3 e4 e5
  refine ⟨g2, ⟨hmem, ?_, ?_, fun i hi => .inl (st.kn i hi), st.size, st.defers⟩, hE.wevo st.kn⟩
  · intro t'
    simp only [put]
    split
    · rename_i e
      subst e
      have h := st.tm t'
      rw [ht] at h
      refine ⟨.inr rfl, fun r hr => ?_⟩
      simp [upd] at hr
      subst hr
      refine ⟨by simp, none, 0, h, by simp, by simp⟩
    · exact Rel.evo hE st.mem.zu _ _ (st.tm t')
  · rintro i (h | rfl)
    · have := st.nb i h; omega
    · omega

theorem relM_app {g : Gh} {M : Mem} {w : World} {blk : Nat} : ∀ {xs ys : List AV} {off : Nat}, RelM g M w blk off xs → RelM g M w blk (off + xs.length) ys → RelM g M w blk off (xs ++ ys)
  | [], _, _, _, h => by simpa using h
  | x :: xs, ys, off, ⟨h1, h2⟩, h => ⟨h1, relM_app h2 (by rw [show off + 1 + xs.length = off + (x :: xs).length by simp; omega]; exact h)⟩
theorem relM_flat {g : Gh} {M : Mem} {w : World} {sz blk : Nat} : ∀ {el : List (List AV)} {off : Nat}, RelD g M w sz blk off el → RelM g M w blk off el.flatten
  | [], _, _ => trivial
  | cs :: el, off, ⟨⟨h0, h1⟩, h2⟩ => by
    rw [List.flatten_cons]
    exact relM_app h1 (by rw [h0]; exact relM_flat h2)
/-- A row that is only read from now on. -/
def fz (id : Nat) (r : Row) : Sub where
  fo id' off n st := if id' = id then (if st = 1 ∧ off + n ≤ r.el.length then .deep r.sz ((r.el.drop off).take n) else .undef) else .own id' off n st
  fp id' i o := if id' = id then .dptr (r.el.flatten.drop (i * r.sz + o)) else .ptr id' i o

def frM (m : List (Nat × Row)) (id : Nat) (s : Sub) : List (Nat × Row) := (m.filter fun x => x.1 != id).map fun x => (x.1, subRow s x.2)
theorem frM_get {id : Nat} {s : Sub} : ∀ {m : List (Nat × Row)} {i : Nat} {r' : Row}, lkM (frM m id s) i = some r' → i ≠ id ∧ ∃ r, lkM m i = some r ∧ r' = subRow s r
  | [], i, r', h => by cases h
  | (a, r) :: m, i, r', h => by
    simp only [frM, List.filter_cons] at h
    split at h
    · rename_i e
      simp only [List.map_cons, lkM] at h
      split at h
      · rename_i e2
        cases h
        subst e2
        exact ⟨by simpa using e, r, by simp [lkM], rfl⟩
      · rename_i e2
        obtain ⟨h1, r2, h2, h3⟩ := frM_get (m := m) h
        exact ⟨h1, r2, by simp [lkM, e2, h2], h3⟩
    · rename_i e
      obtain ⟨h1, r2, h2, h3⟩ := frM_get (m := m) h
      have : i ≠ a := by
        rintro rfl
        simp at e
        exact h1 e
      exact ⟨h1, r2, by simp [lkM, this, h2], h3⟩

theorem Wk.freeze {n k : Nat} {l : List (Nat × AV)} {m : List (Nat × Row)} {nb : Nat} (id : Nat) (r : Row) (hr : lkM m id = some r) :
    Wk n k (lkT l) (lkM m) nb (lkT (subT (fz id r) l)) (lkM (frM m id (fz id r))) nb := by
  intro g a w st
  let fr : Nat → Prop := fun b => ∃ x, g.at_ id = some x ∧ x.1 = b
  let g2 : Gh := { g with Z := fun b => g.Z b ∨ (r.el ≠ [] ∧ fr b), U := fun b => g.U b ∨ (r.el ≠ [] ∧ fr b) }
  have hrow := st.mem.row id r hr
  have hnU : ∀ b, r.el ≠ [] → fr b → ¬ g.U b := by
    rintro b hne ⟨x, hx, rfl⟩
    rcases hrow with ⟨h, _⟩ | ⟨rb, ro, size, k1, k2, _⟩
    · exact absurd h hne
    · rw [k1] at hx; cases hx; exact k2
  have hE : Evo g (lkM m) w g2 (lkM (frM m id (fz id r))) w := by
    refine ⟨fun _ h => h, fun _ h => .inl h, ?_, fun _ h => .inl h, fun _ _ => rfl, Nat.le_refl _, rfl, rfl, ⟨rfl, Nat.le_refl _⟩, ?_⟩
    · rintro b (h | ⟨h1, h2⟩)
      · exact .inl h
      · exact .inr (hnU b h1 h2)
    · intro i _ r' hr'
      obtain ⟨_, r2, h2, rfl⟩ := frM_get hr'
      exact ⟨r2, h2, rfl, rfl, subRow_len _ _⟩
  have E : SubOk (fz id r) g (lkM m) w g2 (lkM (frM m id (fz id r))) w := by
    refine ⟨?_, ?_, fun _ h => .inl h, fun _ _ => rfl⟩
    · intro id' off n' st' u h
      simp only [fz]
      by_cases e : id' = id
      · subst e
        rw [if_pos rfl]
        split
        · rename_i hc
          obtain ⟨rfl, hc⟩ := hc
          obtain ⟨_, A, c, h2, h3, h4⟩ := h.2 r hr
          have hlen : ((r.el.drop off).take n').length = n' := by simp; omega
          refine ⟨A, c, by rw [hlen]; exact h2, by rw [hlen]; exact h3, ?_⟩
          by_cases hn : n' = 0
          · exact .inl (by simp [hn])
          · obtain ⟨rb, ro, size, k1, k2, k3⟩ := h4 (by omega)
            have hne : r.el ≠ [] := by rintro e; simp [e] at hc; omega
            rcases hrow with ⟨h, _⟩ | ⟨rb', ro', size', q1, q2, q3, q4, q5⟩
            · exact absurd h hne
            · rw [k1] at q1
              cases q1
              exact .inr ⟨rb, ro + off * r.sz, k2, .inr ⟨hne, _, k1, rfl⟩, RelD.evo hE st.mem.zu _ _ _ _ rfl (relD_take _ (relD_drop _ q5))⟩
        · trivial
      · rw [if_neg e]; exact Rel.evo hE st.mem.zu _ _ h
    · intro id' i o u h
      simp only [fz]
      by_cases e : id' = id
      · subst e
        rw [if_pos rfl]
        obtain ⟨h1, rb, ro, size, k1, k2⟩ := h.2 r hr
        have hne : r.el ≠ [] := by rintro e; simp [e] at h1
        rcases hrow with ⟨h, _⟩ | ⟨rb', ro', size', q1, q2, q3, q4, q5⟩
        · exact absurd h hne
        · rw [k1] at q1
          cases q1
          refine ⟨rb, ro + i * r.sz + o, k2, .inr ⟨hne, _, k1, rfl⟩, RelM.evo hE st.mem.zu _ _ _ rfl ?_⟩
          rw [Nat.add_assoc]
          exact relM_drop _ (relM_flat q5)
      · rw [if_neg e]; exact Rel.evo hE st.mem.zu _ _ h
  have hul : ∀ b, g2.U b → b < w.heap.size := by
    rintro b (h | ⟨h1, x, hx, rfl⟩)
    · exact st.mem.ul b h
    · rcases hrow with ⟨h, _⟩ | ⟨rb, ro, size, k1, k2, k3, _⟩
      · exact absurd h h1
      · rw [k1] at hx
        cases hx
        obtain ⟨arr, ty, fz, q1, _⟩ := k3
        obtain ⟨h, _⟩ := Array.getElem?_eq_some_iff.1 q1
        exact h
  refine ⟨g2, ⟨⟨fun b h => h.imp (st.mem.zu b) (fun x => x), hul, ?_, ?_, st.mem.lay.evo hE, ?_⟩, subT_rel E st.tm, st.nb, st.kn, st.size, st.defers⟩, hE.wevo st.kn⟩
  · intro i r' hr'
    obtain ⟨_, r2, h2, rfl⟩ := frM_get hr'
    exact st.mem.known _ _ h2
  · intro i r' hr'
    obtain ⟨hi, r2, h2, rfl⟩ := frM_get hr'
    refine rowAt_ren E (st.mem.row _ _ h2) rfl ?_ (fun _ _ => rfl)
    rintro x hx hu (h | ⟨h1, y, hy, e⟩)
    · exact hu h
    · exact hi (st.mem.inj _ _ _ _ _ _ h2 hr hx hy e.symm)
  · intro i i' r1 r2 x x' e1 e2 e3 e4 e5
    obtain ⟨_, q1, m1, rfl⟩ := frM_get e1
    obtain ⟨_, q2, m2, rfl⟩ := frM_get e2
    exact st.mem.inj _ _ _ _ _ _ m1 m2 e3 e4 e5

end Go.Vm
