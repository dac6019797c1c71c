import Derived.Test.YtkjmlfbafmdegaaVmZ
namespace Go.Vm
set_option linter.unusedSectionVars false
set_option linter.unusedSimpArgs false
set_option linter.unusedVariables false
open Go
variable [Inhabited LayT]

/-! ### loops -/
theorem loop_by {P : Program} {n k : Nat} {lc : LCode} {K : Cont} {α : Type} (R : α → Prop) (μ : α → Nat) (S : α → List (Nat × AV)) (MM : α → List (Nat × Row)) (N : Nat)
    (hstep : ∀ x, R x → run P n k lc (onNormal (fun T M nb => ∃ y, R y ∧ μ y < μ x ∧ Wk n k T M nb (lkT (S y)) (lkM (MM y)) N) K) (lkT (S x)) (lkM (MM x)) N)
    (x0 : α) (h0 : R x0) {T : Tm} {M : Mem} {nb : Nat} (hw : Wk n k T M nb (lkT (S x0)) (lkM (MM x0)) N) : run P n k (.loop lc) K T M nb := by
  have key : ∀ m x, μ x < m → R x → ∃ r, ∀ T M nb, Wk n k T M nb (lkT (S x)) (lkM (MM x)) N → loopN n k (run P n k lc) K r T M nb := by
    intro m
    induction m with
    | zero => intro x h; omega
    | succ m ih =>
      intro x hx hr
      have h1 := hstep x hr
      have h2 : run P n k lc (fun ex T M nb => ∃ r, onNormal (loopN n k (run P n k lc) K r) K ex T M nb) (lkT (S x)) (lkM (MM x)) N := by
        refine run_imp lc ?_ _ _ _ h1
        intro ex T M nb h
        cases ex with
        | normal =>
          obtain ⟨y, hy, hlt, hwk⟩ := h
          obtain ⟨r, hr⟩ := ih y (by omega) hy
          exact ⟨r, hr _ _ _ hwk⟩
        | _ => exact ⟨0, h⟩
      obtain ⟨r, h3⟩ := run_ex lc (K := fun r => onNormal (loopN n k (run P n k lc) K r) K) (fun m m' hm ex T M nb h => onNormal_imp (fun T M nb h => loopN_le lc hm h) (fun _ _ _ _ h => h) ex T M nb h) _ _ _ h2
      exact ⟨r + 1, fun T M nb hw => ⟨_, _, _, hw, h3⟩⟩
  obtain ⟨r, h⟩ := key _ x0 (Nat.lt_succ_self _) h0
  exact ⟨r, h _ _ _ hw⟩

def okσ (k nb2 : Nat) (σ : List (Nat × Nat)) : Bool :=
  decide ((σ.map (·.1)).Nodup) && decide ((σ.map (·.2)).Nodup) && (σ.all fun x => (decide (k ≤ x.2) || x.1 == x.2) && decide (x.2 < nb2)) && decide (k ≤ nb2)
theorem Wk.keep {n k : Nat} {T : Tm} {M : Mem} {nb : Nat} (keep : List Nat) : Wk n k T M nb (restrict keep T) M nb := fun g a w st => ⟨g, st.restrict keep, WEvo.refl _ _ _ _⟩
theorem Wk.norm {n k : Nat} {l l2 : List (Nat × AV)} {m m2 : List (Nat × Row)} {nb nb2 : Nat} (σ : List (Nat × Nat)) (hσ : okσ k nb2 σ = true)
    (hT : (l2.map fun x => (x.1, sub (Go.Vm.ren (lkσ σ)) (lkT l x.1))) = l2) (hM : renM (lkM m) σ = m2) : Wk n k (lkT l) (lkM m) nb (lkT l2) (lkM m2) nb2 := by
  simp only [okσ, Bool.and_eq_true, decide_eq_true_eq, List.all_eq_true, Bool.or_eq_true, beq_iff_eq] at hσ
  obtain ⟨⟨⟨h1, h2⟩, h3⟩, h4⟩ := hσ
  refine Wk.trans (Wk.keep (l2.map (·.1))) ?_
  have h := Wk.ren (n := n) (k := k) (l := (l2.map (·.1)).map fun t => (t, lkT l t)) (M := lkM m) (nb := nb) σ nb2 h1 h2 (fun x hx hk => by rcases (h3 x hx).1 with h | h <;> omega) (fun x hx => (h3 x hx).2) h4
  rw [hM] at h
  have e : subT (Go.Vm.ren (lkσ σ)) ((l2.map (·.1)).map fun t => (t, lkT l t)) = l2 := by
    rw [← hT]
    simp [subT, Function.comp_def]
  rw [e] at h
  exact h
/-- A row that is only read from now on; what it leads to is known. -/
theorem Wk.fr {n k : Nat} {l l2 : List (Nat × AV)} {m m2 : List (Nat × Row)} {nb nb2 : Nat} (id : Nat) {r : Row} (hr : lkM m id = some r)
    (hT : (l2.map fun x => (x.1, sub (fz id r) (lkT l x.1))) = l2) (hM : frM m id (fz id r) = m2) : Wk n k (lkT l) (lkM m) nb (lkT l2) (lkM m2) nb := by
  refine Wk.trans (Wk.keep (l2.map (·.1))) ?_
  have h := Wk.freeze (n := n) (k := k) (l := (l2.map (·.1)).map fun t => (t, lkT l t)) (m := m) (nb := nb) id r hr
  rw [hM] at h
  have e : subT (fz id r) ((l2.map (·.1)).map fun t => (t, lkT l t)) = l2 := by
    rw [← hT]
    simp [subT, Function.comp_def]
  rw [e] at h
  exact h

/-! ### rows of plain cells -/
def enc {α : Type} (f : α → AV) (xs : List α) : List (List AV) := xs.map fun x => [f x]
section
variable {α : Type} {f : α → AV} {xs ys : List α} {s : Sub}
theorem enc_length : (enc f xs).length = xs.length := by simp [enc]
theorem enc_get {i : Nat} : (enc f xs)[i]? = (xs[i]?).map fun x => [f x] := by simp [enc]
theorem enc_set {i : Nat} {x : α} : (enc f xs).set i [f x] = enc f (xs.set i x) := by simp [enc, List.map_set]
theorem enc_append : enc f xs ++ enc f ys = enc f (xs ++ ys) := by simp [enc]
theorem enc_take {i : Nat} : (enc f xs).take i = enc f (xs.take i) := by simp [enc, List.map_take]
theorem enc_drop {i : Nat} : (enc f xs).drop i = enc f (xs.drop i) := by simp [enc, List.map_drop]
theorem enc_replicate {i : Nat} {x : α} : List.replicate i [f x] = enc f (List.replicate i x) := by simp [enc]
theorem enc_nil : ([] : List (List AV)) = enc f [] := (rfl)
theorem enc_set0 {x : α} {c : List AV} : (enc f (x :: xs)).set 0 c = c :: enc f xs := rfl
theorem enc_set1 {x : α} {c : List AV} {i : Nat} : (enc f (x :: xs)).set (i + 1) c = [f x] :: (enc f xs).set i c := rfl
theorem enc_nil' : enc f [] = [] := rfl
theorem enc_one {x : α} : [[f x]] = enc f [x] := rfl
theorem enc_cons {x : α} : [f x] :: enc f xs = enc f (x :: xs) := (rfl)
theorem enc_eq_nil : (enc f xs = []) = (xs = []) := by simp [enc]
theorem subLL_enc (h : ∀ x, sub s (f x) = f x) : subLL s (enc f xs) = enc f xs := by
  simp only [subLL_map, enc, List.map_map]
  exact List.map_congr_left fun x _ => by simp [h]
end
section
variable {s : Sub}
theorem sub_k {v : Value} : sub s (.k v) = .k v := (rfl)
theorem sub_i {kd : IntKind} {x : Int} : sub s (.i kd x) = .i kd x := (rfl)
theorem sub_b {x : Bool} : sub s (.b x) = .b x := (rfl)
theorem sub_s {x : List UInt8} : sub s (.s x) = .s x := (rfl)
theorem sub_u : sub s .undef = .undef := (rfl)
theorem sub_ifc {t : TypeId} {v : AV} : sub s (.ifc t v) = .ifc t (sub s v) := (rfl)
theorem sub_agg {cs : List AV} : sub s (.agg cs) = .agg (subL s cs) := (rfl)
theorem sub_tup {cs : List AV} : sub s (.tup cs) = .tup (subL s cs) := (rfl)
theorem sub_deep {sz : Nat} {xs : List (List AV)} : sub s (.deep sz xs) = .deep sz (subLL s xs) := (rfl)
theorem sub_dptr {cs : List AV} : sub s (.dptr cs) = .dptr (subL s cs) := (rfl)
theorem sub_fn {f : FuncId} {cs : List AV} : sub s (.fn f cs) = .fn f (subL s cs) := (rfl)
theorem sub_own {id off n st : Nat} : sub s (.own id off n st) = s.fo id off n st := (rfl)
theorem sub_ptr {id i o : Nat} : sub s (.ptr id i o) = s.fp id i o := (rfl)
theorem subL_nil : subL s [] = [] := (rfl)
theorem subL_cons {x : AV} {xs : List AV} : subL s (x :: xs) = sub s x :: subL s xs := (rfl)
theorem subLL_nil : subLL s [] = [] := (rfl)
theorem subLL_cons {x : List AV} {xs : List (List AV)} : subLL s (x :: xs) = subL s x :: subLL s xs := (rfl)
theorem ren_fo {σ : Nat → Option Nat} {id off n st : Nat} : (ren σ).fo id off n st = match σ id with | some id' => .own id' off n st | none => .undef := (rfl)
theorem ren_fp {σ : Nat → Option Nat} {id i o : Nat} : (ren σ).fp id i o = match σ id with | some id' => .ptr id' i o | none => .undef := (rfl)
theorem fz_fo {id id' off n st : Nat} {r : Row} : (fz id r).fo id' off n st = if id' = id then (if st = 1 ∧ off + n ≤ r.el.length then .deep r.sz ((r.el.drop off).take n) else .undef) else .own id' off n st := (rfl)
theorem fz_fp {id id' i o : Nat} {r : Row} : (fz id r).fp id' i o = if id' = id then .dptr (r.el.flatten.drop (i * r.sz + o)) else .ptr id' i o := (rfl)
theorem lkσ_cons {a b id : Nat} {l : List (Nat × Nat)} : lkσ ((a, b) :: l) id = if id = a then some b else lkσ l id := (rfl)
theorem lkσ_nil {id : Nat} : lkσ [] id = none := (rfl)
end

section
variable {rs : List Nat} {v : AV} {T : Tm} {M : Mem} {nb : Nat}
theorem retP_r : retP rs v .ret T M nb = (v = sub (ren (lkσ [])) (resV rs T)) := by simp [retP]
theorem retP_n : retP rs v .normal T M nb = (v = sub (ren (lkσ [])) (resV rs T)) := by simp [retP]
theorem resV_1 {t : Nat} : resV [t] T = T t := (rfl)
theorem resV_2 {t u : Nat} {l : List Nat} : resV (t :: u :: l) T = .tup (T t :: T u :: l.map T) := (rfl)
end

theorem cast_neg {n : Nat} : ((n : Int) < 0) = False := eq_false (by omega)
theorem tyInts {P : Program} {f : Nat} {t : TypeId} {kd : IntKind} (ht : P.underlying t = some (.int kd)) : ∀ {xs : List (List AV)}, (∀ x ∈ xs, TyC P (f + 1) t x) → ∃ ns : List Int, xs = enc (.i kd) ns ∧ ∀ n ∈ ns, kd.min ≤ n ∧ n ≤ kd.max
  | [], _ => ⟨[], rfl, by simp⟩
  | x :: xs, h => by
    obtain ⟨ns, e, hn⟩ := tyInts ht (xs := xs) fun y hy => h y (List.mem_cons_of_mem _ hy)
    have hx := h x (List.mem_cons_self ..)
    unfold TyC at hx
    rw [ht] at hx
    obtain ⟨n, rfl, h1, h2⟩ := hx
    refine ⟨n :: ns, by rw [e]; rfl, ?_⟩
    intro m hm
    rcases List.mem_cons.1 hm with rfl | hm
    · exact ⟨h1, h2⟩
    · exact hn m hm

/-! ### a pure call that is handed rows of the caller's: these are only read from now on, and no more told of -/
/-- Rows are only read from now on, one behind the other. -/
def frs : List (Nat × Row) → List AV → List AV
  | [], a => a
  | (id, r) :: l, a => frs l (subL (fz id r) a)
def frz (M : Mem) (id : Nat) (r : Row) : Mem := fun j => if j = id then none else (M j).map (subRow (fz id r))
def frOk : Mem → List (Nat × Row) → Prop
  | _, [] => True
  | M, (id, r) :: l => M id = some r ∧ frOk (frz M id r) l
theorem frz_lk {m : List (Nat × Row)} {id : Nat} {r : Row} : frz (lkM m) id r = lkM (frM m id (fz id r)) := by
  funext j
  induction m with
  | nil => simp [frz, lkM, frM]
  | cons x m ih =>
    obtain ⟨a, s⟩ := x
    by_cases ha : a = id
    · have e1 : frM ((a, s) :: m) id (fz id r) = frM m id (fz id r) := by simp [frM, List.filter_cons, ha]
      rw [e1, ← ih]
      simp only [frz, lkM]
      split
      · rfl
      · rename_i e
        rw [if_neg (by rw [ha]; exact e)]
    · have e1 : frM ((a, s) :: m) id (fz id r) = (a, subRow (fz id r) s) :: frM m id (fz id r) := by simp [frM, List.filter_cons, ha]
      rw [e1]
      simp only [lkM]
      rw [← ih]
      simp only [frz, lkM]
      by_cases e : j = id
      · have : ¬ j = a := fun h => ha (h.symm.trans e)
        simp [e, show ¬ id = a from fun h => ha h.symm]
      · simp only [if_neg e]
        split <;> rfl

theorem freeze_one {g : Gh} {M : Mem} {w : World} {id : Nat} {r : Row} (hm : MemRel g M w) (hr : M id = some r) :
    ∃ g2, MemRel g2 (frz M id r) w ∧ SubOk (fz id r) g M w g2 (frz M id r) w ∧ (∀ b, g.Z b → g2.Z b) ∧ (∀ b, g.U b → g2.U b) ∧ g2.L = g.L ∧ g2.at_ = g.at_ ∧
      (∀ b, g2.U b → g.U b ∨ ∃ x, g.at_ id = some x ∧ x.1 = b ∧ r.el ≠ []) ∧ (∀ b, g2.Z b → g.Z b ∨ ∃ x, g.at_ id = some x ∧ x.1 = b ∧ r.el ≠ []) := by
  have hget : ∀ {i r'}, frz M id r i = some r' → i ≠ id ∧ ∃ r2, M i = some r2 ∧ r' = subRow (fz id r) r2 := by
    intro i r' h
    unfold frz at h
    split at h
    · cases h
    · rename_i e
      obtain ⟨r2, h1, h2⟩ := Option.map_eq_some_iff.1 h
      exact ⟨e, r2, h1, h2.symm⟩
  let fr : Nat → Prop := fun b => ∃ x, g.at_ id = some x ∧ x.1 = b
  let g2 : Gh := { g with Z := fun b => g.Z b ∨ (r.el ≠ [] ∧ fr b), U := fun b => g.U b ∨ (r.el ≠ [] ∧ fr b) }
  have hrow := hm.row id r hr
  have hnU : ∀ b, r.el ≠ [] → fr b → ¬ g.U b := by
    rintro b hne ⟨x, hx, rfl⟩
    rcases hrow with ⟨h, _⟩ | ⟨rb, ro, size, k1, k2, _⟩
    · exact absurd h hne
    · rw [k1] at hx; cases hx; exact k2
  have hE : Evo g M w g2 (frz M id r) w := by
    refine ⟨fun _ h => h, fun _ h => .inl h, ?_, fun _ h => .inl h, fun _ _ => rfl, Nat.le_refl _, rfl, rfl, ⟨rfl, Nat.le_refl _⟩, ?_⟩
    · rintro b (h | ⟨h1, h2⟩)
      · exact .inl h
      · exact .inr (hnU b h1 h2)
    · intro i _ r' hr'
      obtain ⟨_, r2, h2, rfl⟩ := hget hr'
      exact ⟨r2, h2, rfl, rfl, subRow_len _ _⟩
  have E : SubOk (fz id r) g M w g2 (frz M id r) w := by
    refine ⟨?_, ?_, fun _ h => .inl h, fun _ _ => rfl⟩
    · intro id' off n' st' u h
      simp only [fz]
      by_cases e : id' = id
      · subst e
        rw [if_pos rfl]
        split
        · rename_i hc
          obtain ⟨rfl, hc⟩ := hc
          obtain ⟨_, A, c, h2, h3, h4⟩ := h.2 r hr
          have hlen : ((r.el.drop off).take n').length = n' := by simp; omega
          refine ⟨A, c, by rw [hlen]; exact h2, by rw [hlen]; exact h3, ?_⟩
          by_cases hn : n' = 0
          · exact .inl (by simp [hn])
          · obtain ⟨rb, ro, size, k1, k2, k3⟩ := h4 (by omega)
            have hne : r.el ≠ [] := by rintro e; simp [e] at hc; omega
            rcases hrow with ⟨h, _⟩ | ⟨rb', ro', size', q1, q2, q3, q4, q5⟩
            · exact absurd h hne
            · rw [k1] at q1
              cases q1
              exact .inr ⟨rb, ro + off * r.sz, k2, .inr ⟨hne, _, k1, rfl⟩, RelD.evo hE hm.zu _ _ _ _ rfl (relD_take _ (relD_drop _ q5))⟩
        · trivial
      · rw [if_neg e]; exact Rel.evo hE hm.zu _ _ h
    · intro id' i o u h
      simp only [fz]
      by_cases e : id' = id
      · subst e
        rw [if_pos rfl]
        obtain ⟨h1, rb, ro, size, k1, k2⟩ := h.2 r hr
        have hne : r.el ≠ [] := by rintro e; simp [e] at h1
        rcases hrow with ⟨h, _⟩ | ⟨rb', ro', size', q1, q2, q3, q4, q5⟩
        · exact absurd h hne
        · rw [k1] at q1
          cases q1
          refine ⟨rb, ro + i * r.sz + o, k2, .inr ⟨hne, _, k1, rfl⟩, RelM.evo hE hm.zu _ _ _ rfl ?_⟩
          rw [Nat.add_assoc]
          exact relM_drop _ (relM_flat q5)
      · rw [if_neg e]; exact Rel.evo hE hm.zu _ _ h
  have hul : ∀ b, g2.U b → b < w.heap.size := by
    rintro b (h | ⟨h1, x, hx, rfl⟩)
    · exact hm.ul b h
    · rcases hrow with ⟨h, _⟩ | ⟨rb, ro, size, k1, k2, k3, _⟩
      · exact absurd h h1
      · rw [k1] at hx
        cases hx
        obtain ⟨arr, ty, fz, q1, _⟩ := k3
        obtain ⟨h, _⟩ := Array.getElem?_eq_some_iff.1 q1
        exact h
  refine ⟨g2, ⟨fun b h => h.imp (hm.zu b) (fun x => x), hul, ?_, ?_, hm.lay.evo hE, ?_⟩, E, fun _ h => .inl h, fun _ h => .inl h, rfl, rfl, ?_, ?_⟩
  · intro i r' hr'
    obtain ⟨_, r2, h2, rfl⟩ := hget hr'
    exact hm.known _ _ h2
  · intro i r' hr'
    obtain ⟨hi, r2, h2, rfl⟩ := hget hr'
    refine rowAt_ren E (hm.row _ _ h2) rfl ?_ (fun _ _ => rfl)
    rintro x hx hu (h | ⟨h1, y, hy, e⟩)
    · exact hu h
    · exact hi (hm.inj _ _ _ _ _ _ h2 hr hx hy e.symm)
  · intro i i' r1 r2 x x' e1 e2 e3 e4 e5
    obtain ⟨_, q1, m1, rfl⟩ := hget e1
    obtain ⟨_, q2, m2, rfl⟩ := hget e2
    exact hm.inj _ _ _ _ _ _ m1 m2 e3 e4 e5
  · rintro b (h | ⟨h, x, h2, h3⟩)
    · exact .inl h
    · exact .inr ⟨x, h2, h3, h⟩
  · rintro b (h | ⟨h, x, h2, h3⟩)
    · exact .inl h
    · exact .inr ⟨x, h2, h3, h⟩

theorem freeze_list : ∀ (fr : List (Nat × Row)) {g : Gh} {M : Mem} {w : World}, MemRel g M w → frOk M fr →
    ∃ g2 M2, MemRel g2 M2 w ∧ (∀ as us, RelL g M w as us → RelL g2 M2 w (frs fr as) us) ∧ (∀ b, g.Z b → g2.Z b) ∧ (∀ b, g.U b → g2.U b) ∧ g2.L = g.L ∧ g2.at_ = g.at_ ∧
      (∀ b, g2.Z b → g.Z b ∨ ∃ id r x, id ∈ fr.map (·.1) ∧ M id = some r ∧ g.at_ id = some x ∧ x.1 = b ∧ r.el ≠ []) ∧ (∀ id r, id ∉ fr.map (·.1) → M id = some r → ∃ r2, M2 id = some r2)
  | [], g, M, w, hm, _ => ⟨g, M, hm, fun _ _ h => h, fun _ h => h, fun _ h => h, rfl, rfl, fun _ h => .inl h, fun _ r _ h => ⟨r, h⟩⟩
  | (id, r) :: fr, g, M, w, hm, hok => by
    obtain ⟨hr, hok⟩ := hok
    obtain ⟨g1, m1, E, z1, u1, l1, a1, uu1, zz1⟩ := freeze_one hm hr
    obtain ⟨g2, M2, m2, r2, z2, u2, l2, a2, zz2, k2⟩ := freeze_list fr m1 hok
    refine ⟨g2, M2, m2, fun as us h => r2 _ _ (RelL.sub E _ _ h), fun b h => z2 b (z1 b h), fun b h => u2 b (u1 b h), l2.trans l1, a2.trans a1, ?_, ?_⟩
    · intro b hb
      rcases zz2 b hb with h | ⟨id', r', x, q1, q2, q3, q4, q5⟩
      · rcases zz1 b h with h | ⟨x, q1, q2, q3⟩
        · exact .inl h
        · exact .inr ⟨id, r, x, by simp, hr, q1, q2, q3⟩
      · unfold frz at q2
        split at q2
        · cases q2
        · obtain ⟨r0, p1, p2⟩ := Option.map_eq_some_iff.1 q2
          refine .inr ⟨id', r0, x, List.mem_cons_of_mem _ q1, p1, by rw [← a1]; exact q3, q4, ?_⟩
          rintro e
          rw [← p2] at q5
          simp [subRow, e, subLL] at q5
    · intro id' r' hn h
      simp only [List.map_cons, List.mem_cons, not_or] at hn
      refine k2 id' (subRow (fz id r) r') hn.2 ?_
      simp [frz, hn.1, h]

def frOut (v : AV) (fr : List (Nat × Row)) : Out := { v := v, eff := fr.map fun x => (x.1, none), rd := fr.map (·.1) }
theorem upd_frOut {M : Mem} {id : Nat} : ∀ (fr : List (Nat × Row)), (id ∈ fr.map (·.1) → upd M (fr.map fun x => (x.1, none)) id = none) ∧ (id ∉ fr.map (·.1) → upd M (fr.map fun x => (x.1, none)) id = M id)
  | [] => ⟨fun h => absurd h (by simp), fun _ => rfl⟩
  | (a, r) :: fr => by
    obtain ⟨h1, h2⟩ := upd_frOut (M := M) (id := id) fr
    simp only [List.map_cons, upd, List.mem_cons, not_or]
    constructor
    · rintro (h | h)
      · simp [h]
      · split
        · rfl
        · exact h1 h
    · rintro ⟨ha, hn⟩
      rw [if_neg ha]
      exact h2 hn

theorem callOk_fr {P : Program} {f : FuncId} {args : List AV} {M : Mem} {slot : Nat} {v : AV} (fr : List (Nat × Row)) (hok : frOk M fr)
    (h : CallOk P f (subL (ren fun _ => none) (frs fr args)) mem0 slot { v := v }) : CallOk P f args M slot (frOut (sub (ren fun _ => none) v) fr) := by
  refine ⟨h.1, ?_⟩
  intro Mx hMx g w us hm hus hslot
  have hok' : frOk Mx fr := by
    have key : ∀ (fr : List (Nat × Row)) (M M' : Mem), (∀ id ∈ fr.map (·.1), M' id = M id) → frOk M fr → frOk M' fr := by
      intro fr
      induction fr with
      | nil => intro _ _ _ _; trivial
      | cons x fr ih =>
        obtain ⟨id, r⟩ := x
        rintro M M' h ⟨h1, h2⟩
        refine ⟨(h id (by simp)).trans h1, ih _ _ ?_ h2⟩
        intro i hi
        simp only [frz]
        split
        · rfl
        · rw [h i (by simp at hi ⊢; exact .inr hi)]
    exact key fr M Mx hMx hok
  obtain ⟨g2, M2, m2, r2, z2, u2, l2, a2, zz2, k2⟩ := freeze_list fr hm hok'
  let g3 : Gh := { at_ := fun _ => none, Z := g2.Z, U := fun b => g2.U b ∨ ∃ id r x, M2 id = some r ∧ g2.at_ id = some x ∧ x.1 = b, L := fun _ => False }
  have hblock : ∀ id r x, M2 id = some r → g2.at_ id = some x → ¬ g2.U x.1 ∧ x.1 < w.heap.size := by
    intro id r x h1 h2
    rcases m2.row id r h1 with ⟨_, h⟩ | ⟨rb, ro, size, k1, k2, ⟨arr, ty, fz, k3, _⟩, _⟩
    · rw [h2] at h; cases h
    · rw [h2] at k1
      cases k1
      obtain ⟨h, _⟩ := Array.getElem?_eq_some_iff.1 k3
      exact ⟨k2, h⟩
  have E3 : SubOk (ren fun _ => none) g2 M2 w g3 mem0 w := ren_ok (fun _ _ h => by cases h) (fun _ _ h => by cases h) (fun _ h => h) (fun _ _ => rfl)
  have m3 : MemRel g3 mem0 w := by
    refine ⟨fun b h => .inl (m2.zu b h), ?_, fun _ _ h => absurd h (by simp [mem0]), fun _ _ h => absurd h (by simp [mem0]), m2.lay.st (fun _ h => .inl h) (fun _ _ => rfl), fun _ _ _ _ _ _ h => absurd h (by simp [mem0])⟩
    rintro b (h | ⟨id, r, x, h2, h3, rfl⟩)
    · exact m2.ul b h
    · exact (hblock id r x h2 h3).2
  refine (h.2 mem0 (fun _ h => by cases h) g3 w us m3 (RelL.sub E3 _ _ (r2 _ _ hus)) (fun _ _ _ h => h)).mono ?_
  rintro e w' ⟨u, g', rfl, hu, hm', ev, _⟩
  have hE0 : Evo g3 mem0 w g' mem0 w' := ev
  let M4 : Mem := upd Mx (frOut (sub (ren fun _ => none) v) fr).eff
  let g4 : Gh := { at_ := g.at_, Z := g'.Z, U := fun b => g.U b ∨ g'.Z b, L := g.L }
  have hM4 : ∀ {id r}, M4 id = some r → id ∉ fr.map (·.1) ∧ Mx id = some r := by
    intro id r h
    by_cases hin : id ∈ fr.map (·.1)
    · have := (upd_frOut (M := Mx) fr).1 hin
      simp only [M4, frOut] at h
      rw [this] at h
      cases h
    · have := (upd_frOut (M := Mx) fr).2 hin
      simp only [M4, frOut] at h
      rw [this] at h
      exact ⟨hin, h⟩
  have hrowU : ∀ id r x, Mx id = some r → g.at_ id = some x → ¬ g.U x.1 := by
    intro id r x h1 h2
    rcases hm.row id r h1 with ⟨_, h⟩ | ⟨rb, ro, size, k1, k2, _⟩
    · rw [h2] at h; cases h
    · rw [h2] at k1; cases k1; exact k2
  have hE : Evo g Mx w g4 M4 w' := by
    refine ⟨fun _ h => h, fun b h => hE0.Z b (z2 b h), ?_, fun _ h => .inl h, fun b hb => hE0.keep b (.inl (u2 b hb)), hE0.size, hE0.os, hE0.tape, hE0.output, ?_⟩
    · intro b hb
      rcases hE0.Zn b hb with h | h
      · rcases zz2 b h with h | ⟨id, r, x, _, q2, q3, rfl, _⟩
        · exact .inl h
        · exact .inr (hrowU id r x q2 q3)
      · exact .inr fun h2 => h (.inl (u2 b h2))
    · intro id hl r' hr'
      exact ⟨r', (hM4 hr').2, rfl, rfl, rfl⟩
  have E4 : SubOk (ren fun _ => none) g' mem0 w' g4 M4 w' := ren_ok (fun _ _ h => by cases h) (fun _ _ h => by cases h) (fun _ h => h) (fun _ _ => rfl)
  refine ⟨u, g4, rfl, Rel.sub E4 _ _ hu, ⟨fun b h => .inr h, ?_, fun id r h => hm.known _ _ (hM4 h).2, ?_, hm.lay.evo hE, ?_⟩, hE, fun _ h => .inl h⟩
  · rintro b (h | h)
    · exact Nat.lt_of_lt_of_le (hm.ul b h) hE0.size
    · exact hm'.ul b (hm'.zu b h)
  · intro id r h
    obtain ⟨hin, hr⟩ := hM4 h
    rcases hm.row id r hr with ⟨k1, k3⟩ | ⟨rb, ro, size, q1, q2, q3, q4, q5⟩
    · exact .inl ⟨k1, k3⟩
    · obtain ⟨rr, hrr⟩ := k2 id r hin hr
      have hUb : g3.U rb := .inr ⟨id, rr, _, hrr, by rw [a2]; exact q1, rfl⟩
      have hkeep := hE0.keep rb hUb
      refine .inr ⟨rb, ro, size, q1, ?_, ?_, q4, RelD.evo hE hm.zu _ _ _ _ hkeep q5⟩
      · rintro (h | h)
        · exact q2 h
        · rcases hE0.Zn rb h with h | h
          · rcases zz2 rb h with h | ⟨id', r', x, p1, p2, p3, p4, _⟩
            · exact q2 (hm.zu _ h)
            · obtain rfl := hm.inj _ _ _ _ _ _ hr p2 q1 p3 p4.symm
              exact hin p1
          · exact h hUb
      · obtain ⟨arr, ty, fz, p1, p2, p3⟩ := q3
        exact ⟨arr, ty, fz, hkeep.trans p1, p2, p3⟩
  · intro id id' r r' x x' e1 e2 e3 e4 e5
    exact hm.inj _ _ _ _ _ _ (hM4 e1).2 (hM4 e2).2 e3 e4 e5
end Go.Vm
namespace Go.Vm
set_option linter.unusedSectionVars false
set_option linter.unusedSimpArgs false
set_option linter.unusedVariables false
open Go
variable [Inhabited LayT]
/-! ### what the arguments read as -/
section
variable {P : Program} {f : Nat} {t e : TypeId} {a : AV}
theorem tyInt {kd : IntKind} (ht : P.underlying t = some (.int kd)) (h : TyV P (f + 1) t a) : ∃ n, a = .i kd n ∧ kd.min ≤ n ∧ n ≤ kd.max := by
  unfold TyV at h
  rw [ht] at h
  simp only [TyC, ht] at h
  obtain ⟨n, h, h1, h2⟩ := h
  exact ⟨n, by simpa using h, h1, h2⟩
theorem tyBool (ht : P.underlying t = some .bool) (h : TyV P (f + 1) t a) : ∃ x, a = .b x := by
  unfold TyV at h
  rw [ht] at h
  simp only [TyC, ht] at h
  obtain ⟨n, h⟩ := h
  exact ⟨n, by simpa using h⟩
theorem tyStr (ht : P.underlying t = some .string) (h : TyV P (f + 1) t a) : ∃ x, a = .s x ∧ x.length ≤ 140737488351232 := by
  unfold TyV at h
  rw [ht] at h
  simp only [TyC, ht] at h
  obtain ⟨n, h, h1⟩ := h
  exact ⟨n, by simpa using h, h1⟩
theorem tySlice (ht : P.underlying t = some (.slice e)) (h : TyV P (f + 1) t a) :
    ∃ xs, a = .deep (P.cellsOf e) xs ∧ xs.length ≤ maxLen ∧ xs.length * P.bytesOf e ≤ 140737488351232 ∧ ∀ x ∈ xs, TyC P f e x := by
  unfold TyV at h
  rw [ht] at h
  simp only [TyC, ht] at h
  obtain ⟨xs, h, h1⟩ := h
  exact ⟨xs, by simpa using h, h1⟩
theorem tyInts' {kd : IntKind} (ht : P.underlying t = some (.slice e)) (he : P.underlying e = some (.int kd)) (hc : P.cellsOf e = 1) (h : TyV P (f + 2) t a) :
    ∃ ns : List Int, a = .deep 1 (enc (.i kd) ns) ∧ ns.length ≤ maxLen ∧ ns.length * P.bytesOf e ≤ 140737488351232 ∧ ∀ n ∈ ns, kd.min ≤ n ∧ n ≤ kd.max := by
  obtain ⟨xs, rfl, h1, h2, h3⟩ := tySlice ht h
  obtain ⟨ns, rfl, h4⟩ := tyInts he h3
  rw [enc_length] at h1 h2
  exact ⟨ns, by rw [hc], h1, h2, h4⟩
theorem tyArr {n : Nat} (ht : P.underlying t = some (.array n e)) (h : TyV P f t a) : ∃ cs, a = .agg cs ∧ TyC P f t cs := by
  unfold TyV at h
  rw [ht] at h
  exact h
theorem tyArrInts {n : Nat} {kd : IntKind} {cs : List AV} (ht : P.underlying t = some (.array n e)) (he : P.underlying e = some (.int kd)) (hc : P.cellsOf e = 1) (hn : P.cellsOf t = n) (h : TyC P (f + 2) t cs) :
    ∃ ns : List Int, ns.length = n ∧ cs = ns.map (.i kd) ∧ ∀ x ∈ ns, kd.min ≤ x ∧ x ≤ kd.max := by
  simp only [TyC, ht, he, hc, Nat.mul_one, hn] at h
  obtain ⟨hl, h⟩ := h
  have key : ∀ (cs : List AV), (∀ i, i < cs.length → ∃ x, (cs.drop i).take 1 = [.i kd x] ∧ kd.min ≤ x ∧ x ≤ kd.max) → ∃ ns : List Int, ns.length = cs.length ∧ cs = ns.map (.i kd) ∧ ∀ x ∈ ns, kd.min ≤ x ∧ x ≤ kd.max := by
    intro cs
    induction cs with
    | nil => intro _; exact ⟨[], rfl, rfl, by simp⟩
    | cons c cs ih =>
      intro h
      obtain ⟨ns, h1, h2, h3⟩ := ih fun i hi => by
        have := h (i + 1) (by simp; omega)
        simpa using this
      obtain ⟨x, h4, h5⟩ := h 0 (by simp)
      have h4 : c = .i kd x := by simpa using h4
      refine ⟨x :: ns, by simp [h1], by rw [h4, List.map_cons, ← h2], ?_⟩
      intro y hy
      rcases List.mem_cons.1 hy with rfl | hy
      · exact h5
      · exact h3 y hy
  obtain ⟨ns, h1, h2, h3⟩ := key cs fun i hi => h i (by omega)
  exact ⟨ns, by omega, h2, h3⟩
theorem tyTwo {kd : IntKind} {cs : List AV} (ht : P.underlying t = some (.array 2 e)) (he : P.underlying e = some (.int kd)) (hc : P.cellsOf e = 1) (hn : P.cellsOf t = 2) (h : TyC P (f + 2) t cs) :
    ∃ p q : Int, cs = [.i kd p, .i kd q] ∧ (kd.min ≤ p ∧ p ≤ kd.max) ∧ kd.min ≤ q ∧ q ≤ kd.max := by
  obtain ⟨ns, h1, rfl, h3⟩ := tyArrInts ht he hc hn h
  match ns, h1 with
  | [p, q], _ => exact ⟨p, q, rfl, h3 p (by simp), h3 q (by simp)⟩
end
end Go.Vm
namespace Go.Vm
open Go
set_option linter.unusedSectionVars false
variable [Inhabited LayT]
/-- A slice that is nil is a slice of an empty row. -/
theorem Wk.nil' {n k : Nat} {l : List (Nat × AV)} {m : List (Nat × Row)} {nb : Nat} (t id sz : Nat) (ht : lkT l t = .k (.slice none 0 0)) (hid : nb ≤ id) (hk : k ≤ nb) :
    Wk n k (lkT l) (lkM m) nb (lkT ((t, .own id 0 0 1) :: l)) (lkM ((id, ⟨sz, []⟩) :: m)) (id + 1) := by
  have h := Wk.nil (n := n) (k := k) (T := lkT l) (M := lkM m) (nb := nb) t id sz ht hid hk
  have e1 : put (lkT l) (some t) (.own id 0 0 1) = lkT ((t, .own id 0 0 1) :: l) := rfl
  have e2 : upd (lkM m) [(id, some ⟨sz, []⟩)] = lkM ((id, ⟨sz, []⟩) :: m) := by
    funext j
    simp [upd, lkM]
  rw [e1, e2] at h
  exact h
end Go.Vm
namespace Go.Vm
open Go
set_option linter.unusedSectionVars false
variable [Inhabited LayT]
theorem callOk_fr' {P : Program} {f : FuncId} {args args' : List AV} {M : Mem} {slot : Nat} {v : AV} (fr : List (Nat × Row)) (h : CallOk P f args' mem0 slot { v := v }) (hok : frOk M fr)
    (he : subL (ren fun _ => none) (frs fr args) = args') (hv : sub (ren fun _ => none) v = v) : CallOk P f args M slot (frOut v fr) := by
  subst he
  have := callOk_fr fr hok h
  rw [hv] at this
  exact this
end Go.Vm
namespace Go.Vm
open Go
set_option linter.unusedSectionVars false
variable [Inhabited LayT]
/-! ### bytes -/
def str (ns : List Int) : List UInt8 := ns.map fun n => UInt8.ofNat n.toNat
theorem bytesOf_enc : ∀ {ns : List Int}, bytesOf (enc (.i .u8) ns) = some (str ns)
  | [] => rfl
  | n :: ns => by
    have e : enc (AV.i .u8) (n :: ns) = [.i .u8 n] :: enc (.i .u8) ns := rfl
    rw [e]
    simp only [bytesOf, bytesOf_enc (ns := ns), Option.map_some]
    rfl
theorem str_inj : ∀ {a b : List Int}, (∀ n ∈ a, 0 ≤ n ∧ n ≤ 255) → (∀ n ∈ b, 0 ≤ n ∧ n ≤ 255) → str a = str b → a = b
  | [], [], _, _, _ => rfl
  | [], _ :: _, _, _, h => by cases h
  | _ :: _, [], _, _, h => by cases h
  | x :: a, y :: b, ha, hb, h => by
    have h' : UInt8.ofNat x.toNat = UInt8.ofNat y.toNat ∧ str a = str b := by simpa [str] using h
    have hx := ha x (by simp)
    have hy := hb y (by simp)
    have e1 := congrArg UInt8.toNat h'.1
    rw [UInt8.toNat_ofNat', UInt8.toNat_ofNat', Nat.mod_eq_of_lt (by omega), Nat.mod_eq_of_lt (by omega)] at e1
    have : x = y := by omega
    rw [this, str_inj (fun n hn => ha n (by simp [hn])) (fun n hn => hb n (by simp [hn])) h'.2]
/-- An empty slice is nil, or it is not. -/
theorem callOk_nil {P : Program} {f : FuncId} {M : Mem} {slot sz : Nat} {out : Out} (h : ∀ A c, CallOk P f [.k (.slice A 0 c)] M slot out) : CallOk P f [.deep sz []] M slot out := by
  refine ⟨(h none 0).1, ?_⟩
  intro M' hM g w us hm hus hslot
  obtain ⟨u, r, rfl, ⟨A, c, h1, _, _⟩, rfl⟩ := hus
  have h1' : u = .slice A 0 c := h1
  exact (h A c).2 M' hM g w _ hm ⟨u, _, rfl, h1', rfl⟩ hslot
end Go.Vm
namespace Go.Vm
open Go
set_option linter.unusedSectionVars false
variable [Inhabited LayT]
/-- A slice that is nil reads as no elements. -/
theorem Wk.nilD {n k : Nat} {l : List (Nat × AV)} {M : Mem} {nb : Nat} (t sz : Nat) (ht : lkT l t = .k (.slice none 0 0)) : Wk n k (lkT l) M nb (lkT ((t, .deep sz []) :: l)) M nb := by
  intro g a w st
  refine ⟨g, { st with tm := fun t' => ?_ }, WEvo.refl _ _ _ _⟩
  simp only [lkT]
  split
  · rename_i e
    subst e
    have h := st.tm t'
    rw [ht] at h
    exact ⟨none, 0, h, Nat.le_refl _, .inl rfl⟩
  · exact st.tm t'
end Go.Vm
namespace Go.Vm
open Go
set_option linter.unusedSectionVars false
variable [Inhabited LayT]
theorem tyLists {P : Program} {f : Nat} {t e e2 : TypeId} {a : AV} {kd : IntKind} (ht : P.underlying t = some (.slice e)) (he : P.underlying e = some (.slice e2)) (he2 : P.underlying e2 = some (.int kd)) (hc : P.cellsOf e = 1) (hc2 : P.cellsOf e2 = 1) (h : TyV P (f + 3) t a) :
    ∃ ls : List (List Int), a = .deep 1 (enc (.deep 1) (ls.map (enc (.i kd)))) ∧ ls.length ≤ maxLen ∧ ls.length * P.bytesOf e ≤ 140737488351232 ∧ ∀ l ∈ ls, l.length ≤ maxLen ∧ l.length * P.bytesOf e2 ≤ 140737488351232 ∧ ∀ n ∈ l, kd.min ≤ n ∧ n ≤ kd.max := by
  obtain ⟨xs, rfl, h1, h2, h3⟩ := tySlice ht h
  have key : ∀ xs : List (List AV), (∀ x ∈ xs, TyC P (f + 2) e x) → ∃ ls : List (List Int), xs = enc (.deep 1) (ls.map (enc (.i kd))) ∧ ∀ l ∈ ls, l.length ≤ maxLen ∧ l.length * P.bytesOf e2 ≤ 140737488351232 ∧ ∀ n ∈ l, kd.min ≤ n ∧ n ≤ kd.max := by
    intro xs
    induction xs with
    | nil => intro _; exact ⟨[], rfl, by simp⟩
    | cons x xs ih =>
      intro h
      obtain ⟨ls, e1, h4⟩ := ih fun y hy => h y (List.mem_cons_of_mem _ hy)
      have hx := h x (List.mem_cons_self ..)
      simp only [TyC, he] at hx
      obtain ⟨ys, hx, h5, h6, h7⟩ := hx
      obtain ⟨ns, rfl, h8⟩ := tyInts he2 (xs := ys) (f := f) h7
      rw [enc_length] at h5 h6
      refine ⟨ns :: ls, by rw [hx, e1, hc2]; rfl, ?_⟩
      intro l hl
      rcases List.mem_cons.1 hl with rfl | hl
      · exact ⟨h5, h6, h8⟩
      · exact h4 l hl
  obtain ⟨ls, rfl, h4⟩ := key xs h3
  have hl : (enc (AV.deep 1) (ls.map (enc (.i kd)))).length = ls.length := by simp [enc]
  rw [hl] at h1 h2
  exact ⟨ls, by rw [hc], h1, h2, h4⟩
end Go.Vm
