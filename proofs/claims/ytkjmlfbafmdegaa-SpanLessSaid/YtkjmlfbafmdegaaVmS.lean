import Derived.Test.YtkjmlfbafmdegaaVmR
namespace Go.Vm
set_option linter.unusedSectionVars false
set_option linter.unusedSimpArgs false
set_option linter.unusedVariables false
open Go
variable [Inhabited LayT]

/-! ### regions that draw their order -/
structure It where
  i : Nat
  o : Oper
  lo : LOper
  x : Option Out

def It.wr (p : It) : List Nat := match p.x with | none => [] | some out => out.eff.map (·.1)
def It.rd (p : It) : List Nat := match p.x with | none => [] | some out => out.rd
def It.nT (T : Tm) (p : It) : Tm := match p.x with | none => put T p.lo.dst (.k undef) | some out => put T p.lo.dst out.v
def It.nM (M : Mem) (p : It) : Mem := match p.x with | none => M | some out => upd M out.eff
def It.val (p : It) : AV := match p.x with | none => .k undef | some out => out.v
def It.eff (p : It) : List (Nat × Option Row) := match p.x with | none => [] | some out => out.eff

def okAt (P : Program) (base : Nat) (T : Tm) (M : Mem) (p : It) : Prop :=
  guardOk T p.lo.guard = some p.x.isSome ∧ ∀ out, p.x = some out → does P T M (base + 8 * p.i) p.lo.op out

structure Ind (p q : It) : Prop where
  pq : ∀ d, p.lo.dst = some d → d ∉ tmpsOf q.lo ∧ q.lo.dst ≠ some d
  qp : ∀ d, q.lo.dst = some d → d ∉ tmpsOf p.lo
  m1 : ∀ id ∈ p.wr, id ∉ q.rd ∧ id ∉ q.wr
  m2 : ∀ id ∈ q.wr, id ∉ p.rd

section
variable {P : Program} {base : Nat} {T : Tm} {M : Mem}

theorem nT_eq (p : It) : p.nT T = put T p.lo.dst p.val := by unfold It.nT It.val; cases p.x <;> rfl
theorem nM_eq (p : It) : p.nM M = upd M p.eff := by unfold It.nM It.eff; cases p.x <;> rfl
theorem wr_eq (p : It) : p.wr = p.eff.map (·.1) := by unfold It.wr It.eff; cases p.x <;> rfl

theorem put_other {T : Tm} {d : Option Nat} {v : AV} {t : Nat} (h : d ≠ some t) : put T d v t = T t := by
  cases d with
  | none => rfl
  | some d => simp only [put]; rw [if_neg (fun e => h (by rw [e]))]
theorem upd_other {e : List (Nat × Option Row)} : ∀ {M : Mem} {id : Nat}, id ∉ e.map (·.1) → upd M e id = M id := by
  induction e with
  | nil => intro M id _; rfl
  | cons x e ih =>
    intro M id h
    obtain ⟨a, r⟩ := x
    simp only [List.map_cons, List.mem_cons, not_or] at h
    simp only [upd]
    rw [if_neg h.1, ih h.2]
theorem upd_in {e : List (Nat × Option Row)} : ∀ {M M' : Mem} {id : Nat}, id ∈ e.map (·.1) → upd M e id = upd M' e id := by
  induction e with
  | nil => intro M M' id h; simp at h
  | cons x e ih =>
    intro M M' id h
    obtain ⟨a, r⟩ := x
    simp only [upd]
    by_cases c : id = a
    · rw [if_pos c, if_pos c]
    · rw [if_neg c, if_neg c]
      simp only [List.map_cons, List.mem_cons] at h
      exact ih (h.resolve_left c)

theorem okAt_congr {T' : Tm} {M' : Mem} {p : It} (h : okAt P base T M p) (hT : ∀ t ∈ tmpsOf p.lo, T' t = T t) (hM : ∀ id ∈ p.rd, M' id = M id) : okAt P base T' M' p := by
  refine ⟨?_, fun out ho => does_congr (h.2 out ho) (fun t ht => hT t (List.mem_append.2 (.inl ht))) fun id hid => hM id (by unfold It.rd; rw [ho]; exact hid)⟩
  rw [← h.1]
  cases hg : p.lo.guard with
  | none => rfl
  | some x =>
    obtain ⟨t, want⟩ := x
    simp only [guardOk]
    rw [hT t (List.mem_append.2 (.inr (by rw [hg]; simp)))]

theorem commute {p q : It} (h : Ind p q) (h1 : okAt P base T M p) (h2 : okAt P base (p.nT T) (p.nM M) q) :
    okAt P base T M q ∧ okAt P base (q.nT T) (q.nM M) p ∧ q.nT (p.nT T) = p.nT (q.nT T) ∧ q.nM (p.nM M) = p.nM (q.nM M) := by
  refine ⟨okAt_congr h2 ?_ ?_, okAt_congr h1 ?_ ?_, ?_, ?_⟩
  · intro t ht
    rw [nT_eq, put_other (fun e => (h.pq t e).1 ht)]
  · intro id hid
    rw [nM_eq, upd_other (fun e => (h.m1 id (by rw [wr_eq]; exact e)).1 hid)]
  · intro t ht
    rw [nT_eq, put_other (fun e => h.qp t e ht)]
  · intro id hid
    rw [nM_eq, upd_other (fun e => h.m2 id (by rw [wr_eq]; exact e) hid)]
  · rw [nT_eq, nT_eq, nT_eq, nT_eq]
    funext t
    by_cases c1 : p.lo.dst = some t
    · have c2 := (h.pq t c1).2
      rw [put_other c2, c1]
      simp [put]
    · rw [put_other (d := p.lo.dst) c1]
      by_cases c2 : q.lo.dst = some t
      · rw [c2]; simp [put]
      · rw [put_other c2, put_other c1, put_other c2]
  · rw [nM_eq, nM_eq, nM_eq, nM_eq]
    funext id
    by_cases c1 : id ∈ p.eff.map (·.1)
    · have c2 : id ∉ q.eff.map (·.1) := by rw [← wr_eq]; exact (h.m1 id (by rw [wr_eq]; exact c1)).2
      rw [upd_other c2]
      exact upd_in c1
    · rw [upd_other (e := p.eff) c1]
      by_cases c2 : id ∈ q.eff.map (·.1)
      · exact upd_in c2
      · rw [upd_other c2, upd_other c1, upd_other c2]

def Runs (P : Program) (base : Nat) : List It → Tm → Mem → Tm → Mem → Prop
  | [], T, M, T', M' => T' = T ∧ M' = M
  | p :: r, T, M, T', M' => okAt P base T M p ∧ Runs P base r (p.nT T) (p.nM M) T' M'

theorem front {q : It} {post : List It} : ∀ (pre : List It) {T : Tm} {M : Mem} {T' : Tm} {M' : Mem}, (∀ p ∈ pre, Ind p q) → Runs P base (pre ++ q :: post) T M T' M' →
    okAt P base T M q ∧ Runs P base (pre ++ post) (q.nT T) (q.nM M) T' M'
  | [], T, M, T', M', _, h => h
  | p :: pre, T, M, T', M', hi, ⟨h1, h2⟩ => by
    obtain ⟨h3, h4⟩ := front pre (fun x hx => hi x (by simp [hx])) h2
    obtain ⟨c1, c2, c3, c4⟩ := commute (hi p (by simp)) h1 h3
    exact ⟨c1, c2, by rw [← c3, ← c4]; exact h4⟩

/-! ### whichever comes up -/
def befOf (bef : List Nat) (i j : Nat) : Bool := (bef.getD i 0).testBit j
def okBack (ops : List Oper) : Bool := ops.zipIdx.all fun (o, i) => o.after.toList.all fun e => !Region.binds .any e || decide (e.on < i)
def okBef (ops : List Oper) (bef : List Nat) : Bool :=
  ops.zipIdx.all fun (o, i) => (List.range ops.length).all fun j => !befOf bef i j || o.after.toList.any fun e => Region.binds .any e && (e.on == j || befOf bef e.on j)

structure Inv (ops : Array Oper) (n : Nat) (bef : List Nat) (listed : Array Bool) (R : List It) : Prop where
  size : listed.size = ops.size
  mem : ∀ i, i < ops.size → listed.getD i true = false → ∃ p ∈ R, p.i = i
  un : ∀ p ∈ R, p.i < ops.size ∧ listed.getD p.i true = false
  cl : ∀ i, i < ops.size → listed.getD i true = true → ∀ j, j < ops.size → befOf bef i j = true → listed.getD j true = true
  it : ∀ p ∈ R, ops[p.i]? = some p.o ∧ Comped P n ops p.o p.lo
  pw : R.Pairwise fun p q => befOf bef q.i p.i = true ∨ Ind p q
  so : R.Pairwise fun p q => p.i < q.i

theorem getD_set' (l : Array Bool) (i j : Nat) (hi : i < l.size) : (l.setIfInBounds i true).getD j true = if j = i then true else l.getD j true := by
  simp only [Array.getD_eq_getD_getElem?, Array.getElem?_setIfInBounds]
  by_cases h : i = j
  · subst h; simp [hi]
  · rw [if_neg h, if_neg (Ne.symm h)]

theorem any_runs {n k : Nat} {ops : Array Oper} {bef : List Nat} {Q : Exit → Act → World → Prop} {g0 : Gh} {M0 : Mem} {w0 : World} {T' : Tm} {M' : Mem}
    (hb : okBef ops.toList bef = true) (hback : okBack ops.toList = true)
    (hQ : ∀ g' a' w', StR n k g' T' M' (base + 8 * ops.size) a' w' → WEvo k g0 M0 w0 g' M' w' → Q .normal a' w') :
    ∀ (fuel : Nat) (listed : Array Bool) (R : List It) {g : Gh} {T : Tm} {M : Mem} {a : Act} {w : World}, R.length ≤ fuel → Inv (P := P) ops n bef listed R → Runs P base R T M T' M' →
      MemRel g M w → RelT g M w T a → a.tmps.size = n → a.defers = [] → (∀ id, g.L id → id < base ∨ ∃ j, j < ops.size ∧ listed.getD j true = true ∧ base + 8 * j ≤ id ∧ id < base + 8 * j + 8) → (∀ id, id < k → g.L id) → WEvo k g0 M0 w0 g M w →
      wpAny P .any ops Q fuel listed a w := by
  have done : ∀ (listed : Array Bool) {g : Gh} {T : Tm} {M : Mem} {a : Act} {w : World}, Runs P base [] T M T' M' →
      MemRel g M w → RelT g M w T a → a.tmps.size = n → a.defers = [] → (∀ id, g.L id → id < base ∨ ∃ j, j < ops.size ∧ listed.getD j true = true ∧ base + 8 * j ≤ id ∧ id < base + 8 * j + 8) → (∀ id, id < k → g.L id) → WEvo k g0 M0 w0 g M w → Q .normal a w := by
    intro listed g T M a w hR hm hT hs hd hl hkn hw
    obtain ⟨rfl, rfl⟩ := hR
    refine hQ g a w ⟨hm, hT, fun id hid => ?_, hkn, hs, hd⟩ hw
    rcases hl id hid with h | ⟨j, h1, _, h2, h3⟩ <;> omega
  have ready_nil : ∀ {listed : Array Bool} {R : List It}, Inv (P := P) ops n bef listed R → Region.ready .any ops listed = [] → R = [] := by
    intro listed R inv hr
    cases hR : R with
    | nil => rfl
    | cons p R' =>
      exfalso
      subst hR
      obtain ⟨h1, h2⟩ := inv.un p (by simp)
      obtain ⟨h3, _⟩ := inv.it p (by simp)
      have hmem : p.i ∈ Region.ready .any ops listed := by
        refine mem_ready.2 ⟨h2, p.o, h3, fun e he hbe => ?_⟩
        have h4 := List.all_eq_true.1 hback (p.o, p.i) (by rw [List.mem_iff_getElem?]; exact ⟨p.i, by rw [List.getElem?_zipIdx]; simp [h3]⟩)
        have h5 := List.all_eq_true.1 h4 e (by simpa using he)
        simp only [hbe, Bool.not_true, Bool.false_or, decide_eq_true_eq] at h5
        cases hl : listed.getD e.on true with
        | true =>
          have : e.on < listed.size := by rw [inv.size]; omega
          simp [this] at hl ⊢
          exact hl
        | false =>
          exfalso
          obtain ⟨q, hq, hqi⟩ := inv.mem e.on (by omega) hl
          rcases List.mem_cons.1 hq with rfl | hq
          · omega
          · have := List.rel_of_pairwise_cons inv.so hq
            omega
      rw [hr] at hmem
      cases hmem
  intro fuel
  induction fuel with
  | zero =>
    intro listed R g T M a w hlen inv hR hm hT hs hd hl hkn hw
    obtain rfl : R = [] := List.eq_nil_of_length_eq_zero (by omega)
    refine ⟨?_, done listed hR hm hT hs hd hl hkn hw⟩
    cases hr : Region.ready .any ops listed with
    | nil => rfl
    | cons i r =>
      exfalso
      have : i ∈ Region.ready .any ops listed := by rw [hr]; simp
      obtain ⟨h1, o, h2, _⟩ := mem_ready.1 this
      obtain ⟨p, hp, _⟩ := inv.mem i (Array.getElem?_eq_some_iff.1 h2).1 h1
      simp at hp
  | succ fuel ih =>
    intro listed R g T M a w hlen inv hR hm hT hs hd hl hkn hw
    refine ⟨fun hr => ?_, fun i hi => ?_⟩
    · have := ready_nil inv hr
      subst this
      exact done listed hR hm hT hs hd hl hkn hw
    · obtain ⟨h1, o, h2, hall⟩ := mem_ready.1 hi
      have hilt := (Array.getElem?_eq_some_iff.1 h2).1
      obtain ⟨q, hq, rfl⟩ := inv.mem i hilt h1
      obtain ⟨pre, post, rfl⟩ := List.append_of_mem hq
      obtain ⟨hqo, hqc⟩ := inv.it q (by simp)
      have ho : o = q.o := Option.some.inj (h2.symm.trans hqo)
      subst ho
      -- nothing ahead of it is what it waits for
      have hnb : ∀ j, j < ops.size → befOf bef q.i j = true → listed.getD j true = true := by
        intro j hj hbj
        have h3 := List.all_eq_true.1 hb (q.o, q.i) (by rw [List.mem_iff_getElem?]; exact ⟨q.i, by rw [List.getElem?_zipIdx]; simp [hqo]⟩)
        have h4 := List.all_eq_true.1 h3 j (by simpa using hj)
        simp only [hbj, Bool.not_true, Bool.false_or, List.any_eq_true, Bool.and_eq_true, Bool.or_eq_true, beq_iff_eq] at h4
        obtain ⟨e, he, hbe, h5⟩ := h4
        have hel := hall e (by simpa using he) hbe
        have helt : e.on < ops.size := by
          rcases Nat.lt_or_ge e.on listed.size with h | h
          · rw [← inv.size]; exact h
          · simp [Array.getElem?_eq_none h] at hel
        have hel' : listed.getD e.on true = true := by
          have : e.on < listed.size := by rw [inv.size]; exact helt
          simp [this] at hel ⊢
          exact hel
        rcases h5 with rfl | h5
        · exact hel'
        · exact inv.cl e.on helt hel' j hj h5
      have hind : ∀ p ∈ pre, Ind p q := by
        intro p hp
        have hpw := inv.pw
        rw [List.pairwise_append] at hpw
        rcases hpw.2.2 p hp q (by simp) with h | h
        · have := inv.un p (by simp [hp])
          have := hnb p.i this.1 h
          rw [(inv.un p (by simp [hp])).2] at this
          cases this
        · exact h
      obtain ⟨hok, hrest⟩ := front pre hind hR
      have inv' : Inv (P := P) ops n bef (listed.setIfInBounds q.i true) (pre ++ post) := by
        have hsz : q.i < listed.size := by rw [inv.size]; exact hilt
        have hsub : ∀ p ∈ pre ++ post, p ∈ pre ++ q :: post := fun p hp => by
          simp only [List.mem_append, List.mem_cons] at hp ⊢
          rcases hp with h | h
          · exact .inl h
          · exact .inr (.inr h)
        have hne : ∀ p ∈ pre ++ post, p.i ≠ q.i := by
          intro p hp e
          have hso := inv.so
          rw [List.pairwise_append] at hso
          simp only [List.mem_append] at hp
          rcases hp with h | h
          · have := hso.2.2 p h q (by simp)
            omega
          · have := List.rel_of_pairwise_cons hso.2.1 h
            omega
        refine { size := by simp [inv.size], mem := fun j hj hjl => ?_, un := fun p hp => ?_, cl := fun j hj hjl k hk hbk => ?_, it := fun p hp => inv.it p (hsub p hp), pw := ?_, so := ?_ }
        · rw [getD_set' _ _ _ hsz] at hjl
          split at hjl
          · cases hjl
          · rename_i hji
            obtain ⟨p, hp, rfl⟩ := inv.mem j hj hjl
            refine ⟨p, ?_, rfl⟩
            simp only [List.mem_append, List.mem_cons] at hp ⊢
            rcases hp with h | rfl | h
            · exact .inl h
            · exact absurd rfl hji
            · exact .inr h
        · obtain ⟨k1, k2⟩ := inv.un p (hsub p hp)
          exact ⟨k1, by rw [getD_set' _ _ _ hsz, if_neg (hne p hp)]; exact k2⟩
        · rw [getD_set' _ _ _ hsz] at hjl ⊢
          split
          · rfl
          · split at hjl
            · rename_i hji
              subst hji
              exact hnb k hk hbk
            · exact inv.cl j hj hjl k hk hbk
        · exact inv.pw.sublist (by simp)
        · exact inv.so.sublist (by simp)
      have hlen' : (pre ++ post).length ≤ fuel := by simp at hlen ⊢; omega
      unfold wpOp
      simp only [h2]
      have hwant := wanted_guard hT hqc.gd hok.1
      rw [hwant]
      have hnew : ∀ {g' : Gh}, (∀ id, g'.L id → g.L id ∨ (base + 8 * q.i ≤ id ∧ id < base + 8 * q.i + 8)) → ∀ id, g'.L id → id < base ∨ ∃ j, j < ops.size ∧ (listed.setIfInBounds q.i true).getD j true = true ∧ base + 8 * j ≤ id ∧ id < base + 8 * j + 8 := by
        intro g' hg' id hid
        have hsz : q.i < listed.size := by rw [inv.size]; exact hilt
        rcases hg' id hid with h | h
        · rcases hl id h with h | ⟨j, k1, k2, k3⟩
          · exact .inl h
          · exact .inr ⟨j, k1, by rw [getD_set' _ _ _ hsz]; split; rfl; exact k2, k3⟩
        · exact .inr ⟨q.i, hilt, by rw [getD_set' _ _ _ hsz]; simp, h⟩
      cases hx : q.x with
      | none =>
        simp only [hx, Option.isSome_none, Bool.false_eq_true, if_false]
        have e1 : q.nT T = put T q.lo.dst (.k undef) := by unfold It.nT; rw [hx]
        have e2 : q.nM M = M := by unfold It.nM; rw [hx]
        rw [e1, e2] at hrest
        have st : StR n k g T M (base + 8 * ops.size) a w := ⟨hm, hT, fun id hid => by rcases hl id hid with h | ⟨j, h1, _, h2, h3⟩ <;> omega, hkn, hs, hd⟩
        have st' := st.put hqc.lt hm (Evo.refl _ _ _) (v := .k undef) (u := undef) rfl st.nb
        rw [← hqc.dst]
        exact ih _ _ hlen' inv' hrest st'.mem st'.tm st'.size st'.defers (hnew (fun id h => .inl h)) st'.kn hw
      | some out =>
        simp only [hx, Option.isSome_some, if_true]
        left
        have e1 : q.nT T = put T q.lo.dst out.v := by unfold It.nT; rw [hx]
        have e2 : q.nM M = upd M out.eff := by unfold It.nM; rw [hx]
        rw [e1, e2] at hrest
        refine does_wp (hqc.real (hok.2 out hx)) (hok.2 out hx) hm hT (fun id k1 k2 k3 => ?_) (fun u w' g' k1 k2 k3 k4 => ?_)
        · rcases hl id k3 with h | ⟨j, _, k5, k6, k7⟩
          · omega
          · have : j = q.i := by omega
            subst this
            rw [h1] at k5; cases k5
        · have st : StR n k g T M (base + 8 * ops.size) a w := ⟨hm, hT, fun id hid => by rcases hl id hid with h | ⟨j, h1, _, h2, h3⟩ <;> omega, hkn, hs, hd⟩
          have st' := st.put hqc.lt k2 k3 k1 (nb' := base + 8 * ops.size) (fun id hid => by
            rcases k4 id hid with h | h
            · exact st.nb id h
            · omega)
          rw [← hqc.dst]
          exact ih _ _ hlen' inv' hrest st'.mem st'.tm st'.size st'.defers (hnew k4) st'.kn (hw.trans (k3.wevo hkn))
end
end Go.Vm
