import Derived.Test.YtkjmlfbafmdegaaVmY
namespace Go.Vm
set_option linter.unusedSectionVars false
set_option linter.unusedSimpArgs false
set_option linter.unusedVariables false
open Go
variable [Inhabited LayT]

/-! ### steps, one by one -/
def retP (rs : List Nat) (v : AV) : Cont := fun x T' M' nb' => (x = .normal ∨ x = .ret) ∧ v = sub (ren (lkσ [])) (resV rs T')
/-- As 'retP', what is told of the state being told in other words first. -/
def retW (n : Nat) (rs : List Nat) (v : AV) : Cont := fun x T0 M0 nb0 => (x = .normal ∨ x = .ret) ∧ ∃ T' M' nb', Wk n 0 T0 M0 nb0 T' M' nb' ∧ v = sub (ren (lkσ [])) (resV rs T')
def retC (n k : Nat) (σ : List (Nat × Nat)) (slot : Nat) (rs : List Nat) (out : Out) : Cont := fun x T0 M0 nb0 =>
  (x = .normal ∨ x = .ret) ∧ ∃ T' M' nb', Wk n k T0 M0 nb0 T' M' nb' ∧ ∃ new, okNew k new = true ∧ out.v = sub (ren (lkσ (back σ new slot))) (resV rs T') ∧ out.eff = effOf (back σ new slot) M'
theorem retP_W {n : Nat} {rs : List Nat} {v : AV} {x : Exit} {T : Tm} {M : Mem} {nb : Nat} (h : retP rs v x T M nb) : retW n rs v x T M nb := ⟨h.1, T, M, nb, Wk.refl _ _ _ _ _, h.2⟩
theorem retW_i {n : Nat} {rs : List Nat} {v : AV} {T T2 : Tm} {M M2 : Mem} {nb nb2 : Nat} (hw : Wk n 0 T M nb T2 M2 nb2) (h : v = sub (ren (lkσ [])) (resV rs T2)) : retW n rs v .ret T M nb := ⟨.inr rfl, _, _, _, hw, h⟩
theorem retW_n {n : Nat} {rs : List Nat} {v : AV} {T T2 : Tm} {M M2 : Mem} {nb nb2 : Nat} (hw : Wk n 0 T M nb T2 M2 nb2) (h : v = sub (ren (lkσ [])) (resV rs T2)) : retW n rs v .normal T M nb := ⟨.inl rfl, _, _, _, hw, h⟩
theorem retC_i {n k : Nat} {σ : List (Nat × Nat)} {slot : Nat} {rs : List Nat} {out : Out} {T T2 : Tm} {M M2 : Mem} {nb nb2 : Nat} (hw : Wk n k T M nb T2 M2 nb2) (new : List (Nat × Nat)) (h1 : okNew k new = true)
    (h2 : out.v = sub (ren (lkσ (back σ new slot))) (resV rs T2)) (h3 : out.eff = effOf (back σ new slot) M2) : retC n k σ slot rs out .ret T M nb := ⟨.inr rfl, _, _, _, hw, new, h1, h2, h3⟩
def guardP : Option Bool → Prop → Prop → Prop
  | none, _, _ => False
  | some true, p, _ => p
  | some false, _, q => q
def stepP : Option Out → (Out → Prop) → Prop
  | none, _ => False
  | some o, K => K o
def callP (P : Program) (f : FuncId) (args : List AV) (M : Mem) (slot : Nat) (K : Out → Prop) : Prop := ∃ out, CallOk P f args M slot out ∧ K out
def callvP (P : Program) (x : AV) (args : List AV) (M : Mem) (slot : Nat) (K : Out → Prop) : Prop := ∃ out, (∃ f caps, x = .fn f caps ∧ CallOk P f (args ++ caps) M slot out) ∧ K out
def condP : AV → Prop → Prop → Prop
  | .b true, p, _ => p
  | .b false, _, q => q
  | _, _, _ => False
def nextP (P : Program) (dr : Bool) (base : Nat) (K : Tm → Mem → Log → Prop) (os : List LOper) (i : Nat) (d : Option Nat) (T : Tm) (M : Mem) (log : Log) (out : Out) : Prop :=
  rgnP P dr base K os (i + 1) (put T d out.v) (upd M out.eff) (if dr then (i, out.eff.map (·.1), out.rd) :: log else log)
def opP (P : Program) (T : Tm) (M : Mem) (slot : Nat) (K : Out → Prop) : LOp → Prop
  | .call f args => callP P f (args.map (ev T)) M slot K
  | .callv x args => callvP P (ev T x) (args.map (ev T)) M slot K
  | op => stepP (step T M slot op) K
def rgnK (dr : Bool) (bef keep : List Nat) (len : Nat) (K : Cont) (nb : Nat) : Tm → Mem → Log → Prop :=
  fun T' M' log => (dr = true → okLog bef log = true) ∧ K .normal (restrict keep T') M' (nb + 8 * len)

section
variable {P : Program} {n k : Nat} {K : Cont} {T : Tm} {M : Mem} {nb : Nat}
theorem run_seq {a b : LCode} : run P n k (.seq a b) K T M nb = run P n k a (onNormal (run P n k b K) K) T M nb := (rfl)
theorem run_skip : run P n k .skip K T M nb = K .normal T M nb := (rfl)
theorem run_exit {id : Nat} : run P n k (.exit id) K T M nb = K (.exit id) T M nb := (rfl)
theorem run_ret : run P n k .ret K T M nb = K .ret T M nb := (rfl)
theorem run_block {id : Nat} {c : LCode} : run P n k (.block id c) K T M nb = run P n k c (onExit id K) T M nb := (rfl)
theorem run_loop {c : LCode} : run P n k (.loop c) K T M nb = LoopB n k (run P n k c) K T M nb := (rfl)
theorem run_rgn {dr : Bool} {bef keep : List Nat} {ops : List LOper} : run P n k (.rgn false dr bef keep ops) K T M nb = rgnP P dr nb (rgnK dr bef keep ops.length K nb) ops 0 T M [] := (rfl)
theorem run_rgnW {dr : Bool} {bef keep : List Nat} {ops : List LOper} {T2 : Tm} {M2 : Mem} {nb2 : Nat} (hw : Wk n k T M nb T2 M2 nb2) (h : rgnP P dr nb2 (rgnK dr bef keep ops.length K nb2) ops 0 T2 M2 []) : run P n k (.rgn true dr bef keep ops) K T M nb :=
  ⟨T2, M2, nb2, hw, h⟩
theorem run_cond {c : Operand} {x y : LCode} : run P n k (.cond c x y) K T M nb = condP (ev T c) (run P n k x K T M nb) (run P n k y K T M nb) := by
  simp only [run]
  split
  · rename_i t e; rw [e]; cases t <;> rfl
  · rename_i h
    unfold condP
    split <;> first | rfl | (rename_i e; exact absurd e (h _))
theorem onNormal_n {f : Tm → Mem → Nat → Prop} : onNormal f K .normal T M nb = f T M nb := (rfl)
theorem onNormal_r {f : Tm → Mem → Nat → Prop} : onNormal f K .ret T M nb = K .ret T M nb := (rfl)
theorem onNormal_e {f : Tm → Mem → Nat → Prop} {i : Nat} : onNormal f K (.exit i) T M nb = K (.exit i) T M nb := (rfl)
theorem onExit_n {id : Nat} : onExit id K .normal T M nb = K .normal T M nb := (rfl)
theorem onExit_r {id : Nat} : onExit id K .ret T M nb = K .ret T M nb := (rfl)
theorem onExit_e {id i : Nat} : onExit id K (.exit i) T M nb = if i = id then K .normal T M nb else K (.exit i) T M nb := (rfl)
theorem rgnK_f {bef keep : List Nat} {len : Nat} {log : Log} : rgnK false bef keep len K nb T M log = K .normal (restrict keep T) M (nb + 8 * len) := by simp [rgnK]
theorem rgnK_t {bef keep : List Nat} {len : Nat} {log : Log} : rgnK true bef keep len K nb T M log = (okLog bef log = true ∧ K .normal (restrict keep T) M (nb + 8 * len)) := by simp [rgnK]
end

section
variable {P : Program} {dr : Bool} {base i : Nat} {K : Tm → Mem → Log → Prop} {T : Tm} {M : Mem} {log : Log} {os : List LOper} {d : Option Nat} {gd : Option (Nat × Bool)}
theorem rgnP_nil : rgnP P dr base K [] i T M log = K T M log := (rfl)
theorem rgnP_cons {op : LOp} : rgnP P dr base K (⟨d, op, gd⟩ :: os) i T M log =
    guardP (guardOk T gd) (opP P T M (base + 8 * i) (nextP P dr base K os i d T M log) op) (rgnP P dr base K os (i + 1) (put T d (.k undef)) M log) := by
  rw [rgnP]
  simp only
  cases h : guardOk T gd with
  | none => rfl
  | some t =>
    cases t with
    | false => simp [guardP]
    | true =>
      simp only [guardP, if_true]
      cases op <;> first | rfl | (simp only [opP]; generalize step T M (base + 8 * i) _ = o; cases o <;> rfl)
theorem nextP_f {out : Out} : nextP P false base K os i d T M log out = rgnP P false base K os (i + 1) (put T d out.v) (upd M out.eff) log := (rfl)
theorem nextP_t {out : Out} : nextP P true base K os i d T M log out = rgnP P true base K os (i + 1) (put T d out.v) (upd M out.eff) ((i, out.eff.map (·.1), out.rd) :: log) := (rfl)
end

/-! what is not looked into before its turn comes -/
@[congr] theorem run_congr {P : Program} {n k : Nat} {lc lc' : LCode} {K : Cont} {T T' : Tm} {M M' : Mem} {nb nb' : Nat} (h1 : T = T') (h2 : M = M') (h3 : nb = nb') : run P n k lc K T M nb = run P n k lc K T' M' nb' := by subst h1 h2 h3; rfl
@[congr] theorem rgnP_congr {P : Program} {dr : Bool} {base base' : Nat} {K : Tm → Mem → Log → Prop} {os : List LOper} {i i' : Nat} {T T' : Tm} {M M' : Mem} {log : Log} (h1 : T = T') (h2 : M = M') (h3 : i = i') (h4 : base = base') :
    rgnP P dr base K os i T M log = rgnP P dr base' K os i' T' M' log := by subst h1 h2 h3 h4; rfl
@[congr] theorem guardP_congr {g g' : Option Bool} {p q : Prop} (h : g = g') : guardP g p q = guardP g' p q := by rw [h]
@[congr] theorem stepP_congr {o o' : Option Out} {K : Out → Prop} (h : o = o') : stepP o K = stepP o' K := by rw [h]
@[congr] theorem callP_congr {P : Program} {f : FuncId} {args args' : List AV} {M M' : Mem} {slot slot' : Nat} {K : Out → Prop} (h : args = args') (h2 : M = M') (h3 : slot = slot') : callP P f args M slot K = callP P f args' M' slot' K := by subst h h2 h3; rfl
@[congr] theorem callvP_congr {P : Program} {x x' : AV} {args args' : List AV} {M M' : Mem} {slot slot' : Nat} {K : Out → Prop} (h0 : x = x') (h : args = args') (h2 : M = M') (h3 : slot = slot') : callvP P x args M slot K = callvP P x' args' M' slot' K := by subst h0 h h2 h3; rfl
@[congr] theorem condP_congr {a a' : AV} {p q : Prop} (h : a = a') : condP a p q = condP a' p q := by rw [h]
@[congr] theorem opP_congr {P : Program} {T T' : Tm} {M M' : Mem} {slot slot' : Nat} {K : Out → Prop} {op : LOp} (h1 : T = T') (h2 : M = M') (h3 : slot = slot') : opP P T M slot K op = opP P T' M' slot' K op := by subst h1 h2 h3; rfl
@[congr] theorem nextP_congr {P : Program} {dr : Bool} {base base' : Nat} {K : Tm → Mem → Log → Prop} {os : List LOper} {i i' : Nat} {d : Option Nat} {T T' : Tm} {M M' : Mem} {log : Log} {out out' : Out} (h1 : T = T') (h2 : M = M') (h3 : i = i') (h4 : base = base') (h5 : out = out') :
    nextP P dr base K os i d T M log out = nextP P dr base' K os i' d T' M' log out' := by subst h1 h2 h3 h4 h5; rfl
@[congr] theorem rgnK_congr {dr : Bool} {bef keep : List Nat} {len : Nat} {K : Cont} {nb nb' : Nat} {T T' : Tm} {M M' : Mem} {log : Log} (h1 : T = T') (h2 : M = M') (h3 : nb = nb') : rgnK dr bef keep len K nb T M log = rgnK dr bef keep len K nb' T' M' log := by subst h1 h2 h3; rfl
@[congr] theorem onNormal_congr {f : Tm → Mem → Nat → Prop} {K : Cont} {x : Exit} {T T' : Tm} {M M' : Mem} {nb nb' : Nat} (h1 : T = T') (h2 : M = M') (h3 : nb = nb') : onNormal f K x T M nb = onNormal f K x T' M' nb' := by subst h1 h2 h3; rfl
@[congr] theorem onExit_congr {id : Nat} {K : Cont} {x : Exit} {T T' : Tm} {M M' : Mem} {nb nb' : Nat} (h1 : T = T') (h2 : M = M') (h3 : nb = nb') : onExit id K x T M nb = onExit id K x T' M' nb' := by subst h1 h2 h3; rfl

section
variable {p q : Prop} {o : Out} {K : Out → Prop}
theorem guardP_t : guardP (some true) p q = p := (rfl)
theorem guardP_f : guardP (some false) p q = q := (rfl)
theorem stepP_s : stepP (some o) K = K o := (rfl)
theorem condP_t : condP (.b true) p q = p := (rfl)
theorem condP_f : condP (.b false) p q = q := (rfl)
theorem guardOk_n {T : Tm} : guardOk T none = some true := (rfl)
theorem guardOk_s {T : Tm} {t : Nat} {w : Bool} : guardOk T (some (t, w)) = (match T t with | .b x => some (x == w) | .k (.tuple _) => some false | _ => none) := (rfl)
end

/-! slots and memory as lists -/
theorem put_lk {l : List (Nat × AV)} {d : Nat} {v : AV} : put (lkT l) (some d) v = lkT ((d, v) :: l) := (rfl)
theorem put_none {T : Tm} {v : AV} : put T none v = T := (rfl)
theorem lkT_cons {l : List (Nat × AV)} {a t : Nat} {v : AV} : lkT ((a, v) :: l) t = if t = a then v else lkT l t := (rfl)
theorem restrict_eq {keep : List Nat} {T : Tm} : restrict keep T = lkT (keep.map fun t => (t, T t)) := (rfl)
def upd1m (M : Mem) (a : Nat) (r : Option Row) : Mem := fun id => if id = a then r else M id
theorem upd_nil {M : Mem} : upd M [] = M := (rfl)
theorem upd_cons {M : Mem} {a : Nat} {r : Option Row} {e : List (Nat × Option Row)} : upd M ((a, r) :: e) = upd1m (upd M e) a r := (rfl)
def delM (a : Nat) : List (Nat × Row) → List (Nat × Row)
  | [] => []
  | (b, r) :: m => if b = a then delM a m else (b, r) :: delM a m
def setM (a : Nat) (r : Row) : List (Nat × Row) → List (Nat × Row)
  | [] => [(a, r)]
  | (b, s) :: m => if b = a then (a, r) :: m else (b, s) :: setM a r m
theorem upd1m_none {m : List (Nat × Row)} {a : Nat} : upd1m (lkM m) a none = lkM (delM a m) := by
  funext id
  induction m with
  | nil => simp [upd1m, delM, lkM]
  | cons x m ih =>
    obtain ⟨b, r⟩ := x
    simp only [upd1m, delM, lkM] at ih ⊢
    by_cases e : b = a
    · rw [if_pos e, ← ih]
      by_cases e2 : id = a
      · simp [e2]
      · have : id ≠ b := fun h => e2 (h.trans e)
        simp [e2, this]
    · rw [if_neg e]
      simp only [lkM, ← ih]
      by_cases e2 : id = a
      · have : id ≠ b := fun h => e (h.symm.trans e2)
        simp [e2]
        intro h; exact absurd h.symm e
      · simp [e2]
theorem upd1m_some {m : List (Nat × Row)} {a : Nat} {r : Row} : upd1m (lkM m) a (some r) = lkM (setM a r m) := by
  funext id
  induction m with
  | nil => simp [upd1m, setM, lkM]
  | cons x m ih =>
    obtain ⟨b, s⟩ := x
    simp only [upd1m, setM, lkM] at ih ⊢
    by_cases e : b = a
    · rw [if_pos e]
      subst e
      simp only [lkM]
      by_cases e2 : id = b <;> simp [e2]
    · rw [if_neg e]
      simp only [lkM, ← ih]
      by_cases e2 : id = a
      · have : a ≠ b := fun h => e h.symm
        simp [e2, this]
      · simp [e2]
theorem lkM_cons {m : List (Nat × Row)} {a id : Nat} {r : Row} : lkM ((a, r) :: m) id = if id = a then some r else lkM m id := (rfl)
theorem lkM_nil {id : Nat} : lkM [] id = none := (rfl)
theorem mem0_lk : mem0 = lkM [] := (rfl)

/-! a call that is pure, a branch -/
section
variable {P : Program} {f : FuncId} {args : List AV} {M : Mem} {slot : Nat} {K : Out → Prop} {out : Out}
theorem callP_ok (h : CallOk P f args M slot out) (hk : K out) : callP P f args M slot K := ⟨out, h, hk⟩
theorem callvP_ok {caps : List AV} (h : CallOk P f (args ++ caps) M slot out) (hk : K out) : callvP P (.fn f caps) args M slot K := ⟨out, ⟨f, caps, rfl, h⟩, hk⟩
theorem condP_by {t : Bool} {p q : Prop} (h1 : t = true → p) (h2 : t = false → q) : condP (.b t) p q := by
  cases t
  · exact h2 rfl
  · exact h1 rfl
theorem guardP_by {t : Bool} {p q : Prop} (h1 : t = true → p) (h2 : t = false → q) : guardP (some t) p q := by
  cases t
  · exact h2 rfl
  · exact h1 rfl
end
end Go.Vm
