import Derived.Test.YtkjmlfbafmdegaaVmT
namespace Go.Vm
set_option linter.unusedSectionVars false
set_option linter.unusedSimpArgs false
set_option linter.unusedVariables false
open Go
variable [Inhabited LayT]
section
variable {P : Program} {n k : Nat}

theorem AWp.imp {c : Code} {Q Q' : Cont} {T : Tm} {M : Mem} {nb : Nat} (h : AWp P n k c Q T M nb) (hq : ∀ x T M nb, Q x T M nb → Q' x T M nb) : AWp P n k c Q' T M nb :=
  fun g a w st => wp_mono (h g a w st) fun ex a' w' ⟨T', M', nb', g', h1, h2⟩ => ⟨T', M', nb', g', hq _ _ _ _ h1, h2⟩

theorem awp_seq {x y : Code} {K : Cont} {T : Tm} {M : Mem} {nb : Nat} (h : AWp P n k x (onNormal (fun T M nb => AWp P n k y K T M nb) K) T M nb) : AWp P n k (.seq x y) K T M nb := by
  intro g a w st
  refine wp_seq (wp_mono (h g a w st) ?_)
  rintro ex a' w' ⟨T', M', nb', g', h1, h2, h3⟩
  cases ex with
  | normal => exact wp_mono (h1 g' a' w' h2) fun ex a2 w2 ⟨T2, M2, nb2, g2, k1, k2, k3⟩ => ⟨T2, M2, nb2, g2, k1, k2, h3.trans k3⟩
  | exit id => exact ⟨T', M', nb', g', h1, h2, h3⟩
  | goto l => exact ⟨T', M', nb', g', h1, h2, h3⟩
  | ret => exact ⟨T', M', nb', g', h1, h2, h3⟩
  | panic ch => exact ⟨T', M', nb', g', h1, h2, h3⟩
  | outgrown => exact ⟨T', M', nb', g', h1, h2, h3⟩

theorem awp_wk {c : Code} {Q : Cont} {T : Tm} {M : Mem} {nb : Nat} {T2 : Tm} {M2 : Mem} {nb2 : Nat} (h : Wk n k T M nb T2 M2 nb2) (h2 : AWp P n k c Q T2 M2 nb2) : AWp P n k c Q T M nb := by
  intro g a w st
  obtain ⟨g2, st2, e2⟩ := h g a w st
  exact wp_mono (h2 g2 a w st2) fun ex a' w' ⟨T', M', nb', g', h1, h2, h3⟩ => ⟨T', M', nb', g', h1, h2, e2.trans h3⟩
theorem awp_weak {c : Code} {Q : Cont} {F : Tm → Mem → Nat → Prop} {wk : Bool} {T : Tm} {M : Mem} {nb : Nat} (h : WkB wk n k F T M nb) (hF : ∀ T M nb, F T M nb → AWp P n k c Q T M nb) : AWp P n k c Q T M nb := by
  unfold WkB at h
  split at h
  · obtain ⟨T2, M2, nb2, h1, h2⟩ := h
    exact awp_wk h1 (hF _ _ _ h2)
  · exact hF _ _ _ h

theorem compC_sound (hmix : P.follows .mixedOrders = true) {ks : Nat → Bool × List Nat} : ∀ (c : Code) {lc : LCode} {K : Cont} {T : Tm} {M : Mem} {nb : Nat}, compC P n ks c = some lc → run P n k lc K T M nb → AWp P n k c K T M nb
  | .skip, lc, K, T, M, nb, hc, h => by
    cases hc
    exact fun g a w st => wp_skip ⟨T, M, nb, g, h, st, WEvo.refl k g M w⟩
  | .region id ops dr, lc, K, T, M, nb, hc, h => by
    simp only [compC] at hc
    split at hc
    · cases hc
    · rename_i os hos
      split at hc
      · rename_i hdr
        split at hc
        · rename_i hcond
          cases hc
          rw [hdr]
          exact awp_weak h fun T M nb h => awp_region hmix hos (fun _ => hcond) h
        · cases hc
      · rename_i hdr
        cases hc
        have : dr = false := by simpa using hdr
        rw [this]
        exact awp_weak h fun T M nb h => awp_region hmix hos (fun e => by cases e) h
  | .seq x y, lc, K, T, M, nb, hc, h => by
    simp only [compC] at hc
    split at hc
    · rename_i la lb h1 h2
      cases hc
      refine awp_seq (AWp.imp (compC_sound hmix x h1 h) ?_)
      intro ex T M nb hk
      cases ex with
      | normal => exact compC_sound hmix y h2 hk
      | _ => exact hk
    · cases hc
  | .cond c x y, lc, K, T, M, nb, hc, h => by
    simp only [compC] at hc
    split at hc
    · rename_i la lb h1 h2
      cases hc
      intro g a w st
      simp only [run] at h
      split at h
      · rename_i t e
        have hr := rel_ev st.tm c
        rw [e] at hr
        have hr' : a.eval c = .bool t := hr
        cases t with
        | true => exact wp_cond_true hr' (compC_sound hmix x h1 (by simpa using h) g a w st)
        | false => exact wp_cond_false hr' (compC_sound hmix y h2 (by simpa using h) g a w st)
      · exact h.elim
    · cases hc
  | .block id c, lc, K, T, M, nb, hc, h => by
    simp only [compC, Option.map_eq_some_iff] at hc
    obtain ⟨lc', h1, rfl⟩ := hc
    intro g a w st
    refine wp_block (wp_mono (compC_sound hmix c h1 h g a w st) ?_)
    rintro ex a' w' ⟨T', M', nb', g', k1, k2⟩
    cases ex with
    | exit i =>
      simp only [onExit] at k1
      simp only [Exit.inBlock]
      split
      · rename_i e; rw [if_pos e] at k1; exact ⟨T', M', nb', g', k1, k2⟩
      · rename_i e; rw [if_neg e] at k1; exact ⟨T', M', nb', g', k1, k2⟩
    | _ => exact ⟨T', M', nb', g', k1, k2⟩
  | .loop c, lc, K, T, M, nb, hc, h => by
    simp only [compC, Option.map_eq_some_iff] at hc
    obtain ⟨lc', h1, rfl⟩ := hc
    obtain ⟨m, h⟩ := h
    have key : ∀ (m : Nat) (T : Tm) (M : Mem) (nb : Nat), loopN n k (run P n k lc') K m T M nb → ∀ g0 M0 w0 g a w, StR n k g T M nb a w → WEvo k g0 M0 w0 g M w →
        Code.rounds P c (fun ex a' w' => ∃ T' M' nb' g', K ex T' M' nb' ∧ StR n k g' T' M' nb' a' w' ∧ WEvo k g0 M0 w0 g' M' w') m a w := by
      intro m
      induction m with
      | zero => intro T M nb h; exact h.elim
      | succ m ih =>
        rintro T M nb ⟨T2, M2, nb2, hwk, h⟩ g0 M0 w0 g a w st hw
        rw [rounds_succ]
        refine wp_mono (awp_wk hwk (compC_sound hmix c h1 h) g a w st) ?_
        rintro ex a' w' ⟨T', M', nb', g', k1, k2, k3⟩
        cases ex with
        | normal => exact ih T' M' nb' k1 g0 M0 w0 g' a' w' k2 (hw.trans k3)
        | exit id => exact ⟨T', M', nb', g', k1, k2, hw.trans k3⟩
        | goto l => exact ⟨T', M', nb', g', k1, k2, hw.trans k3⟩
        | ret => exact ⟨T', M', nb', g', k1, k2, hw.trans k3⟩
        | panic ch => exact ⟨T', M', nb', g', k1, k2, hw.trans k3⟩
        | outgrown => exact ⟨T', M', nb', g', k1, k2, hw.trans k3⟩
    exact fun g a w st => wp_loop_rounds m (key m T M nb h g M w g a w st (WEvo.refl k g M w))
  | .exit id, lc, K, T, M, nb, hc, h => by
    cases hc
    exact fun g a w st => wp_exit ⟨T, M, nb, g, h, st, WEvo.refl k g M w⟩
  | .ret, lc, K, T, M, nb, hc, h => by
    cases hc
    exact fun g a w st => wp_ret ⟨T, M, nb, g, h, st, WEvo.refl k g M w⟩
  | .rangeFunc _ _ _ _, lc, K, T, M, nb, hc, h => by cases hc
  | .scope _, lc, K, T, M, nb, hc, h => by cases hc
  | .label _, lc, K, T, M, nb, hc, h => by cases hc
  | .goto _, lc, K, T, M, nb, hc, h => by cases hc
  | .refuse _, lc, K, T, M, nb, hc, h => by cases hc

/-! ### monotone and continuous -/
theorem rgnP_imp {dr : Bool} {base : Nat} {K K' : Tm → Mem → Log → Prop} (hk : ∀ T M l, K T M l → K' T M l) : ∀ (os : List LOper) (i : Nat) (T : Tm) (M : Mem) (l : Log),
    rgnP P dr base K os i T M l → rgnP P dr base K' os i T M l
  | [], _, _, _, _, h => hk _ _ _ h
  | o :: os, i, T, M, l, h => by
    unfold rgnP at h ⊢
    split at h
    · exact h
    · rename_i t hg
      split at h
      · rename_i ht
        rw [if_pos ht]
        split at h
        · obtain ⟨out, h1, h2⟩ := h
          exact ⟨out, h1, rgnP_imp hk os _ _ _ _ h2⟩
        · obtain ⟨out, h1, h2⟩ := h
          exact ⟨out, h1, rgnP_imp hk os _ _ _ _ h2⟩
        · split at h
          · exact h
          · exact rgnP_imp hk os _ _ _ _ h
      · rename_i ht
        rw [if_neg ht]
        exact rgnP_imp hk os _ _ _ _ h
theorem rgnP_ex {dr : Bool} {base : Nat} {K : Nat → Tm → Mem → Log → Prop} : ∀ (os : List LOper) (i : Nat) (T : Tm) (M : Mem) (l : Log),
    rgnP P dr base (fun T M l => ∃ m, K m T M l) os i T M l → ∃ m, rgnP P dr base (K m) os i T M l
  | [], _, _, _, _, h => h
  | o :: os, i, T, M, l, h => by
    unfold rgnP at h
    split at h
    · exact h.elim
    · rename_i t hg
      split at h
      · rename_i ht
        split at h
        · rename_i f args e
          obtain ⟨out, h1, h2⟩ := h
          obtain ⟨m, h3⟩ := rgnP_ex os _ _ _ _ h2
          refine ⟨m, ?_⟩
          unfold rgnP
          simp only [hg, ht, if_true, e]
          exact ⟨out, h1, h3⟩
        · rename_i x args e
          obtain ⟨out, h1, h2⟩ := h
          obtain ⟨m, h3⟩ := rgnP_ex os _ _ _ _ h2
          refine ⟨m, ?_⟩
          unfold rgnP
          simp only [hg, ht, if_true, e]
          exact ⟨out, h1, h3⟩
        · rename_i op hn1 hn2
          split at h
          · exact h.elim
          · rename_i out hs
            obtain ⟨m, h3⟩ := rgnP_ex os _ _ _ _ h
            refine ⟨m, ?_⟩
            unfold rgnP
            simp only [hg, ht, if_true]
            split <;> first
              | exact absurd ‹_› (hn1 _ _)
              | exact absurd ‹_› (hn2 _ _)
              | exact h3
              | (simp only [hs]; exact h3)
              | (rename_i e2; rw [hs] at e2; cases e2; exact h3)
              | (rename_i e2; rw [hs] at e2; cases e2)
      · rename_i ht
        obtain ⟨m, h3⟩ := rgnP_ex os _ _ _ _ h
        refine ⟨m, ?_⟩
        unfold rgnP
        simp only [hg, ht, if_false]
        exact h3

theorem onNormal_imp {f f' : Tm → Mem → Nat → Prop} {K K' : Cont} (hf : ∀ T M nb, f T M nb → f' T M nb) (hk : ∀ x T M nb, K x T M nb → K' x T M nb) :
    ∀ x T M nb, onNormal f K x T M nb → onNormal f' K' x T M nb := by
  intro x T M nb h
  cases x with
  | normal => exact hf _ _ _ h
  | _ => exact hk _ _ _ _ h
theorem onExit_imp {id : Nat} {K K' : Cont} (hk : ∀ x T M nb, K x T M nb → K' x T M nb) : ∀ x T M nb, onExit id K x T M nb → onExit id K' x T M nb := by
  intro x T M nb h
  cases x with
  | exit i =>
    simp only [onExit] at h ⊢
    split at h
    · rename_i e; rw [if_pos e]; exact hk _ _ _ _ h
    · rename_i e; rw [if_neg e]; exact hk _ _ _ _ h
  | _ => exact hk _ _ _ _ h

theorem WkB.imp {wk : Bool} {F F' : Tm → Mem → Nat → Prop} (hF : ∀ T M nb, F T M nb → F' T M nb) {T : Tm} {M : Mem} {nb : Nat} (h : WkB wk n k F T M nb) : WkB wk n k F' T M nb := by
  unfold WkB at h ⊢
  split
  · rename_i e
    rw [if_pos e] at h
    obtain ⟨T2, M2, nb2, h1, h2⟩ := h
    exact ⟨T2, M2, nb2, h1, hF _ _ _ h2⟩
  · rename_i e
    rw [if_neg e] at h
    exact hF _ _ _ h
theorem WkB.ex {wk : Bool} {F : Nat → Tm → Mem → Nat → Prop} {T : Tm} {M : Mem} {nb : Nat} (h : WkB wk n k (fun T M nb => ∃ m, F m T M nb) T M nb) : ∃ m, WkB wk n k (F m) T M nb := by
  unfold WkB at h
  split at h
  · rename_i e
    obtain ⟨T2, M2, nb2, h1, m, h2⟩ := h
    exact ⟨m, by unfold WkB; rw [if_pos e]; exact ⟨T2, M2, nb2, h1, h2⟩⟩
  · rename_i e
    obtain ⟨m, h⟩ := h
    exact ⟨m, by unfold WkB; rw [if_neg e]; exact h⟩

theorem run_imp : ∀ (lc : LCode) {K K' : Cont} (hk : ∀ x T M nb, K x T M nb → K' x T M nb) (T : Tm) (M : Mem) (nb : Nat), run P n k lc K T M nb → run P n k lc K' T M nb
  | .skip, _, _, hk, _, _, _, h => hk _ _ _ _ h
  | .rgn wk dr bef keep ops, _, _, hk, T, M, nb, h => WkB.imp (fun T M nb h => rgnP_imp (fun _ _ _ ⟨h1, h2⟩ => ⟨h1, hk _ _ _ _ h2⟩) ops 0 T M [] h) h
  | .seq a b, _, _, hk, T, M, nb, h => run_imp a (onNormal_imp (fun T M nb => run_imp b hk T M nb) hk) T M nb h
  | .cond c x y, _, _, hk, T, M, nb, h => by
    simp only [run] at h ⊢
    split at h
    · split at h
      · rename_i ht; rw [if_pos ht]; exact run_imp x hk T M nb h
      · rename_i ht; rw [if_neg ht]; exact run_imp y hk T M nb h
    · exact h
  | .block id c, _, _, hk, T, M, nb, h => run_imp c (onExit_imp hk) T M nb h
  | .loop c, K, K', hk, T, M, nb, ⟨m, h⟩ => by
    refine ⟨m, ?_⟩
    induction m generalizing T M nb with
    | zero => exact h.elim
    | succ m ih =>
      obtain ⟨T2, M2, nb2, hw, h⟩ := h
      exact ⟨T2, M2, nb2, hw, run_imp c (onNormal_imp (fun T M nb h => ih T M nb h) hk) _ _ _ h⟩
  | .exit id, _, _, hk, _, _, _, h => hk _ _ _ _ h
  | .ret, _, _, hk, _, _, _, h => hk _ _ _ _ h

theorem loopN_mono (lc : LCode) {K : Cont} : ∀ (m : Nat) (T : Tm) (M : Mem) (nb : Nat), loopN n k (run P n k lc) K m T M nb → loopN n k (run P n k lc) K (m + 1) T M nb
  | 0, _, _, _, h => h.elim
  | m + 1, T, M, nb, ⟨T2, M2, nb2, hw, h⟩ => ⟨T2, M2, nb2, hw, run_imp lc (onNormal_imp (loopN_mono lc m) (fun _ _ _ _ h => h)) _ _ _ h⟩
theorem loopN_le (lc : LCode) {K : Cont} {m m' : Nat} (hm : m ≤ m') {T : Tm} {M : Mem} {nb : Nat} (h : loopN n k (run P n k lc) K m T M nb) : loopN n k (run P n k lc) K m' T M nb := by
  induction m' with
  | zero => obtain rfl : m = 0 := by omega
            exact h
  | succ m' ih =>
    rcases Nat.lt_or_ge m (m' + 1) with h1 | h1
    · exact loopN_mono lc m' T M nb (ih (by omega))
    · obtain rfl : m = m' + 1 := by omega
      exact h

/-- Where a run ends at one place, an 'exists' behind it stands ahead of it as well. -/
theorem run_ex : ∀ (lc : LCode) {K : Nat → Cont} (hmono : ∀ m m', m ≤ m' → ∀ x T M nb, K m x T M nb → K m' x T M nb) (T : Tm) (M : Mem) (nb : Nat), run P n k lc (fun x T M nb => ∃ m, K m x T M nb) T M nb → ∃ m, run P n k lc (K m) T M nb
  | .skip, _, _, _, _, _, h => h
  | .rgn wk dr bef keep ops, K, hmono, T, M, nb, h => by
    refine WkB.ex (WkB.imp (fun T M nb h => ?_) h)
    refine rgnP_ex (K := fun m T' M' log => (dr = true → okLog bef log = true) ∧ K m .normal (restrict keep T') M' (nb + 8 * ops.length)) ops 0 T M [] ?_
    exact rgnP_imp (fun _ _ _ ⟨h1, m, h2⟩ => ⟨m, h1, h2⟩) ops 0 T M [] h
  | .seq a b, K, hmono, T, M, nb, h => by
    refine run_ex a (K := fun m => onNormal (run P n k b (K m)) (K m)) (fun m m' hm x T M nb h => onNormal_imp (fun T M nb => run_imp b (hmono m m' hm) T M nb) (hmono m m' hm) x T M nb h) T M nb ?_
    refine run_imp a ?_ T M nb h
    intro x T M nb h
    cases x with
    | normal => exact run_ex b hmono T M nb h
    | _ => exact h
  | .cond c x y, K, hmono, T, M, nb, h => by
    simp only [run] at h ⊢
    split at h
    · rename_i t e
      split at h
      · rename_i ht
        obtain ⟨m, h1⟩ := run_ex x hmono T M nb h
        exact ⟨m, by rw [if_pos ht]; exact h1⟩
      · rename_i ht
        obtain ⟨m, h1⟩ := run_ex y hmono T M nb h
        exact ⟨m, by rw [if_neg ht]; exact h1⟩
    · exact h.elim
  | .block id c, K, hmono, T, M, nb, h => by
    refine run_ex c (K := fun m => onExit id (K m)) (fun m m' hm x T M nb h => onExit_imp (hmono m m' hm) x T M nb h) T M nb ?_
    refine run_imp c ?_ T M nb h
    intro x T M nb h
    cases x with
    | exit i =>
      simp only [onExit] at h
      split at h
      · rename_i e; obtain ⟨m, h⟩ := h; exact ⟨m, by simp only [onExit]; rw [if_pos e]; exact h⟩
      · rename_i e; obtain ⟨m, h⟩ := h; exact ⟨m, by simp only [onExit]; rw [if_neg e]; exact h⟩
    | _ => exact h
  | .loop c, K, hmono, T, M, nb, ⟨r, h⟩ => by
    have key : ∀ (r : Nat) (T : Tm) (M : Mem) (nb : Nat), loopN n k (run P n k c) (fun x T M nb => ∃ m, K m x T M nb) r T M nb → ∃ m, loopN n k (run P n k c) (K m) r T M nb := by
      intro r
      induction r with
      | zero => intro _ _ _ h; exact h.elim
      | succ r ih =>
        rintro T M nb ⟨T2, M2, nb2, hw, h⟩
        have : ∃ m, run P n k c (onNormal (loopN n k (run P n k c) (K m) r) (K m)) T2 M2 nb2 := by
          refine run_ex c (K := fun m => onNormal (loopN n k (run P n k c) (K m) r) (K m)) ?_ T2 M2 nb2 ?_
          · intro m m' hm x T M nb h
            refine onNormal_imp ?_ (hmono m m' hm) x T M nb h
            intro T M nb h
            have : ∀ (r : Nat) (T : Tm) (M : Mem) (nb : Nat), loopN n k (run P n k c) (K m) r T M nb → loopN n k (run P n k c) (K m') r T M nb := by
              intro r
              induction r with
              | zero => intro _ _ _ h; exact h
              | succ r ih =>
                rintro T M nb ⟨T2, M2, nb2, hw, h⟩
                exact ⟨T2, M2, nb2, hw, run_imp c (onNormal_imp (fun T M nb h => ih T M nb h) (hmono m m' hm)) _ _ _ h⟩
            exact this r T M nb h
          · refine run_imp c ?_ T2 M2 nb2 h
            intro x T M nb h
            cases x with
            | normal => exact ih T M nb h
            | _ => exact h
        obtain ⟨m, h⟩ := this
        exact ⟨m, T2, M2, nb2, hw, h⟩
    obtain ⟨m, h⟩ := key r T M nb h
    exact ⟨m, r, h⟩
  | .exit id, _, _, _, _, _, h => h
  | .ret, _, _, _, _, _, h => h

/-- A loop: told in other words first, one round, and then the loop again. -/
theorem loop_step {c : LCode} {K : Cont} {T : Tm} {M : Mem} {nb : Nat} {T2 : Tm} {M2 : Mem} {nb2 : Nat} (hw : Wk n k T M nb T2 M2 nb2)
    (h : run P n k c (onNormal (LoopB n k (run P n k c) K) K) T2 M2 nb2) : LoopB n k (run P n k c) K T M nb := by
  obtain ⟨m, h⟩ := run_ex c (K := fun m => onNormal (loopN n k (run P n k c) K m) K) (fun m m' hm x T M nb h => onNormal_imp (fun T M nb h => loopN_le c hm h) (fun _ _ _ _ h => h) x T M nb h) T2 M2 nb2
    (run_imp c (by
      intro x T M nb h
      cases x with
      | normal => exact h
      | _ => exact ⟨0, h⟩) T2 M2 nb2 h)
  exact ⟨m + 1, T2, M2, nb2, hw, h⟩
theorem loop_weak {c : LCode} {K : Cont} {T : Tm} {M : Mem} {nb : Nat} {T2 : Tm} {M2 : Mem} {nb2 : Nat} (hw : Wk n k T M nb T2 M2 nb2)
    (h : LoopB n k (run P n k c) K T2 M2 nb2) : LoopB n k (run P n k c) K T M nb := by
  obtain ⟨m, h⟩ := h
  cases m with
  | zero => exact h.elim
  | succ m =>
    obtain ⟨T3, M3, nb3, hw3, h⟩ := h
    exact ⟨m + 1, T3, M3, nb3, hw.trans hw3, h⟩
end
#print axioms compC_sound
#print axioms loop_step
end Go.Vm
