import Derived.Test.YtkjmlfbafmdegaaVmN
namespace Go.Vm
set_option linter.unusedSectionVars false
set_option linter.unusedSimpArgs false
set_option linter.unusedVariables false
open Go
variable [Inhabited LayT]
section
variable {P : Program} {o : Oper} {a : Act} {w : World} {g : Gh} {M : Mem} {slot : Nat} {T : Tm}

theorem all_one {zs : List Value} (h : zs.all (·.oneCell') = true) : ∀ v ∈ zs, v.oneCell' = true := fun v hv => List.all_eq_true.1 h v hv

theorem eq_args {c : Call} {x : Operand} (h : c.args.toList = [x]) : c.args = #[x] := by
  rw [← Array.toList_inj]; exact h
theorem eq_args2 {α : Type} {c : Array α} {x y : α} (h : c.toList = [x, y]) : c = #[x, y] := by
  rw [← Array.toList_inj]; exact h

set_option maxHeartbeats 1000000 in
theorem step_sound (hm : MemRel g M w) (hs : ¬ g.L slot) (hT : RelT g M w T a) {l : LOp} (hc : compOp P o.op = some l) {out : Out} (h : step T M slot l = some out) : Res P o a w g M slot out := by
  generalize e : o.op = op at hc
  cases op with
  | move x => cases hc; exact step_mov hm hT (.inl e) h
  | assign x => cases hc; exact step_mov hm hT (.inr e) h
  | pick c x y => cases hc; exact step_pick hm hT e h
  | alloc t =>
    simp only [compOp, Option.bind_eq_some_iff] at hc
    obtain ⟨zs, hz, hc⟩ := hc
    split at hc
    · rename_i h1; cases hc; exact step_alloc hm hs e hz (all_one h1) h
    · cases hc
  | box t x =>
    simp only [compOp, Option.map_eq_some_iff] at hc
    obtain ⟨n, _, rfl⟩ := hc
    exact step_box hm hs hT e h
  | build t ps =>
    simp only [compOp] at hc
    split at hc
    · rename_i fs ht
      split at hc
      · rename_i hall
        split at hc
        · rename_i zs qs hz hq
          cases hc
          exact step_buildS hm hT e ht hz hall hq h
        · cases hc
      · cases hc
    · rename_i m e0 ht
      split at hc
      · rename_i zs n hz hn
        cases hc
        exact step_buildA hm hT e ht hz hn h
      · cases hc
    · cases hc
  | buildSlice t len ps =>
    simp only [compOp] at hc
    split at hc
    · rename_i e0 ht
      split at hc
      · rename_i zs n hz hn
        split at hc
        · rename_i hcond
          cases hc
          exact step_slit hm hs hT e ht hz hn hcond.1 hcond.2.1 hcond.2.2.1 (all_one hcond.2.2.2) h
        · cases hc
      · cases hc
    · cases hc
  | load t p =>
    simp only [compOp] at hc
    split at hc
    · rename_i ag n h1 h2
      cases hc
      exact step_load hm hT e h1 h2 h
    · cases hc
  | store t p x =>
    simp only [compOp, Option.map_eq_some_iff] at hc
    obtain ⟨n, hn, rfl⟩ := hc
    exact step_store hm hT e hn h
  | nilCheck x => cases hc; exact step_nilc hm hT e h
  | binOp op t x y ty =>
    simp only [compOp] at hc
    split at hc
    · split at hc
      · rename_i ms ht
        split at hc
        · rename_i hy; cases hc; exact step_eqnI hm hT e rfl ht hy h
        · cases hc
      · rename_i e0 ht
        split at hc
        · rename_i hy; cases hc; exact step_eqnP hm hT e rfl ht hy h
        · cases hc
      · rename_i ht; cases hc; exact step_eqB hm hT e rfl ht h
      · rename_i e0 ht
        split at hc
        · rename_i hy; cases hc; exact step_eqs hm hT e rfl ht hy h
        · cases hc
      · rename_i fs ht
        split at hc
        · rename_i hy; cases hc; exact step_eqaS hm hT e rfl ht hy h
        · cases hc
      · rename_i m e0 ht
        split at hc
        · rename_i hy; cases hc; exact step_eqaA hm hT e rfl ht hy h
        · cases hc
      · cases hc; exact step_bin hm hT e h
      · cases hc; exact step_bin hm hT e h
      · cases hc
    · split at hc
      · rename_i ms ht
        split at hc
        · rename_i hy; cases hc; exact step_eqnI hm hT e rfl ht hy h
        · cases hc
      · rename_i e0 ht
        split at hc
        · rename_i hy; cases hc; exact step_eqnP hm hT e rfl ht hy h
        · cases hc
      · rename_i ht; cases hc; exact step_eqB hm hT e rfl ht h
      · rename_i e0 ht
        split at hc
        · rename_i hy; cases hc; exact step_eqs hm hT e rfl ht hy h
        · cases hc
      · rename_i fs ht
        split at hc
        · rename_i hy; cases hc; exact step_eqaS hm hT e rfl ht hy h
        · cases hc
      · rename_i m e0 ht
        split at hc
        · rename_i hy; cases hc; exact step_eqaA hm hT e rfl ht hy h
        · cases hc
      · cases hc; exact step_bin hm hT e h
      · cases hc; exact step_bin hm hT e h
      · cases hc
    · cases hc; exact step_bin hm hT e h
  | unOp op t x => cases hc; exact step_un hm hT e h
  | convert src dst x =>
    simp only [compOp] at hc
    split at hc
    · rename_i h1 h2; cases hc; exact step_convI hm hT e h1 h2 h
    · rename_i e0 h1 h2
      split at hc
      · rename_i h3; cases hc; exact step_convS hm hT e h1 h3 h2 h
      · cases hc
    · rename_i e0 e1 h1 h2
      split at hc
      · rename_i h3
        split at hc
        · rename_i hsd
          subst hsd
          cases hc
          exact step_convSl (e0 := 0) hm hT e h2 h3 h
        · cases hc
      · cases hc
    · rename_i e0 h1 h2
      split at hc
      · rename_i h3; cases hc; exact step_convB hm hs hT e h1 h3 h2 h
      · cases hc
    · cases hc
  | makeInterface t x =>
    simp only [compOp] at hc
    split at hc
    · cases hc
    · rename_i d hno ht
      cases hc
      exact step_mkI hm hT e ht (fun ms hd => hno ms hd) h
    · cases hc
  | makeFunc fn fst caps =>
    cases fn with
    | func f =>
      simp only [compOp] at hc
      split at hc
      · rename_i h0; cases hc; exact step_mkF hm hT e h0 h
      · cases hc
    | _ => simp [compOp] at hc
  | makeSlice t len cap =>
    simp only [compOp] at hc
    split at hc
    · rename_i e0 ht
      split at hc
      · rename_i i hi
        split at hc
        · rename_i z hz
          split at hc
          · rename_i hcond
            cases hc
            exact step_mkSl hm hs hT e ht hi hz hcond.1 hcond.2.1 (all_one hcond.2.2) h
          · cases hc
        · cases hc
      · cases hc
    · cases hc
  | slice t x lo hi mx =>
    simp only [compOp] at hc
    split at hc
    · split at hc
      · rename_i e0 h3 ht
        simp only [Option.map_eq_some_iff] at hc
        obtain ⟨n, hn, rfl⟩ := hc
        exact step_slc3 hm hT e ht hn h
      · cases hc
    · split at hc
      · rename_i e0 ht
        simp only [Option.map_eq_some_iff] at hc
        obtain ⟨n, hn, rfl⟩ := hc
        exact step_slc hm hT e ht hn h
      · rename_i ht; cases hc; exact step_slcS hm hT e ht h
      · rename_i m e0 ht
        simp only [Option.map_eq_some_iff] at hc
        obtain ⟨n, hn, rfl⟩ := hc
        exact step_slcA hm hT e ht hn h
      · cases hc
  | fieldAddr t p j =>
    simp only [compOp] at hc
    split at hc
    · rename_i off ft hf
      split at hc
      · rename_i n hn
        split at hc
        · rename_i h0; cases hc; exact step_fldA hm hT e hf hn h0 h
        · cases hc
      · cases hc
    · cases hc
  | field t x j =>
    simp only [compOp] at hc
    split at hc
    · rename_i off ft hf
      split at hc
      · rename_i n ag hn hag; cases hc; exact step_fld hm hT e hf hn hag h
      · cases hc
    · cases hc
  | indexAddr t x ix =>
    simp only [compOp] at hc
    split at hc
    · rename_i e0 ht
      simp only [Option.map_eq_some_iff] at hc
      obtain ⟨n, hn, rfl⟩ := hc
      exact step_idxA hm hT e ht hn h
    · rename_i m e0 ht
      simp only [Option.map_eq_some_iff] at hc
      obtain ⟨n, hn, rfl⟩ := hc
      exact step_idxP hm hT e ht hn h
    · cases hc
  | index t x ix =>
    simp only [compOp] at hc
    split at hc
    · rename_i m e0 ht
      split at hc
      · rename_i n ag hn hag; cases hc; exact step_idx hm hT e ht hn hag h
      · cases hc
    · rename_i ht; cases hc; exact step_idxS hm hT e ht h
    · cases hc
  | extract x j => cases hc; exact step_ext hm hT e h
  | call c =>
    obtain ⟨callee, args, tys⟩ := c
    simp only [compOp] at hc
    split at hc
    · cases hc; simp [step] at h
    · cases hc; simp [step] at h
    · split at hc
      · rename_i t x h1 h2
        have h2' : args = #[x] := by rw [← Array.toList_inj]; exact h2
        subst h2'
        split at hc
        · rename_i e0 ht; cases hc; exact step_lenL hm hT e h1 ht h
        · rename_i ht; cases hc; exact step_lenS hm hT e h1 ht h
        · rename_i n e0 ht; cases hc; exact step_lenC hm e h1 ht h
        · cases hc
      · cases hc
    · split at hc
      · rename_i t x h1 h2
        have h2' : args = #[x] := by rw [← Array.toList_inj]; exact h2
        subst h2'
        split at hc
        · rename_i e0 ht; cases hc; exact step_capL hm hT e h1 ht h
        · cases hc
      · cases hc
    · split at hc
      · rename_i t u s x h1 h2
        have h1' := eq_args2 h1
        have h2' := eq_args2 h2
        subst h1' h2'
        split at hc
        · rename_i e0 kn ht hu
          split at hc
          · rename_i i hi
            split at hc
            · rename_i z hz
              split at hc
              · rename_i hcond
                cases hc
                exact step_appN hm hs hT e ht hu hi hz hcond.1 hcond.2.1 (all_one hcond.2.2) h
              · cases hc
            · cases hc
          · cases hc
        · rename_i e0 e1 ht hu
          split at hc
          · rename_i i hi
            split at hc
            · rename_i z hz
              split at hc
              · rename_i hcond
                cases hc
                exact step_app hm hs hT e ht hu hi hz hcond.1 hcond.2 h
              · cases hc
            · cases hc
          · cases hc
        · cases hc
      · cases hc
    · split at hc
      · rename_i x y h2
        have h2' := eq_args2 h2
        subst h2'
        cases hc
        exact step_mn hm hT e h
      · cases hc
    · split at hc
      · rename_i x y h2
        have h2' := eq_args2 h2
        subst h2'
        cases hc
        exact step_mx hm hT e h
      · cases hc
    · cases hc
  | _ => simp [compOp] at hc
end
#print axioms step_sound
end Go.Vm
