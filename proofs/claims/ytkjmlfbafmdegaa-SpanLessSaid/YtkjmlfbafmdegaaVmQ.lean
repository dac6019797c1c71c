import Derived.Test.YtkjmlfbafmdegaaVmP
namespace Go.Vm
set_option linter.unusedSectionVars false
set_option linter.unusedSimpArgs false
set_option linter.unusedVariables false
open Go
variable [Inhabited LayT]

def dstOk (n : Nat) : Option Nat → Bool
  | none => true
  | some d => decide (d < n)
def compOper (P : Program) (n : Nat) (ops : Array Oper) (o : Oper) : Option LOper :=
  match (match o.guard with | none => some none | some (j, want) => ((ops[j]?).bind (·.dst)).map fun t => some (t, want)) with
  | some gd => if dstOk n o.dst = true then some ⟨o.dst, (compOp P o.op).getD .bad, gd⟩ else none
  | _ => none

section
variable {P : Program} {n k : Nat} {g : Gh} {T : Tm} {M : Mem} {nb : Nat} {a : Act} {w : World} {ops : Array Oper}

structure Comped (P : Program) (n : Nat) (ops : Array Oper) (o : Oper) (lo : LOper) : Prop where
  op : compOp P o.op = some lo.op ∨ lo.op = .bad
  gd : (match o.guard with | none => some none | some (j, want) => ((ops[j]?).bind (·.dst)).map fun t => some (t, want)) = some lo.guard
  dst : lo.dst = o.dst
  lt : ∀ d, lo.dst = some d → d < n
theorem comped {o : Oper} {lo : LOper} (h : compOper P n ops o = some lo) : Comped P n ops o lo := by
  unfold compOper at h
  split at h
  · rename_i gd h2
    split at h
    · rename_i hd
      cases h
      refine ⟨?_, h2, rfl, fun d e => ?_⟩
      · cases h3 : compOp P o.op with
        | none => exact .inr (by simp)
        | some l => exact .inl (by simp)
      · rw [show o.dst = some d from e] at hd
        exact of_decide_eq_true hd
    · cases h
  · cases h

theorem Comped.real {o : Oper} {lo : LOper} (hc : Comped P n ops o lo) {slot : Nat} {out : Out} (hd : does P T M slot lo.op out) : compOp P o.op = some lo.op := by
  rcases hc.op with h | h
  · exact h
  · rw [h] at hd; simp [does, step] at hd

/-- The state behind an operation that was carried out. -/
theorem next_of_does {o : Oper} {lo : LOper} (hc : Comped P n ops o lo) {base i : Nat} (st : StR n k g T M (base + 8 * i) a w) {out : Out} (hd : does P T M (base + 8 * i) lo.op out)
    {K : Act → World → Prop} {Q : Exit → Act → World → Prop}
    (hK : ∀ a' w' g', StR n k g' (put T lo.dst out.v) (upd M out.eff) (base + 8 * (i + 1)) a' w' → WEvo k g M w g' (upd M out.eff) w' → K a' w') : o.wp P a w K Q := by
  have hop : compOp P o.op = some lo.op := by
    rcases hc.op with h | h
    · exact h
    · rw [h] at hd; simp [does, step] at hd
  refine does_wp hop hd st.mem st.tm (fun id h1 h2 h => by have := st.nb id h; omega) (fun u w' g' h1 h2 h3 h4 => ?_)
  rw [← hc.dst]
  refine hK _ w' g' (st.put hc.lt h2 h3 h1 (fun id hid => ?_)) (h3.wevo st.kn)
  rcases h4 id hid with h | h
  · have := st.nb id h; omega
  · omega

/-- A region in the order of its text. -/
theorem rgn_seq {base : Nat} {K : Tm → Mem → Log → Prop} {Q : Exit → Act → World → Prop} {g0 : Gh} {M0 : Mem} {w0 : World} (m : Nat)
    (hK : ∀ T' M' log g' a' w', K T' M' log → StR n k g' T' M' (base + 8 * m) a' w' → WEvo k g0 M0 w0 g' M' w' → Q .normal a' w') :
    ∀ (rest : List Oper) (os : List LOper) (i : Nat) {g : Gh} {T : Tm} {M : Mem} {log : Log} {a : Act} {w : World}, i + rest.length = m → (∀ j o, rest[j]? = some o → ops[i + j]? = some o) → rest.mapM (compOper P n ops) = some os →
      StR n k g T M (base + 8 * i) a w → WEvo k g0 M0 w0 g M w → rgnP P false base K os i T M log → wpOps P ops Q (List.range' i rest.length) a w
  | [], os, i, g, T, M, log, a, w, hm, _, hc, st, hw, h => by
    simp at hc
    subst hc
    have hi : i = m := by simpa using hm
    subst hi
    exact hK T M log g a w h st hw
  | o :: rest, os, i, g, T, M, log, a, w, hm, hget, hc, st, hw, h => by
    rw [List.mapM_cons] at hc
    simp only [Option.bind_eq_bind, Option.bind_eq_some_iff] at hc
    obtain ⟨lo, h1, os', h2, h3⟩ := hc
    cases h3
    have hc' := comped h1
    have ho : ops[i]? = some o := by simpa using hget 0 o rfl
    rw [List.length_cons, List.range'_succ, wpOps_cons]
    unfold wpOp
    simp only [ho]
    have hget' : ∀ j o', rest[j]? = some o' → ops[i + 1 + j]? = some o' := fun j o' hj => by
      have := hget (j + 1) o' (by simpa using hj)
      rwa [show i + (j + 1) = i + 1 + j by omega] at this
    have hm' : i + 1 + rest.length = m := by simp at hm; omega
    unfold rgnP at h
    split at h
    · exact h.elim
    · rename_i t hg
      have hwant := wanted_guard st.tm hc'.gd hg
      rw [hwant]
      cases t with
      | false =>
        simp only [Bool.false_eq_true, if_false] at h ⊢
        have st' := st.put hc'.lt st.mem (Evo.refl _ _ _) (v := .k undef) (u := undef) rfl (nb' := base + 8 * (i + 1)) (fun id hid => by have := st.nb id hid; omega)
        rw [← hc'.dst]
        exact rgn_seq m hK rest os' (i + 1) hm' hget' h2 st' hw h
      | true =>
        simp only [if_true] at h ⊢
        have go : ∀ out, does P T M (base + 8 * i) lo.op out → rgnP P false base K os' (i + 1) (put T lo.dst out.v) (upd M out.eff) log → o.wp P a w (wpOps P ops Q (List.range' (i + 1) rest.length)) Q := by
          intro out hd hr
          exact next_of_does hc' st hd (fun a' w' g' st' hw' => rgn_seq m hK rest os' (i + 1) hm' hget' h2 st' (hw.trans hw') hr)
        left
        split at h
        · rename_i f args e
          obtain ⟨out, h4, h5⟩ := h
          exact go out (by rw [e]; exact h4) h5
        · rename_i x args e
          obtain ⟨out, h4, h5⟩ := h
          exact go out (by rw [e]; exact h4) h5
        · rename_i op hn1 hn2
          split at h
          · exact h.elim
          · rename_i out hs
            exact go out (does_of_step hs) h
end
end Go.Vm
