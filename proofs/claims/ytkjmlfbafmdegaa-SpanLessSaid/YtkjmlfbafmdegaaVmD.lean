import Derived.Test.YtkjmlfbafmdegaaVmC
import Derived.Lib.Strings
namespace Go.Vm
set_option linter.unusedSectionVars false
set_option linter.unusedSimpArgs false
set_option linter.unusedVariables false
open Go
variable [Inhabited LayT]
section
variable {P : Program} {o : Oper} {a : Act} {w : World} {g : Gh} {M : Mem} {slot : Nat} {T : Tm}

theorem eqGuard_other {op : BinOp} {t : TypeId} {x y : Operand} {u v : Value} (w : World)
    (h : ∀ cs, u ≠ .agg cs) (hn : u = .nilIface → v ≠ .nilIface ∨ (∃ c, y = .const c)) :
    (eqGuard op t x y u v).run P w = .ok () w := by
  cases u with
  | nilIface =>
    cases v with
    | nilIface =>
      rcases hn rfl with h | ⟨c, rfl⟩
      · exact absurd rfl h
      · cases op <;> simp [eqGuard]
    | _ => cases op <;> simp [eqGuard]
  | agg cs => exact absurd rfl (h cs)
  | _ => cases op <;> simp [eqGuard]

theorem int_beq (p q : Int) : (p == q) = decide (p = q) := rfl

theorem run_binI {op : BinOp} {t : TypeId} {kd : IntKind} {p q : Int} {v : AV} (w : World) (hs : op ≠ .shl ∧ op ≠ .shr) (h : binI op kd p q = some v) :
    ∃ u, (binOp op t (.int kd p) (.int kd q)).run P w = .ok u w ∧ Rel g M w v u := by
  cases op <;> simp only [binI] at h
  case add => obtain rfl := Option.some.inj h; exact ⟨.int kd _, by simp [binOp, Op.intArith], rfl⟩
  case sub => obtain rfl := Option.some.inj h; exact ⟨.int kd _, by simp [binOp, Op.intArith], rfl⟩
  case mul => obtain rfl := Option.some.inj h; exact ⟨.int kd _, by simp [binOp, Op.intArith], rfl⟩
  case quo =>
    split at h
    · cases h
    · rename_i hq
      obtain rfl := Option.some.inj h
      exact ⟨.int kd _, by simp [binOp, Op.intDiv, hq], rfl⟩
  case rem =>
    split at h
    · cases h
    · rename_i hq
      obtain rfl := Option.some.inj h
      exact ⟨.int kd _, by simp [binOp, Op.intDiv, hq], rfl⟩
  case and => obtain rfl := Option.some.inj h; exact ⟨.int kd (bits .and kd p q), by simp only [binOp, Op.intBits]; simp [bits], rfl⟩
  case or => obtain rfl := Option.some.inj h; exact ⟨.int kd (bits .or kd p q), by simp only [binOp, Op.intBits]; simp [bits], rfl⟩
  case xor => obtain rfl := Option.some.inj h; exact ⟨.int kd (bits .xor kd p q), by simp only [binOp, Op.intBits]; simp [bits], rfl⟩
  case andNot => obtain rfl := Option.some.inj h; exact ⟨.int kd (bits .andNot kd p q), by simp only [binOp, Op.intBits]; simp [bits], rfl⟩
  case eql => obtain rfl := Option.some.inj h; exact ⟨.bool (decide (p = q)), by simp only [binOp, Op.intCmp]; simp [int_beq], rfl⟩
  case neq => obtain rfl := Option.some.inj h; exact ⟨.bool (!decide (p = q)), by simp only [binOp, Op.intCmp]; simp [bne, int_beq], rfl⟩
  case lss => obtain rfl := Option.some.inj h; exact ⟨.bool _, by simp [binOp, Op.intCmp], rfl⟩
  case leq => obtain rfl := Option.some.inj h; exact ⟨.bool _, by simp [binOp, Op.intCmp], rfl⟩
  case gtr => obtain rfl := Option.some.inj h; exact ⟨.bool _, by simp [binOp, Op.intCmp], rfl⟩
  case geq => obtain rfl := Option.some.inj h; exact ⟨.bool _, by simp [binOp, Op.intCmp], rfl⟩
  case shl => exact absurd rfl hs.1
  case shr => exact absurd rfl hs.2

theorem run_shI {op : BinOp} {t : TypeId} {kd kd' : IntKind} {p q : Int} {v : AV} (w : World) (h : shI op kd p q = some v) :
    ∃ u, (binOp op t (.int kd p) (.int kd' q)).run P w = .ok u w ∧ Rel g M w v u := by
  unfold shI at h
  split at h
  · cases h
  · rename_i hq
    cases op <;> simp only [Option.some.injEq, reduceCtorEq] at h
    · subst h; exact ⟨.int kd _, by simp [binOp, Op.shift, hq], rfl⟩
    · subst h; exact ⟨.int kd _, by simp [binOp, Op.shift, hq], rfl⟩

theorem run_binS {op : BinOp} {t : TypeId} {p q : List UInt8} {v : AV} (w : World) (h : binS op p q = some v) :
    ∃ u, (binOp op t (.string ⟨p.toArray⟩) (.string ⟨q.toArray⟩)).run P w = .ok u w ∧ Rel g M w v u := by
  cases op <;> simp only [binS, Option.some.injEq, reduceCtorEq] at h
  case eql => subst h; exact ⟨.bool (decide (p = q)), by simp only [binOp, Op.stringOp]; simp [Lib.toList_data]; by_cases e : p = q <;> simp [e], rfl⟩
  case neq => subst h; exact ⟨.bool (!decide (p = q)), by simp only [binOp, Op.stringOp]; simp [Lib.toList_data]; by_cases e : p = q <;> simp [e], rfl⟩
  case lss => subst h; exact ⟨.bool (Op.bytesLess p q), by simp only [binOp, Op.stringOp]; simp [Lib.toList_data], rfl⟩
  case add =>
    split at h
    · rename_i hl
      obtain rfl := Option.some.inj h
      refine ⟨.string ⟨(p ++ q).toArray⟩, ?_, rfl⟩
      have h1 : (⟨p.toArray⟩ : ByteArray).size = p.length := by simp [ByteArray.size]
      have h2 : (⟨q.toArray⟩ : ByteArray).size = q.length := by simp [ByteArray.size]
      have h3 : ¬ (((p.length + q.length : Nat) : Int) > IntKind.i64.max) := by
        simp [IntKind.max, IntKind.signed, IntKind.bits]; omega
      simp only [binOp, Op.stringOp, h1, h2]
      rw [if_neg h3]
      have h4 : (⟨p.toArray⟩ : ByteArray) ++ ⟨q.toArray⟩ = ⟨(p ++ q).toArray⟩ := by
        apply ByteArray.ext
        simp
      simp [h4]
    · cases h

theorem step_bin (hm : MemRel g M w) (hT : RelT g M w T a) {op : BinOp} {t ty : TypeId} {x y : Operand} (ho : o.op = .binOp op t x y ty) {out : Out}
    (h : step T M slot (.bin op x y) = some out) : Res P o a w g M slot out := by
  have hx := rel_ev hT x
  have hy := rel_ev hT y
  simp only [step, Option.map_eq_some_iff] at h
  obtain ⟨v, hv, rfl⟩ := h
  unfold binL at hv
  split at hv
  · rename_i kd p kd' q e1 e2
    rw [e1] at hx
    rw [e2] at hy
    have hx' : a.eval x = .int kd p := hx
    have hy' : a.eval y = .int kd' q := hy
    have hg : (eqGuard op t x y (a.eval x) (a.eval y)).run P w = .ok () w := eqGuard_other w (fun cs e => (by rw [hx'] at e; cases e)) (fun e => (by rw [hx'] at e; cases e))
    have key : ∃ u, (binOp op t (.int kd p) (.int kd' q)).run P w = .ok u w ∧ Rel g M w v u := by
      split at hv
      · exact run_shI w hv
      · exact run_shI w hv
      · rename_i hs1 hs2
        split at hv
        · rename_i hk; subst hk
          exact run_binI w ⟨hs1, hs2⟩ hv
        · cases hv
    obtain ⟨u, hr, hu⟩ := key
    refine Res.pure hm rfl (u := u) (.inl ?_) hu
    rw [hx', hy'] at hg
    simp [execOp, ho, hx', hy', hg, hr]
  · rename_i p q e1 e2
    rw [e1] at hx
    rw [e2] at hy
    have hx' : a.eval x = .string ⟨p.toArray⟩ := hx
    have hy' : a.eval y = .string ⟨q.toArray⟩ := hy
    have hg : (eqGuard op t x y (a.eval x) (a.eval y)).run P w = .ok () w := eqGuard_other w (fun cs e => (by rw [hx'] at e; cases e)) (fun e => (by rw [hx'] at e; cases e))
    obtain ⟨u, hr, hu⟩ := run_binS (P := P) (g := g) (M := M) (t := t) w hv
    refine Res.pure hm rfl (u := u) (.inl ?_) hu
    rw [hx', hy'] at hg
    simp [execOp, ho, hx', hy', hg, hr]
  · cases hv
end
end Go.Vm
