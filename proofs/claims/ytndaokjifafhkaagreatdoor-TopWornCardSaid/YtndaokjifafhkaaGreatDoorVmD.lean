import Derived.Test.YtndaokjifafhkaaGreatDoorVmC
import Derived.Lib.Strings
namespace Go.Vm
set_option linter.unusedSectionVars false
set_option linter.unusedSimpArgs false
set_option linter.unusedVariables false
open Go
variable [Inhabited LayT]
section
variable {P : Program} {o : Oper} {a : Act} {w : World} {g : Gh} {M : Mem} {slot : Nat} {T : Tm}

theorem eqGuard_other {op : BinOp} {t : TypeId} {x y : Operand} {u v : Value} (w : World)
    (h : ∀ cs, u ≠ .agg cs) (hn : u = .nilIface → v ≠ .nilIface ∨ (∃ c, y = .const c)) :
    (eqGuard op t x y u v).run P w = .ok () w := by
  cases u with
  | nilIface =>
    cases v with
    | nilIface =>
      rcases hn rfl with h | ⟨c, rfl⟩
      · exact absurd rfl h
      · cases op <;> simp [eqGuard]
    | _ => cases op <;> simp [eqGuard]
  | agg cs => exact absurd rfl (h cs)
  | _ => cases op <;> simp [eqGuard]

theorem int_beq (p q : Int) : (p == q) = decide (p = q) := rfl

theorem run_binI {op : BinOp} {t : TypeId} {kd : IntKind} {p q : Int} {v : AV} (w : World) (hs : op ≠ .shl ∧ op ≠ .shr) (h : binI op kd p q = some v) :
    ∃ u, (binOp op t (.int kd p) (.int kd q)).run P w = .ok u w ∧ Rel g M w v u := by
  cases op <;> simp only [binI] at h
  case add => obtain rfl := Option.some.inj h; exact ⟨.int kd _, by simp [binOp, Op.intArith], rfl⟩
  case sub => obtain rfl := Option.some.inj h; exact ⟨.int kd _, by simp [binOp, Op.intArith], rfl⟩
  case mul => obtain rfl := Option.some.inj h; exact ⟨.int kd _, by simp [binOp, Op.intArith], rfl⟩
  case quo =>
    split at h
    · cases h
    · rename_i hq
      obtain rfl := Option.some.inj h
      exact ⟨.int kd _, by simp [binOp, Op.intDiv, hq], rfl⟩
  case rem =>
    split at h
    · cases h
    · rename_i hq
      obtain rfl := Option.some.inj h
      exact ⟨.int kd _, by simp [binOp, Op.intDiv, hq], rfl⟩
  case and => obtain rfl := Option.some.inj h; exact ⟨.int kd (bits .and kd p q), by simp only [binOp, Op.intBits]; simp [bits], rfl⟩
  case or => obtain rfl := Option.some.inj h; exact ⟨.int kd (bits .or kd p q), by simp only [binOp, Op.intBits]; simp [bits], rfl⟩
  case xor => obtain rfl := Option.some.inj h; exact ⟨.int kd (bits .xor kd p q), by simp only [binOp, Op.intBits]; simp [bits], rfl⟩
  case andNot => obtain rfl := Option.some.inj h; exact ⟨.int kd (bits .andNot kd p q), by simp only [binOp, Op.intBits]; simp [bits], rfl⟩
  case eql => obtain rfl := Option.some.inj h; exact ⟨.bool (decide (p = q)), by simp only [binOp, Op.intCmp]; simp [int_beq], rfl⟩
  case neq => obtain rfl := Option.some.inj h; exact ⟨.bool (!decide (p = q)), by simp only [binOp, Op.intCmp]; simp [bne, int_beq], rfl⟩
  case lss => obtain rfl := Option.some.inj h; exact ⟨.bool _, by simp [binOp, Op.intCmp], rfl⟩
  case leq => obtain rfl := Option.some.inj h; exact ⟨.bool _, by simp [binOp, Op.intCmp], rfl⟩
  case gtr => obtain rfl := Option.some.inj h; exact ⟨.bool _, by simp [binOp, Op.intCmp], rfl⟩
  case geq => obtain rfl := Option.some.inj h; exact ⟨.bool _, by simp [binOp, Op.intCmp], rfl⟩
  case shl => exact absurd rfl hs.1
  case shr => exact absurd rfl hs.2

theorem run_shI {op : BinOp} {t : TypeId} {kd kd' : IntKind} {p q : Int} {v : AV} (w : World) (h : shI op kd p q = some v) :
    ∃ u, (binOp op t (.int kd p) (.int kd' q)).run P w = .ok u w ∧ Rel g M w v u := by
  unfold shI at h
  split at h
  · cases h
  · rename_i hq
    cases op <;> simp only [Option.some.injEq, reduceCtorEq] at h
    · subst h; exact ⟨.int kd _, by simp [binOp, Op.shift, hq], rfl⟩
    · subst h; exact ⟨.int kd _, by simp [binOp, Op.shift, hq], rfl⟩

theorem run_binS {op : BinOp} {t : TypeId} {p q : List UInt8} {v : AV} (w : World) (h : binS op p q = some v) :
    ∃ u, (binOp op t (.string ⟨p.toArray⟩) (.string ⟨q.toArray⟩)).run P w = .ok u w ∧ Rel g M w v u := by
  cases op <;> simp only [binS, Option.some.injEq, reduceCtorEq] at h
  case eql => subst h; exact ⟨.bool (decide (p = q)), by simp only [binOp, Op.stringOp]; simp [Lib.toList_data]; by_cases e : p = q <;> simp [e], rfl⟩
  case neq => subst h; exact ⟨.bool (!decide (p = q)), by simp only [binOp, Op.stringOp]; simp [Lib.toList_data]; by_cases e : p = q <;> simp [e], rfl⟩
  case lss => subst h; exact ⟨.bool (Op.bytesLess p q), by simp only [binOp, Op.stringOp]; simp [Lib.toList_data], rfl⟩
  case add =>
    split at h
    · rename_i hl
      obtain rfl := Option.some.inj h
      refine ⟨.string ⟨(p ++ q).toArray⟩, ?_, rfl⟩
      have h1 : (⟨p.toArray⟩ : ByteArray).size = p.length := by simp [ByteArray.size]
      have h2 : (⟨q.toArray⟩ : ByteArray).size = q.length := by simp [ByteArray.size]
      have h3 : ¬ (((p.length + q.length : Nat) : Int) > IntKind.i64.max) := by
        simp [IntKind.max, IntKind.signed, IntKind.bits]; omega
      simp only [binOp, Op.stringOp, h1, h2]
      rw [if_neg h3]
      have h4 : (⟨p.toArray⟩ : ByteArray) ++ ⟨q.toArray⟩ = ⟨(p ++ q).toArray⟩ := by
        apply ByteArray.ext
        simp
      simp [h4]
    · cases h

theorem step_bin (hm : MemRel g M w) (hT : RelT g M w T a) {op : BinOp} {t ty : TypeId} {x y : Operand} (ho : o.op = .binOp op t x y ty) {out : Out}
    (h : step T M slot (.bin op x y) = some out) : Res P o a w g M slot out := by
  have hx := rel_ev hT x
  have hy := rel_ev hT y
  simp only [step, Option.map_eq_some_iff] at h
  obtain ⟨v, hv, rfl⟩ := h
  unfold binL at hv
  split at hv
  · rename_i kd p kd' q e1 e2
    rw [e1] at hx
    rw [e2] at hy
    have hx' : a.eval x = .int kd p := hx
    have hy' : a.eval y = .int kd' q := hy
    have hg : (eqGuard op t x y (a.eval x) (a.eval y)).run P w = .ok () w := eqGuard_other w (fun cs e => (by rw [hx'] at e; cases e)) (fun e => (by rw [hx'] at e; cases e))
    have key : ∃ u, (binOp op t (.int kd p) (.int kd' q)).run P w = .ok u w ∧ Rel g M w v u := by
      split at hv
      · exact run_shI w hv
      · exact run_shI w hv
      · rename_i hs1 hs2
        split at hv
        · rename_i hk; subst hk
          exact run_binI w ⟨hs1, hs2⟩ hv
        · cases hv
    obtain ⟨u, hr, hu⟩ := key
    refine Res.pure hm rfl (u := u) (.inl ?_) hu
    rw [hx', hy'] at hg
    simp [execOp, ho, hx', hy', hg, hr]
  · rename_i p q e1 e2
    rw [e1] at hx
    rw [e2] at hy
    have hx' : a.eval x = .string ⟨p.toArray⟩ := hx
    have hy' : a.eval y = .string ⟨q.toArray⟩ := hy
    have hg : (eqGuard op t x y (a.eval x) (a.eval y)).run P w = .ok () w := eqGuard_other w (fun cs e => (by rw [hx'] at e; cases e)) (fun e => (by rw [hx'] at e; cases e))
    obtain ⟨u, hr, hu⟩ := run_binS (P := P) (g := g) (M := M) (t := t) w hv
    refine Res.pure hm rfl (u := u) (.inl ?_) hu
    rw [hx', hy'] at hg
    simp [execOp, ho, hx', hy', hg, hr]
  · cases hv
end
end Go.Vm

namespace Go.Vm
set_option linter.unusedSectionVars false
set_option linter.unusedSimpArgs false
set_option linter.unusedVariables false
open Go
variable [Inhabited LayT]
section
variable {P : Program} {o : Oper} {a : Act} {w : World} {g : Gh} {M : Mem} {slot : Nat} {T : Tm}

theorem run_under {t : TypeId} {d : TypeDesc} (h : P.underlying t = some d) (w : World) : (underlying t).run P w = .ok d w := run_underlying h w
theorem run_size {t : TypeId} {n : Nat} (h : sizeB P t = some n) (w : World) : (sizeOf t).run P w = .ok n w := by
  unfold sizeB at h
  simp only [Option.map_eq_some_iff] at h
  obtain ⟨i, hi, rfl⟩ := h
  rw [run_sizeOf w hi]
  simp [Program.cellsOf, hi]
theorem run_agg {t : TypeId} {b : Bool} (h : isAggB P t = some b) (w : World) : (isAgg t).run P w = .ok b w := by
  unfold isAggB at h
  unfold isAgg
  split at h
  · rename_i e; obtain rfl := Option.some.inj h; simp [run_under e]
  · rename_i e; obtain rfl := Option.some.inj h; simp [run_under e]
  · rename_i d h1 h2 e
    obtain rfl := Option.some.inj h
    simp only [Sem.run_bind, run_under e, Result.andThen_ok]
    cases d <;> first | rfl | (exact absurd e (h1 _)) | (exact absurd e (h2 _ _))
  · cases h

theorem run_equalIn_bool {t : TypeId} (d : Nat) (ht : P.underlying t = some .bool) (p q : Bool) (w : World) : (Op.equalIn (d + 1) t (.bool p) (.bool q)).run P w = .ok (p == q) w := by
  simp [Op.equalIn, run_under ht]
theorem run_equalIn_inil {t : TypeId} {ms} (d : Nat) (ht : P.underlying t = some (.interface ms)) (u : Value) (hu : u = .nilIface ∨ ∃ T v, u = .iface T v) (w : World) :
    (Op.equalIn (d + 1) t u .nilIface).run P w = .ok (match u with | .nilIface => true | _ => false) w := by
  rcases hu with rfl | ⟨T, v, rfl⟩ <;> simp [Op.equalIn, run_under ht]
theorem run_equalIn_pnil {t e : TypeId} (d : Nat) (ht : P.underlying t = some (.pointer e)) (p : Option Addr) (w : World) :
    (Op.equalIn (d + 1) t (.pointer p) (.pointer none)).run P w = .ok p.isNone w := by
  cases p <;> simp [Op.equalIn, run_under ht]
theorem run_equal_bool {t : TypeId} (ht : P.underlying t = some .bool) (p q : Bool) (w : World) : (Op.equal t (.bool p) (.bool q)).run P w = .ok (p == q) w :=
  run_equalIn_bool 9999 ht p q w
theorem run_equal_inil {t : TypeId} {ms} (ht : P.underlying t = some (.interface ms)) (u : Value) (hu : u = .nilIface ∨ ∃ T v, u = .iface T v) (w : World) :
    (Op.equal t u .nilIface).run P w = .ok (match u with | .nilIface => true | _ => false) w := run_equalIn_inil 9999 ht u hu w
theorem run_equal_pnil {t e : TypeId} (ht : P.underlying t = some (.pointer e)) (p : Option Addr) (w : World) :
    (Op.equal t (.pointer p) (.pointer none)).run P w = .ok p.isNone w := run_equalIn_pnil 9999 ht p w

theorem step_eqB (hm : MemRel g M w) (hT : RelT g M w T a) {op : BinOp} {t ty : TypeId} {x y : Operand} {neg : Bool} (ho : o.op = .binOp op t x y ty)
    (hop : op = (if neg then .neq else .eql)) (ht : P.underlying t = some .bool) {out : Out}
    (h : step T M slot (.eqB neg x y) = some out) : Res P o a w g M slot out := by
  have hx := rel_ev hT x
  have hy := rel_ev hT y
  simp only [step] at h
  split at h
  · rename_i p q e1 e2
    rw [e1] at hx
    rw [e2] at hy
    have hx' : a.eval x = .bool p := hx
    have hy' : a.eval y = .bool q := hy
    have hg : (eqGuard op t x y (a.eval x) (a.eval y)).run P w = .ok () w := eqGuard_other w (fun cs e => (by rw [hx'] at e; cases e)) (fun e => (by rw [hx'] at e; cases e))
    rw [hx', hy'] at hg
    obtain rfl := Option.some.inj h
    refine Res.pure hm rfl (u := .bool (if neg then p != q else p == q)) (.inl ?_) rfl
    cases neg <;> simp only [if_true, if_false, Bool.false_eq_true] at hop <;> subst hop
    · simp [execOp, ho, hx', hy', hg, binOp, run_equal_bool ht]
    · simp [execOp, ho, hx', hy', hg, binOp, run_equal_bool ht, bne]
  · cases h

/-- Against nil: errors. -/
theorem step_eqnI (hm : MemRel g M w) (hT : RelT g M w T a) {op : BinOp} {t ty : TypeId} {x y : Operand} {neg : Bool} (ho : o.op = .binOp op t x y ty)
    (hop : op = (if neg then .neq else .eql)) {ms} (ht : P.underlying t = some (.interface ms)) (hy : isNilI y = true) {out : Out}
    (h : step T M slot (.eqn neg false x) = some out) : Res P o a w g M slot out := by
  have hx := rel_ev hT x
  obtain rfl : y = .const .nilIface := by
    unfold isNilI at hy
    split at hy
    · rfl
    · cases hy
  have ey : a.eval (.const .nilIface) = .nilIface := rfl
  have key : ∀ u, a.eval x = u → (u = .nilIface ∨ ∃ E v, u = .iface E v) → (execOp a.eval o).run P w = .ok (.value (.bool (if neg then !(match u with | .nilIface => true | _ => false) else (match u with | .nilIface => true | _ => false)))) w := by
    intro u hu hc
    have hg : (eqGuard op t x (.const .nilIface) u .nilIface).run P w = .ok () w := eqGuard_other w (fun cs e => (by subst e; rcases hc with hc | ⟨_, _, hc⟩ <;> cases hc)) (fun _ => .inr ⟨_, rfl⟩)
    have he := run_equal_inil (P := P) ht u hc w
    cases neg <;> simp only [if_true, if_false, Bool.false_eq_true] at hop <;> subst hop
    · rcases hc with rfl | ⟨E, v, rfl⟩ <;> simp [execOp, ho, hu, ey, hg, binOp, he]
    · rcases hc with rfl | ⟨E, v, rfl⟩ <;> simp [execOp, ho, hu, ey, hg, binOp, he]
  simp only [step] at h
  split at h
  · rename_i e
    rw [e] at hx
    obtain rfl := Option.some.inj h
    refine Res.pure hm rfl (.inl (key _ hx (.inl rfl))) ?_
    cases neg <;> rfl
  · rename_i E v e
    rw [e] at hx
    obtain ⟨u', hu, _⟩ := hx
    obtain rfl := Option.some.inj h
    refine Res.pure hm rfl (.inl (key _ hu (.inr ⟨_, _, rfl⟩))) ?_
    cases neg <;> rfl
  · cases h
/-- Against nil: pointers. -/
theorem step_eqnP (hm : MemRel g M w) (hT : RelT g M w T a) {op : BinOp} {t ty : TypeId} {x y : Operand} {neg : Bool} (ho : o.op = .binOp op t x y ty)
    (hop : op = (if neg then .neq else .eql)) {e0} (ht : P.underlying t = some (.pointer e0)) (hy : isNilP y = true) {out : Out}
    (h : step T M slot (.eqn neg true x) = some out) : Res P o a w g M slot out := by
  have hx := rel_ev hT x
  obtain rfl : y = .const (.pointer none) := by
    unfold isNilP at hy
    split at hy
    · rfl
    · cases hy
  have ey : a.eval (.const (.pointer none)) = .pointer none := rfl
  have key : ∀ p, a.eval x = .pointer p → (execOp a.eval o).run P w = .ok (.value (.bool (if neg then !p.isNone else p.isNone))) w := by
    intro p hu
    have hg : (eqGuard op t x (.const (.pointer none)) (.pointer p) (.pointer none)).run P w = .ok () w := eqGuard_other w (fun cs e => by cases e) (fun e => by cases e)
    have he := run_equal_pnil (P := P) ht p w
    cases neg <;> simp only [if_true, if_false, Bool.false_eq_true] at hop <;> subst hop
    · simp [execOp, ho, hu, ey, hg, binOp, he]
    · simp [execOp, ho, hu, ey, hg, binOp, he]
  simp only [step] at h
  split at h
  · rename_i e
    rw [e] at hx
    obtain rfl := Option.some.inj h
    exact Res.pure hm rfl (.inl (key _ hx)) (by cases neg <;> rfl)
  · rename_i cs e
    rw [e] at hx
    obtain ⟨blk, off, hu, _⟩ := hx
    obtain rfl := Option.some.inj h
    exact Res.pure hm rfl (.inl (key _ hu)) (by cases neg <;> rfl)
  · rename_i id i o' e
    rw [e] at hx
    simp only [Option.map_eq_some_iff] at h
    obtain ⟨r, hr, rfl⟩ := h
    obtain ⟨_, rb, ro, size, _, hu⟩ := hx.2 r hr
    exact Res.pure hm rfl (.inl (key _ hu)) (by cases neg <;> rfl)
  · cases h

theorem run_equalIn_snil {t e : TypeId} (d : Nat) (ht : P.underlying t = some (.slice e)) (A : Option Addr) (n c : Nat) (w : World) :
    (Op.equalIn (d + 1) t (.slice A n c) (.slice none 0 0)).run P w = .ok A.isNone w := by
  cases A <;> simp [Op.equalIn, run_under ht]
theorem run_equal_snil {t e : TypeId} (ht : P.underlying t = some (.slice e)) (A : Option Addr) (n c : Nat) (w : World) :
    (Op.equal t (.slice A n c) (.slice none 0 0)).run P w = .ok A.isNone w := run_equalIn_snil 9999 ht A n c w
/-- Against nil: slices. -/
theorem step_eqs (hm : MemRel g M w) (hT : RelT g M w T a) {op : BinOp} {t ty : TypeId} {x y : Operand} {neg : Bool} (ho : o.op = .binOp op t x y ty)
    (hop : op = (if neg then .neq else .eql)) {e0} (ht : P.underlying t = some (.slice e0)) (hy : isNilS y = true) {out : Out}
    (h : step T M slot (.eqs neg x) = some out) : Res P o a w g M slot out := by
  have hx := rel_ev hT x
  obtain rfl : y = .const (.slice none 0 0) := by
    unfold isNilS at hy
    split at hy
    · rfl
    · cases hy
  have ey : a.eval (.const (.slice none 0 0)) = .slice none 0 0 := rfl
  have key : ∀ A n c, a.eval x = .slice A n c → (execOp a.eval o).run P w = .ok (.value (.bool (if neg then !A.isNone else A.isNone))) w := by
    intro A n c hu
    have hg : (eqGuard op t x (.const (.slice none 0 0)) (.slice A n c) (.slice none 0 0)).run P w = .ok () w := eqGuard_other w (fun cs e => by cases e) (fun e => by cases e)
    have he := run_equal_snil (P := P) ht A n c w
    cases neg <;> simp only [if_true, if_false, Bool.false_eq_true] at hop <;> subst hop
    · simp [execOp, ho, hu, ey, hg, binOp, he]
    · simp [execOp, ho, hu, ey, hg, binOp, he]
  simp only [step] at h
  split at h
  · rename_i n c e
    rw [e] at hx
    obtain rfl := Option.some.inj h
    exact Res.pure hm rfl (.inl (key _ _ _ hx)) (by cases neg <;> rfl)
  · rename_i A n c e
    rw [e] at hx
    obtain rfl := Option.some.inj h
    exact Res.pure hm rfl (.inl (key _ _ _ hx)) (by cases neg <;> rfl)
  · rename_i sz y ys e
    rw [e] at hx
    obtain ⟨A, c, hu, _, hor⟩ := hx
    obtain rfl := Option.some.inj h
    rcases hor with hor | ⟨blk, off, rfl, _⟩
    · cases hor
    · exact Res.pure hm rfl (.inl (key _ _ _ hu)) (by cases neg <;> rfl)
  · rename_i id off n st e
    rw [e] at hx
    obtain ⟨r, hr, h⟩ := Option.bind_eq_some_iff.1 h
    split at h
    · rename_i h0
      obtain rfl := Option.some.inj h
      obtain ⟨_, A, c, hu, hnc, hA⟩ := hx.2 r hr
      obtain ⟨rb, ro, size, _, rfl, _⟩ := hA (by omega)
      exact Res.pure hm rfl (.inl (key _ _ _ hu)) (by cases neg <;> rfl)
    · cases h
  · cases h

theorem step_un (hm : MemRel g M w) (hT : RelT g M w T a) {op : UnOp} {t : TypeId} {x : Operand} (ho : o.op = .unOp op t x) {out : Out}
    (h : step T M slot (.un op x) = some out) : Res P o a w g M slot out := by
  have hx := rel_ev hT x
  simp only [step, Option.map_eq_some_iff] at h
  obtain ⟨v, hv, rfl⟩ := h
  unfold unL at hv
  split at hv
  · rename_i p e
    rw [e] at hx
    have hx' : a.eval x = .bool p := hx
    cases op <;> simp only [Option.some.injEq, reduceCtorEq] at hv
    subst hv
    exact Res.pure hm rfl (u := .bool (!p)) (.inl (by simp [execOp, ho, hx', Op.unary])) rfl
  · rename_i kd n e
    rw [e] at hx
    have hx' : a.eval x = .int kd n := hx
    cases op <;> simp only [Option.some.injEq, reduceCtorEq] at hv
    · subst hv
      exact Res.pure hm rfl (u := .int kd (kd.wrap (0 - n))) (.inl (by simp [execOp, ho, hx', Op.unary, Op.intArith])) rfl
    · subst hv
      exact Res.pure hm rfl (u := .int kd (bits .xor kd (if kd.signed = true then -1 else kd.max) n)) (.inl (by simp [execOp, ho, hx', Op.unary, Op.intBits, bits])) rfl
  · cases hv

theorem step_convI (hm : MemRel g M w) (hT : RelT g M w T a) {src dst : TypeId} {x : Operand} {kd ks : IntKind} (ho : o.op = .convert src dst x)
    (hs : P.underlying src = some (.int ks)) (hd : P.underlying dst = some (.int kd)) {out : Out}
    (h : step T M slot (.convI kd x) = some out) : Res P o a w g M slot out := by
  have hx := rel_ev hT x
  simp only [step] at h
  split at h
  · rename_i k0 n e
    rw [e] at hx
    have hx' : a.eval x = .int k0 n := hx
    obtain rfl := Option.some.inj h
    exact Res.pure hm rfl (u := .int kd (kd.wrap n)) (.inl (by simp [execOp, ho, hx', convert, run_under hs, run_under hd, Conv.intToInt])) rfl
  · cases h

theorem step_mkI (hm : MemRel g M w) (hT : RelT g M w T a) {t : TypeId} {d : TypeDesc} {x : Operand} (ho : o.op = .makeInterface t x)
    (ht : P.underlying t = some d) (hd : ∀ ms, d ≠ .interface ms) {out : Out}
    (h : step T M slot (.mkI t x) = some out) : Res P o a w g M slot out := by
  have hx := rel_ev hT x
  simp only [step] at h
  split at h
  · obtain rfl := Option.some.inj h
    refine Res.pure hm rfl (u := .iface t (a.eval x)) (.inl ?_) ⟨_, rfl, hx⟩
    simp only [execOp, ho, Instr.makeInterface, Sem.run_bind, run_under ht, Result.andThen_ok]
    cases d <;> first | rfl | (exact absurd rfl (hd _))
  · cases h

theorem relL_ev (hT : RelT g M w T a) : ∀ (xs : List Operand), RelL g M w (xs.map (ev T)) (xs.map a.eval)
  | [] => rfl
  | x :: xs => ⟨_, _, rfl, rel_ev hT x, relL_ev hT xs⟩

theorem step_mkF (hm : MemRel g M w) (hT : RelT g M w T a) {f : FuncId} {fst caps : Array Operand} (ho : o.op = .makeFunc (.func f) fst caps) (h0 : fst.size = 0) {out : Out}
    (h : step T M slot (.mkF f caps.toList) = some out) : Res P o a w g M slot out := by
  simp only [step] at h
  obtain rfl := Option.some.inj h
  obtain rfl : fst = #[] := Array.eq_empty_of_size_eq_zero h0
  refine Res.pure hm rfl (u := .func (.func f) #[] (caps.map a.eval)) (.inl ?_) ⟨caps.toList.map a.eval, by cases caps; simp, relL_ev hT _⟩
  simp [execOp, ho, Instr.makeFunc]

theorem step_mkB (hm : MemRel g M w) (hT : RelT g M w T a) {f : FuncId} {fst caps : Array Operand} (ho : o.op = .makeFunc (.func f) fst caps) (h0 : caps.size = 0) {out : Out}
    (h : step T M slot (.mkB f fst.toList) = some out) : Res P o a w g M slot out := by
  simp only [step] at h
  obtain rfl := Option.some.inj h
  obtain rfl : caps = #[] := Array.eq_empty_of_size_eq_zero h0
  refine Res.pure hm rfl (u := .func (.func f) (fst.map a.eval) #[]) (.inl ?_) ⟨fst.toList.map a.eval, by cases fst; simp, relL_ev hT _⟩
  simp [execOp, ho, Instr.makeFunc]

theorem step_ext (hm : MemRel g M w) (hT : RelT g M w T a) {x : Operand} {j : Nat} (ho : o.op = .extract x j) {out : Out}
    (h : step T M slot (.ext x j) = some out) : Res P o a w g M slot out := by
  have hx := rel_ev hT x
  simp only [step] at h
  split at h
  · rename_i vs e
    rw [e] at hx
    obtain ⟨us, hu, hl⟩ := hx
    simp only [Option.map_eq_some_iff] at h
    obtain ⟨v, hv, rfl⟩ := h
    obtain ⟨u, hj, hr⟩ := relL_get j hl hv
    refine Res.pure hm rfl (u := u) (.inl ?_) hr
    simp [execOp, ho, hu, Instr.extract, hj]
  · cases h

theorem step_mn (hm : MemRel g M w) (hT : RelT g M w T a) {x y : Operand} {ts : Array TypeId} (ho : o.op = .call { callee := .builtin .min, args := #[x, y], argTypes := ts }) {out : Out}
    (h : step T M slot (.mn x y) = some out) : Res P o a w g M slot out := by
  have hx := rel_ev hT x
  have hy := rel_ev hT y
  simp only [step] at h
  split at h
  · rename_i kd p kd' q e1 e2
    rw [e1] at hx
    rw [e2] at hy
    have hx' : a.eval x = .int kd p := hx
    have hy' : a.eval y = .int kd' q := hy
    split at h
    · rename_i hk
      subst hk
      obtain rfl := Option.some.inj h
      refine Res.pure hm rfl (u := .int kd (if q < p then q else p)) (.inl ?_) rfl
      simp [execOp, ho, resolve, invoke, builtin, Builtin.min_, hx', hy', Builtin.min2]
    · cases h
  · cases h
theorem step_mx (hm : MemRel g M w) (hT : RelT g M w T a) {x y : Operand} {ts : Array TypeId} (ho : o.op = .call { callee := .builtin .max, args := #[x, y], argTypes := ts }) {out : Out}
    (h : step T M slot (.mx x y) = some out) : Res P o a w g M slot out := by
  have hx := rel_ev hT x
  have hy := rel_ev hT y
  simp only [step] at h
  split at h
  · rename_i kd p kd' q e1 e2
    rw [e1] at hx
    rw [e2] at hy
    have hx' : a.eval x = .int kd p := hx
    have hy' : a.eval y = .int kd' q := hy
    split at h
    · rename_i hk
      subst hk
      obtain rfl := Option.some.inj h
      refine Res.pure hm rfl (u := .int kd (if p < q then q else p)) (.inl ?_) rfl
      simp [execOp, ho, resolve, invoke, builtin, Builtin.max_, hx', hy', Builtin.max2]
    · cases h
  · cases h
end
end Go.Vm
