import Derived.Test.YtndaokjifafhkaaGreatDoorVxO
import Derived.RangeFuncSeq
/- A range over a function that hands back a slice's elements from the end: its rounds. -/
namespace Go.Vx
set_option linter.unusedSectionVars false
set_option linter.unusedSimpArgs false
set_option linter.unusedVariables false
open Go Go.Vm
variable [Inhabited LayT]
theorem rb_ne {g : Gh} {M : Mem} {w : World} {r : Row} {rb ro size D : Nat} {ob : Obj} (h : InBlk g M w r rb ro size) (hD : w.heap[D]? = some ob) (hc : ∀ arr ty fz, ob ≠ .cells arr ty fz) (ho : ∀ cs, ¬ ObjR g M w cs ob) : rb ≠ D := fun e => by
  rcases h with ⟨_, ⟨arr, ty, fz, p1, _⟩, _⟩ | ⟨_, _, cs, ob', _, p1, p2⟩
  · rw [e, hD] at p1; cases p1; exact hc _ _ _ rfl
  · rw [e, hD] at p1; cases p1; exact ho _ p2
/-- A kept block that is nobody's is changed. -/
theorem put_rel {g0 g : Gh} {M0 M : Mem} {w0 w : World} {n0 L : Nat} (hm : MemRel g M w) (hE : Evo g0 M0 w0 g M w) (h0 : ∀ b, g0.U b → b < n0) (h1 : n0 ≤ L) (h2 : g.U L) (h3 : ¬ g.Z L) (ob : Obj) :
    MemRel g M (w.putObj L ob) ∧ Evo g0 M0 w0 g M (w.putObj L ob) ∧ ∀ v u, Rel g M w v u → Rel g M (w.putObj L ob) v u := by
  have hk : ∀ b, b ≠ L → (w.putObj L ob).heap[b]? = w.heap[b]? := fun b hb => World.putObj_heap_other hb
  let gz : Gh := { g with U := fun b => g.U b ∧ b ≠ L }
  have hzu : ∀ b, gz.Z b → gz.U b := fun b hb => ⟨hm.zu b hb, fun e => h3 (e ▸ hb)⟩
  have hE2 : Evo gz M w gz M (w.putObj L ob) := ⟨fun _ h => h, fun _ h => h, fun _ h => .inl h, fun _ h => h, fun b hb => hk b hb.2, by simp [World.putObj], rfl, rfl, ⟨rfl, Nat.le_refl _⟩, fun _ _ r h => ⟨r, h, rfl, rfl, rfl⟩⟩
  refine ⟨⟨hm.zu, fun b hb => ?_, hm.known, fun id r hr => ?_, ?_, hm.inj⟩, ?_, fun v u h => ?_⟩
  · have := hm.ul b hb
    simpa [World.putObj] using this
  · rcases hm.row id r hr with h | ⟨rb, ro, size, q1, q2, q3⟩
    · exact .inl h
    · have hne : rb ≠ L := fun e => q2 (e ▸ h2)
      have q4 : InBlk gz M w r rb ro size := InBlk.setU q3
      have q5 : InBlk gz M (w.putObj L ob) r rb ro size := q4.evo hE2 hzu (hk rb hne)
      have q6 : InBlk { gz with U := g.U } M (w.putObj L ob) r rb ro size := InBlk.setU q5
      exact .inr ⟨rb, ro, size, q1, q2, q6⟩
  · exact hm.lay.st (fun _ h => h) fun b hb => hk b fun e => h3 (e ▸ hb)
  · exact ⟨hE.L, hE.Z, hE.Zn, hE.U, fun b hb => (hk b fun e => by have := h0 b hb; omega).trans (hE.keep b hb), by simpa [World.putObj] using hE.size, hE.os, hE.tape, hE.output, hE.ids⟩
  · have q4 : Rel gz M w v u := Rel.setU v u h
    have q5 : Rel gz M (w.putObj L ob) v u := Rel.evo hE2 hzu _ _ q4
    have q6 : Rel { gz with U := g.U } M (w.putObj L ob) v u := Rel.setU v u q5
    exact q6
/-- More blocks are kept, in which no row lies. -/
theorem addU {g : Gh} {M : Mem} {w : World} {U' : Nat → Prop} (hm : MemRel g M w) (h1 : ∀ b, g.U b → U' b) (h2 : ∀ b, U' b → b < w.heap.size) (h3 : ∀ id r rb ro size, M id = some r → g.at_ id = some (rb, ro, size) → InBlk g M w r rb ro size → ¬ g.U rb → ¬ U' rb) :
    MemRel { g with U := U' } M w ∧ Evo g M w { g with U := U' } M w := by
  refine ⟨⟨fun b hb => h1 b (hm.zu b hb), h2, hm.known, fun id r hr => ?_, hm.lay, hm.inj⟩, ⟨fun _ h => h, fun _ h => h, fun _ h => .inl h, h1, fun _ _ => rfl, Nat.le_refl _, rfl, rfl, ⟨rfl, Nat.le_refl _⟩, fun _ _ r h => ⟨r, h, rfl, rfl, rfl⟩⟩⟩
  rcases hm.row id r hr with h | ⟨rb, ro, size, q1, q2, q3⟩
  · exact .inl h
  · exact .inr ⟨rb, ro, size, q1, h3 id r rb ro size hr q1 q3 q2, InBlk.setU q3⟩
def RgK (P : Program) (N : Nat) (os : Array Oper) (id : Nat) (s s1 : RS) (k : Nat) : Prop :=
  Mono s s1 ∧ ∀ wz hi whi, Z ≤ wz → s1.nb ≤ hi → hi ≤ Z → wz + k ≤ whi → ∀ (Rf : Nat → Prop) (Mx : Mem), (∀ id, inM s1.R id → Rf id) → Agr Rf s.W Mx s.m → ∀ (l m n0 : Nat) g a w, StX N n0 g (lkT s.l) Mx (Fn s.nb hi wz whi) a w →
      (Code.region id os false).wpIn (Fence.wide.inRound l) m P (fun ex a' w' => ex = .normal ∧ ∃ Mx' g', Agr Rf s1.W Mx' s1.m ∧ (∀ id, ¬ inM s1.W id → Mx' id = Mx id) ∧ StX N n0 g' (lkT s1.l) Mx' (Fn s1.nb hi (wz + k) whi) a' w' ∧ Evo g Mx w g' Mx' w' ∧ Gr g g' (Fn s.nb hi wz whi) (Fn s1.nb hi (wz + k) whi)) a w
/-- The element that comes next. -/
def stepV (s : RS) (b bi bo id off n i : Nat) : Option Int := (s.m.get b).bind fun rb => (rb.get1 bi bo).bind fun v => match v with
  | .own id' off' n' 1 => if id' = id ∧ off' = off ∧ n' = n then (s.m.get id).bind fun r => if r.sz = 1 then (r.get1 (off + i) 0).bind fun c => match c with
      | .i .i32 z => some z
      | _ => none
    else none else none
  | _ => none
def rnds (call : Caller) (l : Lo) (body : List Ins) (pv b bi bo id off n : Nat) : Nat → RS → Option RS
  | 0, s => some s
  | i + 1, s => (stepV s b bi bo id off n i).bind fun z => (opsP call false body 0 { s with l := (pv, .i .i32 z) :: l } []).bind fun y => rnds call l body pv b bi bo id off n i y.1
inductive Rs (P : Program) (N : Nat) (osA osB : Array Oper) (idA idB : Nat) (l : Lo) (pv p2 b bi bo id off n : Nat) : Nat → RS → Nat → RS → Nat → Prop where
  | nil {s : RS} {wz : Nat} : Rs P N osA osB idA idB l pv p2 b bi bo id off n 0 s wz s wz
  | cons {i : Nat} {s : RS} {wz : Nat} {z : Int} {s1 : RS} {ka kb : Nat} {sE : RS} {wE : Nat} : stepV s b bi bo id off n i = some z →
      RgK P N osA idA { s with l := (p2, .i .i32 z) :: l } { s with l := (pv, .i .i32 z) :: (p2, .i .i32 z) :: l } ka → RgK P N osB idB { s with l := (pv, .i .i32 z) :: l } s1 kb →
      Rs P N osA osB idA idB l pv p2 b bi bo id off n i s1 (wz + ka + kb) sE wE → Rs P N osA osB idA idB l pv p2 b bi bo id off n (i + 1) s wz sE wE
section
variable {P : Program} {N : Nat} {osA osB : Array Oper} {idA idB : Nat} {l : Lo} {pv p2 b bi bo id off n : Nat}
theorem Rs.mono {i : Nat} {s : RS} {wz : Nat} {sE : RS} {wE : Nat} (h : Rs P N osA osB idA idB l pv p2 b bi bo id off n i s wz sE wE) : Mono s sE ∧ wz ≤ wE := by
  induction h with
  | nil => exact ⟨Mono.refl _, Nat.le_refl _⟩
  | @cons i s wz z s1 ka kb sE wE h1 h2 h3 h4 ih => exact ⟨(⟨h3.1.nb, h3.1.R, h3.1.W, h3.1.same⟩ : Mono s s1).trans ih.1, by have := ih.2; omega⟩
theorem rs_mono {call : Caller} (hcall : CallerOk P call) {body : List Ins} (hB : osB.toList.mapM (compOper P N osB) = some (body.map den)) (hbad : ∀ lo ∈ body.map den, lo.op ≠ .bad) : ∀ (i : Nat) (s sE : RS), rnds call l body pv b bi bo id off n i s = some sE → Mono s sE
  | 0, s, sE, h => by cases h; exact Mono.refl _
  | i + 1, s, sE, h => by
    rw [rnds] at h
    obtain ⟨z, h1, h⟩ := Option.bind_eq_some_iff.1 h
    obtain ⟨⟨s1, log⟩, h2, h⟩ := Option.bind_eq_some_iff.1 h
    have := (region_in (id := 0) hcall hB hbad h2).1
    exact (⟨this.nb, this.R, this.W, this.same⟩ : Mono s s1).trans (rs_mono hcall hB hbad i s1 sE h)
theorem rs_of {call : Caller} (hcall : CallerOk P call) {body : List Ins} (hA : osA.toList.mapM (compOper P N osA) = some [⟨some pv, .mov (.tmp p2), none⟩]) (hB : osB.toList.mapM (compOper P N osB) = some (body.map den)) (hbad : ∀ lo ∈ body.map den, lo.op ≠ .bad) :
    ∀ (i : Nat) (s sE : RS), rnds call l body pv b bi bo id off n i s = some sE → sE.nb ≤ Z → ∃ kt, ∀ wz, Rs P N osA osB idA idB l pv p2 b bi bo id off n i s wz sE (wz + kt)
  | 0, s, sE, h, hZ => by cases h; exact ⟨0, fun wz => .nil⟩
  | i + 1, s, sE, h, hZ => by
    rw [rnds] at h
    obtain ⟨z, h1, h⟩ := Option.bind_eq_some_iff.1 h
    obtain ⟨⟨s1, log⟩, h2, h⟩ := Option.bind_eq_some_iff.1 h
    have hm := rs_mono hcall hB hbad i s1 sE h
    obtain ⟨m1, hk⟩ := region_in (id := idB) hcall hB hbad h2
    obtain ⟨kb, hkb⟩ := hk (Nat.le_trans hm.nb hZ)
    have ha : opsP call false [.mv pv (.tmp p2)] 0 { s with l := (p2, .i .i32 z) :: l } [] = some ({ s with l := (pv, .i .i32 z) :: (p2, .i .i32 z) :: l }, []) := by
      simp [opsP, den, guardOk, opP, genP, Go.Vm.step, ev, lkT, setE, isAl, isSt, mask, putL, lg]
    obtain ⟨m0, hk0⟩ := region_in (id := idA) hcall (ops := [.mv pv (.tmp p2)]) hA (by simp [den]) ha
    obtain ⟨ka, hka⟩ := hk0 (Nat.le_trans m1.nb (Nat.le_trans hm.nb hZ))
    obtain ⟨kt, hkt⟩ := rs_of hcall hA hB hbad i s1 sE h hZ
    refine ⟨ka + kb + kt, fun wz => ?_⟩
    have := hkt (wz + ka + kb)
    rw [show wz + (ka + kb + kt) = wz + ka + kb + kt by omega]
    exact .cons h1 ⟨m0, hka⟩ ⟨m1, hkb⟩ this
end
end Go.Vx

/- A range over a function that hands back a slice's elements from the end: one round, as the function that is ranged over meets it. -/
namespace Go.Vx
set_option linter.unusedSectionVars false
set_option linter.unusedSimpArgs false
set_option linter.unusedVariables false
open Go Go.Vm
variable [Inhabited LayT]
section
variable (P : Program) (N : Nat) (osA osB : Array Oper) (idA idB bk : Nat) (l : Lo) (pv p1 p2 b bi bo id off n : Nat)
variable (Rf : Nat → Prop) (hi whi : Nat) (g0 : Gh) (M0 : Mem) (w0 : World) (F0 : Nat → Prop) (sE : RS) (wE : Nat) (a : Act) (D L : Nat) (rec : Loop)
def RInv (i : Nat) (W : World) : Prop :=
  ∃ (s : RS) (wz : Nat) (M : Mem) (g : Gh), Rs P N osA osB idA idB l pv p2 b bi bo id off n i s wz sE wE ∧ Z ≤ wz ∧ Agr Rf s.W M s.m ∧ (∀ j, ¬ inM s.W j → M j = M0 j) ∧ MemRel g M W ∧ RelT g M W (lkT l) a ∧
    (∀ j, Fn s.nb hi wz whi j → ¬ g.L j) ∧ Evo g0 M0 w0 g M W ∧ Gr g0 g F0 (Fn s.nb hi wz whi) ∧ (g.U D ∧ g.U L ∧ ¬ g.Z D ∧ ¬ g.Z L) ∧ W.heap[D]? = some (.deferred (some [])) ∧ W.heap[L]? = some (.loop rec)
end
section
variable {P : Program} {N : Nat} {osA osB : Array Oper} {idA idB bk : Nat} {l : Lo} {pv p1 p2 b bi bo id off n : Nat}
variable {Rf : Nat → Prop} {hi whi : Nat} {g0 : Gh} {M0 : Mem} {w0 : World} {F0 : Nat → Prop} {sE : RS} {wE : Nat} {a : Act} {D L : Nat} {fn : FuncId}
theorem kept_U {g g' : Gh} {M M' : Mem} {w w' : World} (E : Evo g M w g' M' w') {b : Nat} (h : g.U b) (hz : ¬ g.Z b) : g'.U b ∧ ¬ g'.Z b ∧ w'.heap[b]? = w.heap[b]? :=
  ⟨E.U b h, fun k => (E.Zn b k).elim hz fun k => k h, E.keep b h⟩
theorem stepV_spec {s : RS} {i : Nat} {z : Int} (h : stepV s b bi bo id off n i = some z) : ∃ rb r, s.m.get b = some rb ∧ rb.get1 bi bo = some (.own id off n 1) ∧ s.m.get id = some r ∧ r.sz = 1 ∧ r.get1 (off + i) 0 = some (.i .i32 z) := by
  unfold stepV at h
  obtain ⟨rb, h1, h⟩ := Option.bind_eq_some_iff.1 h
  obtain ⟨v, h2, k⟩ := Option.bind_eq_some_iff.1 h
  clear h
  split at k
  · rename_i id' off' n'
    split at k
    · rename_i e
      obtain ⟨rfl, rfl, rfl⟩ := e
      obtain ⟨r, h3, k2⟩ := Option.bind_eq_some_iff.1 k
      clear k
      split at k2
      · rename_i hsz
        obtain ⟨c, h4, k3⟩ := Option.bind_eq_some_iff.1 k2
        clear k2
        split at k3
        · cases k3; exact ⟨rb, r, h1, h2, h3, hsz, h4⟩
        · cases k3
      · cases k2
    · cases k
  · cases k
/-- The box and the element that comes next. -/
theorem next_elem {g : Gh} {M : Mem} {W : World} {s : RS} {i : Nat} {z : Int} (hn : 0 < n) (hi' : i < n) (hm : MemRel g M W) (hA : ∀ j, j = b ∨ j = id → M j = s.m.get j) {pu : Addr} (hpu : Rel g M W (.ptr b bi bo) (.pointer (some pu))) (h : stepV s b bi bo id off n i = some z) :
    ∃ b' off' c, W.cell? pu = some (.slice (some ⟨b', off', none⟩) n c) ∧ n ≤ c ∧ W.cell? ⟨b', off' + i, none⟩ = some (.int .i32 z) := by
  obtain ⟨rb, r, h1, h2, h3, hsz, h4⟩ := stepV_spec h
  have hMb : M b = some rb := (hA b (.inl rfl)).trans h1
  have hMi : M id = some r := (hA id (.inr rfl)).trans h3
  obtain ⟨_, hpu⟩ := hpu
  obtain ⟨_, k1, ro, size, hat, e⟩ := hpu rb hMb
  cases e
  obtain ⟨_, _, _, hD⟩ := row_at hm hMb hat (get1_sz h2)
  obtain ⟨u0, hc, hrel⟩ := get1_rel hD h2
  obtain ⟨_, hown⟩ := hrel
  obtain ⟨q1, A, c, rfl, q2, q3⟩ := hown r hMi
  obtain ⟨k2, ro2, size2, hat2, rfl, q4⟩ := q3 (by omega)
  obtain ⟨_, _, _, hD2⟩ := row_at hm hMi hat2 (by omega)
  obtain ⟨u1, hc1, hrel1⟩ := get1_rel hD2 h4
  obtain rfl : u1 = .int .i32 z := hrel1
  refine ⟨k2, ro2 + off * r.sz, c, hc, q2, ?_⟩
  rw [hsz] at hc1 ⊢
  rw [show ro2 + off * 1 + i = ro2 + (off + i) * 1 + 0 by omega]
  exact hc1
theorem round_step (hl1 : lkT l p1 = .undef) (hl2 : lkT l p2 = .undef) (hp2 : p2 < N) (ha : a.tmps.size = N) (hzu : ∀ b, g0.Z b → g0.U b) (h0 : ∀ b, g0.U b → b < L) (hb : Rf b) (hid : Rf id) (hR : ∀ j, inM sE.R j → Rf j) (hEn : sE.nb ≤ hi) (hiZ : hi ≤ Z) (hwE : wE ≤ whi)
    {pu : Addr} (hpu : Rel g0 M0 w0 (.ptr b bi bo) (.pointer (some pu))) (hn : 0 < n) {i : Nat} (hin : i < n) {W : World}
    (h : RInv P N osA osB idA idB l pv p2 b bi bo id off n Rf hi whi g0 M0 w0 F0 sE wE a D L { state := .ready, pending := none, fn := fn, tmps := a.tmps, params := #[p1, p2], assign := .region idA osA false, body := .block bk (.region idB osB false), defers := D } (i + 1) W) :
    ∃ b' off' c z, W.cell? pu = some (.slice (some ⟨b', off', none⟩) n c) ∧ n ≤ c ∧ W.cell? ⟨b', off' + i, none⟩ = some (.int .i32 z) ∧ YieldAt Fence.wide 0 P L #[.int .i64 i, .int .i32 z] W fun e W' => e = .returned (.bool true) ∧
      RInv P N osA osB idA idB l pv p2 b bi bo id off n Rf hi whi g0 M0 w0 F0 sE wE a D L { state := .ready, pending := none, fn := fn, tmps := a.tmps, params := #[p1, p2], assign := .region idA osA false, body := .block bk (.region idB osB false), defers := D } i W' := by
  obtain ⟨s, wz, M, g, hRs, hwz, hA, hM0, hm, hT, hF, hE, hG, ⟨uD, uL, zD, zL⟩, hD, hL⟩ := h
  cases hRs with
  | @cons _ _ _ z s1 ka kb _ _ hv kA kB hrest =>
    obtain ⟨mR, hwle⟩ := hrest.mono
    obtain ⟨mB, kB⟩ := kB
    obtain ⟨mA, kA⟩ := kA
    obtain ⟨b', off', c, c1, c2, c3⟩ := next_elem hn hin hm (fun j hj => hA j (.inl (by rcases hj with rfl | rfl <;> assumption))) (Rel.evo hE hzu _ _ hpu) hv
    refine ⟨b', off', c, z, c1, c2, c3, fn, _, _, _, run_yield hL rfl, roundIn_of_wpIn trivial ?_⟩
    have hnb1 : s1.nb ≤ hi := Nat.le_trans mR.nb hEn
    have hnb : s.nb ≤ s1.nb := mB.nb
    have st : StX N 0 g (lkT ((p2, .i .i32 z) :: l)) M (Fn s.nb hi wz whi) { tmps := (#[p1, p2].zip #[Value.int .i64 (i : Int), .int .i32 z]).foldl (fun tmps (t, a) => tmps.setIfInBounds t a) a.tmps, defers := [] } W := by
      refine ⟨hm, fun t => ?_, hF, by simp [ha], Harm.nil (Nat.zero_le _)⟩
      have e : ((#[p1, p2].zip #[Value.int .i64 (i : Int), .int .i32 z]).foldl (fun tmps (t, a) => tmps.setIfInBounds t a) a.tmps) = (a.tmps.setIfInBounds p1 (.int .i64 i)).setIfInBounds p2 (.int .i32 z) := by simp
      rw [e]
      simp only [lkT]
      by_cases e2 : t = p2
      · subst e2
        simp only [if_true]
        have : ((a.tmps.setIfInBounds p1 (Value.int .i64 (i : Int))).setIfInBounds t (.int .i32 z)).getD t undef = .int .i32 z := by
          rw [← ha] at hp2
          simp [hp2]
        rw [this]
        rfl
      · simp only [e2, if_false]
        by_cases e1 : t = p1
        · subst e1; rw [hl1]; trivial
        · have : ((a.tmps.setIfInBounds p1 (Value.int .i64 (i : Int))).setIfInBounds p2 (.int .i32 z)).getD t undef = a.tmps.getD t undef := by
            simp only [Array.getD_eq_getD_getElem?]
            rw [Array.getElem?_setIfInBounds_ne (Ne.symm e2), Array.getElem?_setIfInBounds_ne (Ne.symm e1)]
          rw [this]
          exact hT t
    refine wpIn_mono (kA wz hi whi hwz (by show s.nb ≤ hi; omega) hiZ (by omega) Rf M (fun j hj => hR j (mR.R j (mB.R j hj))) hA L 0 0 g _ W st) ?_
    rintro ex a1 w1 ⟨rfl, M1, g1, hA1, hM1, st1, E1, G1⟩
    obtain ⟨uD1, zD1, hD1⟩ := kept_U E1 uD zD
    obtain ⟨uL1, zL1, hL1⟩ := kept_U E1 uL zL
    have hEE := hE.trans E1
    obtain ⟨m2, E2, R2⟩ := put_rel st1.mem hEE h0 (Nat.le_refl _) uL1 zL1 (.loop { ({ state := .ready, pending := none, fn := fn, tmps := a.tmps, params := #[p1, p2], assign := .region idA osA false, body := .block bk (.region idB osB false), defers := D } : Loop) with state := .busy })
    refine ⟨_, run_beginRound (hL1.trans hL) rfl, wpIn_block ?_⟩
    have hLs : L < w1.heap.size := st1.mem.ul L uL1
    have hDL : D ≠ L := fun e => by rw [e] at hD; rw [hD] at hL; cases hL
    have st2 : StX N 0 g1 (lkT ((pv, .i .i32 z) :: l)) M1 (Fn s.nb hi (wz + ka) whi) a1 (w1.putObj L (.loop { ({ state := .ready, pending := none, fn := fn, tmps := a.tmps, params := #[p1, p2], assign := .region idA osA false, body := .block bk (.region idB osB false), defers := D } : Loop) with state := .busy })) := by
      refine ⟨m2, fun t => R2 _ _ ?_, st1.free, st1.size, ?_⟩
      · have := st1.tm t
        simp only [lkT] at this ⊢
        by_cases e : t = pv
        · simpa [e] using this
        · simp only [e, if_false] at this ⊢
          by_cases e2 : t = p2
          · subst e2; rw [hl2]; trivial
          · simpa [e2] using this
      · obtain ⟨q0, Ds, q1, q2, q3⟩ := st1.defers
        refine ⟨Nat.zero_le _, Ds, q1, q2, fun D' hD' => ?_⟩
        obtain ⟨j0, j1, j2, j3⟩ := q3 D' hD'
        refine ⟨j0, j1, j2, (World.putObj_heap_other fun e => ?_).trans j3⟩
        rw [e, hL1, hL] at j3
        cases j3
    refine wpIn_mono (kB (wz + ka) hi whi (by omega) hnb1 hiZ (by omega) Rf M1 (fun j hj => hR j (mR.R j hj)) hA1 L 0 0 g1 _ _ st2) ?_
    rintro ex a2 w2 ⟨rfl, M2, g2, hA2, hM2, st3, E3, G3⟩
    obtain ⟨uD3, zD3, hD3⟩ := kept_U E3 uD1 zD1
    obtain ⟨uL3, zL3, hL3⟩ := kept_U E3 uL1 zL1
    have hEE3 := E2.trans E3
    have hL3' := hL3.trans (World.putObj_heap_same hLs)
    obtain ⟨m4, E4, R4⟩ := put_rel st3.mem hEE3 h0 (Nat.le_refl _) uL3 zL3 (.loop { state := .ready, pending := none, fn := fn, tmps := a.tmps, params := #[p1, p2], assign := .region idA osA false, body := .block bk (.region idB osB false), defers := D })
    refine ⟨_, _, run_endRound none hL3', rfl, ?_⟩
    refine ⟨s1, wz + ka + kb, M2, g2, hrest, by omega, hA2, fun j hj => ?_, m4, fun t => R4 _ _ (Rel.evo E3 m2.zu _ _ (R2 _ _ (Rel.evo E1 hm.zu _ _ (hT t)))), st3.free, E4, ?_, ⟨uD3, uL3, zD3, zL3⟩, ?_, ?_⟩
    · have e1 : ¬ inM s.W j := fun e => hj (mB.W j e)
      rw [hM2 j hj, hM1 j e1, hM0 j e1]
    · exact hG.trans (G1.trans G3)
    · rw [World.putObj_heap_other hDL, hD3, World.putObj_heap_other hDL, hD1, hD]
    · exact World.putObj_heap_same (st3.mem.ul L uL3)
end
/-- A function that hands back a slice's elements from the end. -/
def ClosureOk (P : Program) (fC : FuncId) : Prop := ∀ (L n : Nat) (pu : Addr) (J : Nat → World → Prop) (W : World), n ≤ 1000000 → 0 < n → J n W →
  (∀ i W, i < n → J (i + 1) W → ∃ b off c z, W.cell? pu = some (.slice (some ⟨b, off, none⟩) n c) ∧ n ≤ c ∧ W.cell? ⟨b, off + i, none⟩ = some (.int .i32 z) ∧
    YieldAt Fence.wide 0 P L #[.int .i64 i, .int .i32 z] W fun e W' => e = .returned (.bool true) ∧ J i W') →
  CallsIn Fence.wide 0 P fC #[.func (.yield L) #[] #[], .pointer (some pu)] W fun e W' => (∃ v, e = .returned v) ∧ J 0 W'
end Go.Vx

/- A range over a function that hands back a slice's elements from the end, as a piece of code of the executor. -/
namespace Go.Vx
set_option linter.unusedSectionVars false
set_option linter.unusedSimpArgs false
set_option linter.unusedVariables false
open Go Go.Vm
variable [Inhabited LayT]
theorem range_code {P : Program} {N : Nat} {call : Caller} (hcall : CallerOk P call) {fC : FuncId} (hclo : ClosureOk P fC) (hcal : Callable P fC) {osA osB : Array Oper} {idA idB bk tf p1 p2 pv : Nat} {body : List Ins}
    (hA : osA.toList.mapM (compOper P N osA) = some [⟨some pv, .mov (.tmp p2), none⟩]) (hB : osB.toList.mapM (compOper P N osB) = some (body.map den)) (hbad : ∀ lo ∈ body.map den, lo.op ≠ .bad) (hp2 : p2 < N)
    {s sE : RS} {b bi bo id off n : Nat} (hl : lkT s.l tf = .fn fC [.ptr b bi bo]) (hl1 : lkT s.l p1 = .undef) (hl2 : lkT s.l p2 = .undef) (hn0 : 0 < n) (hn1 : n ≤ 1000000)
    (h : rnds call s.l body pv b bi bo id off n n { s with R := Nat.lor s.R (mask [b, id]) } = some sE) :
    CodeS P N (.rangeFunc (.tmp tf) #[p1, p2] (.region idA osA false) (.block bk (.region idB osB false))) s { sE with l := s.l } .normal := by
  have hm0 := rs_mono hcall hB hbad n _ sE h
  refine ⟨⟨hm0.nb, fun j hj => hm0.R j (inM_lor.2 (.inl hj)), hm0.W, hm0.same⟩, fun hZ => ?_⟩
  obtain ⟨kt, hkt⟩ := rs_of (idA := idA) (idB := idB) hcall hA hB hbad n _ sE h hZ
  refine ⟨kt, fun wz hi whi hwz hnb hiZ hwh Rf Mx hR hAg K hK => ?_⟩
  intro n0 g a w st
  refine (wpIn_wide (n := 0)).1 (wpIn_rangeFunc fun fn _ => ?_)
  have hRb : Rf b := hR b (hm0.R b (inM_lor.2 (.inr (inM_mask (by simp)))))
  have hRi : Rf id := hR id (hm0.R id (inM_lor.2 (.inr (inM_mask (by simp)))))
  have hRs := hkt wz
  have hut := st.tm tf
  rw [hl] at hut
  obtain ⟨us, hu, up, us2, rfl, hup, e⟩ := hut
  obtain rfl : us2 = [] := e
  have hup2 := hup.2
  obtain ⟨pu, rfl⟩ : ∃ pu, up = .pointer (some pu) := by
    revert hRs
    generalize wz + kt = wE
    intro hRs
    cases hRs with
    | nil => omega
    | cons hv _ _ _ =>
      obtain ⟨rb, r, e1, _⟩ := stepV_spec hv
      obtain ⟨_, k1, ro, size, _, e⟩ := hup2 rb ((hAg b (.inl hRb)).trans e1)
      exact ⟨_, e⟩
  obtain ⟨rec, hrec⟩ : ∃ rec : Loop, rec = { state := .ready, pending := none, fn := fn, tmps := a.tmps, params := #[p1, p2], assign := .region idA osA false, body := .block bk (.region idB osB false), defers := w.heap.size } := ⟨_, rfl⟩
  obtain ⟨E1, m1⟩ := evo_alloc st.mem (.deferred (some []))
  obtain ⟨E2, m2⟩ := evo_alloc m1 (.loop rec)
  have hL1 : ((w.alloc (.deferred (some []))).alloc (.loop rec)).heap[w.heap.size + 1]? = some (.loop rec) := by
    have := World.alloc_heap_new (w.alloc (.deferred (some []))) (.loop rec); rwa [World.size_alloc] at this
  have hD1 : ((w.alloc (.deferred (some []))).alloc (.loop rec)).heap[w.heap.size]? = some (.deferred (some [])) := by
    show ((w.heap.push _).push _)[w.heap.size]? = _
    rw [Array.getElem?_push, if_neg (by simp), Array.getElem?_push, if_pos rfl]
  obtain ⟨m3, E3⟩ := addU (U' := fun c => g.U c ∨ c = w.heap.size ∨ c = w.heap.size + 1) m2 (fun _ h => .inl h) (fun c hc => by
    rcases hc with h | rfl | rfl
    · have := st.mem.ul c h; simp; omega
    · simp; omega
    · simp) (fun j r rb ro size _ _ q1 q2 q3 => by
    rcases q3 with h | h | h
    · exact q2 h
    · exact rb_ne q1 hD1 (fun _ _ _ e => by cases e) (fun cs h => h.elim) h
    · exact rb_ne q1 hL1 (fun _ _ _ e => by cases e) (fun cs h => h.elim) h)
  have EE := (E1.trans E2).trans E3
  have zD : ¬ g.Z w.heap.size := fun h => Nat.lt_irrefl _ (st.mem.ul _ (st.mem.zu _ h))
  have zL : ¬ g.Z (w.heap.size + 1) := fun h => by have := st.mem.ul _ (st.mem.zu _ h); omega
  refine ⟨w.heap.size + 1, [mark1 w.heap.size], (w.alloc (.deferred (some []))).alloc (.loop rec), { target := .fn (.func fC) #[.pointer (some pu)], args := #[.func (.yield (w.heap.size + 1)) #[] #[]] }, (w.alloc (.deferred (some []))).alloc (.loop rec), fC,
    #[.func (.yield (w.heap.size + 1)) #[] #[]] ++ #[.pointer (some pu)], (w.alloc (.deferred (some []))).alloc (.loop rec), ?_, ?_, fun _ _ => trivial, ?_, fun h => by simp [Fence.wide] at h, ?_⟩
  · rw [hrec]; exact run_enterLoop_outer _ _ _ _ _
  · have hg : a.eval (.tmp tf) = .func (.func fC) #[] #[.pointer (some pu)] := hu
    simp only [resolve, hg]
    simp [go_sem]
  · simp [invoke, go_sem, run_callFunc hcal]
  · have hJ0 : RInv P N osA osB idA idB s.l pv p2 b bi bo id off n Rf hi whi g Mx w (Fn s.nb hi wz whi) sE (wz + kt) a w.heap.size (w.heap.size + 1) rec n ((w.alloc (.deferred (some []))).alloc (.loop rec)) :=
      ⟨_, wz, Mx, _, hRs, hwz, hAg, fun _ _ => rfl, m3, fun t => Rel.evo EE st.mem.zu _ _ (st.tm t), st.free, EE, Gr.refl, ⟨.inr (.inl rfl), .inr (.inr rfl), zD, zL⟩, hD1, hL1⟩
    refine (hclo (w.heap.size + 1) n pu (RInv P N osA osB idA idB s.l pv p2 b bi bo id off n Rf hi whi g Mx w (Fn s.nb hi wz whi) sE (wz + kt) a w.heap.size (w.heap.size + 1) rec) _ hn1 hn0 hJ0 fun i W hin hJ => ?_).mono ?_
    · subst hrec
      exact round_step (sE := sE) (L := w.heap.size + 1) (D := w.heap.size) hl1 hl2 hp2 st.size st.mem.zu (fun c hc => by have := st.mem.ul c hc; omega) hRb hRi hR hnb hiZ hwh hup hn0 hin hJ
    · rintro e W' ⟨⟨v, rfl⟩, s', wz', M', g', hRs', hwz', hA', hM', hm', hT', hF', hE', hG', ⟨uD, uL, zD', zL'⟩, hD', hL'⟩
      cases hRs' with
      | nil =>
        obtain ⟨m4, E4, R4⟩ := put_rel hm' hE' (n0 := w.heap.size) (fun c hc => st.mem.ul c hc) (by omega) uL zL' (.loop { rec with state := .exhausted })
        refine ⟨none, W'.putObj (w.heap.size + 1) (.loop { rec with state := .exhausted }), by
          have := run_endLoop (P := P) hL' (by rw [hrec]; simp)
          rw [show rec.pending = none by rw [hrec]] at this
          rw [this, show rec.pending = none by rw [hrec]], ?_⟩
        refine ⟨lkT s.l, M', _, g', hK M' hA' hM', ⟨m4, fun t => R4 _ _ (hT' t), hF', st.size, ?_⟩, E4, hG'⟩
        obtain ⟨q0, Ds, q1, q2, q3⟩ := st.defers
        refine ⟨Nat.le_trans q0 E4.size, w.heap.size :: Ds, by simp [q1], List.nodup_cons.2 ⟨fun h => ?_, q2⟩, fun D' hD'' => ?_⟩
        · have := st.mem.ul _ (q3 _ h).2.1; omega
        · rcases List.mem_cons.1 hD'' with rfl | hD''
          · exact ⟨q0, uD, zD', (World.putObj_heap_other (by omega)).trans hD'⟩
          · obtain ⟨j0, j1, j2, j3⟩ := q3 D' hD''
            obtain ⟨f1, f2, f3⟩ := kept_U E4 j1 j2
            exact ⟨j0, f1, f2, f3.trans j3⟩
end Go.Vx
