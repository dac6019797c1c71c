import Derived.Test.YtndaokjifafhkaaGreatDoorVxB
import Derived.Lib.Bytealg
import Derived.Test.YtndaokjifafhkaaGreatDoorVmX
/- Contracts of functions without body, as steps. -/
namespace Go.Vx
set_option linter.unusedSectionVars false
set_option linter.unusedSimpArgs false
set_option linter.unusedVariables false
open Go Go.Vm
variable [Inhabited LayT]
section
variable {P : Program} {f : FuncId} {fn : Func}
theorem soLoad_ok {kd : IntKind} (hf : P.funcs[f]? = some fn) (hb : fn.body = none) (hname : (fn.name == "runtime.NumGoroutine") = false) (h1 : Extern.findNext fn = none) (h2 : Extern.find fn = some (Extern.Atomic.loadT (.int kd)))
    {as : List AV} {M : Mem} {nb : Nat} {out : Out} {nb' : Nat} (h : soLoad kd as M nb = some (out, nb')) : nb' = nb ∧ ∀ V, CallW P f as M V out := by
  unfold soLoad at h
  split at h
  · rename_i id i o
    obtain ⟨r, hr, h⟩ := Option.bind_eq_some_iff.1 h
    obtain ⟨v, hg, h⟩ := Option.bind_eq_some_iff.1 h
    split at h
    · split at h
      · rename_i e
        subst e
        cases h
        exact ⟨rfl, fun V => callW_load hf hb hname h1 h2 hr hg⟩
      · cases h
    · cases h
  · cases h
theorem soAdd_ok {kd : IntKind} (hf : P.funcs[f]? = some fn) (hb : fn.body = none) (hname : (fn.name == "runtime.NumGoroutine") = false) (h1 : Extern.findNext fn = none) (h2 : Extern.find fn = some (Extern.Atomic.update (Op.intArith .add) kd true))
    {t : TypeId} (ht : sizeB P t = some 1) {as : List AV} {M : Mem} {nb : Nat} {out : Out} {nb' : Nat} (h : soAdd kd as M nb = some (out, nb')) : nb' = nb ∧ ∀ V, CallW P f as M V out := by
  unfold soAdd at h
  split at h
  · rename_i id i o kd2 d
    obtain ⟨r, hr, h⟩ := Option.bind_eq_some_iff.1 h
    obtain ⟨v, hg, h⟩ := Option.bind_eq_some_iff.1 h
    split at h
    · rename_i kd' n
      split at h
      · rename_i e
        obtain ⟨rfl, rfl⟩ := e
        obtain ⟨r', hs, h⟩ := Option.map_eq_some_iff.1 h
        cases h
        exact ⟨rfl, fun V => callW_add hf hb hname h1 h2 ht hr hg hs⟩
      · cases h
    · cases h
  · cases h
theorem callW_pure {args : List AV} {M : Mem} {V : Nat → Prop} {v : AV} (hf : P.funcs[f]? = some fn) (hb : fn.body = none) (hname : (fn.name == "runtime.NumGoroutine") = false) (h1 : Extern.findNext fn = none) {e : Array Value → Sem Value} (h2 : Extern.find fn = some e)
    (h : ∀ g M w us, RelL g M w args us → ∃ u, (e us.toArray).run P w = .ok u w ∧ Rel g M w v u) : CallW P f args M V ⟨v, [], []⟩ := by
  intro M' hM g w us hm hus hs
  obtain ⟨u, h3, h4⟩ := h g M' w us hus
  exact .inr ⟨u, w, run_extern hf hb hname h1 h2 h3, g, h4, hm, Evo.refl _ _ _, fun _ h => .inl h⟩
theorem idxB_eq (c : UInt8) : ∀ (l : List UInt8) (i : Nat), idxB c l i = if Lib.indexByte l c = -1 then -1 else Lib.indexByte l c + i
  | [], _ => rfl
  | x :: l, i => by
    have hge := Lib.indexByte_ge l c
    unfold idxB Lib.indexByte
    split
    · simp
    · rw [idxB_eq c l (i + 1)]
      by_cases e : Lib.indexByte l c = -1
      · simp [e]
      · simp [e]
        split
        · omega
        · omega
theorem idxB_zero (c : UInt8) (l : List UInt8) : idxB c l 0 = Lib.indexByte l c := by
  rw [idxB_eq]; split <;> simp_all
theorem countB_eq (c : UInt8) : ∀ (l : List UInt8) (n : Nat), l.foldl (fun (n : Nat) (x : UInt8) => if x == c then n + 1 else n) n = n + Lib.countByte l c
  | [], n => by simp [Lib.countByte]
  | b :: l, n => by
    rw [List.foldl_cons, countB_eq c l]
    unfold Lib.countByte
    rw [List.count_cons]
    split <;> simp_all <;> omega
theorem soCount_ok (hf : P.funcs[f]? = some fn) (hb : fn.body = none) (hname : (fn.name == "runtime.NumGoroutine") = false) (h1 : Extern.findNext fn = none) (h2 : Extern.find fn = some Extern.BytealgCount.count)
    {as : List AV} {M : Mem} {nb : Nat} {out : Out} {nb' : Nat} (h : soCount as M nb = some (out, nb')) : nb' = nb ∧ ∀ V, CallW P f as M V out := by
  unfold soCount at h
  split at h
  · rename_i l c
    cases h
    refine ⟨rfl, fun V => callW_pure hf hb hname h1 h2 fun g M w us hus => ?_⟩
    obtain ⟨u, us', rfl, hu, u2, us2, rfl, hu2, hr⟩ := hus
    obtain rfl : us2 = [] := hr
    obtain rfl : u2 = .int .u8 c := hu2
    obtain rfl : u = .string ⟨l.toArray⟩ := hu
    refine ⟨_, Lib.run_countString _ _ _, ?_⟩
    show Value.int _ _ = Value.int _ _
    rw [countB_eq, Nat.zero_add]
  · cases h
theorem soIndex_ok (hf : P.funcs[f]? = some fn) (hb : fn.body = none) (hname : (fn.name == "runtime.NumGoroutine") = false) (h1 : Extern.findNext fn = none) (h2 : Extern.find fn = some Extern.BytealgIndexByte.indexByte)
    {as : List AV} {M : Mem} {nb : Nat} {out : Out} {nb' : Nat} (h : soIndex as M nb = some (out, nb')) : nb' = nb ∧ ∀ V, CallW P f as M V out := by
  unfold soIndex at h
  split at h
  · rename_i l c
    cases h
    refine ⟨rfl, fun V => callW_pure hf hb hname h1 h2 fun g M w us hus => ?_⟩
    obtain ⟨u, us', rfl, hu, u2, us2, rfl, hu2, hr⟩ := hus
    obtain rfl : us2 = [] := hr
    obtain rfl : u2 = .int .u8 c := hu2
    obtain rfl : u = .string ⟨l.toArray⟩ := hu
    refine ⟨_, Lib.run_indexByteString _ _ _, ?_⟩
    show Value.int _ _ = Value.int _ _
    rw [idxB_zero]
  · cases h
end
end Go.Vx

/- Worlds behind a contract: a cell written; a row's block changed, the row forgotten. -/
namespace Go.Vx
set_option linter.unusedSectionVars false
set_option linter.unusedSimpArgs false
set_option linter.unusedVariables false
open Go Go.Vm
variable [Inhabited LayT]
/-- One cell is written. -/
theorem set_cellV {P : Program} {g : Gh} {M : Mem} {w : World} {id i o : Nat} {r r' : Row} {c c0 : AV} {uc : Value} {t : TypeId} (ht : sizeB P t = some 1) (hm : MemRel g M w) {rb ro size : Nat} (hM : M id = some r) (hat : g.at_ id = some (rb, ro, size)) (hi : i < r.el.length) (hg : r.get1 i o = some c0)
    (hs : r.set1 i o c = some r') (hc : Rel g M w c uc) (hcc : c.cells = [c]) (hfl : flatC M c = true) (huc : uc.cells = #[uc]) (hu1 : uc.oneCell' = true) :
    ∃ u0 g', w.cell? ⟨rb, ro + i * r.sz + o, none⟩ = some u0 ∧ Rel g M w c0 u0 ∧ w.frozen? ⟨rb, ro + i * r.sz + o, none⟩ = false ∧ MemRel g' (upd M [(id, some r')]) (w.setCell ⟨rb, ro + i * r.sz + o, none⟩ uc) ∧ Evo g M w g' (upd M [(id, some r')]) (w.setCell ⟨rb, ro + i * r.sz + o, none⟩ uc) ∧ ∀ id, g'.L id → g.L id := by
  have hL : g.L id := hm.known id r hM
  let oo : Oper := { dst := none, op := .store t (.tmp 0) (.tmp 1), type := 0, pos := "", after := #[], guard := none }
  let aa : Act := { tmps := #[.pointer (some ⟨rb, ro + i * r.sz + o, none⟩), uc], defers := [] }
  have hu : Rel g M w (.ptr id i o) (.pointer (some ⟨rb, ro + i * r.sz + o, none⟩)) := ⟨hL, fun r2 h2 => by
    rw [hM] at h2; cases h2; exact ⟨hi, rb, ro, size, hat, rfl⟩⟩
  have hT : RelT g M w (lkT [(0, .ptr id i o), (1, c)]) aa := by
    intro t
    simp only [lkT]
    split
    · rename_i e; subst e; exact hu
    · split
      · rename_i e; subst e; exact hc
      · trivial
  have hst : Go.Vm.step (lkT [(0, .ptr id i o), (1, c)]) M id (.store 1 (.tmp 0) (.tmp 1)) = some { v := .k undef, eff := [(id, some r')], rd := id :: refsC c } := by
    simp [Go.Vm.step, ev, lkT, hfl, hcc, hM, hs]
  obtain ⟨v, w', g', hrun, h1, h2, h3, h4⟩ := step_store (P := P) (o := oo) hm hT rfl ht hst
  obtain ⟨hU, hblk, hfit, hD⟩ := row_at hm hM hat (get1_sz hg)
  obtain ⟨u0, hc0, hrel⟩ := get1_rel hD hg
  have hpos : ro + i * r.sz + o < size := by
    obtain ⟨arr, ty, fz, k1, k2, k3⟩ := hblk
    have := hc0
    simp only [World.cell?, k1] at this
    have h5 := (Array.getElem?_eq_some_iff.1 this).1
    omega
  have hfz : w.frozen? ⟨rb, ro + i * r.sz + o, none⟩ = false := by
    obtain ⟨arr, ty, fz, k1, k2, k3⟩ := hblk
    have := k3 _ hpos
    simp only [World.frozen?, k1]
    simpa using this
  have hrun2 := run_storeCells_cells (P := P) rb (ro + i * r.sz + o) [uc] 0 w (fun j hj => by
    obtain rfl : j = 0 := by simpa using hj
    simp only [Nat.add_zero]; rw [hc0]; rfl) (fun j hj => by
    obtain rfl : j = 0 := by simpa using hj
    simpa using hfz) (by simpa using hu1)
  have hexec : (execOp aa.eval oo).run P w = .ok .skip (w.setCell ⟨rb, ro + i * r.sz + o, none⟩ uc) := by
    have e1 : aa.eval (.tmp 0) = .pointer (some ⟨rb, ro + i * r.sz + o, none⟩) := rfl
    have e2 : aa.eval (.tmp 1) = uc := rfl
    simp only [Nat.add_zero] at hrun2
    simp [execOp, oo, e1, e2, Instr.storeAt, Instr.sureAddr, storeVar, run_size ht, huc, hrun2]
    rfl
  have hw : w' = w.setCell ⟨rb, ro + i * r.sz + o, none⟩ uc := by
    rcases hrun with h | ⟨h, _⟩
    · rw [hexec] at h; cases h
    · rw [hexec] at h; cases h; rfl
  subst hw
  exact ⟨u0, g', hc0, hrel, hfz, h2, h3, fun j hj => (h4 j hj).elim (fun h => h) fun e => by rw [e]; exact hL⟩
/-- A row's block is changed, and the row forgotten. -/
theorem evo_drop {g : Gh} {M : Mem} {w w' : World} {id : Nat} {r : Row} {rb ro size : Nat} (hm : MemRel g M w) (hr : M id = some r) (hat : g.at_ id = some (rb, ro, size)) (hk : ∀ b, b ≠ rb → w'.heap[b]? = w.heap[b]?) (hsz : w.heap.size ≤ w'.heap.size)
    (hos : w'.os = w.os) (htp : w'.tape = w.tape) (hou : w'.output = w.output ∧ w.drawn ≤ w'.drawn) : Evo g M w g (upd M [(id, none)]) w' ∧ MemRel g (upd M [(id, none)]) w' := by
  obtain ⟨hU, _⟩ := row_in hm hr hat
  have hM : ∀ id' r', upd M [(id, none)] id' = some r' → id' ≠ id ∧ M id' = some r' := fun id' r' h => by
    by_cases e : id' = id
    · subst e; rw [upd1] at h; cases h
    · exact ⟨e, by simpa [upd, e] using h⟩
  have hE : Evo g M w g (upd M [(id, none)]) w' := ⟨fun _ h => h, fun _ h => h, fun _ h => .inl h, fun _ h => h, fun b hb => hk b fun e => hU (e ▸ hb), hsz, hos, htp, hou, fun id' _ r' h => ⟨r', (hM id' r' h).2, rfl, rfl, rfl⟩⟩
  refine ⟨hE, { zu := hm.zu, ul := fun b hb => Nat.lt_of_lt_of_le (hm.ul b hb) hsz, known := fun id' r' h => hm.known id' r' (hM id' r' h).2, lay := hm.lay.evo hm.zu hE, inj := fun a b r1 r2 x y h1 h2 => hm.inj a b r1 r2 x y (hM a r1 h1).2 (hM b r2 h2).2, row := fun id' r' h => ?_ }⟩
  obtain ⟨hne, h'⟩ := hM id' r' h
  rcases hm.row id' r' h' with k | ⟨rb', ro', size', k1, k2, k3⟩
  · exact .inl k
  · refine .inr ⟨rb', ro', size', k1, k2, k3.evo hE hm.zu (hk rb' fun e => hne ?_)⟩
    exact hm.inj id' id r' r _ _ h' hr k1 hat e
theorem freeze_keep (w : World) (a : Addr) (n : Nat) : (∀ b, b ≠ a.block → (w.freeze a n).heap[b]? = w.heap[b]?) ∧ (w.freeze a n).heap.size = w.heap.size ∧ (w.freeze a n).os = w.os ∧ (w.freeze a n).tape = w.tape ∧ (w.freeze a n).output = w.output ∧ (w.freeze a n).drawn = w.drawn := by
  unfold World.freeze
  split
  · exact ⟨fun _ _ => rfl, rfl, rfl, rfl, rfl, rfl⟩
  · refine ⟨fun b hb => ?_, by simp, rfl, rfl, rfl, rfl⟩
    simp only [Array.getElem?_modify]
    rw [if_neg fun e => hb e.symm]
end Go.Vx

/- More of rows and cells; a call handed on with other memories. -/
namespace Go.Vx
set_option linter.unusedSectionVars false
set_option linter.unusedSimpArgs false
set_option linter.unusedVariables false
open Go Go.Vm
variable [Inhabited LayT]
theorem set1_len {r r3 : Row} {i o : Nat} {c : AV} (hs : r.set1 i o c = some r3) : r3.el.length = r.el.length ∧ r3.sz = r.sz := by
  unfold Row.set1 at hs
  split at hs
  · split at hs
    · cases hs; simp
    · cases hs
  · split at hs
    · cases hs
    · obtain ⟨cs, _, hs⟩ := Option.bind_eq_some_iff.1 hs
      split at hs
      · cases hs; simp
      · cases hs
theorem get1_other {r r3 : Row} {i o : Nat} {c x : AV} (hs : r.set1 i o c = some r3) (hg : r.get1 i (o + 1) = some x) : r3.get1 i (o + 1) = some x := by
  unfold Row.set1 at hs
  unfold Row.get1 at hg ⊢
  split at hs
  · rename_i h1
    split at hs
    · cases hs
      rw [if_pos h1] at hg
      simp only [h1, if_true]
      rw [List.getElem?_set_ne (by omega)]
      exact hg
    · cases hs
  · rename_i h1
    split at hs
    · cases hs
    · rename_i h0
      rw [if_neg h1, if_neg h0] at hg
      obtain ⟨cs, hcs, hs⟩ := Option.bind_eq_some_iff.1 hs
      split at hs
      · cases hs
        simp only [h1, h0, if_false]
        rw [hcs] at hg
        have hi : i < r.el.length := (List.getElem?_eq_some_iff.1 hcs).1
        rw [List.getElem?_set_self hi]
        simp only [Option.bind_some] at hg ⊢
        rw [List.getElem?_set_ne (by omega)]
        exact hg
      · cases hs
theorem at_cell {g : Gh} {M : Mem} {w : World} {id i o rb ro size : Nat} {r : Row} {c0 : AV} (hm : MemRel g M w) (hM : M id = some r) (hat : g.at_ id = some (rb, ro, size)) (hi : i < r.el.length) (hg : r.get1 i o = some c0) :
    ∃ u0, w.cell? ⟨rb, ro + i * r.sz + o, none⟩ = some u0 ∧ Rel g M w c0 u0 ∧ w.frozen? ⟨rb, ro + i * r.sz + o, none⟩ = false := by
  obtain ⟨hU, hblk, hfit, hD⟩ := row_at hm hM hat (get1_sz hg)
  obtain ⟨u0, hc0, hrel⟩ := get1_rel hD hg
  have hpos : ro + i * r.sz + o < size := by
    obtain ⟨arr, ty, fz, k1, k2, k3⟩ := hblk
    have := hc0
    simp only [World.cell?, k1] at this
    have h5 := (Array.getElem?_eq_some_iff.1 this).1
    omega
  refine ⟨u0, hc0, hrel, ?_⟩
  obtain ⟨arr, ty, fz, k1, k2, k3⟩ := hblk
  have := k3 _ hpos
  simp only [World.frozen?, k1]
  simpa using this
end Go.Vx

/- Regions within a round of a range over a function. -/
namespace Go.Vx
set_option linter.unusedSectionVars false
set_option linter.unusedSimpArgs false
set_option linter.unusedVariables false
open Go Go.Vm
variable [Inhabited LayT]
section
variable {P : Program} {o : Oper} {a : Act} {next : Act → World → Prop} {Q : Exit → Act → World → Prop} {l m : Nat}
theorem uponIn_of_upon {r : Result Next} (h : o.upon P a next Q r) : o.uponIn (Fence.wide.inRound l) m P a next Q r := by
  cases r with
  | ok x w =>
    cases x with
    | value v => exact h
    | skip => exact h
    | defer d => exact h
    | enter f args => exact ⟨fun h => by simp [Fence.wide] at h, (callsIn_wide (n := m - 1)).2 h⟩
    | row row args => exact ⟨fun h => by simp [Fence.wide] at h, fun c cs _ => let ⟨v, w', r, s⟩ := h c cs; ⟨v, w', r, stepsIn_wide.2 s⟩⟩
    | _ => exact h.elim
  | halt x w =>
    cases x with
    | panic v => exact h
    | _ => exact h.elim
theorem wpIn_of_wp {w : World} (hd : ∀ c, o.op ≠ .defer c) (h : o.wp P a w next Q) : o.wpIn (Fence.wide.inRound l) m P a w next Q := by
  refine ⟨fun _ _ => trivial, ?_⟩
  rw [Oper.semAt_eq _ _ _ hd]
  exact uponIn_of_upon h
theorem uponIn_next {F : Fence} {next' : Act → World → Prop} (hn : ∀ a w, next a w → next' a w) {r : Result Next} (h : o.uponIn F m P a next Q r) : o.uponIn F m P a next' Q r := by
  cases r with
  | ok x w =>
    cases x with
    | value v => exact hn _ _ h
    | skip => exact hn _ _ h
    | defer d => exact hn _ _ h
    | enter f args =>
      refine ⟨h.1, h.2.1, fun cs hr => ?_⟩
      obtain ⟨e, w', fr, r, s⟩ := h.2.2 cs hr
      refine ⟨e, w', fr, ?_, s⟩
      cases e with
      | returned v => exact hn _ _ r
      | panicked c => exact r
      | outgrown => exact r
    | row row args => exact ⟨h.1, h.2.mono fun v w' r => hn _ _ r⟩
    | round l f tmps assign body =>
      refine ⟨h.1, h.2.mono fun e w' r => ?_⟩
      cases e with
      | returned v => exact hn _ _ r
      | panicked c => exact r
      | outgrown => exact r
    | _ => exact h.elim
  | halt x w =>
    cases x with
    | panic v => exact h
    | _ => exact h.elim
theorem wpOpsIn_of {ops : Array Oper} (hd : ∀ (i : Nat) (o : Oper), ops[i]? = some o → ∀ c, o.op ≠ .defer c) (hQ : ¬ LetsOut Q) : ∀ (is : List Nat) (a : Act) (w : World), wpOps P ops Q is a w → wpOpsIn (Fence.wide.inRound l) m P ops Q is a w
  | [], a, w, h => h
  | i :: is, a, w, h => by
    simp only [wpOps] at h
    simp only [wpOpsIn]
    cases ho : ops[i]? with
    | none =>
      simp only [ho] at h
      exact wpOpsIn_of hd hQ is a w h
    | some o =>
      simp only [ho] at h
      simp only
      split at h
      · rename_i hw
        rw [if_pos hw]
        rcases h with h | h
        · have := wpIn_of_wp (l := l) (m := m) (hd i o ho) h
          exact ⟨this.1, uponIn_next (fun a w => wpOpsIn_of hd hQ is a w) this.2⟩
        · exact absurd h.2 hQ
      · rename_i hw
        rw [if_neg hw]
        exact ⟨fun _ _ => trivial, wpOpsIn_of hd hQ is _ w h⟩
end
theorem no_defer {P : Program} {n : Nat} {ops : Array Oper} {l : List Oper} {os : List LOper} (h : l.mapM (compOper P n ops) = some os) (hb : ∀ lo ∈ os, lo.op ≠ .bad) : ∀ o ∈ l, ∀ c, o.op ≠ .defer c := by
  induction l generalizing os with
  | nil => intro o ho; simp at ho
  | cons o l ih =>
    rw [List.mapM_cons] at h
    simp only [Option.bind_eq_bind, Option.bind_eq_some_iff] at h
    obtain ⟨lo, h1, os', h2, h3⟩ := h
    cases h3
    intro o' ho'
    rcases List.mem_cons.1 ho' with rfl | ho'
    · intro c hc
      rcases (comped h1).op with h | h
      · rw [hc] at h; simp [compOp] at h
      · exact hb lo (by simp) h
    · exact ih h2 (fun lo hlo => hb lo (by simp [hlo])) o' ho'
/-- A region within a round. -/
theorem region_in {P : Program} {N : Nat} {call : Caller} (hcall : CallerOk P call) {id : Nat} {os : Array Oper} {ops : List Ins} {s s1 : RS} {log : List En}
    (hc : os.toList.mapM (compOper P N os) = some (ops.map den)) (hb : ∀ lo ∈ ops.map den, lo.op ≠ .bad) (h : opsP call false ops 0 s [] = some (s1, log)) :
    Mono s s1 ∧ (s1.nb ≤ Z → ∃ k, ∀ wz hi whi, Z ≤ wz → s1.nb ≤ hi → hi ≤ Z → wz + k ≤ whi → ∀ (Rf : Nat → Prop) (Mx : Mem), (∀ id, inM s1.R id → Rf id) → Agr Rf s.W Mx s.m → ∀ (l m n0 : Nat) g a w, StX N n0 g (lkT s.l) Mx (Fn s.nb hi wz whi) a w →
      (Code.region id os false).wpIn (Fence.wide.inRound l) m P (fun ex a' w' => ex = .normal ∧ ∃ Mx' g', Agr Rf s1.W Mx' s1.m ∧ (∀ id, ¬ inM s1.W id → Mx' id = Mx id) ∧ StX N n0 g' (lkT s1.l) Mx' (Fn s1.nb hi (wz + k) whi) a' w' ∧ Evo g Mx w g' Mx' w' ∧ Gr g g' (Fn s.nb hi wz whi) (Fn s1.nb hi (wz + k) whi)) a w) := by
  obtain ⟨hm, es, he, hk⟩ := ops_sound hcall ops os.toList 0 s [] s1 log h hc (fun j o hj => by simpa using hj)
  refine ⟨hm, fun hZ => ?_⟩
  obtain ⟨k, hk⟩ := hk hZ
  refine ⟨k, fun wz hi whi hwz hn hi' hw Rf Mx hR hA l m n0 g a w st => ?_⟩
  obtain ⟨R, hl, hlr, hrun⟩ := hk wz hwz
  obtain ⟨Mx', r1, r2, r3⟩ := hrun Rf Mx hR hA
  have hnb := hm.nb
  have hl' : Laid P N os (ops.map den) (Fn s.nb hi wz whi) (Fn s1.nb hi (wz + k) whi) 0 R :=
    { lo := hl.lo, i := hl.i, it := hl.it, win := hl.win
      ab := fun p hp id h => by
        have h2 := (hl.ab p hp id h).1
        simp only [Fn] at h2 ⊢
        unfold Z at *
        omega
      ff := fun id h => by simp only [Fn] at h ⊢; omega }
  have hlen : (ops.map den).length = os.size := by
    have key : ∀ (l : List Oper) (os' : List LOper), l.mapM (compOper P N os) = some os' → os'.length = l.length := by
      intro l
      induction l with
      | nil => intro os h; simp at h; subst h; rfl
      | cons o l ih =>
        intro os h
        rw [List.mapM_cons] at h
        simp only [Option.bind_eq_bind, Option.bind_eq_some_iff] at h
        obtain ⟨_, _, os', h2, h3⟩ := h
        cases h3
        simp [ih os' h2]
    simpa using key _ _ hc
  have hRl : R.length = os.size := by rw [← hlen, ← hl.lo]; simp
  refine wpIn_region (wpOpsIn_of (fun i o ho => no_defer hc hb o (by have := Array.getElem?_eq_some_iff.1 ho; obtain ⟨h1, h2⟩ := this; rw [← h2]; simp)) ?_ _ a w ?_)
  · rintro ⟨_, _, h, _⟩
    cases h
  · rw [List.range_eq_range']
    have := seq_runs (P := P) (n := N) (n0 := n0) (ops := os) (Q := fun ex a' w' => ex = .normal ∧ ∃ Mx' g', Agr Rf s1.W Mx' s1.m ∧ (∀ id, ¬ inM s1.W id → Mx' id = Mx id) ∧ StX N n0 g' (lkT s1.l) Mx' (Fn s1.nb hi (wz + k) whi) a' w' ∧ Evo g Mx w g' Mx' w' ∧ Gr g g' (Fn s.nb hi wz whi) (Fn s1.nb hi (wz + k) whi))
      (g0 := g) (M0 := Mx) (w0 := w) (F0 := Fn s.nb hi wz whi) (fun g' a' w' st' hw hgr => ⟨rfl, Mx', g', r2, r3, st', hw, hgr⟩) R (ops.map den) 0 _ hl' r1 st (Evo.refl g Mx w) Gr.refl
    rw [hRl] at this
    exact this
end Go.Vx
