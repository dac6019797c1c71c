import Derived.Test.YtkjmlfbafmdegaaVmZd
namespace Go.Vm
set_option linter.unusedSectionVars false
set_option linter.unusedSimpArgs false
set_option linter.unusedVariables false
open Go
variable [Inhabited LayT]

/-! ### results that lie in cells -/
inductive RV where
  | t (t : Nat)
  | c (t n : Nat) (ag : Bool)
def rvOf (P : Program) : ResultVar → Option RV
  | .tmp t => some (.t t)
  | .cell a ty => match isAggB P ty, sizeB P ty with
    | some ag, some n => some (.c a n ag)
    | _, _ => none
def rvsOf (P : Program) : List ResultVar → Option (List RV)
  | [] => some []
  | r :: rs => match rvOf P r, rvsOf P rs with
    | some x, some xs => some (x :: xs)
    | _, _ => none
def res1 (T : Tm) (M : Mem) : RV → Option AV
  | .t t => some (T t)
  | .c a n ag => match T a with
    | .ptr id i o => (M id).bind fun r => if ag then (r.getN i o n).map .agg else r.get1 i o
    | _ => none
def resL (T : Tm) (M : Mem) : List RV → Option (List AV)
  | [] => some []
  | r :: rs => (res1 T M r).bind fun x => (resL T M rs).map (x :: ·)
def resRV (rs : List RV) (T : Tm) (M : Mem) : Option AV :=
  match rs with
  | [r] => res1 T M r
  | rs => (resL T M rs).map .tup
section
variable {P : Program} {g : Gh} {M : Mem} {w : World} {T : Tm} {a : Act}
def rdR (tmps : Array Value) : ResultVar → Sem Value
  | .tmp t => pure (tmps.getD t undef)
  | .cell ad t => do loadVar t (← asAddr (tmps.getD ad undef))
theorem res1_rel (hm : MemRel g M w) (hT : RelT g M w T a) {r : ResultVar} {x : RV} (h : rvOf P r = some x) {v : AV} (hv : res1 T M x = some v) :
    ∃ u, (rdR a.tmps r).run P w = .ok u w ∧ Rel g M w v u := by
  cases r with
  | tmp t =>
    cases h
    cases hv
    exact ⟨_, by simp [rdR], hT t⟩
  | cell ad t =>
    simp only [rvOf] at h
    split at h
    · rename_i ag n hag hn
      cases h
      simp only [res1] at hv
      split at hv
      · rename_i id i o e
        simp only [Option.bind_eq_some_iff] at hv
        obtain ⟨r, hr, hv⟩ := hv
        have hp := hT ad
        rw [e] at hp
        obtain ⟨_, rb, ro, size, hat, hu⟩ := hp.2 r hr
        obtain ⟨_, _, _, hD⟩ := row_at hm hr hat
        cases ag
        · simp only [Bool.false_eq_true, if_false] at hv
          obtain ⟨u, h1, h2⟩ := get1_rel hD hv
          exact ⟨u, by simp only [rdR, hu, Sem.run_bind, asAddr, Sem.run_pure, Result.andThen_ok]; exact run_load1 hag h1, h2⟩
        · simp only [if_true, Option.map_eq_some_iff] at hv
          obtain ⟨cs, hc, rfl⟩ := hv
          obtain ⟨hl, hM⟩ := getN_rel hD hc
          obtain ⟨u, h1, h2⟩ := run_loadN (P := P) hag hn hl hM
          exact ⟨u, by simp only [rdR, hu, Sem.run_bind, asAddr, Sem.run_pure, Result.andThen_ok]; exact h1, h2⟩
      · cases hv
    · cases h
theorem resL_rel (hm : MemRel g M w) (hT : RelT g M w T a) : ∀ {rs : List ResultVar} {xs : List RV} {vs : List AV}, rvsOf P rs = some xs → resL T M xs = some vs →
    ∃ us, (rs.mapM (rdR a.tmps)).run P w = .ok us w ∧ RelL g M w vs us
  | [], xs, vs, h, hv => by
    cases h
    cases hv
    exact ⟨[], by simp, rfl⟩
  | r :: rs, xs, vs, h, hv => by
    simp only [rvsOf] at h
    split at h
    · rename_i x xs' e1 e2
      cases h
      simp only [resL, Option.bind_eq_some_iff, Option.map_eq_some_iff] at hv
      obtain ⟨v, h1, vs', h2, rfl⟩ := hv
      obtain ⟨u, p1, p2⟩ := res1_rel hm hT e1 h1
      obtain ⟨us, p3, p4⟩ := resL_rel hm hT e2 h2
      refine ⟨u :: us, ?_, u, us, rfl, p2, p4⟩
      rw [List.mapM_cons]
      simp only [Sem.run_bind, p1, p3, Sem.run_pure, Result.andThen_ok]
    · cases h
theorem resRV_rel {fn : Func} (hm : MemRel g M w) (hT : RelT g M w T a) {xs : List RV} (h : rvsOf P fn.results.toList = some xs) {v : AV} (hv : resRV xs T M = some v) :
    ∃ u, (results fn a.tmps).run P w = .ok u w ∧ Rel g M w v u := by
  have key : ∀ vs, resL T M xs = some vs → ∃ us, (results fn a.tmps).run P w = .ok (if h : us.length = 1 then us[0] else .tuple us.toArray) w ∧ RelL g M w vs us := by
    intro vs hvs
    obtain ⟨us, p1, p2⟩ := resL_rel hm hT h hvs
    refine ⟨us, ?_, p2⟩
    unfold results
    rw [Array.mapM_eq_mapM_toList]
    simp only [Sem.run_bind, Sem.run_map]
    have key0 : ∀ F : ResultVar → Sem Value, (∀ r, F r = rdR a.tmps r) → (fn.results.toList.mapM F).run P w = .ok us w := fun F hF => by rw [show F = rdR a.tmps from funext hF]; exact p1
    rw [key0 _ (fun r => by cases r <;> rfl)]
    simp only [Result.andThen_ok, Sem.run_pure]
    simp
  cases xs with
  | nil =>
    simp only [resRV, resL, Option.map_some] at hv
    cases hv
    obtain ⟨us, p1, p2⟩ := key [] rfl
    cases p2
    exact ⟨_, p1, [], rfl, rfl⟩
  | cons x xs =>
    cases xs with
    | nil =>
      simp only [resRV] at hv
      obtain ⟨us, p1, p2⟩ := key [v] (by simp [resL, hv])
      obtain ⟨u, r, rfl, p3, p4⟩ := p2
      cases p4
      exact ⟨_, p1, p3⟩
    | cons y l =>
      simp only [resRV, Option.map_eq_some_iff] at hv
      obtain ⟨vs, hvs, rfl⟩ := hv
      obtain ⟨us, p1, p2⟩ := key vs hvs
      have hl : vs.length = l.length + 2 := by
        have : ∀ (xs : List RV) vs, resL T M xs = some vs → vs.length = xs.length := by
          intro xs
          induction xs with
          | nil => intro vs h; cases h; rfl
          | cons x xs ih =>
            intro vs h
            simp only [resL, Option.bind_eq_some_iff, Option.map_eq_some_iff] at h
            obtain ⟨v, _, vs', h2, rfl⟩ := h
            simp [ih _ h2]
        simpa using this _ _ hvs
      have := relL_length p2
      rw [dif_neg (by omega)] at p1
      exact ⟨_, p1, us, rfl, p2⟩
end
def eqO (s : Sub) : Option AV → AV → Prop
  | some rv, v => v = sub s rv
  | none, _ => False
def retPV (rs : List RV) (v : AV) : Cont := fun x T' M' nb' => (x = .normal ∨ x = .ret) ∧ eqO (ren (lkσ [])) (resRV rs T' M') v
def retWV (n : Nat) (rs : List RV) (v : AV) : Cont := fun x T0 M0 nb0 => (x = .normal ∨ x = .ret) ∧ ∃ T' M' nb', Wk n 0 T0 M0 nb0 T' M' nb' ∧ eqO (ren (lkσ [])) (resRV rs T' M') v
def retCV (n k : Nat) (σ : List (Nat × Nat)) (slot : Nat) (rs : List RV) (out : Out) : Cont := fun x T0 M0 nb0 =>
  (x = .normal ∨ x = .ret) ∧ ∃ T' M' nb', Wk n k T0 M0 nb0 T' M' nb' ∧ ∃ new, okNew k new = true ∧ eqO (ren (lkσ (back σ new slot))) (resRV rs T' M') out.v ∧ out.eff = effOf (back σ new slot) M'
theorem retPV_W {n : Nat} {rs : List RV} {v : AV} {x : Exit} {T : Tm} {M : Mem} {nb : Nat} (h : retPV rs v x T M nb) : retWV n rs v x T M nb := ⟨h.1, T, M, nb, Wk.refl _ _ _ _ _, h.2⟩
theorem retWV_i {n : Nat} {rs : List RV} {v : AV} {T T2 : Tm} {M M2 : Mem} {nb nb2 : Nat} (hw : Wk n 0 T M nb T2 M2 nb2) (h : eqO (ren (lkσ [])) (resRV rs T2 M2) v) : retWV n rs v .ret T M nb := ⟨.inr rfl, _, _, _, hw, h⟩
theorem retCV_i {n k : Nat} {σ : List (Nat × Nat)} {slot : Nat} {rs : List RV} {out : Out} {T T2 : Tm} {M M2 : Mem} {nb nb2 : Nat} (hw : Wk n k T M nb T2 M2 nb2) (new : List (Nat × Nat)) (h1 : okNew k new = true)
    (h2 : eqO (ren (lkσ (back σ new slot))) (resRV rs T2 M2) out.v) (h3 : out.eff = effOf (back σ new slot) M2) : retCV n k σ slot rs out .ret T M nb := ⟨.inr rfl, _, _, _, hw, new, h1, h2, h3⟩
theorem retPV_r {rs : List RV} {v : AV} {T : Tm} {M : Mem} {nb : Nat} : retPV rs v .ret T M nb = eqO (ren (lkσ [])) (resRV rs T M) v := by simp [retPV]
theorem retPV_n {rs : List RV} {v : AV} {T : Tm} {M : Mem} {nb : Nat} : retPV rs v .normal T M nb = eqO (ren (lkσ [])) (resRV rs T M) v := by simp [retPV]
theorem eqO_s {s : Sub} {rv v : AV} : eqO s (some rv) v = (v = sub s rv) := (rfl)
theorem resRV_1 {r : RV} {T : Tm} {M : Mem} : resRV [r] T M = res1 T M r := (rfl)
theorem resRV_2 {r x : RV} {l : List RV} {T : Tm} {M : Mem} : resRV (r :: x :: l) T M = (resL T M (r :: x :: l)).map .tup := (rfl)
theorem resL_nil {T : Tm} {M : Mem} : resL T M [] = some [] := (rfl)
theorem resL_cons {r : RV} {l : List RV} {T : Tm} {M : Mem} : resL T M (r :: l) = (res1 T M r).bind fun x => (resL T M l).map (x :: ·) := (rfl)
theorem res1_t {t : Nat} {T : Tm} {M : Mem} : res1 T M (.t t) = some (T t) := (rfl)
theorem res1_c {t n : Nat} {ag : Bool} {T : Tm} {M : Mem} : res1 T M (.c t n ag) = (match T t with | .ptr id i o => (M id).bind fun r => if ag then (r.getN i o n).map .agg else r.get1 i o | _ => none) := (rfl)
theorem callOk_of_runV {P : Program} {f : FuncId} {fn : Func} {c : Code} {lc : LCode} {ks : Nat → Bool × List Nat} {rs : List RV} {args : List AV} {M : Mem} {slot : Nat} {out : Out} {σ : List (Nat × Nat)} {k : Nat}
    (hmix : P.follows .mixedOrders = true) (hf : P.funcs[f]? = some fn) (hb : fn.body = some c) (hname : (fn.name == "runtime.NumGoroutine") = false) (hres : rvsOf P fn.results.toList = some rs)
    (hcomp : compC P fn.ntmps ks c = some lc) (hlen : args.length ≤ fn.ntmps) (hσ1 : (σ.map (·.1)).Nodup) (hσ2 : σ.map (·.2) = List.range k) (hrd : ∀ x ∈ σ, x.1 ∈ out.rd) (hM : ∀ x ∈ σ, (M x.1).isSome = true)
    (hrun : run P fn.ntmps k lc (retCV fn.ntmps k σ slot rs out) (lkT (argT (ren (lkσ σ)) 0 args)) (lkM (renM M σ)) k) : CallOk P f args M slot out := by
  refine callOk_of_runR (RS := fun T M rv => resRV rs T M = some rv) hmix hf hb hname ?_ hcomp hlen hσ1 hσ2 hrd hM ?_
  · intro g M w T nb a rv st h
    exact resRV_rel st.mem st.tm hres h
  · refine run_imp lc (fun x T M nb ⟨h1, T', M', nb', hw, new, h2, h3, h4⟩ => ⟨h1, T', M', nb', hw, new, h2, ?_, h4⟩) _ _ _ hrun
    cases e : resRV rs T' M' with
    | none => rw [e] at h3; exact h3.elim
    | some rv => rw [e] at h3; exact ⟨rv, rfl, h3⟩
theorem callOk_pureV {P : Program} {f : FuncId} {fn : Func} {c : Code} {lc : LCode} {ks : Nat → Bool × List Nat} {rs : List RV} {args : List AV} {M : Mem} {slot : Nat} {v : AV}
    (hmix : P.follows .mixedOrders = true) (hf : P.funcs[f]? = some fn) (hb : fn.body = some c) (hname : (fn.name == "runtime.NumGoroutine") = false) (hres : rvsOf P fn.results.toList = some rs)
    (hcomp : compC P fn.ntmps ks c = some lc) (hlen : args.length ≤ fn.ntmps)
    (hrun : run P fn.ntmps 0 lc (retWV fn.ntmps rs v) (lkT (argT (ren (lkσ [])) 0 args)) (lkM []) 0) : CallOk P f args M slot { v } := by
  refine callOk_of_runV (σ := []) (k := 0) hmix hf hb hname hres hcomp hlen (by simp) (by simp) (by simp) (by simp) ?_
  exact run_imp lc (fun x T M nb ⟨h1, T', M', nb', hw, h2⟩ => ⟨h1, T', M', nb', hw, [], rfl, h2, rfl⟩) _ _ _ hrun
theorem enc_flatten {α : Type _} {f : α → AV} {xs : List α} : (enc f xs).flatten = xs.map f := by
  induction xs with
  | nil => rfl
  | cons x xs ih => simp only [enc, List.map_cons, List.flatten_cons]; rw [show (List.map (fun x => [f x]) xs).flatten = xs.map f from ih]; rfl
/-! ### a call that is handed rows, which are only read from then on, and gives new ones back -/
def rid : Sub := ren fun id => some id
mutual
theorem sub_id : ∀ a : AV, sub rid a = a
  | .own _ _ _ _ => rfl
  | .ptr _ _ _ => rfl
  | .ifc t v => by rw [sub, sub_id v]
  | .agg cs => by rw [sub, subL_id cs]
  | .tup vs => by rw [sub, subL_id vs]
  | .deep sz xs => by rw [sub, subLL_id xs]
  | .dptr cs => by rw [sub, subL_id cs]
  | .fn f caps => by rw [sub, subL_id caps]
  | .k v => rfl
  | .i kd n => rfl
  | .b x => rfl
  | .s x => rfl
  | .undef => rfl
theorem subL_id : ∀ l : List AV, subL rid l = l
  | [] => rfl
  | x :: xs => by rw [subL, sub_id x, subL_id xs]
theorem subLL_id : ∀ l : List (List AV), subLL rid l = l
  | [] => rfl
  | x :: xs => by rw [subLL, subL_id x, subLL_id xs]
end
theorem upd_app {M : Mem} : ∀ (a b : List (Nat × Option Row)), upd M (a ++ b) = upd (upd M b) a
  | [], b => rfl
  | (i, r) :: a, b => by
    funext id
    rw [List.cons_append, upd, upd, upd_app a b]
theorem upd_base {M M' : Mem} {id : Nat} (h : M id = M' id) : ∀ e : List (Nat × Option Row), upd M e id = upd M' e id
  | [] => h
  | (i, r) :: e => by simp only [upd, upd_base h e]
theorem callOk_frE {P : Program} {f : FuncId} {args args' : List AV} {M : Mem} {slot : Nat} {v : AV} {eff : List (Nat × Option Row)} (fr : List (Nat × Row)) (h : CallOk P f args' mem0 slot { v := v, eff := eff })
    (hok : frOk M fr) (he : subL (ren fun _ => none) (frs fr args) = args') (hsl : ∀ x ∈ eff, slot ≤ x.1 ∧ x.1 < slot + 8) :
    CallOk P f args M slot { v := v, eff := fr.map (fun x => (x.1, none)) ++ eff, rd := fr.map (·.1) } := by
  subst he
  refine ⟨h.1, ?_⟩
  intro Mx hMx g w us hm hus hslot
  have hok' : frOk Mx fr := by
    have key : ∀ (fr : List (Nat × Row)) (M M' : Mem), (∀ id ∈ fr.map (·.1), M' id = M id) → frOk M fr → frOk M' fr := by
      intro fr
      induction fr with
      | nil => intro _ _ _ _; trivial
      | cons x fr ih =>
        obtain ⟨id, r⟩ := x
        rintro M M' h ⟨h1, h2⟩
        refine ⟨(h id (by simp)).trans h1, ih _ _ ?_ h2⟩
        intro i hi
        simp only [frz]
        split
        · rfl
        · rw [h i (by simp at hi ⊢; exact .inr hi)]
    exact key fr M Mx hMx hok
  have hfrL : ∀ id ∈ fr.map (·.1), g.L id := by
    have key : ∀ (fr : List (Nat × Row)) (M : Mem), (∀ id r, M id = some r → g.L id) → frOk M fr → ∀ id ∈ fr.map (·.1), g.L id := by
      intro fr
      induction fr with
      | nil => intro _ _ _ id h; cases h
      | cons x fr ih =>
        obtain ⟨id, r⟩ := x
        rintro M hk ⟨h1, h2⟩ i hi
        rcases List.mem_cons.1 hi with rfl | hi
        · exact hk _ _ h1
        · refine ih _ ?_ h2 i hi
          intro id' r' h
          simp only [frz] at h
          split at h
          · cases h
          · obtain ⟨r0, p1, _⟩ := Option.map_eq_some_iff.1 h
            exact hk _ _ p1
    exact key fr Mx hm.known hok'
  obtain ⟨g2, M2, m2, r2, z2, u2, l2, a2, zz2, k2⟩ := freeze_list fr hm hok'
  let g3 : Gh := { at_ := fun _ => none, Z := g2.Z, U := fun b => g2.U b ∨ ∃ id r x, M2 id = some r ∧ g2.at_ id = some x ∧ x.1 = b, L := fun _ => False }
  have hblock : ∀ id r x, M2 id = some r → g2.at_ id = some x → ¬ g2.U x.1 ∧ x.1 < w.heap.size := by
    intro id r x h1 h2
    rcases m2.row id r h1 with ⟨_, h⟩ | ⟨rb, ro, size, k1, k2, ⟨arr, ty, fz, k3, _⟩, _⟩
    · rw [h2] at h; cases h
    · rw [h2] at k1
      cases k1
      obtain ⟨h, _⟩ := Array.getElem?_eq_some_iff.1 k3
      exact ⟨k2, h⟩
  have E3 : SubOk (ren fun _ => none) g2 M2 w g3 mem0 w := ren_ok (fun _ _ h => by cases h) (fun _ _ h => by cases h) (fun _ h => h) (fun _ _ => rfl)
  have m3 : MemRel g3 mem0 w := by
    refine ⟨fun b h => .inl (m2.zu b h), ?_, fun _ _ h => absurd h (by simp [mem0]), fun _ _ h => absurd h (by simp [mem0]), m2.lay.st (fun _ h => .inl h) (fun _ _ => rfl), fun _ _ _ _ _ _ h => absurd h (by simp [mem0])⟩
    rintro b (h | ⟨id, r, x, h2, h3, rfl⟩)
    · exact m2.ul b h
    · exact (hblock id r x h2 h3).2
  refine (h.2 mem0 (fun _ h => by cases h) g3 w us m3 (RelL.sub E3 _ _ (r2 _ _ hus)) (fun _ _ _ h => h)).mono ?_
  rintro e w' ⟨u, g', rfl, hu, hm', hE0, hnew⟩
  have hnew' : ∀ id, g'.L id → slot ≤ id ∧ id < slot + 8 := fun id h => by
    rcases hnew id h with h | h
    · exact h.elim
    · exact h
  let M4 : Mem := upd Mx (fr.map (fun x => (x.1, none)) ++ eff)
  let g4 : Gh := { at_ := fun id => if slot ≤ id ∧ id < slot + 8 then g'.at_ id else g.at_ id, Z := g'.Z, U := fun b => g.U b ∨ g'.Z b, L := fun id => g.L id ∨ g'.L id }
  have hLn : ∀ {id}, g.L id → ¬ (slot ≤ id ∧ id < slot + 8) := fun h1 h2 => hslot _ h2.1 h2.2 h1
  have hat1 : ∀ {id}, (slot ≤ id ∧ id < slot + 8) → g4.at_ id = g'.at_ id := fun h => if_pos h
  have hat2 : ∀ {id}, ¬ (slot ≤ id ∧ id < slot + 8) → g4.at_ id = g.at_ id := fun h => if_neg h
  have hMn : ∀ {id}, (slot ≤ id ∧ id < slot + 8) → Mx id = none := fun {id} h => by
    cases e : Mx id with
    | none => rfl
    | some r => exact absurd (hm.known _ _ e) (hslot _ h.1 h.2)
  have hM4n : ∀ {id}, (slot ≤ id ∧ id < slot + 8) → M4 id = upd mem0 eff id := fun {id} h => by
    have hnf : id ∉ fr.map (·.1) := fun hf => hslot _ h.1 h.2 (hfrL _ hf)
    show upd Mx (fr.map (fun x => (x.1, none)) ++ eff) id = _
    rw [upd_app, (upd_frOut (M := upd Mx eff) fr).2 hnf]
    exact upd_base (by rw [hMn h]; rfl) eff
  have hM4o : ∀ {id r}, ¬ (slot ≤ id ∧ id < slot + 8) → M4 id = some r → id ∉ fr.map (·.1) ∧ Mx id = some r := by
    intro id r hn h
    have h' : upd Mx (fr.map (fun x => (x.1, none)) ++ eff) id = some r := h
    rw [upd_app] at h'
    by_cases hin : id ∈ fr.map (·.1)
    · rw [(upd_frOut (M := upd Mx eff) fr).1 hin] at h'
      cases h'
    · rw [(upd_frOut (M := upd Mx eff) fr).2 hin] at h'
      refine ⟨hin, ?_⟩
      rw [upd_other] at h'
      · exact h'
      · intro h2
        obtain ⟨x, hx, rfl⟩ := List.mem_map.1 h2
        exact hn (hsl x hx)
  have hrowU : ∀ id r x, Mx id = some r → g.at_ id = some x → ¬ g.U x.1 := by
    intro id r x h1 h2
    rcases hm.row id r h1 with ⟨_, h⟩ | ⟨rb, ro, size, k1, k2, _⟩
    · rw [h2] at h; cases h
    · rw [h2] at k1; cases k1; exact k2
  have hE : Evo g Mx w g4 M4 w' := by
    refine ⟨fun _ h => .inl h, fun b h => hE0.Z b (z2 b h), ?_, fun _ h => .inl h, fun b hb => hE0.keep b (.inl (u2 b hb)), hE0.size, hE0.os, hE0.tape, hE0.output, ?_⟩
    · intro b hb
      rcases hE0.Zn b hb with h | h
      · rcases zz2 b h with h | ⟨id, r, x, _, q2, q3, rfl, _⟩
        · exact .inl h
        · exact .inr (hrowU id r x q2 q3)
      · exact .inr fun h2 => h (.inl (u2 b h2))
    · intro id hl r' hr'
      exact ⟨r', (hM4o (hLn hl) hr').2, hat2 (hLn hl), rfl, rfl⟩
  have E4 : SubOk rid g' (upd mem0 eff) w' g4 M4 w' := by
    refine ren_ok ?_ ?_ (fun _ h => h) (fun _ _ => rfl)
    · intro id id' h hl
      cases h
      exact .inr hl
    · intro id id' h hl r' hr'
      cases h
      have hr := hnew' _ hl
      rw [hM4n hr] at hr'
      exact ⟨r', hr', hat1 hr, rfl, rfl⟩
  have hUold : ∀ {id r x}, ¬ (slot ≤ id ∧ id < slot + 8) → M4 id = some r → g.at_ id = some x → g3.U x.1 := by
    intro id r x hn h hx
    obtain ⟨hin, hr⟩ := hM4o hn h
    obtain ⟨rr, hrr⟩ := k2 id r hin hr
    exact .inr ⟨id, rr, _, hrr, by rw [a2]; exact hx, rfl⟩
  have hUnew : ∀ {id r x}, (slot ≤ id ∧ id < slot + 8) → M4 id = some r → g'.at_ id = some x → ¬ g'.U x.1 := by
    intro id r x hn h hx
    rw [hM4n hn] at h
    rcases hm'.row id r h with ⟨_, h⟩ | ⟨rb, ro, size, k1, k2, _⟩
    · rw [hx] at h; cases h
    · rw [hx] at k1; cases k1; exact k2
  refine ⟨u, g4, rfl, ?_, ⟨fun b h => .inr h, ?_, ?_, ?_, hm.lay.evo hE, ?_⟩, hE, ?_⟩
  · have := Rel.sub E4 _ _ hu
    rwa [sub_id] at this
  · rintro b (h | h)
    · exact Nat.lt_of_lt_of_le (hm.ul b h) hE0.size
    · exact hm'.ul b (hm'.zu b h)
  · intro id r h
    by_cases hn : slot ≤ id ∧ id < slot + 8
    · exact .inr (hm'.known id r (by rw [← hM4n hn]; exact h))
    · exact .inl (hm.known _ _ (hM4o hn h).2)
  · intro id r h
    by_cases hn : slot ≤ id ∧ id < slot + 8
    · have h' : M4 id = some r := h
      rw [hM4n hn] at h'
      have := rowAt_ren E4 (hm'.row id r h') (hat1 hn) ?_ (fun _ _ => rfl)
      · rwa [show subRow rid r = r by simp [subRow, subLL_id]] at this
      · intro x hx hu
        rintro (h1 | h1)
        · exact hu (hE0.U _ (.inl (u2 _ h1)))
        · exact hu (hm'.zu _ h1)
    · obtain ⟨hin, hr⟩ := hM4o hn h
      rcases hm.row id r hr with ⟨k1, k3⟩ | ⟨rb, ro, size, q1, q2, q3, q4, q5⟩
      · exact .inl ⟨k1, (hat2 hn).trans k3⟩
      · have hUb : g3.U rb := hUold hn h q1
        have hkeep := hE0.keep rb hUb
        refine .inr ⟨rb, ro, size, (hat2 hn).trans q1, ?_, ?_, q4, RelD.evo hE hm.zu _ _ _ _ hkeep q5⟩
        · rintro (h | h)
          · exact q2 h
          · rcases hE0.Zn rb h with h | h
            · rcases zz2 rb h with h | ⟨id', r', x, p1, p2, p3, p4, _⟩
              · exact q2 (hm.zu _ h)
              · obtain rfl := hm.inj _ _ _ _ _ _ hr p2 q1 p3 p4.symm
                exact hin p1
            · exact h hUb
        · obtain ⟨arr, ty, fz, p1, p2, p3⟩ := q3
          exact ⟨arr, ty, fz, hkeep.trans p1, p2, p3⟩
  · intro id id' r r' x x' e1 e2 e3 e4 e5
    by_cases hn : slot ≤ id ∧ id < slot + 8
    · rw [hat1 hn] at e3
      by_cases hn2 : slot ≤ id' ∧ id' < slot + 8
      · rw [hat1 hn2] at e4
        exact hm'.inj _ _ _ _ _ _ (by rw [← hM4n hn]; exact e1) (by rw [← hM4n hn2]; exact e2) e3 e4 e5
      · rw [hat2 hn2] at e4
        exact absurd (by rw [e5]; exact hE0.U _ (hUold hn2 e2 e4)) (hUnew hn e1 e3)
    · rw [hat2 hn] at e3
      by_cases hn2 : slot ≤ id' ∧ id' < slot + 8
      · rw [hat1 hn2] at e4
        exact absurd (by rw [← e5]; exact hE0.U _ (hUold hn e1 e3)) (hUnew hn2 e2 e4)
      · rw [hat2 hn2] at e4
        exact hm.inj _ _ _ _ _ _ (hM4o hn e1).2 (hM4o hn2 e2).2 e3 e4 e5
  · rintro id (h | h)
    · exact .inl h
    · exact .inr (hnew' _ h)
theorem guardP_d {c : Prop} [Decidable c] {p q : Prop} (h1 : c → p) (h2 : ¬ c → q) : guardP (some (decide c)) p q := by
  by_cases h : c
  · simp only [h, decide_true]; exact h1 h
  · simp only [h, decide_false]; exact h2 h
theorem guardP_nd {c : Prop} [Decidable c] {p q : Prop} (h1 : c → q) (h2 : ¬ c → p) : guardP (some (!decide c)) p q := by
  by_cases h : c
  · simp only [h, decide_true]; exact h1 h
  · simp only [h, decide_false]; exact h2 h
theorem condP_d {c : Prop} [Decidable c] {p q : Prop} (h1 : c → p) (h2 : ¬ c → q) : condP (.b (decide c)) p q := by
  by_cases h : c
  · simp only [h, decide_true]; exact h1 h
  · simp only [h, decide_false]; exact h2 h
theorem condP_nd {c : Prop} [Decidable c] {p q : Prop} (h1 : c → q) (h2 : ¬ c → p) : condP (.b (!decide c)) p q := by
  by_cases h : c
  · simp only [h, decide_true]; exact h1 h
  · simp only [h, decide_false]; exact h2 h
theorem guardP_n {t : Bool} {p q : Prop} (h1 : t = true → q) (h2 : t = false → p) : guardP (some (!t)) p q := by
  cases t
  · exact h2 rfl
  · exact h1 rfl
theorem guardP_nn {t : Bool} {p q : Prop} (h1 : t = true → p) (h2 : t = false → q) : guardP (some (!!t)) p q := by
  cases t
  · exact h2 rfl
  · exact h1 rfl
theorem condP_n {t : Bool} {p q : Prop} (h1 : t = true → q) (h2 : t = false → p) : condP (.b (!t)) p q := by
  cases t
  · exact h2 rfl
  · exact h1 rfl
theorem condP_nn {t : Bool} {p q : Prop} (h1 : t = true → p) (h2 : t = false → q) : condP (.b (!!t)) p q := by
  cases t
  · exact h2 rfl
  · exact h1 rfl
theorem w64_0 : IntKind.i64.wrap 0 = 0 := by decide
theorem w64_1 : IntKind.i64.wrap 1 = 1 := by decide
theorem w64_2 : IntKind.i64.wrap 2 = 2 := by decide
theorem w64_4 : IntKind.i64.wrap 4 = 4 := by decide
theorem w64_8 : IntKind.i64.wrap 8 = 8 := by decide
set_option linter.defProp false
/-! the words of results in cells, bound together -/
def vV :=
  And.intro @w64_0 (And.intro @w64_1 (And.intro @w64_2 (And.intro @w64_4 (And.intro @w64_8 (And.intro @retPV_r (And.intro @retPV_n (And.intro @eqO_s (And.intro @resRV_1 (And.intro @resRV_2 (And.intro @resL_nil (And.intro @resL_cons (And.intro @res1_t (And.intro @res1_c (And.intro @enc_flatten (And.intro @List.drop_succ_cons.{0} (And.intro @List.flatten_cons.{0} (And.intro @List.flatten_nil.{0} (And.intro @List.cons_append.{0} @List.drop_nil.{0}))))))))))))))))))
end Go.Vm
