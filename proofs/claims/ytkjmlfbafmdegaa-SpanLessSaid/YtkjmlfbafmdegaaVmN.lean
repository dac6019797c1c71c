import Derived.Test.YtkjmlfbafmdegaaVmM
import Derived.Lib.AppendZeros
namespace Go.Vm
set_option linter.unusedSectionVars false
set_option linter.unusedSimpArgs false
set_option linter.unusedVariables false
open Go
variable [Inhabited LayT]
section
variable {P : Program} {o : Oper} {a : Act} {w : World} {g : Gh} {M : Mem} {slot : Nat} {T : Tm}

theorem grownCap_ge (w : World) (need old : Nat) (e : TypeId) : need ≤ grownCap w need old e := by
  unfold grownCap; simp only [Question.cut]; omega

theorem take_flat {sz : Nat} {α : Type} : ∀ (el : List (List α)) (k : Nat), (∀ c ∈ el, c.length = sz) → (el.take k).flatten = el.flatten.take (k * sz)
  | [], k, _ => by simp
  | x :: xs, 0, _ => by simp
  | x :: xs, k + 1, h => by
    have hx : x.length = sz := h x (by simp)
    have e1 : (k + 1) * sz = x.length + k * sz := by rw [hx, Nat.add_mul]; omega
    rw [List.take_succ_cons, List.flatten_cons, List.flatten_cons, take_flat xs k (fun c hc => h c (by simp [hc])), e1, List.take_length_add_append]

/-- Appended, where a new block is made. -/
theorem res_app_new (hm : MemRel g M w) (hs : ¬ g.L slot) {t tx e e' : TypeId} {i : TypeInfo} {z : Value} {s x : Operand} {ty : TypeId} (ho : o.op = .call { callee := .builtin .append, args := #[s, x], argTypes := #[t, tx] }) (hty : o.type = ty)
    (ht : P.underlying t = some (.slice e)) (htx : P.underlying tx = some (.slice e')) (hi : P.info? e = some i) (hz : i.zero = some z) (hzs : z.cells.size = i.size)
    {A B : Option Addr} {n c m d : Nat} {olds news : List Value} {xs ys : List (List AV)} (hxs : xs.length = n) (hys : ys.length = m)
    (hes : a.eval s = .slice A n c) (hex : a.eval x = .slice B m d) (hg : c < n + m)
    (hold : (Builtin.firstCells i.size n (.slice A n c)).run P w.drew = .ok olds.toArray w.drew) (hol : olds.length = n * i.size) (ho1 : ∀ v ∈ olds, v.oneCell' = true) (hor : RelL g M w xs.flatten olds) (hoz : ∀ c ∈ xs, c.length = i.size)
    (hsrc : Src P i.size tx (.slice B m d) m news w) (hn1 : ∀ v ∈ news, v.oneCell' = true) (hnr : RelL g M w ys.flatten news) (hnz : ∀ c ∈ ys, c.length = i.size)
    (hby : (n + m) * i.bytes ≤ 140737488355328) (h63 : n + m ≤ 4611686018427387904) {M' : Mem}
    (h1 : M' slot = some ⟨i.size, xs ++ ys⟩) (h2 : ∀ id, id ≠ slot → M' id = M id ∨ M' id = none) :
    ∃ u w' g', OpRun P o a w u w' ∧ Rel g' M' w' (.own slot 0 (n + m) 1) u ∧ MemRel g' M' w' ∧ Evo g M w g' M' w' ∧ ∀ id, g'.L id → g.L id ∨ id = slot := by
  have hnl := hsrc.newsLen
  have hrun := run_append_grow_src (P := P) w t tx ty e i z ht hi hz A n c olds hold (.slice B m d) m news hsrc hg (by omega) (growslice_fits hg hby)
  have hcap := grownCap_ge w (n + m) c e
  obtain ⟨hm', hE⟩ := install (M' := M') (r := ⟨i.size, xs ++ ys⟩) (ro := 0) (us := olds ++ news) hm hs
    (grew_push hm (w0 := w.drew) rfl rfl ⟨rfl, Nat.le_succ _⟩ rfl (.cells ((olds ++ news).toArray ++ Builtin.zeroCells z.cells (grownCap w (n + m) c e - (n + m))) e)) h1 h2 (at_fresh hm hs h2)
    (block_push (w0 := w.drew) (n := w.heap.size) rfl _ e)
    (by simp [size_zeroCells, hol, hnl, hzs, hxs, hys, Nat.add_mul])
    (fun cs hcs => by rcases List.mem_append.1 hcs with h | h; exact hoz cs h; exact hnz cs h)
    (by rw [List.flatten_append]; exact relL_append hor hnr)
    (fun v hv => by rcases List.mem_append.1 hv with h | h; exact ho1 v h; exact hn1 v h)
    (fun j v hj => by
      have hjl := (List.getElem?_eq_some_iff.1 hj).1
      rw [Nat.zero_add, cell_push (w0 := w.drew) (n := w.heap.size) rfl, Array.getElem?_append_left (by simpa using hjl)]
      simpa using hj)
  refine ⟨.slice (some ⟨w.heap.size, 0, none⟩) (n + m) (grownCap w (n + m) c e), _, _, .inl ?_, ⟨Or.inr rfl, fun r hr => ?_⟩, hm', hE, fun id h => h⟩
  · simp [execOp, ho, resolve, invoke, builtin, hes, hex, hty, hrun, World.alloc]
  · rw [h1] at hr
    cases hr
    refine ⟨by simp; omega, _, _, rfl, hcap, fun _ => ⟨w.heap.size, 0, _, by simp [Gh.add]; rfl, by simp, ?_⟩⟩
    simp [size_zeroCells, hol, hnl, hzs]
    rw [← Nat.add_mul, ← Nat.add_mul]
    exact Nat.mul_le_mul_right _ (by omega)

theorem step_app (hm : MemRel g M w) (hs : ¬ g.L slot) (hT : RelT g M w T a) {t tx e e' : TypeId} {i : TypeInfo} {z : Value} {s x : Operand} (ho : o.op = .call { callee := .builtin .append, args := #[s, x], argTypes := #[t, tx] })
    (ht : P.underlying t = some (.slice e)) (htx : P.underlying tx = some (.slice e')) (hi : P.info? e = some i) (hz : i.zero = some z) (h0 : 0 < i.size) (hzs : z.cells.size = i.size) {out : Out}
    (h : step T M slot (.app i.size i.bytes s x) = some out) : Res P o a w g M slot out := by
  have hsr := rel_ev hT s
  have hxr := rel_ev hT x
  simp only [step] at h
  split at h
  · rename_i e1
    rw [e1] at hsr
    have hes : a.eval s = .slice none 0 0 := hsr
    simp only [Option.bind_eq_some_iff] at h
    obtain ⟨⟨ys, rd⟩, hel, h⟩ := h
    simp only at h
    split at h
    · rename_i hc
      obtain rfl := Option.some.inj h
      obtain ⟨A, c, news, hex, hle, r1, r2, r3, r4, r5, r6⟩ := elems_rel hm hel hxr
      have hsrc := src_of (w := w) (c := c) htx r3 r4 (fun hA => by rw [r5 hA]; rfl) r6
      rcases Nat.eq_zero_or_pos ys.length with hy | hy
      · have hys : ys = [] := List.eq_nil_of_length_eq_zero hy
        subst hys
        obtain rfl : news = [] := List.eq_nil_of_length_eq_zero (by simpa using r3)
        have hrun := run_append_nothing (P := P) w t tx o.type e i ht hi none 0 0 (Nat.le_refl _) (.slice A 0 c) hsrc
        obtain ⟨hm', hE⟩ := install_nil (M' := upd M [(slot, some ⟨i.size, []⟩)]) hm hs (upd1 _ _ _) (upd1_ne _ _ _)
        refine ⟨.slice none 0 0, w, _, .inl ?_, ⟨Or.inr rfl, fun r hr => ?_⟩, hm', hE, fun id h => h⟩
        · simp only [List.length_nil] at hex
          simp [execOp, ho, resolve, invoke, builtin, hes, hex, hrun]
        · rw [upd1] at hr
          cases hr
          exact ⟨by simp, none, 0, rfl, by simp, fun h => by omega⟩
      · have := res_app_new (P := P) (o := o) (a := a) (M' := upd M [(slot, some ⟨i.size, ys⟩)]) hm hs ho rfl ht htx hi hz hzs (xs := []) (ys := ys) (n := 0) (olds := []) rfl rfl hes hex (by omega)
          (by rw [run_firstCells_none]) (by simp) (by simp) rfl (by simp) hsrc r4 r1 r2 (by simpa using hc.1) (by simpa using hc.2) (by simpa using upd1 M slot _) (upd1_ne _ _ _)
        simpa [Res] using this
    · cases h
  · rename_i id off n e1
    rw [e1] at hsr
    simp only [Option.bind_eq_some_iff] at h
    obtain ⟨r, hr, ⟨ys, rd⟩, hel, h⟩ := h
    simp only at h
    split at h
    · rename_i hc
      obtain ⟨c1, c2, c3⟩ := hc
      obtain rfl := Option.some.inj h
      obtain ⟨B, d, news, hex, hle, r1, r2, r3, r4, r5, r6⟩ := elems_rel hm hel hxr
      have hsrc := src_of (w := w) (c := d) htx r3 r4 (fun hA => by rw [r5 hA]; rfl) r6
      obtain ⟨hlen, A, c, hes, hnc, hA⟩ := hsr.2 r hr
      have hid : id ≠ slot := fun e => hs (e ▸ hm.known id r hr)
      have hM1 : upd M [(slot, some ⟨i.size, (r.el.drop off).take n ++ ys⟩), (id, none)] slot = some ⟨i.size, (r.el.drop off).take n ++ ys⟩ := by simp [upd]
      have hM2 : ∀ id', id' ≠ slot → upd M [(slot, some ⟨i.size, (r.el.drop off).take n ++ ys⟩), (id, none)] id' = M id' ∨ upd M [(slot, some ⟨i.size, (r.el.drop off).take n ++ ys⟩), (id, none)] id' = none := by
        intro id' h
        by_cases e2 : id' = id
        · exact .inr (by simp [upd, h, e2, hid])
        · exact .inl (by simp [upd, h, e2])
      have hlx : ((r.el.drop off).take n).length = n := by simp; omega
      rcases Nat.eq_zero_or_pos c with hc0 | hc0
      · -- no room, and nothing there
        subst hc0
        have hn : n = 0 := by omega
        subst hn
        rcases Nat.eq_zero_or_pos ys.length with hy | hy
        · have hys : ys = [] := List.eq_nil_of_length_eq_zero hy
          subst hys
          obtain rfl : news = [] := List.eq_nil_of_length_eq_zero (by simpa using r3)
          have hrun := run_append_nothing (P := P) w t tx o.type e i ht hi A 0 0 (Nat.le_refl _) (.slice B 0 d) hsrc
          obtain ⟨hm', hE⟩ := install_nil hm hs (by simpa using hM1) hM2
          refine ⟨.slice A 0 0, w, _, .inl ?_, ⟨Or.inr rfl, fun r' hr' => ?_⟩, hm', hE, fun id h => h⟩
          · simp only [List.length_nil] at hex
            simp [execOp, ho, resolve, invoke, builtin, hes, hex, hrun]
          · rw [hM1] at hr'
            cases hr'
            exact ⟨by simp, A, 0, rfl, by simp, fun h => by omega⟩
        · have := res_app_new (P := P) (o := o) (a := a) hm hs ho rfl ht htx hi hz hzs (xs := []) (ys := ys) (n := 0) (olds := []) rfl rfl hes hex (by omega)
            (by cases A with
                | none => rw [run_firstCells_none]
                | some ad => exact run_firstCells_some w.drew i.size 0 ad 0 0 [] (by simp) (by simp)) (by simp) (by simp) rfl (by simp) hsrc r4 r1 r2 (by simpa using c2) (by simpa using c3) (by simpa using hM1) hM2
          simpa [Res] using this
      · obtain ⟨rb, ro, size, hat, rfl, hfit⟩ := hA hc0
        obtain ⟨hU, hblk, hfr, hD⟩ := row_at hm hr hat
        have hD' := relD_take n (relD_drop off hD)
        obtain ⟨olds, q1, q2, q3, q4, q5⟩ := relD_vals hD'
        rw [hlx] at q3
        rw [c1] at q2 q3
        rcases Nat.lt_or_ge c (n + ys.length) with hg | hg
        · -- a new block
          have := res_app_new (P := P) (o := o) (a := a) hm hs ho rfl ht htx hi hz hzs (xs := (r.el.drop off).take n) (ys := ys) (olds := olds) hlx rfl hes hex hg
            (run_firstCells_some w.drew i.size n _ n c olds q3 (by intro j v hj; rw [World.cell?_drew]; exact q5 j v hj)) q3 q4 q1 q2 hsrc r4 r1 r2 c2 c3 hM1 hM2
          exact this
        · -- room
          obtain ⟨arr, ty0, fz, k1, k2, k3⟩ := hblk
          rw [c1] at hfit
          have hle1 : (n + ys.length) * i.size ≤ c * i.size := Nat.mul_le_mul_right _ hg
          have hcs : ∀ j, j < news.length → ro + off * r.sz + n * i.size + j < size := by
            intro j hj
            rw [Nat.add_mul] at hle1
            rw [Nat.add_mul, Nat.mul_one] at hfit
            rw [c1]
            omega
          have hrun := run_append_room_src (P := P) w t tx o.type e i ht hi rb (ro + off * r.sz) n c (.slice B ys.length d) ys.length news hsrc hg
            (fun j hj => by
              have := hcs j hj
              simp [World.cell?, k1]
              omega)
            (fun j hj => by
              have := k3 _ (hcs j hj)
              simp only [World.frozen?, k1]
              simpa using this)
          have hol : olds.length = n * i.size := q3
          obtain ⟨hm', hE⟩ := install (us := olds ++ news) (rb := rb) (ro := ro + off * r.sz) (size := size) (w' := w.setCells rb (ro + off * r.sz + n * i.size) news) hm hs (grew_set (size := size) hU _ _) hM1 hM2
            (by
              intro id' r' hne hr' y hy heq
              rcases hM2 id' hne with h | h
              · rw [h] at hr'
                have := hm.inj id' id r' r y _ hr' hr hy hat heq
                subst this
                rw [show upd M [(slot, some ⟨i.size, (r.el.drop off).take n ++ ys⟩), (id', none)] id' = none by simp [upd, hne]] at h
                rw [hr] at h; cases h
              · rw [h] at hr'; cases hr')
            (block_set ⟨arr, ty0, fz, k1, k2, k3⟩ _ _)
            (by
              simp only [List.length_append, hlx]
              rw [Nat.add_mul, Nat.mul_one] at hfit
              rw [c1]; omega)
            (fun cs hcs => by rcases List.mem_append.1 hcs with h | h; exact q2 cs h; exact r2 cs h)
            (by rw [List.flatten_append]; exact relL_append q1 r1)
            (fun v hv => by rcases List.mem_append.1 hv with h | h; exact q4 v h; exact r4 v h)
            (fun j v hj => by
              rcases Nat.lt_or_ge j olds.length with hlt | hge
              · rw [List.getElem?_append_left hlt] at hj
                rw [World.cell?_setCells_out rb news _ w _ (fun _ _ => .inl (by simp only; omega))]
                have := q5 j v hj
                rwa [addr_add] at this
              · rw [List.getElem?_append_right hge] at hj
                have hlt := (List.getElem?_eq_some_iff.1 hj).1
                have hin := World.cell?_setCells_in rb news (ro + off * r.sz + n * i.size) w (fun j hj => by
                  have := hcs j hj
                  simp [World.cell?, k1]
                  omega) (j - olds.length) hlt
                rw [show ro + off * r.sz + j = ro + off * r.sz + n * i.size + (j - olds.length) by omega, hin]
                rw [List.getElem?_eq_getElem hlt] at hj
                exact hj)
          refine ⟨.slice (some ⟨rb, ro + off * r.sz, none⟩) (n + ys.length) c, _, _, .inl ?_, ⟨Or.inr rfl, fun r' hr' => ?_⟩, hm', hE, fun id h => h⟩
          · simp [execOp, ho, resolve, invoke, builtin, hes, hex, hrun]
          · rw [hM1] at hr'
            cases hr'
            refine ⟨by simp; omega, _, _, rfl, hg, fun _ => ⟨rb, ro + off * r.sz, size, by simp [Gh.add], by simp, ?_⟩⟩
            simp only
            rw [Nat.add_mul, Nat.mul_one] at hfit
            rw [c1, Nat.zero_add, Nat.mul_one]
            omega
    · cases h
  · cases h

/-- Cells told anew where they lie, by what a look at them gives. -/
theorem relM_look {g g' : Gh} {M M' : Mem} {w w' : World} {blk : Nat} (E : Evo g M w g' M' w') (hz : ∀ b, g.Z b → g.U b) (hc : ∀ o, w'.cell? ⟨blk, o, none⟩ = w.cell? ⟨blk, o, none⟩) :
    ∀ (cs : List AV) (off : Nat), RelM g M w blk off cs → RelM g' M' w' blk off cs
  | [], _, _ => trivial
  | x :: xs, off, ⟨⟨u, hu, h0, h1⟩, h2⟩ => ⟨⟨u, (hc off).trans hu, h0, Rel.evo E hz x u h1⟩, relM_look E hz hc xs (off + 1) h2⟩
theorem relD_look {g g' : Gh} {M M' : Mem} {w w' : World} {blk sz : Nat} (E : Evo g M w g' M' w') (hz : ∀ b, g.Z b → g.U b) (hc : ∀ o, w'.cell? ⟨blk, o, none⟩ = w.cell? ⟨blk, o, none⟩) :
    ∀ (el : List (List AV)) (off : Nat), RelD g M w sz blk off el → RelD g' M' w' sz blk off el
  | [], _, _ => trivial
  | x :: xs, off, ⟨⟨h0, h1⟩, h2⟩ => ⟨⟨h0, relM_look E hz hc x off h1⟩, relD_look E hz hc xs (off + sz) h2⟩

theorem step_convSl (hm : MemRel g M w) (hT : RelT g M w T a) {src e0 e : TypeId} {x : Operand} (ho : o.op = .convert src src x)
    (hsrc : P.underlying src = some (.slice e)) (he : P.underlying e = some (.int .u8)) {out : Out}
    (h : step T M slot (.convSl x) = some out) : Res P o a w g M slot out := by
  have hx := rel_ev hT x
  simp only [step] at h
  split at h
  · rename_i id off n e1
    rw [e1] at hx
    simp only [Option.bind_eq_some_iff] at h
    obtain ⟨r, hr, h⟩ := h
    split at h
    · rename_i hn
      obtain rfl := Option.some.inj h
      obtain ⟨hlen, A, c, hu, hnc, hA⟩ := hx.2 r hr
      obtain ⟨rb, ro, size, hat, rfl, hfit⟩ := hA (by omega)
      obtain ⟨hU, ⟨arr, ty, fz, hb1, hb2, hb3⟩, hfit2, hD⟩ := row_at hm hr hat
      let w' : World := w.freeze ⟨rb, arr.size, none⟩ 1
      have hrb : rb < w.heap.size := (Array.getElem?_eq_some_iff.1 hb1).1
      have hw' : w' = { w with heap := w'.heap } := by simp only [w', World.freeze]; rfl
      have hfar : ∀ b, b ≠ rb → w'.heap[b]? = w.heap[b]? := by
        intro b hb
        simp only [w', World.freeze, Nat.one_ne_zero, if_false]
        rw [Array.getElem?_modify, if_neg (fun e => hb e.symm)]
      have hcell : ∀ o, w'.cell? ⟨rb, o, none⟩ = w.cell? ⟨rb, o, none⟩ := by
        intro o
        simp only [w', World.freeze, Nat.one_ne_zero, if_false, World.cell?]
        rw [Array.getElem?_modify, if_pos rfl, hb1]
        rfl
      have hconv : (convert src src (.slice (some ⟨rb, ro + off * r.sz, none⟩) n c)).run P w = .ok (.slice (some ⟨rb, ro + off * r.sz, none⟩) n c) w' := by
        have hsh : w.shape? rb = some (ty, arr.size) := by unfold World.shape?; rw [hb1]
        simp [convert, run_under hsrc, run_under he, markStringish, hsh, w']
      let fr : Nat → Prop := fun b => b = rb
      let g2 : Gh := { g with Z := fun b => g.Z b ∨ b = rb, U := fun b => g.U b ∨ b = rb }
      have hM2 : ∀ {i r'}, upd M [(id, none)] i = some r' → i ≠ id ∧ M i = some r' := by
        intro i r' h
        by_cases e : i = id
        · simp [upd, e] at h
        · simp [upd, e] at h; exact ⟨e, h⟩
      have hE : Evo g M w g2 (upd M [(id, none)]) w' := by
        refine ⟨fun _ h => h, fun _ h => .inl h, ?_, fun _ h => .inl h, fun b hb => hfar b (fun e => hU (e ▸ hb)), by simp [w', World.freeze], by rw [hw'], by rw [hw'], ⟨by rw [hw'], by rw [hw']; exact Nat.le_refl _⟩, ?_⟩
        · rintro b (h | rfl)
          · exact .inl h
          · exact .inr hU
        · intro i _ r' hr'
          exact ⟨r', (hM2 hr').2, rfl, rfl, rfl⟩
      refine ⟨.slice (some ⟨rb, ro + off * r.sz, none⟩) n c, w', g2, .inl (by simp [execOp, ho, hu, hconv]), ?_, ?_, hE, fun _ h => .inl h⟩
      · have hl : ((r.el.drop off).take n).length = n := by simp; omega
        refine ⟨_, c, by rw [hl], by rw [hl]; exact hnc, .inr ⟨rb, ro + off * r.sz, rfl, .inr rfl, ?_⟩⟩
        exact relD_look hE hm.zu hcell _ _ (relD_take _ (relD_drop _ hD))
      · refine ⟨fun b h => h.imp (hm.zu b) (fun x => x), ?_, fun i r' h => hm.known _ _ (hM2 h).2, ?_, hm.lay.evo hE, ?_⟩
        · have hsz : w'.heap.size = w.heap.size := by simp [w', World.freeze]
          rintro b (h | rfl)
          · rw [hsz]; exact hm.ul b h
          · rw [hsz]; exact hrb
        · intro i r' h
          obtain ⟨hi, h2⟩ := hM2 h
          rcases hm.row i r' h2 with h3 | ⟨rb', ro', size', q1, q2, q3, q4, q5⟩
          · exact .inl h3
          · have hne : rb' ≠ rb := fun e => hi (hm.inj _ _ _ _ _ _ h2 hr q1 hat e)
            have hb' := hfar rb' hne
            obtain ⟨arr', ty', fz', p1, p2, p3⟩ := q3
            refine .inr ⟨rb', ro', size', q1, ?_, ⟨arr', ty', fz', hb'.trans p1, p2, p3⟩, q4, RelD.evo hE hm.zu _ _ _ _ hb' q5⟩
            rintro (h | h)
            · exact q2 h
            · exact hne h
        · intro i i' r1 r2 x x' e1 e2 e3 e4 e5
          exact hm.inj _ _ _ _ _ _ (hM2 e1).2 (hM2 e2).2 e3 e4 e5
    · cases h
  · cases h

theorem step_appN (hm : MemRel g M w) (hs : ¬ g.L slot) (hT : RelT g M w T a) {t tn e : TypeId} {kn : IntKind} {i : TypeInfo} {z : Value} {s x : Operand} (ho : o.op = .call { callee := .builtin .append, args := #[s, x], argTypes := #[t, tn] })
    (ht : P.underlying t = some (.slice e)) (htn : P.underlying tn = some (.int kn)) (hi : P.info? e = some i) (hz : i.zero = some z) (h0 : 0 < i.size) (hzs : z.cells.size = i.size) (h1z : ∀ v ∈ z.cells.toList, v.oneCell' = true) {out : Out}
    (h : step T M slot (.appN i.size i.bytes z.cells.toList s x) = some out) : Res P o a w g M slot out := by
  have hsr := rel_ev hT s
  have hxr := rel_ev hT x
  simp only [step] at h
  split at h
  · rename_i kd n e1 e2
    rw [e1] at hsr
    rw [e2] at hxr
    have hes : a.eval s = .slice none 0 0 := hsr
    have hex : a.eval x = .int kd n := hxr
    split at h
    · rename_i hc
      obtain rfl := Option.some.inj h
      obtain ⟨c1, c2, c3⟩ := hc
      obtain ⟨m, rfl⟩ := Int.eq_ofNat_of_zero_le (Int.le_of_lt c1)
      have hm0 : 0 < m := by omega
      simp only [Int.ofNat_eq_natCast, Int.toNat_natCast] at c3 ⊢
      have hrun := Lib.run_append_nil_zeros (P := P) w t tn o.type e i z kd kn ht htn hi hz m hm0 h0 c2 c3
      have hcap := grownCap_ge w m 0 e
      refine res_new (w0 := w.drew) (arr := Builtin.zeroCells z.cells m ++ Builtin.zeroCells z.cells (grownCap w m 0 e - m)) (ty := e) (us := (List.replicate m z.cells.toList).flatten) (u := .slice (some ⟨w.heap.size, 0, none⟩) m (grownCap w m 0 e)) hm hs rfl rfl ⟨rfl, Nat.le_succ _⟩ rfl (.inl ?_) ?_ ?_ ?_ ?_ ?_ ?_
      · simp [execOp, ho, resolve, invoke, builtin, hes, hex, hrun, World.alloc]
      · intro cs hcs; rw [List.eq_of_mem_replicate hcs]; simp [cells1, hzs]
      · exact relL_replicate (relL_cst1 _) _
      · intro v hv
        simp only [List.mem_flatten] at hv
        obtain ⟨l, hl, hv⟩ := hv
        rw [List.eq_of_mem_replicate hl] at hv
        exact h1z v hv
      · intro j v hj
        have hjl := (List.getElem?_eq_some_iff.1 hj).1
        have hlen : ((List.replicate m z.cells.toList).flatten).length = m * z.cells.size := by simp [List.length_flatten]
        rw [Array.getElem?_append_left (by rw [size_zeroCells]; omega)]
        exact madeCells_get z.cells _ m (by omega) rfl j v hj
      · simp [size_zeroCells, hzs]
      · intro g' M' w' e1 e2 e3
        refine ⟨e2, fun r hr => ?_⟩
        rw [e3] at hr
        cases hr
        refine ⟨by simp, _, _, rfl, hcap, fun _ => ⟨w.heap.size, 0, _, e1, by simp, ?_⟩⟩
        simp [size_zeroCells, hzs]
        rw [← Nat.add_mul]
        exact Nat.mul_le_mul_right _ (by omega)
    · cases h
  · cases h
end
end Go.Vm
