import Derived.Test.YtndaokjifafhkaaGreatDoorVmM
import Derived.Lib.AppendZeros
namespace Go.Vm
set_option linter.unusedSectionVars false
set_option linter.unusedSimpArgs false
set_option linter.unusedVariables false
open Go
variable [Inhabited LayT]
section
variable {P : Program} {o : Oper} {a : Act} {w : World} {g : Gh} {M : Mem} {slot : Nat} {T : Tm}

theorem grownCap_ge (w : World) (need old : Nat) (e : TypeId) : need ≤ grownCap w need old e := by
  unfold grownCap; simp only [Question.cut]; omega

theorem take_flat {sz : Nat} {α : Type} : ∀ (el : List (List α)) (k : Nat), (∀ c ∈ el, c.length = sz) → (el.take k).flatten = el.flatten.take (k * sz)
  | [], k, _ => by simp
  | x :: xs, 0, _ => by simp
  | x :: xs, k + 1, h => by
    have hx : x.length = sz := h x (by simp)
    have e1 : (k + 1) * sz = x.length + k * sz := by rw [hx, Nat.add_mul]; omega
    rw [List.take_succ_cons, List.flatten_cons, List.flatten_cons, take_flat xs k (fun c hc => h c (by simp [hc])), e1, List.take_length_add_append]

/-- Appended, where a new block is made. -/
theorem res_app_new (hm : MemRel g M w) (hs : ¬ g.L slot) {t tx e : TypeId} {i : TypeInfo} {z : Value} {s x : Operand} {ty : TypeId} (ho : o.op = .call { callee := .builtin .append, args := #[s, x], argTypes := #[t, tx] }) (hty : o.type = ty)
    (ht : P.underlying t = some (.slice e)) (hi : P.info? e = some i) (hz : i.zero = some z) (h0 : 0 < i.size) (hzs : z.cells.size = i.size)
    {A : Option Addr} {X : Value} {n c m : Nat} {olds news : List Value} {xs ys : List (List AV)} (hxs : xs.length = n) (hys : ys.length = m)
    (hes : a.eval s = .slice A n c) (hex : a.eval x = X) (hg : c < n + m)
    (hold : (Builtin.firstCells i.size n (.slice A n c)).run P w.drew = .ok olds.toArray w.drew) (hol : olds.length = n * i.size) (ho1 : ∀ v ∈ olds, v.oneCell' = true) (hor : RelL g M w xs.flatten olds) (hoz : ∀ c ∈ xs, c.length = i.size)
    (hsrc : Src P i.size tx X m news w) (hn1 : ∀ v ∈ news, v.oneCell' = true) (hnr : RelL g M w ys.flatten news) (hnz : ∀ c ∈ ys, c.length = i.size)
    (hby : (n + m) * i.bytes ≤ 140737488355328) (h63 : n + m ≤ 4611686018427387904) {M' : Mem} {ty' : Option TypeId} (hty' : ∀ t', ty' = some t' → t' = e)
    (h1 : M' slot = some ⟨i.size, xs ++ ys, ty'⟩) (h2 : ∀ id, id ≠ slot → M' id = M id ∨ M' id = none) :
    ∃ u w' g', OpRun P o a w u w' ∧ Rel g' M' w' (.own slot 0 (n + m) 1) u ∧ MemRel g' M' w' ∧ Evo g M w g' M' w' ∧ ∀ id, g'.L id → g.L id ∨ id = slot := by
  have hnl := hsrc.newsLen
  have hrun := run_append_grow_src (P := P) w t tx ty e i z ht hi hz A n c olds hold X m news hsrc hg (by omega) (growslice_fits hg hby)
  have hcap := grownCap_ge w (n + m) c e
  obtain ⟨hm', hE⟩ := install (M' := M') (r := ⟨i.size, xs ++ ys, ty'⟩) (ro := 0) (us := olds ++ news) hm hs
    (grew_push hm (w0 := w.drew) rfl rfl ⟨rfl, Nat.le_succ _⟩ rfl (.cells ((olds ++ news).toArray ++ Builtin.zeroCells z.cells (grownCap w (n + m) c e - (n + m))) e)) h1 h2 (at_fresh hm hs h2) (by simp; omega) (fun t' h => by cases hty' t' h; exact ⟨rfl, ((olds ++ news).toArray ++ Builtin.zeroCells z.cells (grownCap w (n + m) c e - (n + m))), (0, 0), by show (w.heap.push _)[w.heap.size]? = _; simp⟩)
    (block_push (w0 := w.drew) (n := w.heap.size) rfl _ e)
    (by simp [size_zeroCells, hol, hnl, hzs, hxs, hys, Nat.add_mul])
    (fun cs hcs => by rcases List.mem_append.1 hcs with h | h; exact hoz cs h; exact hnz cs h)
    (by rw [List.flatten_append]; exact relL_append hor hnr)
    (fun v hv => by rcases List.mem_append.1 hv with h | h; exact ho1 v h; exact hn1 v h)
    (fun j v hj => by
      have hjl := (List.getElem?_eq_some_iff.1 hj).1
      rw [Nat.zero_add, cell_push (w0 := w.drew) (n := w.heap.size) rfl, Array.getElem?_append_left (by simpa using hjl)]
      simpa using hj)
  refine ⟨.slice (some ⟨w.heap.size, 0, none⟩) (n + m) (grownCap w (n + m) c e), _, _, .inl ?_, ⟨Or.inr rfl, fun r hr => ?_⟩, hm', hE, fun id h => h⟩
  · simp [execOp, ho, resolve, invoke, builtin, hes, hex, hty, hrun, World.alloc]
  · rw [h1] at hr
    cases hr
    refine ⟨by simp; omega, _, _, rfl, hcap, fun _ => ⟨w.heap.size, 0, _, by simp [Gh.add]; rfl, by simp, ?_⟩⟩
    simp [size_zeroCells, hol, hnl, hzs]
    rw [← Nat.add_mul, ← Nat.add_mul]
    exact Nat.mul_le_mul_right _ (by omega)

theorem app_core (hm : MemRel g M w) (hs : ¬ g.L slot) {t tx e : TypeId} {i : TypeInfo} {z : Value} {s x : Operand} (ho : o.op = .call { callee := .builtin .append, args := #[s, x], argTypes := #[t, tx] })
    (ht : P.underlying t = some (.slice e)) (hi : P.info? e = some i) (hz : i.zero = some z) (h0 : 0 < i.size) (hzs : z.cells.size = i.size) {out : Out} {sv : AV} (hsr : Rel g M w sv (a.eval s))
    {X : Value} {news : List Value} {ys : List (List AV)} {rd : List Nat} (hex : a.eval x = X) (hsrc : Src P i.size tx X ys.length news w) (r4 : ∀ v ∈ news, v.oneCell' = true) (r1 : RelL g M w ys.flatten news) (r2 : ∀ c ∈ ys, c.length = i.size)
    (h : appX M slot e i.size i.bytes sv ys rd = some out) : Res P o a w g M slot out := by
  have r3 := hsrc.newsLen
  unfold appX at h
  split at h
  · have hes : a.eval s = .slice none 0 0 := hsr
    split at h
    · rename_i hc
      obtain rfl := Option.some.inj h
      rcases Nat.eq_zero_or_pos ys.length with hy | hy
      · have hys : ys = [] := List.eq_nil_of_length_eq_zero hy
        subst hys
        obtain rfl : news = [] := List.eq_nil_of_length_eq_zero (by simpa using r3)
        have hrun := run_append_nothing (P := P) w t tx o.type e i ht hi none 0 0 (Nat.le_refl _) X hsrc
        obtain ⟨hm', hE⟩ := install_nil (M' := upd M [(slot, some ⟨i.size, [], some e⟩)]) hm hs (upd1 _ _ _) (upd1_ne _ _ _)
        refine ⟨.slice none 0 0, w, _, .inl ?_, ⟨Or.inr rfl, fun r hr => ?_⟩, hm', hE, fun id h => h⟩
        · simp [execOp, ho, resolve, invoke, builtin, hes, hex, hrun]
        · rw [upd1] at hr
          cases hr
          exact ⟨by simp, none, 0, rfl, by simp, fun h => by omega⟩
      · have := res_app_new (P := P) (o := o) (a := a) (M' := upd M [(slot, some ⟨i.size, ys, some e⟩)]) (ty' := some e) hm hs ho rfl ht hi hz h0 hzs (xs := []) (ys := ys) (n := 0) (olds := []) rfl rfl hes hex (by omega)
          (by rw [run_firstCells_none]) (by simp) (by simp) rfl (by simp) hsrc r4 r1 r2 (by simpa using hc.1) (by simpa using hc.2) (fun t' h => by cases h; rfl) (by simpa using upd1 M slot _) (upd1_ne _ _ _)
        simpa [Res] using this
    · cases h
  · rename_i id off n
    simp only [Option.bind_eq_some_iff] at h
    obtain ⟨r, hr, h⟩ := h
    split at h
    · rename_i hc
      obtain ⟨c1, c2, c3⟩ := hc
      obtain rfl := Option.some.inj h
      have hty' : ∀ t', (if r.ty = some e ∧ off = 0 then some e else none) = some t' → t' = e := fun t' h => by
        split at h
        · cases h; rfl
        · cases h
      obtain ⟨ty', hty0⟩ : ∃ ty', (if r.ty = some e ∧ off = 0 then some e else none : Option TypeId) = ty' := ⟨_, rfl⟩
      rw [hty0] at hty'
      have hty2 : ∀ t', ty' = some t' → r.ty = some t' ∧ off = 0 := fun t' h => by
        rw [← hty0] at h
        split at h
        · rename_i h2; exact ⟨h2.1.trans h, h2.2⟩
        · cases h
      rw [hty0]
      obtain ⟨hlen, A, c, hes, hnc, hA⟩ := hsr.2 r hr
      have hid : id ≠ slot := fun e => hs (e ▸ hm.known id r hr)
      have hM1 : upd M [(slot, some ⟨i.size, (r.el.drop off).take n ++ ys, ty'⟩), (id, none)] slot = some ⟨i.size, (r.el.drop off).take n ++ ys, ty'⟩ := by simp [upd]
      have hM2 : ∀ id', id' ≠ slot → upd M [(slot, some ⟨i.size, (r.el.drop off).take n ++ ys, ty'⟩), (id, none)] id' = M id' ∨ upd M [(slot, some ⟨i.size, (r.el.drop off).take n ++ ys, ty'⟩), (id, none)] id' = none := by
        intro id' h
        by_cases e2 : id' = id
        · exact .inr (by simp [upd, h, e2, hid])
        · exact .inl (by simp [upd, h, e2])
      have hlx : ((r.el.drop off).take n).length = n := by simp; omega
      rcases Nat.eq_zero_or_pos c with hc0 | hc0
      · -- no room, and nothing there
        subst hc0
        have hn : n = 0 := by omega
        subst hn
        rcases Nat.eq_zero_or_pos ys.length with hy | hy
        · have hys : ys = [] := List.eq_nil_of_length_eq_zero hy
          subst hys
          obtain rfl : news = [] := List.eq_nil_of_length_eq_zero (by simpa using r3)
          have hrun := run_append_nothing (P := P) w t tx o.type e i ht hi A 0 0 (Nat.le_refl _) X hsrc
          obtain ⟨hm', hE⟩ := install_nil hm hs (by simpa using hM1) hM2
          refine ⟨.slice A 0 0, w, _, .inl ?_, ⟨Or.inr rfl, fun r' hr' => ?_⟩, hm', hE, fun id h => h⟩
          · simp [execOp, ho, resolve, invoke, builtin, hes, hex, hrun]
          · rw [hM1] at hr'
            cases hr'
            exact ⟨by simp, A, 0, rfl, by simp, fun h => by omega⟩
        · have := res_app_new (P := P) (o := o) (a := a) (ty' := ty') hm hs ho rfl ht hi hz h0 hzs (xs := []) (ys := ys) (n := 0) (olds := []) rfl rfl hes hex (by omega)
            (by cases A with
                | none => rw [run_firstCells_none]
                | some ad => exact run_firstCells_some w.drew i.size 0 ad 0 0 [] (by simp) (by simp)) (by simp) (by simp) rfl (by simp) hsrc r4 r1 r2 (by simpa using c2) (by simpa using c3) hty' (by simpa using hM1) hM2
          simpa [Res] using this
      · obtain ⟨rb, ro, size, hat, rfl, hfit⟩ := hA hc0
        obtain ⟨hU, hblk, hfr, hD⟩ := row_at hm hr hat (by rw [c1]; omega)
        have hD' := relD_take n (relD_drop off hD)
        obtain ⟨olds, q1, q2, q3, q4, q5⟩ := relD_vals hD'
        rw [hlx] at q3
        rw [c1] at q2 q3
        rcases Nat.lt_or_ge c (n + ys.length) with hg | hg
        · -- a new block
          have := res_app_new (P := P) (o := o) (a := a) (ty' := ty') hm hs ho rfl ht hi hz h0 hzs (xs := (r.el.drop off).take n) (ys := ys) (olds := olds) hlx rfl hes hex hg
            (run_firstCells_some w.drew i.size n _ n c olds q3 (by intro j v hj; rw [World.cell?_drew]; exact q5 j v hj)) q3 q4 q1 q2 hsrc r4 r1 r2 c2 c3 hty' hM1 hM2
          exact this
        · -- room
          obtain ⟨arr, ty0, fz, k1, k2, k3⟩ := hblk
          rw [c1] at hfit
          have hle1 : (n + ys.length) * i.size ≤ c * i.size := Nat.mul_le_mul_right _ hg
          have hcs : ∀ j, j < news.length → ro + off * r.sz + n * i.size + j < size := by
            intro j hj
            rw [Nat.add_mul] at hle1
            rw [Nat.add_mul, Nat.mul_one] at hfit
            rw [c1]
            omega
          have hrun := run_append_room_src (P := P) w t tx o.type e i ht hi rb (ro + off * r.sz) n c X ys.length news hsrc hg
            (fun j hj => by
              have := hcs j hj
              simp [World.cell?, k1]
              omega)
            (fun j hj => by
              have := k3 _ (hcs j hj)
              simp only [World.frozen?, k1]
              simpa using this)
          have hol : olds.length = n * i.size := q3
          obtain ⟨hm', hE⟩ := install (us := olds ++ news) (rb := rb) (ro := ro + off * r.sz) (size := size) (w' := w.setCells rb (ro + off * r.sz + n * i.size) news) hm hs (grew_set (size := size) hU _ _) hM1 hM2
            (by
              intro id' r' hne hr' y hy heq
              rcases hM2 id' hne with h | h
              · rw [h] at hr'
                have := hm.inj id' id r' r y _ hr' hr hy hat heq
                subst this
                rw [show upd M [(slot, some ⟨i.size, (r.el.drop off).take n ++ ys, ty'⟩), (id', none)] id' = none by simp [upd, hne]] at h
                rw [hr] at h; cases h
              · rw [h] at hr'; cases hr')
            (by simp; omega)
            (fun t' h => by
              obtain ⟨k0, arr', fz', k⟩ := row_ty hm hr hat (by rw [c1]; omega) t' (hty2 t' h).1
              exact ⟨by rw [k0, (hty2 t' h).2, Nat.zero_mul], _, fz', setCells_block news (ro + off * r.sz + n * i.size) w arr' t' fz' k⟩)
            (block_set ⟨arr, ty0, fz, k1, k2, k3⟩ _ _)
            (by
              simp only [List.length_append, hlx]
              rw [Nat.add_mul, Nat.mul_one] at hfit
              rw [c1]; omega)
            (fun cs hcs => by rcases List.mem_append.1 hcs with h | h; exact q2 cs h; exact r2 cs h)
            (by rw [List.flatten_append]; exact relL_append q1 r1)
            (fun v hv => by rcases List.mem_append.1 hv with h | h; exact q4 v h; exact r4 v h)
            (fun j v hj => by
              rcases Nat.lt_or_ge j olds.length with hlt | hge
              · rw [List.getElem?_append_left hlt] at hj
                rw [World.cell?_setCells_out rb news _ w _ (fun _ _ => .inl (by simp only; omega))]
                have := q5 j v hj
                rwa [addr_add] at this
              · rw [List.getElem?_append_right hge] at hj
                have hlt := (List.getElem?_eq_some_iff.1 hj).1
                have hin := World.cell?_setCells_in rb news (ro + off * r.sz + n * i.size) w (fun j hj => by
                  have := hcs j hj
                  simp [World.cell?, k1]
                  omega) (j - olds.length) hlt
                rw [show ro + off * r.sz + j = ro + off * r.sz + n * i.size + (j - olds.length) by omega, hin]
                rw [List.getElem?_eq_getElem hlt] at hj
                exact hj)
          refine ⟨.slice (some ⟨rb, ro + off * r.sz, none⟩) (n + ys.length) c, _, _, .inl ?_, ⟨Or.inr rfl, fun r' hr' => ?_⟩, hm', hE, fun id h => h⟩
          · simp [execOp, ho, resolve, invoke, builtin, hes, hex, hrun]
          · rw [hM1] at hr'
            cases hr'
            refine ⟨by simp; omega, _, _, rfl, hg, fun _ => ⟨rb, ro + off * r.sz, size, by simp [Gh.add], by simp, ?_⟩⟩
            simp only
            rw [Nat.add_mul, Nat.mul_one] at hfit
            rw [c1, Nat.zero_add, Nat.mul_one]
            omega
    · cases h
  · cases h

theorem step_app (hm : MemRel g M w) (hs : ¬ g.L slot) (hT : RelT g M w T a) {t tx e e' : TypeId} {i : TypeInfo} {z : Value} {s x : Operand} (ho : o.op = .call { callee := .builtin .append, args := #[s, x], argTypes := #[t, tx] })
    (ht : P.underlying t = some (.slice e)) (htx : P.underlying tx = some (.slice e')) (hi : P.info? e = some i) (hz : i.zero = some z) (h0 : 0 < i.size) (hzs : z.cells.size = i.size) {out : Out}
    (h : step T M slot (.app e i.size i.bytes s x) = some out) : Res P o a w g M slot out := by
  simp only [step, Option.bind_eq_some_iff] at h
  obtain ⟨⟨ys, rd⟩, hel, h⟩ := h
  obtain ⟨B, d, news, hex, hle, r1, r2, r3, r4, r5, r6⟩ := elems_rel hm hel (rel_ev hT x)
  exact app_core hm hs ho ht hi hz h0 hzs (rel_ev hT s) hex (src_of (w := w) (c := d) htx r3 r4 (fun hA => by rw [r5 hA]; rfl) r6) r4 r1 r2 h
theorem byts_rel : ∀ (l : List UInt8), RelL g M w (byts l).flatten (l.map fun b => Value.int .u8 b.toNat)
  | [] => rfl
  | c :: l => ⟨_, _, rfl, rfl, byts_rel l⟩
theorem step_appS (hm : MemRel g M w) (hs : ¬ g.L slot) (hT : RelT g M w T a) {t tx e : TypeId} {i : TypeInfo} {z : Value} {s x : Operand} (ho : o.op = .call { callee := .builtin .append, args := #[s, x], argTypes := #[t, tx] })
    (ht : P.underlying t = some (.slice e)) (htx : P.underlying tx = some .string) (hi : P.info? e = some i) (hz : i.zero = some z) (h0 : i.size = 1) (hzs : z.cells.size = i.size) {out : Out}
    (h : step T M slot (.x (.appS e i.bytes s x)) = some out) : Res P o a w g M slot out := by
  have hx := rel_ev hT x
  simp only [step, stepX] at h
  split at h
  · rename_i l e1
    rw [e1] at hx
    have hx' : a.eval x = .string ⟨l.toArray⟩ := hx
    have hsrc : Src P 1 tx (.string ⟨l.toArray⟩) (⟨l.toArray⟩ : ByteArray).size _ w := Src.ofString w htx ⟨l.toArray⟩
    have hlen : (⟨l.toArray⟩ : ByteArray).size = (byts l).length := by simp [ByteArray.size, byts]
    rw [hlen] at hsrc
    refine app_core (news := byteCells ⟨l.toArray⟩) hm hs ho ht hi hz (by omega) hzs (rel_ev hT s) hx' (by rw [h0]; exact hsrc) (fun v hv => by simp [byteCells] at hv; obtain ⟨b, _, rfl⟩ := hv; rfl) (byts_rel l) (fun c hc => by simp [byts] at hc; obtain ⟨b, _, rfl⟩ := hc; rw [h0]; rfl) (by rw [h0]; exact h)
  · cases h

/-- Cells told anew where they lie, by what a look at them gives. -/
theorem relM_look {g g' : Gh} {M M' : Mem} {w w' : World} {blk : Nat} (E : Evo g M w g' M' w') (hz : ∀ b, g.Z b → g.U b) (hc : ∀ o, w'.cell? ⟨blk, o, none⟩ = w.cell? ⟨blk, o, none⟩) :
    ∀ (cs : List AV) (off : Nat), RelM g M w blk off cs → RelM g' M' w' blk off cs
  | [], _, _ => trivial
  | x :: xs, off, ⟨⟨u, hu, h0, h1⟩, h2⟩ => ⟨⟨u, (hc off).trans hu, h0, Rel.evo E hz x u h1⟩, relM_look E hz hc xs (off + 1) h2⟩
theorem relD_look {g g' : Gh} {M M' : Mem} {w w' : World} {blk sz : Nat} (E : Evo g M w g' M' w') (hz : ∀ b, g.Z b → g.U b) (hc : ∀ o, w'.cell? ⟨blk, o, none⟩ = w.cell? ⟨blk, o, none⟩) :
    ∀ (el : List (List AV)) (off : Nat), RelD g M w sz blk off el → RelD g' M' w' sz blk off el
  | [], _, _ => trivial
  | x :: xs, off, ⟨⟨h0, h1⟩, h2⟩ => ⟨⟨h0, relM_look E hz hc x off h1⟩, relD_look E hz hc xs (off + sz) h2⟩

theorem step_convSl (hm : MemRel g M w) (hT : RelT g M w T a) {src e0 e : TypeId} {x : Operand} (ho : o.op = .convert src src x)
    (hsrc : P.underlying src = some (.slice e)) (he : P.underlying e = some (.int .u8)) {out : Out}
    (h : step T M slot (.convSl x) = some out) : Res P o a w g M slot out := by
  have hx := rel_ev hT x
  simp only [step] at h
  split at h
  · rename_i id off n e1
    rw [e1] at hx
    simp only [Option.bind_eq_some_iff] at h
    obtain ⟨r, hr, h⟩ := h
    split at h
    · rename_i hn
      obtain rfl := Option.some.inj h
      obtain ⟨hlen, A, c, hu, hnc, hA⟩ := hx.2 r hr
      obtain ⟨rb, ro, size, hat, rfl, hfit⟩ := hA (by have := hn.1; omega)
      obtain ⟨hU, ⟨arr, ty, fz, hb1, hb2, hb3⟩, hfit2, hD⟩ := row_at hm hr hat hn.2
      let w' : World := w.freeze ⟨rb, arr.size, none⟩ 1
      have hrb : rb < w.heap.size := (Array.getElem?_eq_some_iff.1 hb1).1
      have hw' : w' = { w with heap := w'.heap } := by simp only [w', World.freeze]; rfl
      have hfar : ∀ b, b ≠ rb → w'.heap[b]? = w.heap[b]? := by
        intro b hb
        simp only [w', World.freeze, Nat.one_ne_zero, if_false]
        rw [Array.getElem?_modify, if_neg (fun e => hb e.symm)]
      have hcell : ∀ o, w'.cell? ⟨rb, o, none⟩ = w.cell? ⟨rb, o, none⟩ := by
        intro o
        simp only [w', World.freeze, Nat.one_ne_zero, if_false, World.cell?]
        rw [Array.getElem?_modify, if_pos rfl, hb1]
        rfl
      have hconv : (convert src src (.slice (some ⟨rb, ro + off * r.sz, none⟩) n c)).run P w = .ok (.slice (some ⟨rb, ro + off * r.sz, none⟩) n c) w' := by
        have hsh : w.shape? rb = some (ty, arr.size) := by unfold World.shape?; rw [hb1]
        simp [convert, run_under hsrc, run_under he, markStringish, hsh, w']
      let fr : Nat → Prop := fun b => b = rb
      let g2 : Gh := { g with Z := fun b => g.Z b ∨ b = rb, U := fun b => g.U b ∨ b = rb }
      have hM2 : ∀ {i r'}, upd M [(id, none)] i = some r' → i ≠ id ∧ M i = some r' := by
        intro i r' h
        by_cases e : i = id
        · simp [upd, e] at h
        · simp [upd, e] at h; exact ⟨e, h⟩
      have hE : Evo g M w g2 (upd M [(id, none)]) w' := by
        refine ⟨fun _ h => h, fun _ h => .inl h, ?_, fun _ h => .inl h, fun b hb => hfar b (fun e => hU (e ▸ hb)), by simp [w', World.freeze], by rw [hw'], by rw [hw'], ⟨by rw [hw'], by rw [hw']; exact Nat.le_refl _⟩, ?_⟩
        · rintro b (h | rfl)
          · exact .inl h
          · exact .inr hU
        · intro i _ r' hr'
          exact ⟨r', (hM2 hr').2, rfl, rfl, rfl⟩
      refine ⟨.slice (some ⟨rb, ro + off * r.sz, none⟩) n c, w', g2, .inl (by simp [execOp, ho, hu, hconv]), ?_, ?_, hE, fun _ h => .inl h⟩
      · have hl : ((r.el.drop off).take n).length = n := by simp; omega
        refine ⟨_, c, by rw [hl], by rw [hl]; exact hnc, .inr ⟨rb, ro + off * r.sz, rfl, .inr rfl, ?_⟩⟩
        exact relD_look hE hm.zu hcell _ _ (relD_take _ (relD_drop _ hD))
      · refine ⟨fun b h => h.imp (hm.zu b) (fun x => x), ?_, fun i r' h => hm.known _ _ (hM2 h).2, ?_, hm.lay.evo hm.zu hE, ?_⟩
        · have hsz : w'.heap.size = w.heap.size := by simp [w', World.freeze]
          rintro b (h | rfl)
          · rw [hsz]; exact hm.ul b h
          · rw [hsz]; exact hrb
        · intro i r' h
          obtain ⟨hi, h2⟩ := hM2 h
          rcases hm.row i r' h2 with h3 | ⟨rb', ro', size', q1, q2, q3⟩
          · exact .inl h3
          · have hne : rb' ≠ rb := fun e => hi (hm.inj _ _ _ _ _ _ h2 hr q1 hat e)
            have hb' := hfar rb' hne
            refine .inr ⟨rb', ro', size', q1, ?_, q3.evo hE hm.zu hb'⟩
            rintro (h | h)
            · exact q2 h
            · exact hne h
        · intro i i' r1 r2 x x' e1 e2 e3 e4 e5
          exact hm.inj _ _ _ _ _ _ (hM2 e1).2 (hM2 e2).2 e3 e4 e5
    · cases h
  · cases h

theorem step_appN (hm : MemRel g M w) (hs : ¬ g.L slot) (hT : RelT g M w T a) {t tn e : TypeId} {kn : IntKind} {i : TypeInfo} {z : Value} {s x : Operand} (ho : o.op = .call { callee := .builtin .append, args := #[s, x], argTypes := #[t, tn] })
    (ht : P.underlying t = some (.slice e)) (htn : P.underlying tn = some (.int kn)) (hi : P.info? e = some i) (hz : i.zero = some z) (h0 : 0 < i.size) (hzs : z.cells.size = i.size) (h1z : ∀ v ∈ z.cells.toList, v.oneCell' = true) {out : Out}
    (h : step T M slot (.appN i.size i.bytes z.cells.toList s x) = some out) : Res P o a w g M slot out := by
  have hsr := rel_ev hT s
  have hxr := rel_ev hT x
  simp only [step] at h
  split at h
  · rename_i kd n e1 e2
    rw [e1] at hsr
    rw [e2] at hxr
    have hes : a.eval s = .slice none 0 0 := hsr
    have hex : a.eval x = .int kd n := hxr
    split at h
    · rename_i hc
      obtain rfl := Option.some.inj h
      obtain ⟨c1, c2, c3⟩ := hc
      obtain ⟨m, rfl⟩ := Int.eq_ofNat_of_zero_le (Int.le_of_lt c1)
      have hm0 : 0 < m := by omega
      simp only [Int.ofNat_eq_natCast, Int.toNat_natCast] at c3 ⊢
      have hrun := Lib.run_append_nil_zeros (P := P) w t tn o.type e i z kd kn ht htn hi hz m hm0 h0 c2 c3
      have hcap := grownCap_ge w m 0 e
      refine res_new (w0 := w.drew) (arr := Builtin.zeroCells z.cells m ++ Builtin.zeroCells z.cells (grownCap w m 0 e - m)) (ty := e) (us := (List.replicate m z.cells.toList).flatten) (u := .slice (some ⟨w.heap.size, 0, none⟩) m (grownCap w m 0 e)) hm hs rfl rfl ⟨rfl, Nat.le_succ _⟩ rfl (.inl ?_) (by simp; omega) (fun t' e => by cases e) ?_ ?_ ?_ ?_ ?_ ?_
      · simp [execOp, ho, resolve, invoke, builtin, hes, hex, hrun, World.alloc]
      · intro cs hcs; rw [List.eq_of_mem_replicate hcs]; simp [cells1, hzs]
      · exact relL_replicate (relL_cst1 _) _
      · intro v hv
        simp only [List.mem_flatten] at hv
        obtain ⟨l, hl, hv⟩ := hv
        rw [List.eq_of_mem_replicate hl] at hv
        exact h1z v hv
      · intro j v hj
        have hjl := (List.getElem?_eq_some_iff.1 hj).1
        have hlen : ((List.replicate m z.cells.toList).flatten).length = m * z.cells.size := by simp [List.length_flatten]
        rw [Array.getElem?_append_left (by rw [size_zeroCells]; omega)]
        exact madeCells_get z.cells _ m (by omega) rfl j v hj
      · simp [size_zeroCells, hzs]
      · intro g' M' w' e1 e2 e3
        refine ⟨e2, fun r hr => ?_⟩
        rw [e3] at hr
        cases hr
        refine ⟨by simp, _, _, rfl, hcap, fun _ => ⟨w.heap.size, 0, _, e1, by simp, ?_⟩⟩
        simp [size_zeroCells, hzs]
        rw [← Nat.add_mul]
        exact Nat.mul_le_mul_right _ (by omega)
    · cases h
  · cases h
end
end Go.Vm

namespace Go.Vm
set_option linter.unusedSectionVars false
set_option linter.unusedSimpArgs false
set_option linter.unusedVariables false
open Go
variable [Inhabited LayT]
section
variable {P : Program} {o : Oper} {a : Act} {w : World} {g : Gh} {M : Mem} {slot : Nat} {T : Tm}

/-- A map or an iterator laid into a new block. -/
theorem res_spn (hm : MemRel g M w) (hs : ¬ g.L slot) {cs : List AV} {v : AV} {u : Value} {rd : List Nat} {ob : Obj}
    (hrun : OpRun P o a w u { w with heap := w.heap.push ob }) (hR : ObjR g M w cs ob)
    (hv : ∀ (g' : Gh) (M' : Mem) (w' : World), g'.at_ slot = some (w.heap.size, 0, 0) → g'.L slot → M' slot = some ⟨0, [cs], none⟩ → Rel g' M' w' v u) :
    Res P o a w g M slot { v, eff := [(slot, some ⟨0, [cs], none⟩)], rd } := by
  have hG := grew_push hm (w0 := w) rfl rfl ⟨rfl, Nat.le_refl _⟩ rfl ob
  have h1 := upd1 M slot (some ⟨0, [cs], none⟩)
  have h2 := upd1_ne M slot (some (⟨0, [cs], none⟩ : Row))
  have hno := at_fresh hm hs h2
  have hE : Evo g M w (g.add slot (some (w.heap.size, 0, 0))) (upd M [(slot, some ⟨0, [cs], none⟩)]) { w with heap := w.heap.push ob } := {
    L := fun id h => .inl h
    Z := fun _ h => h
    Zn := fun _ h => .inl h
    U := fun _ h => h
    keep := fun b hb => hG.keep b (hm.ul b hb) (fun e => hG.free (e ▸ hb))
    size := hG.size
    os := hG.os
    tape := hG.tape
    output := hG.output
    ids := fun id hid r' hr' => by
      have hne : id ≠ slot := fun e => hs (e ▸ hid)
      rcases h2 id hne with h | h
      · rw [h] at hr'
        exact ⟨r', hr', by simp [Gh.add, hne], rfl, rfl⟩
      · rw [h] at hr'; cases hr' }
  have old : ∀ id r', id ≠ slot → upd M [(slot, some ⟨0, [cs], none⟩)] id = some r' → M id = some r' := fun id r' e h => by
    rcases h2 id e with k | k <;> rw [k] at h
    · exact h
    · cases h
  refine ⟨u, _, g.add slot (some (w.heap.size, 0, 0)), hrun, hv _ _ _ (by simp [Gh.add]) (Or.inr rfl) h1, { zu := hm.zu, lay := hm.lay.evo hm.zu hE, ul := fun b hb => Nat.lt_of_lt_of_le (hm.ul b hb) hG.size, known := fun id r' hr' => ?_, row := fun id r' hr' => ?_, inj := ?_ }, hE, fun id h => h⟩
  · by_cases e : id = slot
    · exact .inr e
    · exact .inl (hm.known id r' (old id r' e hr'))
  · by_cases e : id = slot
    · subst e
      rw [h1] at hr'
      cases hr'
      exact .inr ⟨w.heap.size, 0, 0, by simp [Gh.add], hG.free, .inr ⟨rfl, rfl, cs, ob, rfl, by simp, ObjR.evo hE hm.zu hR⟩⟩
    · rcases hm.row id r' (old id r' e hr') with ⟨k1, k2⟩ | ⟨rb', ro', size', k1, k2, k3⟩
      · exact .inl ⟨k1, by simp [Gh.add, e, k2]⟩
      · have hb' : (w.heap.push ob)[rb']? = w.heap[rb']? := by
          obtain ⟨ob', k6⟩ := k3.obj
          exact hG.keep rb' (Array.getElem?_eq_some_iff.1 k6).1 (hno id r' e hr' _ k1)
        exact .inr ⟨rb', ro', size', by simp [Gh.add, e, k1], k2, k3.evo hE hm.zu hb'⟩
  · intro id id' r1 r2 x x' e1 e2 e3 e4 e5
    by_cases c1 : id = slot <;> by_cases c2 : id' = slot
    · rw [c1, c2]
    · exfalso
      simp [Gh.add, c1] at e3
      simp [Gh.add, c2] at e4
      refine hno id' r2 c2 e2 _ e4 ?_
      rw [← e5, ← e3]
    · exfalso
      simp [Gh.add, c1] at e3
      simp [Gh.add, c2] at e4
      refine hno id r1 c1 e1 _ e3 ?_
      rw [e5, ← e4]
    · simp [Gh.add, c1] at e3
      simp [Gh.add, c2] at e4
      exact hm.inj id id' r1 r2 x x' (old id r1 c1 e1) (old id' r2 c2 e2) e3 e4 e5

theorem spc1_row {id : Nat} {cs : List AV} {ty : Option TypeId} (h : spc1 M id = some (cs, ty)) : M id = some ⟨0, [cs], ty⟩ := by
  unfold spc1 at h
  obtain ⟨⟨sz, el, t⟩, h1, h⟩ := Option.bind_eq_some_iff.1 h
  simp only at h
  split at h
  · split at h
    · rename_i h0
      cases h
      subst h0
      exact h1
    · cases h
  · cases h
theorem mapc_row {id : Nat} {y : List AV × Option TypeId} (h : mapc M id = some y) : M id = some ⟨0, [y.1], y.2⟩ ∧ y.1.length % 2 = 0 := by
  unfold mapc at h
  obtain ⟨y', h1, h⟩ := Option.bind_eq_some_iff.1 h
  split at h
  · rename_i h0
    cases h
    exact ⟨spc1_row h1, h0⟩
  · cases h
theorem sp_at (hm : MemRel g M w) {id : Nat} {cs : List AV} {ty : Option TypeId} (hr : M id = some ⟨0, [cs], ty⟩) {rb ro size : Nat} (ha : g.at_ id = some (rb, ro, size)) :
    ¬ g.U rb ∧ ro = 0 ∧ ∃ ob, w.heap[rb]? = some ob ∧ ObjR g M w cs ob := by
  obtain ⟨h1, h2⟩ := row_in hm hr ha
  rcases h2 with ⟨h0, _⟩ | ⟨_, h3, cs', ob, h4, h5, h6⟩
  · exact absurd rfl h0
  · simp only [List.cons.injEq, and_true] at h4
    subst h4
    exact ⟨h1, h3, ob, h5, h6⟩
theorem RelE.even {es : List MapEntry} : ∀ {cs : List AV} {n : Nat} {es : List MapEntry}, RelE g M w cs es n → cs.length = 2 * es.length
  | [], _, _, h => by rw [show _ = [] from h]; rfl
  | [_], _, _, h => h.elim
  | k :: v :: cs, n, _, ⟨e, r, h0, _, _, _, h⟩ => by
    subst h0
    have := RelE.even (es := []) h
    simp only [List.length_cons]
    omega
theorem map_obj {cs : List AV} {ob : Obj} (h : ObjR g M w cs ob) (he : cs.length % 2 = 0) : ∃ es, ob = .map es es.size ∧ RelE g M w cs es.toList 0 := by
  cases ob with
  | map es clock => obtain ⟨rfl, h⟩ := h; exact ⟨es, rfl, h⟩
  | stringIter s pos => rw [show cs = _ from h] at he; simp at he
  | mapIter m since seen st =>
    cases m with
    | none => exact h.elim
    | some b => obtain ⟨id, n, rfl, _⟩ := h; simp at he
  | _ => exact h.elim

/-- A map or an iterator, told anew. -/
theorem res_put (hm : MemRel g M w) {id : Nat} {cs cs' : List AV} {ty : Option TypeId} (hr : M id = some ⟨0, [cs], ty⟩) {rb ro size : Nat} (hat : g.at_ id = some (rb, ro, size)) {ob' : Obj} {v : AV} {u : Value} {rd : List Nat}
    (hrun : OpRun P o a w u { w with heap := w.heap.setIfInBounds rb ob' }) (hR : ObjR g M w cs' ob') (hv : Rel g M w v u) : Res P o a w g M slot { v, eff := [(id, some ⟨0, [cs'], ty⟩)], rd } := by
  obtain ⟨hU, hro, ob, hob, _⟩ := sp_at hm hr hat
  have hlt := (Array.getElem?_eq_some_iff.1 hob).1
  have hfar : ∀ b, b ≠ rb → (w.heap.setIfInBounds rb ob')[b]? = w.heap[b]? := fun b hb => Array.getElem?_setIfInBounds_ne (Ne.symm hb)
  have hM' : ∀ id', id' ≠ id → upd M [(id, some ⟨0, [cs'], ty⟩)] id' = M id' := fun id' h => by simp [upd, h]
  have hE : Evo g M w g (upd M [(id, some ⟨0, [cs'], ty⟩)]) { w with heap := w.heap.setIfInBounds rb ob' } := {
    L := fun _ h => h
    Z := fun _ h => h
    Zn := fun _ h => .inl h
    U := fun _ h => h
    keep := fun b hb => hfar b (fun e => hU (e ▸ hb))
    size := by simp
    os := rfl
    tape := rfl
    output := ⟨rfl, Nat.le_refl _⟩
    ids := fun id' hid r2 hr2 => by
      by_cases e : id' = id
      · subst e
        rw [upd1] at hr2
        cases hr2
        exact ⟨_, hr, rfl, rfl, rfl⟩
      · rw [hM' id' e] at hr2
        exact ⟨r2, hr2, rfl, rfl, rfl⟩ }
  refine ⟨u, _, g, hrun, Rel.evo hE hm.zu _ _ hv, { zu := hm.zu, lay := hm.lay.evo hm.zu hE, ul := fun b hb => by simpa using hm.ul b hb, known := fun id' r2 hr2 => ?_, row := fun id' r2 hr2 => ?_, inj := ?_ }, hE, fun _ h => .inl h⟩
  · by_cases e : id' = id
    · subst e; exact hm.known id' _ hr
    · exact hm.known id' r2 (by rw [← hM' id' e]; exact hr2)
  · by_cases e : id' = id
    · subst e
      rw [upd1] at hr2
      cases hr2
      exact .inr ⟨rb, ro, size, hat, hU, .inr ⟨rfl, hro, cs', ob', rfl, by simp [hlt], ObjR.evo hE hm.zu hR⟩⟩
    · rw [hM' id' e] at hr2
      rcases hm.row id' r2 hr2 with ⟨k1, k2⟩ | ⟨rb', ro', size', k1, k2, k3⟩
      · exact .inl ⟨k1, k2⟩
      · have hne : rb' ≠ rb := fun h => e (hm.inj id' id r2 _ _ _ hr2 hr k1 hat h)
        exact .inr ⟨rb', ro', size', k1, k2, k3.evo hE hm.zu (hfar rb' hne)⟩
  · intro i1 i2 r1 r2 x x' e1 e2 e3 e4 e5
    have f : ∀ i r, upd M [(id, some ⟨0, [cs'], ty⟩)] i = some r → ∃ r0, M i = some r0 := fun i r h => by
      by_cases e : i = id
      · exact ⟨_, e ▸ hr⟩
      · exact ⟨r, by rw [← hM' i e]; exact h⟩
    obtain ⟨_, f1⟩ := f i1 r1 e1
    obtain ⟨_, f2⟩ := f i2 r2 e2
    exact hm.inj i1 i2 _ _ x x' f1 f2 e3 e4 e5

theorem step_mkM (hm : MemRel g M w) (hs : ¬ g.L slot) {t : TypeId} (ho : o.op = .makeMap t none) {out : Out} (h : step T M slot (.x .mkM) = some out) : Res P o a w g M slot out := by
  obtain rfl := Option.some.inj h
  refine res_spn (ob := .map #[] 0) hm hs (u := .map (some w.heap.size)) (.inl ?_) ⟨rfl, rfl⟩ (fun g' M' w' e1 e2 e3 => ⟨e2, fun r hr => ⟨_, _, _, e1, rfl⟩⟩)
  simp [execOp, ho, Instr.makeMap, newObj]
  rfl

/-! ### keys -/
def Keyed (isS : Bool) (kind : TypeDesc) (k : AV) (key : Value) : Prop :=
  (isS = true ∧ kind = .string ∧ ∃ l : List UInt8, k = .s l ∧ key = .string ⟨l.toArray⟩) ∨ (isS = false ∧ (∃ q, kind = .int q) ∧ ∃ kd n, k = .i kd n ∧ key = .int kd n)
theorem keyed_of {isS : Bool} {kind : TypeDesc} {k : AV} {key : Value} (hk : isKey isS k = true) (hr : Rel g M w k key) (hkind : (isS = true ∧ kind = .string) ∨ (isS = false ∧ ∃ q, kind = .int q)) : Keyed isS kind k key := by
  unfold isKey eqK at hk
  cases k with
  | s l =>
    cases isS
    · simp at hk
    · rcases hkind with ⟨_, h⟩ | ⟨h, _⟩
      · exact .inl ⟨rfl, h, l, rfl, hr⟩
      · cases h
  | i kd n =>
    cases isS
    · rcases hkind with ⟨h, _⟩ | ⟨_, h⟩
      · cases h
      · exact .inr ⟨rfl, h, kd, n, rfl, hr⟩
    · simp at hk
  | _ => simp at hk
theorem bytes_beq (a b : List UInt8) : ((⟨a.toArray⟩ : ByteArray) == ⟨b.toArray⟩) = decide (a = b) := by
  show (a.toArray == b.toArray) = decide (a = b)
  by_cases e : a = b
  · simp [e]
  · have : ¬ a.toArray = b.toArray := fun h => e (by simpa using h)
    simp [e]
theorem key_eq {isS : Bool} {kind : TypeDesc} {k k' : AV} {key key' : Value} {b : Bool} (hK : Keyed isS kind k key) (hr : Rel g M w k' key') (h : eqK isS k k' = some b) :
    Instr.sameNow kind key key' = some b ∧ (b = true → Instr.sameBits 10000 key' key = true) := by
  rcases hK with ⟨rfl, rfl, l, rfl, rfl⟩ | ⟨rfl, ⟨q, rfl⟩, kd, n, rfl, rfl⟩
  · unfold eqK at h
    cases k' with
    | s l' =>
      obtain rfl : key' = .string ⟨l'.toArray⟩ := hr
      simp only [if_true, Option.some.injEq] at h
      subst h
      refine ⟨by simp only [Instr.sameNow, bytes_beq], fun h => ?_⟩
      have : l = l' := by simpa using h
      subst this
      simp [Instr.sameBits, bytes_beq]
    | _ => simp at h
  · unfold eqK at h
    cases k' with
    | i kd' n' =>
      obtain rfl : key' = .int kd' n' := hr
      simp only [true_and] at h
      split at h
      · rename_i e
        subst e
        cases h
        refine ⟨by simp [Instr.sameNow]; rfl, fun h => ?_⟩
        have : n = n' := by simpa using h
        subst this
        simp [Instr.sameBits]
      · cases h
    | _ => simp at h
theorem find_get {isS : Bool} {kind : TypeDesc} {k : AV} {key : Value} (hK : Keyed isS kind k key) : ∀ {cs : List AV} {es : List MapEntry} {n : Nat} (i : Nat) {f : Option AV}, RelE g M w cs es n → getM isS k cs = some f →
    (f = none ∧ Instr.findNow kind key es i = some none) ∨ ∃ v j u, f = some v ∧ Instr.findNow kind key es i = some (some (j, u)) ∧ Rel g M w v u
  | [], es, n, i, f, h, hg => by
    obtain rfl : es = [] := h
    cases hg
    exact .inl ⟨rfl, rfl⟩
  | [_], _, _, _, _, h, _ => h.elim
  | k' :: v :: cs, _, n, i, f, ⟨e, r, h0, h1, h2, h3, h4⟩, hg => by
    subst h0
    simp only [getM] at hg
    split at hg
    · rename_i hq
      cases hg
      have := (key_eq hK h2 hq).1
      exact .inr ⟨v, i, e.val, rfl, by simp [Instr.findNow, this], h3⟩
    · rename_i hq
      have := (key_eq hK h2 hq).1
      rcases find_get hK (i + 1) h4 hg with ⟨q1, q2⟩ | ⟨v', j, u, q1, q2, q3⟩
      · exact .inl ⟨q1, by simp [Instr.findNow, this, q2]⟩
      · exact .inr ⟨v', j, u, q1, by simp [Instr.findNow, this, q2], q3⟩
    · cases hg
theorem find_put {isS : Bool} {kind : TypeDesc} {k v : AV} {key val : Value} (hK : Keyed isS kind k key) (hk : Rel g M w k key) (hv : Rel g M w v val) : ∀ {cs : List AV} {es : List MapEntry} {n : Nat} (i : Nat) {cs' : List AV}, RelE g M w cs es n → putM isS k v cs = some cs' →
    (∃ j e u, Instr.findNow kind key es i = some (some (i + j, u)) ∧ es[j]? = some e ∧ Instr.sameBits 10000 e.key key = true ∧ RelE g M w cs' (es.set j { e with key := key, val := val }) n) ∨
    (Instr.findNow kind key es i = some none ∧ RelE g M w cs' (es ++ [{ key := key, val := val, born := n + es.length }]) n)
  | [], es, n, i, cs', h, hp => by
    obtain rfl : es = [] := h
    cases hp
    exact .inr ⟨rfl, _, [], rfl, rfl, hk, hv, rfl⟩
  | [_], _, _, _, _, h, _ => h.elim
  | k' :: v' :: cs, _, n, i, cs', ⟨e, r, h0, h1, h2, h3, h4⟩, hp => by
    subst h0
    simp only [putM] at hp
    split at hp
    · rename_i hq
      cases hp
      obtain ⟨q1, q2⟩ := key_eq hK h2 hq
      exact .inl ⟨0, e, e.val, by simp [Instr.findNow, q1], rfl, q2 rfl, _, r, rfl, h1, hk, hv, h4⟩
    · rename_i hq
      have q1 := (key_eq hK h2 hq).1
      obtain ⟨cs2, h5, rfl⟩ := Option.map_eq_some_iff.1 hp
      rcases find_put hK hk hv (i + 1) h4 h5 with ⟨j, e', u, k1, k2, k3, k4⟩ | ⟨k1, k2⟩
      · exact .inl ⟨j + 1, e', u, by simp [Instr.findNow, q1, k1]; omega, by simpa using k2, k3, e, _, rfl, h1, h2, h3, k4⟩
      · refine .inr ⟨by simp [Instr.findNow, q1, k1], e, _, rfl, h1, h2, h3, ?_⟩
        simp only [List.length_cons]
        rw [show n + (r.length + 1) = n + 1 + r.length by omega]
        exact k2
    · cases hp
theorem mapB_spec {t : TypeId} {y : Bool × TypeId} (h : mapB P t = some y) : ∃ kt kind, P.underlying t = some (.map kt y.2) ∧ P.underlying kt = some kind ∧ ((y.1 = true ∧ kind = .string) ∨ (y.1 = false ∧ ∃ q, kind = .int q)) := by
  unfold mapB at h
  split at h
  · rename_i k e hu
    split at h
    · rename_i hk; cases h; exact ⟨k, _, hu, hk, .inl ⟨rfl, rfl⟩⟩
    · rename_i q hk; cases h; exact ⟨k, _, hu, hk, .inr ⟨rfl, q, rfl⟩⟩
    · cases h
  · cases h
theorem run_checkKey {kt : TypeId} {kind : TypeDesc} (hk : P.underlying kt = some kind) (hkind : kind = .string ∨ ∃ q, kind = .int q) (b : Bool) (key : Value) (w : World) : (Instr.checkKey b 10000 kt key).run P w = .ok () w := by
  have : ∀ n, (Instr.checkKey b (n + 1) kt key).run P w = .ok () w := fun n => by
    unfold Instr.checkKey
    rcases hkind with rfl | ⟨q, rfl⟩ <;> simp [run_under hk]
  exact this 9999
theorem run_findKey {kt : TypeId} {kind : TypeDesc} (hk : P.underlying kt = some kind) {key : Value} {es : List MapEntry} {r : Option (Nat × Value)} (h : Instr.findNow kind key es 0 = some r) (w : World) : (Instr.findKey kt key es).run P w = .ok r w := by
  unfold Instr.findKey
  simp [run_under hk, h]
theorem run_getMap {rb : Nat} {es : Array MapEntry} {c : Nat} (h : w.heap[rb]? = some (.map es c)) : (getObj rb).run P w = .ok (.map es c) w := by simp [getObj, Sem.run, h]
theorem run_setMap {rb : Nat} {es : Array MapEntry} {c : Nat} (ob : Obj) (h : w.heap[rb]? = some (.map es c)) : (setObj rb ob).run P w = .ok () { w with heap := w.heap.setIfInBounds rb ob } := by simp [setObj, Sem.run, h]

theorem step_look (hm : MemRel g M w) (hT : RelT g M w T a) {t : TypeId} {x k : Operand} {ok : Bool} (ho : o.op = .lookup t x k ok) {y : Bool × TypeId} (hy : mapB P t = some y) {z : Value} (hz : (P.info? y.2).bind (·.zero) = some z) {out : Out}
    (h : step T M slot (.x (.look y.1 z ok x k)) = some out) : Res P o a w g M slot out := by
  have hx := rel_ev hT x
  have hkr := rel_ev hT k
  obtain ⟨kt, kind, hu, huk, hkind⟩ := mapB_spec hy
  simp only [step, stepX] at h
  split at h
  · rename_i id e
    rw [e] at hx
    obtain ⟨yy, hyy, h⟩ := Option.bind_eq_some_iff.1 h
    obtain ⟨hr, hev⟩ := mapc_row hyy
    obtain ⟨rb, ro, size, hat, hux⟩ := hx.2 _ hr
    obtain ⟨hU, hro, ob, hob, hR⟩ := sp_at hm hr hat
    obtain ⟨es, rfl, hE⟩ := map_obj hR hev
    split at h
    · rename_i hkey
      obtain ⟨f, hf, rfl⟩ := Option.map_eq_some_iff.1 h
      have hK := keyed_of hkey hkr hkind
      have hck : ∀ b, (Instr.checkKey b 10000 kt (a.eval k)).run P w = .ok () w := fun b => run_checkKey huk (hkind.imp (fun h => h.2) (fun h => h.2)) b _ w
      obtain ⟨i, hi, hiz⟩ := Option.bind_eq_some_iff.1 hz
      have hzv : (zeroValue y.2).run P w = .ok z w := by simp [zeroValue, typeInfo, hi, hiz]
      have key : ∀ (v : AV) (u : Value) (b : Bool), (Instr.lookup t (a.eval x) (a.eval k) ok).run P w = .ok (if ok = true then .tuple #[u, .bool b] else u) w → Rel g M w v u →
          Res P o a w g M slot { v := if ok = true then .tup [v, .b b] else v, rd := [id] } := by
        intro v u b hrun hv
        refine Res.pure hm rfl (u := if ok = true then .tuple #[u, .bool b] else u) (.inl (by simp [execOp, ho, hrun])) ?_
        cases ok
        · exact hv
        · exact ⟨[u, .bool b], rfl, u, _, rfl, hv, _, _, rfl, rfl, rfl⟩
      rcases find_get hK 0 hE hf with ⟨rfl, q2⟩ | ⟨v, j, u, rfl, q2, q3⟩
      · refine key (cst z) z false ?_ (rel_cst z)
        simp [Instr.lookup, run_under hu, hux, run_getMap hob, hck, run_findKey huk q2, hzv]
      · refine key v u true ?_ q3
        simp [Instr.lookup, run_under hu, hux, run_getMap hob, hck, run_findKey huk q2]
    · cases h
  · cases h

theorem step_mup (hm : MemRel g M w) (hT : RelT g M w T a) {t : TypeId} {x k v : Operand} (ho : o.op = .mapUpdate t x k v) {y : Bool × TypeId} (hy : mapB P t = some y) {out : Out}
    (h : step T M slot (.x (.mup y.1 x k v)) = some out) : Res P o a w g M slot out := by
  have hx := rel_ev hT x
  have hkr := rel_ev hT k
  have hvr := rel_ev hT v
  obtain ⟨kt, kind, hu, huk, hkind⟩ := mapB_spec hy
  simp only [step, stepX] at h
  split at h
  · rename_i id e
    rw [e] at hx
    obtain ⟨yy, hyy, h⟩ := Option.bind_eq_some_iff.1 h
    obtain ⟨hr, hev⟩ := mapc_row hyy
    obtain ⟨rb, ro, size, hat, hux⟩ := hx.2 _ hr
    obtain ⟨hU, hro, ob, hob, hR⟩ := sp_at hm hr hat
    obtain ⟨es, rfl, hE⟩ := map_obj hR hev
    split at h
    · rename_i hkey
      obtain ⟨cs', hp, rfl⟩ := Option.map_eq_some_iff.1 h
      have hK := keyed_of hkey hkr hkind
      have hck : ∀ b, (Instr.checkKey b 10000 kt (a.eval k)).run P w = .ok () w := fun b => run_checkKey huk (hkind.imp (fun h => h.2) (fun h => h.2)) b _ w
      rcases find_put hK hkr hvr 0 hE hp with ⟨j, e', u, k1, k2, k3, k4⟩ | ⟨k1, k2⟩
      · rw [Nat.zero_add] at k1
        refine res_put (ob' := .map (es.modify j fun e => { e with key := a.eval k, val := a.eval v }) es.size) hm hr hat (u := undef) (.inr ⟨?_, rfl⟩) ⟨by simp, ?_⟩ rfl
        · have k2' : es[j]? = some e' := by simpa using k2
          simp [execOp, ho, Instr.mapUpdate, run_under hu, hux, run_getMap hob, hck, run_findKey huk k1, Instr.keyThatStays, k2', k3, run_setMap _ hob]
        · have : (es.modify j fun e => { e with key := a.eval k, val := a.eval v }).toList = es.toList.set j { e' with key := a.eval k, val := a.eval v } := by
            apply List.ext_getElem?
            intro i
            rw [Array.getElem?_toList, Array.getElem?_modify, List.getElem?_set]
            by_cases hij : j = i
            · subst hij
              have hlt := (List.getElem?_eq_some_iff.1 k2).1
              have k2' : es[j]? = some e' := by simpa using k2
              simp [k2'] at hlt ⊢
              exact hlt
            · simp [hij]
          rw [this]
          exact k4
      · refine res_put (ob' := .map (es.push { key := a.eval k, val := a.eval v, born := es.size }) (es.size + 1)) hm hr hat (u := undef) (.inr ⟨?_, rfl⟩) ⟨by simp, ?_⟩ rfl
        · simp [execOp, ho, Instr.mapUpdate, run_under hu, hux, run_getMap hob, hck, run_findKey huk k1, run_setMap _ hob]
        · rw [Array.toList_push]
          simpa using k2
    · cases h
  · cases h

theorem step_rngS (hm : MemRel g M w) (hs : ¬ g.L slot) (hT : RelT g M w T a) {t : TypeId} {x : Operand} (ho : o.op = .range t x) (hu : P.underlying t = some .string) {out : Out}
    (h : step T M slot (.x (.rngS x)) = some out) : Res P o a w g M slot out := by
  have hx := rel_ev hT x
  simp only [step, stepX] at h
  split at h
  · rename_i l e
    rw [e] at hx
    have hx' : a.eval x = .string ⟨l.toArray⟩ := hx
    cases h
    refine res_spn (ob := .stringIter ⟨l.toArray⟩ 0) hm hs (u := .pointer (some ⟨w.heap.size, 0, none⟩)) (.inl ?_) ?_ (fun g' M' w' e1 e2 e3 => ⟨e2, fun r hr => ?_⟩)
    · simp [execOp, ho, Instr.range, run_under hu, hx', newObj]
      rfl
    · simp [ObjR]
    · rw [e3] at hr; cases hr
      exact ⟨by simp, _, _, _, e1, by simp⟩
  · cases h
theorem step_rngM (hm : MemRel g M w) (hs : ¬ g.L slot) (hT : RelT g M w T a) {t kt et : TypeId} {x : Operand} (ho : o.op = .range t x) (hu : P.underlying t = some (.map kt et)) {out : Out}
    (h : step T M slot (.x (.rngM x)) = some out) : Res P o a w g M slot out := by
  have hx := rel_ev hT x
  simp only [step, stepX] at h
  split at h
  · rename_i id e
    rw [e] at hx
    obtain ⟨yy, hyy, rfl⟩ := Option.map_eq_some_iff.1 h
    obtain ⟨hr, hev⟩ := mapc_row hyy
    obtain ⟨rb, ro, size, hat, hux⟩ := hx.2 _ hr
    obtain ⟨hU, hro, ob, hob, hR⟩ := sp_at hm hr hat
    obtain ⟨es, rfl, hE⟩ := map_obj hR hev
    have hl : yy.1.length / 2 = es.size := by have := RelE.even (es := []) hE; simp at this; omega
    refine res_spn (ob := .mapIter (some rb) es.size #[] es.size) hm hs (u := .pointer (some ⟨w.heap.size, 0, none⟩)) (.inl ?_) ?_ (fun g' M' w' e1 e2 e3 => ⟨e2, fun r hr => ?_⟩)
    · simp [execOp, ho, Instr.range, run_under hu, hux, run_getMap hob, newObj]
      rfl
    · refine ⟨id, 0, by rw [hl]; rfl, ?_, rfl⟩
      rw [hux] at hx
      exact hx
    · rw [e3] at hr; cases hr
      exact ⟨by simp, _, _, _, e1, by simp⟩
  · cases h
theorem iter_ptr {id : Nat} {u : Value} {r : Row} (hx : Rel g M w (.ptr id 0 0) u) (hr : M id = some r) (h0 : r.sz = 0) : ∃ rb ro size, g.at_ id = some (rb, ro, size) ∧ u = .pointer (some ⟨rb, ro, none⟩) := by
  obtain ⟨_, rb, ro, size, hat, hu⟩ := hx.2 r hr
  exact ⟨rb, ro, size, hat, by simpa using hu⟩
theorem step_nxtS (hm : MemRel g M w) (hT : RelT g M w T a) {x : Operand} (ho : o.op = .next x true) {out : Out} (h : step T M slot (.x (.nxtS x)) = some out) : Res P o a w g M slot out := by
  have hx := rel_ev hT x
  simp only [step, stepX] at h
  split at h
  · rename_i id e
    rw [e] at hx
    obtain ⟨⟨cs, ty⟩, hyy, h⟩ := Option.bind_eq_some_iff.1 h
    have hr := spc1_row hyy
    obtain ⟨rb, ro, size, hat, hux⟩ := iter_ptr hx hr rfl
    obtain ⟨hU, rfl, ob, hob, hR⟩ := sp_at hm hr hat
    simp only [nxtSX] at h
    split at h
    · rename_i l pos
      have hob2 : ∃ p : Nat, pos = p ∧ ob = .stringIter ⟨l.toArray⟩ p := by
        cases ob with
        | map es clock => obtain ⟨_, hR⟩ := hR; have := RelE.even (es := []) hR; simp at this; omega
        | stringIter s p =>
          have hR' : _ = _ := hR
          simp only [List.cons.injEq, AV.s.injEq, AV.i.injEq, true_and, and_true] at hR'
          obtain ⟨h1, h2⟩ := hR'
          exact ⟨p, h2, by rw [h1]⟩
        | mapIter m since seen st =>
          cases m with
          | none => exact hR.elim
          | some b => obtain ⟨id, n, h1, _⟩ := hR; simp at h1
        | _ => exact hR.elim
      obtain ⟨p, rfl, rfl⟩ := hob2
      simp only [Int.natCast_nonneg, if_true, Int.toNat_natCast] at h
      have hgo : (getObj rb).run P w = .ok (.stringIter ⟨l.toArray⟩ p) w := by simp [getObj, Sem.run, hob]
      split at h
      · rename_i c hc
        have hlt := (List.getElem?_eq_some_iff.1 hc).1
        split at h
        · rename_i hasc
          cases h
          have hdec : Utf8.decode ⟨l.toArray⟩ p = (c.toNat, 1) := by
            have hg : (⟨l.toArray⟩ : ByteArray).get! p = c := by
              have : l[p] = c := by rw [List.getElem?_eq_getElem hlt] at hc; simpa using hc
              simp [ByteArray.get!, hlt, this]
            unfold Utf8.decode
            simp only [Nat.add_zero, hg]
            rw [if_pos (show c.toNat < 128 from UInt8.lt_iff_toNat_lt.1 hasc)]
          have hso : (setObj rb (.stringIter ⟨l.toArray⟩ (p + 1))).run P w = .ok () { w with heap := w.heap.setIfInBounds rb (.stringIter ⟨l.toArray⟩ (p + 1)) } := by simp [setObj, Sem.run, hob]
          refine res_put (ob' := .stringIter ⟨l.toArray⟩ (p + 1)) hm hr hat (u := .tuple #[.bool true, .int .i64 p, .int .i32 c.toNat]) (.inl ?_) ?_ ?_
          · simp [execOp, ho, Instr.next, hux, hgo, hdec, hso, size_mk, hlt, goInt]
          · simp [ObjR]
          · exact ⟨_, rfl, _, _, rfl, rfl, _, _, rfl, rfl, _, _, rfl, rfl, rfl⟩
        · cases h
      · rename_i hc
        cases h
        have hge : ¬ p < l.length := fun hlt => by rw [List.getElem?_eq_getElem hlt] at hc; cases hc
        refine Res.pure hm rfl (u := .tuple #[.bool false]) (.inl ?_) ⟨_, rfl, _, _, rfl, rfl, rfl⟩
        simp [execOp, ho, Instr.next, hux, hgo, size_mk, hge]
    · cases h
  · cases h
theorem step_nxtM (hm : MemRel g M w) (hT : RelT g M w T a) {x : Operand} (ho : o.op = .next x false) {out : Out} (h : step T M slot (.x (.nxtM x)) = some out) : Res P o a w g M slot out := by
  have hx := rel_ev hT x
  simp only [step, stepX] at h
  split at h
  · rename_i id e
    rw [e] at hx
    obtain ⟨⟨cs, ty⟩, hyy, h⟩ := Option.bind_eq_some_iff.1 h
    have hr := spc1_row hyy
    obtain ⟨rb, ro, size, hat, hux⟩ := iter_ptr hx hr rfl
    obtain ⟨hU, rfl, ob, hob, hR⟩ := sp_at hm hr hat
    simp only at h
    split at h
    · rename_i mid since n st
      obtain ⟨⟨es0, ty0⟩, hyy2, hnx⟩ := Option.bind_eq_some_iff.1 h
      clear h
      obtain ⟨hr2, hev2⟩ := mapc_row hyy2
      simp only at hr2 hev2 hnx
      have hob2 : ∃ (b sn p s2 : Nat), since = sn ∧ n = p ∧ st = s2 ∧ ob = .mapIter (some b) sn (Array.range p) s2 ∧ Rel g M w (.mp mid) (.map (some b)) := by
        cases ob with
        | map es clock => obtain ⟨_, hR⟩ := hR; have := RelE.even (es := []) hR; simp at this; omega
        | stringIter s p => have hR' : _ = _ := hR; simp at hR'
        | mapIter m sn seen s2 =>
          cases m with
          | none => exact hR.elim
          | some b =>
            obtain ⟨id', p, h1, h2, rfl⟩ := hR
            simp only [List.cons.injEq, AV.mp.injEq, AV.i.injEq, true_and, and_true] at h1
            obtain ⟨rfl, h3, h4, h5⟩ := h1
            exact ⟨b, sn, p, s2, h3, h4, h5, rfl, h2⟩
        | _ => exact hR.elim
      obtain ⟨b, sn, p, s2, rfl, rfl, rfl, rfl, hmp⟩ := hob2
      obtain ⟨rb2, ro2, size2, hat2, hu2⟩ := hmp.2 _ hr2
      obtain rfl : b = rb2 := by simpa using hu2
      obtain ⟨hU2, hro2, ob2, hob2, hR2⟩ := sp_at hm hr2 hat2
      obtain ⟨es, rfl, hE⟩ := map_obj hR2 hev2
      unfold nxtMX at hnx
      rename _ = some out => h
      split at h
      · rename_i k v
        obtain ⟨e1, r, h0, h1, h2, h3, h4⟩ := hE
        obtain rfl : r = [] := h4
        have hes : es = #[e1] := by rw [← Array.toList_inj]; exact h0
        subst hes
        split at h
        · rename_i hc
          obtain ⟨c1, c2⟩ := hc
          have c1' : sn = 1 := by omega
          subst c1'
          have hgo : (getObj rb).run P w = .ok (.mapIter (some b) 1 (Array.range p) s2) w := by simp [getObj, Sem.run, hob]
          split at h
          · rename_i hp
            have hp' : p = 0 := by omega
            subst hp'
            cases h
            have hso : (setObj rb (.mapIter (some b) 1 #[0] 1)).run P w = .ok () { w with heap := w.heap.setIfInBounds rb (.mapIter (some b) 1 #[0] 1) } := by simp [setObj, Sem.run, hob]
            refine res_put (ob' := .mapIter (some b) 1 #[0] 1) hm hr hat (u := .tuple #[.bool true, e1.key, e1.val]) (.inl ?_) ?_ ?_
            · have hr0 : (Array.range 0).push 0 = #[0] := rfl
              simp [execOp, ho, Instr.next, hux, hgo, run_getMap hob2, h1, choose, Sem.run, Question.forced, hr0, hso]
            · exact ⟨mid, 1, by simp, hmp, by decide⟩
            · exact ⟨_, rfl, _, _, rfl, rfl, _, _, rfl, h2, _, _, rfl, h3, rfl⟩
          · rename_i hp
            split at h
            · rename_i hc2
              have hp' : p = 1 := by omega
              have hs' : s2 = 1 := by omega
              subst hp' hs'
              cases h
              refine Res.pure hm rfl (u := .tuple #[.bool false]) (.inl ?_) ⟨_, rfl, _, _, rfl, rfl, rfl⟩
              simp [execOp, ho, Instr.next, hux, hgo, run_getMap hob2, h1, choose, Sem.run, Question.forced]
            · cases h
        · cases h
      · cases h
    · cases h
  · cases h
theorem step_ent (hm : MemRel g M w) (hT : RelT g M w T a) {x : Operand} (ho : o.op = .entry x) {out : Out} (h : step T M slot (.x (.ent x)) = some out) : Res P o a w g M slot out := by
  have hx := rel_ev hT x
  simp only [step, stepX] at h
  split at h
  · rename_i id e
    rw [e] at hx
    obtain ⟨⟨cs, ty⟩, hyy, h⟩ := Option.bind_eq_some_iff.1 h
    have hr := spc1_row hyy
    obtain ⟨rb, ro, size, hat, hux⟩ := iter_ptr hx hr rfl
    obtain ⟨hU, rfl, ob, hob, hR⟩ := sp_at hm hr hat
    simp only at h
    split at h
    · rename_i mid since n st
      obtain ⟨⟨es0, ty0⟩, hyy2, hnx⟩ := Option.bind_eq_some_iff.1 h
      clear h
      obtain ⟨hr2, hev2⟩ := mapc_row hyy2
      simp only at hr2 hev2 hnx
      have hob2 : ∃ (b sn p s2 : Nat), since = sn ∧ n = p ∧ st = s2 ∧ ob = .mapIter (some b) sn (Array.range p) s2 ∧ Rel g M w (.mp mid) (.map (some b)) := by
        cases ob with
        | map es clock => obtain ⟨_, hR⟩ := hR; have := RelE.even (es := []) hR; simp at this; omega
        | stringIter s p => have hR' : _ = _ := hR; simp at hR'
        | mapIter m sn seen s2 =>
          cases m with
          | none => exact hR.elim
          | some b =>
            obtain ⟨id', p, h1, h2, rfl⟩ := hR
            simp only [List.cons.injEq, AV.mp.injEq, AV.i.injEq, true_and, and_true] at h1
            obtain ⟨rfl, h3, h4, h5⟩ := h1
            exact ⟨b, sn, p, s2, h3, h4, h5, rfl, h2⟩
        | _ => exact hR.elim
      obtain ⟨b, sn, p, s2, rfl, rfl, rfl, rfl, hmp⟩ := hob2
      obtain ⟨rb2, ro2, size2, hat2, hu2⟩ := hmp.2 _ hr2
      obtain rfl : b = rb2 := by simpa using hu2
      obtain ⟨hU2, hro2, ob2, hob2, hR2⟩ := sp_at hm hr2 hat2
      obtain ⟨es, rfl, hE⟩ := map_obj hR2 hev2
      unfold entX at hnx
      rename _ = some out => h
      split at h
      · rename_i k v
        obtain ⟨e1, r, h0, h1, h2, h3, h4⟩ := hE
        obtain rfl : r = [] := h4
        have hes : es = #[e1] := by rw [← Array.toList_inj]; exact h0
        subst hes
        split at h
        · rename_i hc
          have hp' : p = 1 := by omega
          have hs' : s2 = 1 := by omega
          subst hp' hs'
          cases h
          have hr1 : Array.range 1 = #[0] := rfl
          rw [hr1] at hob
          have hgo : (getObj rb).run P w = .ok (.mapIter (some b) sn #[0] 1) w := by simp [getObj, Sem.run, hob]
          refine Res.pure hm rfl (u := .tuple #[e1.key, e1.val]) (.inl ?_) ⟨_, rfl, _, _, rfl, h2, _, _, rfl, h3, rfl⟩
          simp [execOp, ho, Instr.entry, hux, hgo, run_getMap hob2, h1]
        · cases h
      · cases h
    · cases h
  · cases h
end
end Go.Vm

namespace Go.Vm
set_option linter.unusedSectionVars false
set_option linter.unusedSimpArgs false
set_option linter.unusedVariables false
open Go
variable [Inhabited LayT]
section
variable {P : Program} {o : Oper} {a : Act} {w : World} {g : Gh} {M : Mem} {slot : Nat} {T : Tm}

theorem all_one {zs : List Value} (h : zs.all (·.oneCell') = true) : ∀ v ∈ zs, v.oneCell' = true := fun v hv => List.all_eq_true.1 h v hv

theorem eq_args {c : Call} {x : Operand} (h : c.args.toList = [x]) : c.args = #[x] := by
  rw [← Array.toList_inj]; exact h
theorem eq_args2 {α : Type} {c : Array α} {x y : α} (h : c.toList = [x, y]) : c = #[x, y] := by
  rw [← Array.toList_inj]; exact h

set_option maxHeartbeats 1000000 in
theorem step_sound (hm : MemRel g M w) (hs : ¬ g.L slot) (hT : RelT g M w T a) {l : LOp} (hc : compOp P o.op = some l) {out : Out} (h : step T M slot l = some out) : Res P o a w g M slot out := by
  generalize e : o.op = op at hc
  cases op with
  | move x => cases hc; exact step_mov hm hT (.inl e) h
  | assign x => cases hc; exact step_mov hm hT (.inr e) h
  | pick c x y => cases hc; exact step_pick hm hT e h
  | alloc t =>
    simp only [compOp, Option.bind_eq_some_iff] at hc
    obtain ⟨zs, hz, hc⟩ := hc
    split at hc
    · rename_i h1; cases hc; exact step_alloc hm hs e hz (all_one h1) h
    · cases hc
  | box t x =>
    simp only [compOp, Option.map_eq_some_iff] at hc
    obtain ⟨n, _, rfl⟩ := hc
    exact step_box hm hs hT e h
  | build t ps =>
    simp only [compOp] at hc
    split at hc
    · rename_i fs ht
      split at hc
      · rename_i hall
        split at hc
        · rename_i zs qs hz hq
          cases hc
          exact step_buildS hm hT e ht hz hall hq h
        · cases hc
      · cases hc
    · rename_i m e0 ht
      split at hc
      · rename_i zs n hz hn
        cases hc
        exact step_buildA hm hT e ht hz hn h
      · cases hc
    · cases hc
  | buildSlice t len ps =>
    simp only [compOp] at hc
    split at hc
    · rename_i e0 ht
      split at hc
      · rename_i zs n hz hn
        split at hc
        · rename_i hcond
          cases hc
          exact step_slit hm hs hT e ht hz hn hcond.1 hcond.2.1 hcond.2.2.1 (all_one hcond.2.2.2) h
        · cases hc
      · cases hc
    · cases hc
  | load t p =>
    simp only [compOp] at hc
    split at hc
    · rename_i ag n h1 h2
      cases hc
      exact step_load hm hT e h1 h2 h
    · cases hc
  | store t p x =>
    simp only [compOp, Option.map_eq_some_iff] at hc
    obtain ⟨n, hn, rfl⟩ := hc
    exact step_store hm hT e hn h
  | nilCheck x => cases hc; exact step_nilc hm hT e h
  | binOp op t x y ty =>
    simp only [compOp] at hc
    split at hc
    · split at hc
      · rename_i ms ht
        split at hc
        · rename_i hy; cases hc; exact step_eqnI hm hT e rfl ht hy h
        · cases hc
      · rename_i e0 ht
        split at hc
        · rename_i hy; cases hc; exact step_eqnP hm hT e rfl ht hy h
        · cases hc
      · rename_i ht; cases hc; exact step_eqB hm hT e rfl ht h
      · rename_i e0 ht
        split at hc
        · rename_i hy; cases hc; exact step_eqs hm hT e rfl ht hy h
        · cases hc
      · rename_i fs ht
        split at hc
        · rename_i hy; cases hc; exact step_eqaS hm hT e rfl ht hy h
        · cases hc
      · rename_i m e0 ht
        split at hc
        · rename_i hy; cases hc; exact step_eqaA hm hT e rfl ht hy h
        · cases hc
      · cases hc; exact step_bin hm hT e h
      · cases hc; exact step_bin hm hT e h
      · cases hc
    · split at hc
      · rename_i ms ht
        split at hc
        · rename_i hy; cases hc; exact step_eqnI hm hT e rfl ht hy h
        · cases hc
      · rename_i e0 ht
        split at hc
        · rename_i hy; cases hc; exact step_eqnP hm hT e rfl ht hy h
        · cases hc
      · rename_i ht; cases hc; exact step_eqB hm hT e rfl ht h
      · rename_i e0 ht
        split at hc
        · rename_i hy; cases hc; exact step_eqs hm hT e rfl ht hy h
        · cases hc
      · rename_i fs ht
        split at hc
        · rename_i hy; cases hc; exact step_eqaS hm hT e rfl ht hy h
        · cases hc
      · rename_i m e0 ht
        split at hc
        · rename_i hy; cases hc; exact step_eqaA hm hT e rfl ht hy h
        · cases hc
      · cases hc; exact step_bin hm hT e h
      · cases hc; exact step_bin hm hT e h
      · cases hc
    · cases hc; exact step_bin hm hT e h
  | unOp op t x => cases hc; exact step_un hm hT e h
  | convert src dst x =>
    simp only [compOp] at hc
    split at hc
    · rename_i h1 h2; cases hc; exact step_convI hm hT e h1 h2 h
    · rename_i e0 h1 h2
      split at hc
      · rename_i h3; cases hc; exact step_convS hm hT e h1 h3 h2 h
      · cases hc
    · rename_i e0 e1 h1 h2
      split at hc
      · rename_i h3
        split at hc
        · rename_i hsd
          subst hsd
          cases hc
          exact step_convSl (e0 := 0) hm hT e h2 h3 h
        · cases hc
      · cases hc
    · rename_i e0 h1 h2
      split at hc
      · rename_i h3; cases hc; exact step_convB hm hs hT e h1 h3 h2 h
      · cases hc
    · cases hc
  | makeInterface t x =>
    simp only [compOp] at hc
    split at hc
    · cases hc
    · rename_i d hno ht
      cases hc
      exact step_mkI hm hT e ht (fun ms hd => hno ms hd) h
    · cases hc
  | makeFunc fn fst caps =>
    cases fn with
    | func f =>
      simp only [compOp] at hc
      split at hc
      · rename_i h0; cases hc; exact step_mkF hm hT e h0 h
      · split at hc
        · rename_i h1; cases hc; exact step_mkB hm hT e h1 h
        · cases hc
    | _ => simp [compOp] at hc
  | makeSlice t len cap =>
    simp only [compOp] at hc
    split at hc
    · rename_i e0 ht
      split at hc
      · rename_i i hi
        split at hc
        · rename_i z hz
          split at hc
          · rename_i hcond
            cases hc
            exact step_mkSl hm hs hT e ht hi hz hcond.1 hcond.2.1 (all_one hcond.2.2) h
          · cases hc
        · cases hc
      · cases hc
    · cases hc
  | slice t x lo hi mx =>
    simp only [compOp] at hc
    split at hc
    · split at hc
      · rename_i e0 h3 ht
        simp only [Option.map_eq_some_iff] at hc
        obtain ⟨n, hn, rfl⟩ := hc
        exact step_slc3 hm hT e ht hn h
      · cases hc
    · split at hc
      · rename_i e0 ht
        simp only [Option.map_eq_some_iff] at hc
        obtain ⟨n, hn, rfl⟩ := hc
        exact step_slc hm hT e ht hn h
      · rename_i ht; cases hc; exact step_slcS hm hT e ht h
      · rename_i m e0 ht
        simp only [Option.map_eq_some_iff] at hc
        obtain ⟨n, hn, rfl⟩ := hc
        exact step_slcA hm hT e ht hn h
      · cases hc
  | fieldAddr t p j =>
    simp only [compOp] at hc
    split at hc
    · rename_i off ft hf
      split at hc
      · rename_i n hn
        split at hc
        · rename_i h0; cases hc; exact step_fldA hm hT e hf hn h0 h
        · cases hc
      · cases hc
    · cases hc
  | field t x j =>
    simp only [compOp] at hc
    split at hc
    · rename_i off ft hf
      split at hc
      · rename_i n ag hn hag; cases hc; exact step_fld hm hT e hf hn hag h
      · cases hc
    · cases hc
  | indexAddr t x ix =>
    simp only [compOp] at hc
    split at hc
    · rename_i e0 ht
      simp only [Option.map_eq_some_iff] at hc
      obtain ⟨n, hn, rfl⟩ := hc
      exact step_idxA hm hT e ht hn h
    · rename_i m e0 ht
      simp only [Option.map_eq_some_iff] at hc
      obtain ⟨n, hn, rfl⟩ := hc
      cases x with
      | global gi => exact step_gix hm hT e ht hn h
      | _ => exact step_idxP hm hT e ht hn h
    · cases hc
  | index t x ix =>
    simp only [compOp] at hc
    split at hc
    · rename_i m e0 ht
      split at hc
      · rename_i n ag hn hag; cases hc; exact step_idx hm hT e ht hn hag h
      · cases hc
    · rename_i ht; cases hc; exact step_idxS hm hT e ht h
    · cases hc
  | extract x j => cases hc; exact step_ext hm hT e h
  | call c =>
    obtain ⟨callee, args, tys⟩ := c
    simp only [compOp] at hc
    split at hc
    · cases hc; simp [step] at h
    · cases hc; simp [step] at h
    · split at hc
      · rename_i t x h1 h2
        have h2' : args = #[x] := by rw [← Array.toList_inj]; exact h2
        subst h2'
        split at hc
        · rename_i e0 ht; cases hc; exact step_lenL hm hT e h1 ht h
        · rename_i ht; cases hc; exact step_lenS hm hT e h1 ht h
        · rename_i n e0 ht; cases hc; exact step_lenC hm e h1 ht h
        · cases hc
      · cases hc
    · split at hc
      · rename_i t x h1 h2
        have h2' : args = #[x] := by rw [← Array.toList_inj]; exact h2
        subst h2'
        split at hc
        · rename_i e0 ht; cases hc; exact step_capL hm hT e h1 ht h
        · cases hc
      · cases hc
    · split at hc
      · rename_i t u s x h1 h2
        have h1' := eq_args2 h1
        have h2' := eq_args2 h2
        subst h1' h2'
        split at hc
        · rename_i e0 kn ht hu
          split at hc
          · rename_i i hi
            split at hc
            · rename_i z hz
              split at hc
              · rename_i hcond
                cases hc
                exact step_appN hm hs hT e ht hu hi hz hcond.1 hcond.2.1 (all_one hcond.2.2) h
              · cases hc
            · cases hc
          · cases hc
        · rename_i e0 e1 ht hu
          split at hc
          · rename_i i hi
            split at hc
            · rename_i z hz
              split at hc
              · rename_i hcond
                cases hc
                exact step_app hm hs hT e ht hu hi hz hcond.1 hcond.2 h
              · cases hc
            · cases hc
          · cases hc
        · rename_i e0 ht hu
          split at hc
          · rename_i i hi
            split at hc
            · rename_i z hz
              split at hc
              · rename_i hcond
                cases hc
                exact step_appS hm hs hT e ht hu hi hz hcond.1 hcond.2 h
              · cases hc
            · cases hc
          · cases hc
        · cases hc
      · cases hc
    · split at hc
      · rename_i x y h2
        have h2' := eq_args2 h2
        subst h2'
        cases hc
        exact step_mn hm hT e h
      · cases hc
    · split at hc
      · rename_i x y h2
        have h2' := eq_args2 h2
        subst h2'
        cases hc
        exact step_mx hm hT e h
      · cases hc
    · cases hc
  | makeMap t r =>
    simp only [compOp] at hc
    split at hc
    · rename_i hn
      cases hc
      cases r with
      | none => exact step_mkM hm hs e h
      | some _ => cases hn
    · cases hc
  | mapUpdate t m k v =>
    simp only [compOp, Option.map_eq_some_iff] at hc
    obtain ⟨y, hy, rfl⟩ := hc
    exact step_mup hm hT e hy h
  | lookup t m k ok =>
    simp only [compOp, Option.bind_eq_some_iff, Option.map_eq_some_iff] at hc
    obtain ⟨y, hy, z, ⟨i, hi, hiz⟩, rfl⟩ := hc
    exact step_look hm hT e hy (by rw [hi]; exact hiz) h
  | range t x =>
    simp only [compOp] at hc
    split at hc
    · rename_i ht; cases hc; exact step_rngS hm hs hT e ht h
    · rename_i kt et ht; cases hc; exact step_rngM hm hs hT e ht h
    · cases hc
  | entry it => cases hc; exact step_ent hm hT e h
  | next it isS =>
    simp only [compOp] at hc
    split at hc
    · rename_i hb; cases hc; subst hb; exact step_nxtS hm hT e h
    · rename_i hb
      cases hc
      obtain rfl : isS = false := by simpa using hb
      exact step_nxtM hm hT e h
  | _ => simp [compOp] at hc
end
#print axioms step_sound
end Go.Vm

namespace Go.Vm
set_option linter.unusedSectionVars false
set_option linter.unusedSimpArgs false
set_option linter.unusedVariables false
open Go
variable [Inhabited LayT]

/-! ### regions -/
abbrev Log := List (Nat × List Nat × List Nat)

def Callable (P : Program) (f : FuncId) : Prop := ∃ fn c, P.funcs[f]? = some fn ∧ (fn.name == "runtime.NumGoroutine") = false ∧ fn.body = some c

/-- What a call does, whatever the world: told at one memory, of which it looks at the rows 'rd' alone. -/
def CallOk (P : Program) (f : FuncId) (args : List AV) (M : Mem) (slot : Nat) (out : Out) : Prop :=
  Callable P f ∧ ∀ M', (∀ id ∈ out.rd, M' id = M id) → ∀ g w us, MemRel g M' w → RelL g M' w args us → (∀ id, slot ≤ id → id < slot + 8 → ¬ g.L id) →
    Calls P f us.toArray w fun e w' => ∃ u g', e = .returned u ∧ Rel g' (upd M' out.eff) w' out.v u ∧ MemRel g' (upd M' out.eff) w' ∧ Evo g M' w g' (upd M' out.eff) w' ∧
      ∀ id, g'.L id → g.L id ∨ (slot ≤ id ∧ id < slot + 8)

def guardOk (T : Tm) : Option (Nat × Bool) → Option Bool
  | none => some true
  | some (t, want) => match T t with
    | .b x => some (x == want)
    | .k (.tuple _) => some false
    | _ => none

/-- What an operation of the region does. -/
def does (P : Program) (T : Tm) (M : Mem) (slot : Nat) (op : LOp) (out : Out) : Prop :=
  match op with
  | .call f args => CallOk P f (args.map (ev T)) M slot out
  | .callv x args => ∃ f caps, ev T x = .fn f caps ∧ CallOk P f (args.map (ev T) ++ caps) M slot out
  | op => step T M slot op = some out

def rgnP (P : Program) (dr : Bool) (base : Nat) (K : Tm → Mem → Log → Prop) : List LOper → Nat → Tm → Mem → Log → Prop
  | [], _, T, M, log => K T M log
  | o :: os, i, T, M, log =>
    match guardOk T o.guard with
    | none => False
    | some t =>
      if t = true then
        match o.op with
        | .call f args => ∃ out, CallOk P f (args.map (ev T)) M (base + 8 * i) out ∧
            rgnP P dr base K os (i + 1) (put T o.dst out.v) (upd M out.eff) (if dr then (i, out.eff.map (·.1), out.rd) :: log else log)
        | .callv x args => ∃ out, (∃ f caps, ev T x = .fn f caps ∧ CallOk P f (args.map (ev T) ++ caps) M (base + 8 * i) out) ∧
            rgnP P dr base K os (i + 1) (put T o.dst out.v) (upd M out.eff) (if dr then (i, out.eff.map (·.1), out.rd) :: log else log)
        | op => match step T M (base + 8 * i) op with
          | none => False
          | some out => rgnP P dr base K os (i + 1) (put T o.dst out.v) (upd M out.eff) (if dr then (i, out.eff.map (·.1), out.rd) :: log else log)
      else rgnP P dr base K os (i + 1) (put T o.dst (.k undef)) M log

/-! ### a state, and what becomes of a world -/
/-- n: how many slots; k: how many rows came in, whose names are kept. -/
structure StR (n k : Nat) (g : Gh) (T : Tm) (M : Mem) (nb : Nat) (a : Act) (w : World) : Prop where
  mem : MemRel g M w
  tm : RelT g M w T a
  nb : ∀ id, g.L id → id < nb
  kn : ∀ id, id < k → g.L id
  size : a.tmps.size = n
  defers : a.defers = []

structure WEvo (k : Nat) (g : Gh) (M : Mem) (w : World) (g' : Gh) (M' : Mem) (w' : World) : Prop where
  Z : ∀ b, g.Z b → g'.Z b
  Zn : ∀ b, g'.Z b → g.Z b ∨ ¬ g.U b
  U : ∀ b, g.U b → g'.U b
  keep : ∀ b, g.U b → w'.heap[b]? = w.heap[b]?
  size : w.heap.size ≤ w'.heap.size
  os : w'.os = w.os
  tape : w'.tape = w.tape
  output : w'.output = w.output ∧ w.drawn ≤ w'.drawn
  ids : ∀ id, id < k → ∀ r', M' id = some r' → ∃ r, M id = some r ∧ g'.at_ id = g.at_ id ∧ r'.sz = r.sz ∧ r'.el.length = r.el.length
theorem WEvo.refl (k : Nat) (g : Gh) (M : Mem) (w : World) : WEvo k g M w g M w :=
  ⟨fun _ h => h, fun _ h => .inl h, fun _ h => h, fun _ _ => rfl, Nat.le_refl _, rfl, rfl, ⟨rfl, Nat.le_refl _⟩, fun _ _ r h => ⟨r, h, rfl, rfl, rfl⟩⟩
theorem WEvo.trans {k : Nat} {g g1 g2 : Gh} {M M1 M2 : Mem} {w w1 w2 : World} (h : WEvo k g M w g1 M1 w1) (h2 : WEvo k g1 M1 w1 g2 M2 w2) : WEvo k g M w g2 M2 w2 where
  Z b hb := h2.Z b (h.Z b hb)
  Zn b hb := by
    rcases h2.Zn b hb with h3 | h3
    · exact h.Zn b h3
    · exact .inr fun h4 => h3 (h.U b h4)
  U b hb := h2.U b (h.U b hb)
  keep b hb := (h2.keep b (h.U b hb)).trans (h.keep b hb)
  size := Nat.le_trans h.size h2.size
  os := h2.os.trans h.os
  tape := h2.tape.trans h.tape
  output := ⟨h2.output.1.trans h.output.1, Nat.le_trans h.output.2 h2.output.2⟩
  ids id hl r' hr := by
    obtain ⟨r1, e1, a1, s1, l1⟩ := h2.ids id hl r' hr
    obtain ⟨r, e, a, s, l⟩ := h.ids id hl r1 e1
    exact ⟨r, e, a1.trans a, s1.trans s, l1.trans l⟩
theorem Evo.wevo {k : Nat} {g g' : Gh} {M M' : Mem} {w w' : World} (h : Evo g M w g' M' w') (hk : ∀ id, id < k → g.L id) : WEvo k g M w g' M' w' :=
  ⟨h.Z, h.Zn, h.U, h.keep, h.size, h.os, h.tape, h.output, fun id hid => h.ids id (hk id hid)⟩

section
variable {P : Program} {n k : Nat} {g : Gh} {T : Tm} {M : Mem} {nb : Nat} {a : Act} {w : World}

theorem put_getD {a : Act} {d t : Nat} {v : Value} (hd : d < a.tmps.size) : (a.put (some d) v).tmps.getD t undef = if t = d then v else a.tmps.getD t undef := by
  simp only [Act.put, Array.getD_eq_getD_getElem?, Array.getElem?_setIfInBounds]
  by_cases h : d = t
  · subst h; simp [hd]
  · rw [if_neg h, if_neg (Ne.symm h)]

/-- One operation's result laid into its slot. -/
theorem StR.put {g' : Gh} {M' : Mem} {w' : World} (h : StR n k g T M nb a w) {dst : Option Nat} (hd : ∀ d, dst = some d → d < n) {v : AV} {u : Value} {nb' : Nat}
    (hm : MemRel g' M' w') (hE : Evo g M w g' M' w') (hr : Rel g' M' w' v u) (hnb : ∀ id, g'.L id → id < nb') :
    StR n k g' (put T dst v) M' nb' (a.put dst u) w' where
  mem := hm
  tm := fun t => by
    cases dst with
    | none => exact Rel.evo hE h.mem.zu _ _ (h.tm t)
    | some d =>
      have hd' : d < a.tmps.size := by rw [h.size]; exact hd d rfl
      rw [put_getD hd']
      by_cases e : t = d
      · subst e; simp only [Go.Vm.put, if_true]; exact hr
      · simp only [Go.Vm.put, e, if_false]; exact Rel.evo hE h.mem.zu _ _ (h.tm t)
  nb := hnb
  kn := fun id hid => hE.L id (h.kn id hid)
  size := by cases dst <;> simp [Act.put, h.size]
  defers := by cases dst <;> simp [Act.put, h.defers]

theorem wanted_guard (h : RelT g M w T a) {ops : Array Oper} {o : Oper} {gd : Option (Nat × Bool)} {t : Bool}
    (hg : (match o.guard with | none => some none | some (j, want) => ((ops[j]?).bind (·.dst)).map fun t => some (t, want)) = some gd) (hk : guardOk T gd = some t) :
    Region.wanted o (yielded ops a.tmps) = t := by
  unfold Region.wanted
  cases hgd : o.guard with
  | none =>
    rw [hgd] at hg
    cases hg
    simpa [guardOk] using hk
  | some jw =>
    obtain ⟨j, want⟩ := jw
    rw [hgd] at hg
    simp only [Option.map_eq_some_iff] at hg
    obtain ⟨d, hd, rfl⟩ := hg
    have hr := h d
    simp only [guardOk] at hk
    simp only [yielded, hd, Option.bind_some]
    rw [Array.getD_eq_getD_getElem?] at hr
    split at hk
    · rename_i x e
      rw [e] at hr
      cases hq : a.tmps[d]? with
      | none => rw [hq] at hr; exact absurd hr (by simp [Rel, undef])
      | some v =>
        rw [hq] at hr
        have hv : v = .bool x := hr
        subst hv
        cases hk
        simp
    · rename_i vs e
      rw [e] at hr
      cases hk
      cases hq : a.tmps[d]? with
      | none => simp
      | some v =>
        rw [hq] at hr
        have hv : v = .tuple vs := hr
        subst hv
        simp
    · cases hk

theorem does_of_step {op : LOp} {slot : Nat} {out : Out} (h : step T M slot op = some out) : does P T M slot op out := by
  cases op <;> first | exact h | (simp [step] at h)

def LOp.isCall : LOp → Bool
  | .call _ _ | .callv _ _ => true
  | _ => false
theorem compOp_noncall {op : Op} {l : LOp} (h : compOp P op = some l) (hop : ∀ c, op ≠ .call c) : l.isCall = false := by
  unfold compOp at h
  cases op <;> (try simp only at h) <;> (try (exact absurd rfl (hop _))) <;> (repeat' split at h) <;>
    first
    | contradiction
    | (cases h; rfl)
    | (cases h; done)
    | (obtain ⟨_, _, rfl⟩ := Option.map_eq_some_iff.1 h; rfl)
    | (obtain ⟨_, _, rfl⟩ := Option.map_eq_some_iff.1 h; split <;> rfl)
    | (obtain ⟨_, _, h⟩ := Option.bind_eq_some_iff.1 h; split at h <;> cases h; rfl)
    | (obtain ⟨_, _, h⟩ := Option.bind_eq_some_iff.1 h; obtain ⟨_, _, rfl⟩ := Option.map_eq_some_iff.1 h; rfl)
theorem compOp_call {op : Op} {f : FuncId} {args : List Operand} (h : compOp P op = some (.call f args)) : ∃ c, op = .call c ∧ c.callee = .value (.func f) ∧ c.args.toList = args := by
  by_cases hop : ∀ c, op ≠ .call c
  · exact absurd (compOp_noncall h hop) (by simp [LOp.isCall])
  · simp only [ne_eq, Classical.not_forall, Classical.not_not] at hop
    obtain ⟨c, rfl⟩ := hop
    refine ⟨c, rfl, ?_⟩
    simp only [compOp] at h
    split at h
    · rename_i e
      cases h
      exact ⟨e, rfl⟩
    all_goals (repeat' split at h) <;> cases h
theorem compOp_callv {op : Op} {x : Operand} {args : List Operand} (h : compOp P op = some (.callv x args)) : ∃ c, op = .call c ∧ c.callee = .value x ∧ c.args.toList = args := by
  by_cases hop : ∀ c, op ≠ .call c
  · exact absurd (compOp_noncall h hop) (by simp [LOp.isCall])
  · simp only [ne_eq, Classical.not_forall, Classical.not_not] at hop
    obtain ⟨c, rfl⟩ := hop
    refine ⟨c, rfl, ?_⟩
    simp only [compOp] at h
    split at h
    · cases h
    · rename_i e
      cases h
      exact ⟨e, rfl⟩
    all_goals (repeat' split at h) <;> cases h

theorem run_callFunc {f : FuncId} (h : Callable P f) (args : Array Value) (w : World) : (callFunc f args).run P w = .ok (.enter f args) w := by
  obtain ⟨fn, c, h1, h2, h3⟩ := h
  unfold callFunc
  have h2' : ¬ fn.name = "runtime.NumGoroutine" := by simpa using h2
  simp [h1, h2', h3]

theorem call_wp {o : Oper} {f : FuncId} {args : List AV} {us : List Value} {slot : Nat} {out : Out} (hrun : (execOp a.eval o).run P w = .ok (.enter f us.toArray) w)
    (hc : CallOk P f args M slot out) (hm : MemRel g M w) (hus : RelL g M w args us) (hslot : ∀ id, slot ≤ id → id < slot + 8 → ¬ g.L id) {K : Act → World → Prop} {Q : Exit → Act → World → Prop}
    (hK : ∀ u w' g', Rel g' (upd M out.eff) w' out.v u → MemRel g' (upd M out.eff) w' → Evo g M w g' (upd M out.eff) w' → (∀ id, g'.L id → g.L id ∨ (slot ≤ id ∧ id < slot + 8)) → K (a.put o.dst u) w') : o.wp P a w K Q := by
  unfold Oper.wp
  rw [hrun, Oper.upon_enter]
  refine (hc.2 M (fun _ _ => rfl) g w us hm hus hslot).mono ?_
  rintro e w' ⟨u, g', rfl, h1, h2, h3, h4⟩
  exact hK u w' g' h1 h2 h3 h4

theorem does_wp {o : Oper} {l : LOp} {slot : Nat} {out : Out} (hc : compOp P o.op = some l) (hd : does P T M slot l out) (hm : MemRel g M w) (hT : RelT g M w T a)
    (hslot : ∀ id, slot ≤ id → id < slot + 8 → ¬ g.L id) {K : Act → World → Prop} {Q : Exit → Act → World → Prop}
    (hK : ∀ u w' g', Rel g' (upd M out.eff) w' out.v u → MemRel g' (upd M out.eff) w' → Evo g M w g' (upd M out.eff) w' → (∀ id, g'.L id → g.L id ∨ (slot ≤ id ∧ id < slot + 8)) → K (a.put o.dst u) w') : o.wp P a w K Q := by
  have other : l.isCall = false → step T M slot l = some out → o.wp P a w K Q := by
    intro _ hs
    obtain ⟨u, w', g', hr, h1, h2, h3, h4⟩ := step_sound hm (hslot slot (Nat.le_refl _) (by omega)) hT hc hs
    have := hK u w' g' h1 h2 h3 (fun i h => (h4 i h).imp (fun x => x) fun e => ⟨by omega, by omega⟩)
    rcases hr with hr | ⟨hr, rfl⟩
    · unfold Oper.wp; rw [hr]; exact this
    · unfold Oper.wp; rw [hr]; exact this
  cases l with
  | call f args =>
    obtain ⟨c, e, h1, rfl⟩ := compOp_call hc
    obtain ⟨callee, cargs, tys⟩ := c
    simp only at h1
    subst h1
    have hd' : CallOk P f (cargs.toList.map (ev T)) M slot out := hd
    refine call_wp (us := cargs.toList.map a.eval) ?_ hd' hm (relL_ev hT _) hslot hK
    have : (cargs.toList.map a.eval).toArray = cargs.map a.eval := by cases cargs; simp
    rw [this]
    simp [execOp, e, resolve, Deferred.ofValue, invoke, Act.eval, run_callFunc hd'.1]
  | callv x args =>
    obtain ⟨c, e, h1, rfl⟩ := compOp_callv hc
    obtain ⟨callee, cargs, tys⟩ := c
    simp only at h1
    subst h1
    obtain ⟨f, caps, hx, hd'⟩ := hd
    have hxr := rel_ev hT x
    rw [hx] at hxr
    obtain ⟨vs, hu, hl⟩ := hxr
    refine call_wp (us := cargs.toList.map a.eval ++ vs) ?_ hd' hm (relL_append (relL_ev hT _) hl) hslot hK
    have : (cargs.toList.map a.eval ++ vs).toArray = cargs.map a.eval ++ vs.toArray := by cases cargs; simp
    rw [this]
    simp [execOp, e, resolve, Deferred.ofValue, invoke, hu, run_callFunc hd'.1]
  | _ => exact other rfl hd
end
end Go.Vm

namespace Go.Vm
set_option linter.unusedSectionVars false
set_option linter.unusedSimpArgs false
set_option linter.unusedVariables false
open Go
variable [Inhabited LayT]

def dstOk (n : Nat) : Option Nat → Bool
  | none => true
  | some d => decide (d < n)
def compOper (P : Program) (n : Nat) (ops : Array Oper) (o : Oper) : Option LOper :=
  match (match o.guard with | none => some none | some (j, want) => ((ops[j]?).bind (·.dst)).map fun t => some (t, want)) with
  | some gd => if dstOk n o.dst = true then some ⟨o.dst, (compOp P o.op).getD .bad, gd⟩ else none
  | _ => none

section
variable {P : Program} {n k : Nat} {g : Gh} {T : Tm} {M : Mem} {nb : Nat} {a : Act} {w : World} {ops : Array Oper}

structure Comped (P : Program) (n : Nat) (ops : Array Oper) (o : Oper) (lo : LOper) : Prop where
  op : compOp P o.op = some lo.op ∨ lo.op = .bad
  gd : (match o.guard with | none => some none | some (j, want) => ((ops[j]?).bind (·.dst)).map fun t => some (t, want)) = some lo.guard
  dst : lo.dst = o.dst
  lt : ∀ d, lo.dst = some d → d < n
theorem comped {o : Oper} {lo : LOper} (h : compOper P n ops o = some lo) : Comped P n ops o lo := by
  unfold compOper at h
  split at h
  · rename_i gd h2
    split at h
    · rename_i hd
      cases h
      refine ⟨?_, h2, rfl, fun d e => ?_⟩
      · cases h3 : compOp P o.op with
        | none => exact .inr (by simp)
        | some l => exact .inl (by simp)
      · rw [show o.dst = some d from e] at hd
        exact of_decide_eq_true hd
    · cases h
  · cases h

theorem Comped.real {o : Oper} {lo : LOper} (hc : Comped P n ops o lo) {slot : Nat} {out : Out} (hd : does P T M slot lo.op out) : compOp P o.op = some lo.op := by
  rcases hc.op with h | h
  · exact h
  · rw [h] at hd; simp [does, step] at hd

/-- The state behind an operation that was carried out. -/
theorem next_of_does {o : Oper} {lo : LOper} (hc : Comped P n ops o lo) {base i : Nat} (st : StR n k g T M (base + 8 * i) a w) {out : Out} (hd : does P T M (base + 8 * i) lo.op out)
    {K : Act → World → Prop} {Q : Exit → Act → World → Prop}
    (hK : ∀ a' w' g', StR n k g' (put T lo.dst out.v) (upd M out.eff) (base + 8 * (i + 1)) a' w' → WEvo k g M w g' (upd M out.eff) w' → K a' w') : o.wp P a w K Q := by
  have hop : compOp P o.op = some lo.op := by
    rcases hc.op with h | h
    · exact h
    · rw [h] at hd; simp [does, step] at hd
  refine does_wp hop hd st.mem st.tm (fun id h1 h2 h => by have := st.nb id h; omega) (fun u w' g' h1 h2 h3 h4 => ?_)
  rw [← hc.dst]
  refine hK _ w' g' (st.put hc.lt h2 h3 h1 (fun id hid => ?_)) (h3.wevo st.kn)
  rcases h4 id hid with h | h
  · have := st.nb id h; omega
  · omega

/-- A region in the order of its text. -/
theorem rgn_seq {base : Nat} {K : Tm → Mem → Log → Prop} {Q : Exit → Act → World → Prop} {g0 : Gh} {M0 : Mem} {w0 : World} (m : Nat)
    (hK : ∀ T' M' log g' a' w', K T' M' log → StR n k g' T' M' (base + 8 * m) a' w' → WEvo k g0 M0 w0 g' M' w' → Q .normal a' w') :
    ∀ (rest : List Oper) (os : List LOper) (i : Nat) {g : Gh} {T : Tm} {M : Mem} {log : Log} {a : Act} {w : World}, i + rest.length = m → (∀ j o, rest[j]? = some o → ops[i + j]? = some o) → rest.mapM (compOper P n ops) = some os →
      StR n k g T M (base + 8 * i) a w → WEvo k g0 M0 w0 g M w → rgnP P false base K os i T M log → wpOps P ops Q (List.range' i rest.length) a w
  | [], os, i, g, T, M, log, a, w, hm, _, hc, st, hw, h => by
    simp at hc
    subst hc
    have hi : i = m := by simpa using hm
    subst hi
    exact hK T M log g a w h st hw
  | o :: rest, os, i, g, T, M, log, a, w, hm, hget, hc, st, hw, h => by
    rw [List.mapM_cons] at hc
    simp only [Option.bind_eq_bind, Option.bind_eq_some_iff] at hc
    obtain ⟨lo, h1, os', h2, h3⟩ := hc
    cases h3
    have hc' := comped h1
    have ho : ops[i]? = some o := by simpa using hget 0 o rfl
    rw [List.length_cons, List.range'_succ, wpOps_cons]
    unfold wpOp
    simp only [ho]
    have hget' : ∀ j o', rest[j]? = some o' → ops[i + 1 + j]? = some o' := fun j o' hj => by
      have := hget (j + 1) o' (by simpa using hj)
      rwa [show i + (j + 1) = i + 1 + j by omega] at this
    have hm' : i + 1 + rest.length = m := by simp at hm; omega
    unfold rgnP at h
    split at h
    · exact h.elim
    · rename_i t hg
      have hwant := wanted_guard st.tm hc'.gd hg
      rw [hwant]
      cases t with
      | false =>
        simp only [Bool.false_eq_true, if_false] at h ⊢
        have st' := st.put hc'.lt st.mem (Evo.refl _ _ _) (v := .k undef) (u := undef) rfl (nb' := base + 8 * (i + 1)) (fun id hid => by have := st.nb id hid; omega)
        rw [← hc'.dst]
        exact rgn_seq m hK rest os' (i + 1) hm' hget' h2 st' hw h
      | true =>
        simp only [if_true] at h ⊢
        have go : ∀ out, does P T M (base + 8 * i) lo.op out → rgnP P false base K os' (i + 1) (put T lo.dst out.v) (upd M out.eff) log → o.wp P a w (wpOps P ops Q (List.range' (i + 1) rest.length)) Q := by
          intro out hd hr
          exact next_of_does hc' st hd (fun a' w' g' st' hw' => rgn_seq m hK rest os' (i + 1) hm' hget' h2 st' (hw.trans hw') hr)
        left
        split at h
        · rename_i f args e
          obtain ⟨out, h4, h5⟩ := h
          exact go out (by rw [e]; exact h4) h5
        · rename_i x args e
          obtain ⟨out, h4, h5⟩ := h
          exact go out (by rw [e]; exact h4) h5
        · rename_i op hn1 hn2
          split at h
          · exact h.elim
          · rename_i out hs
            exact go out (does_of_step hs) h
end
end Go.Vm

namespace Go.Vm
set_option linter.unusedSectionVars false
set_option linter.unusedSimpArgs false
set_option linter.unusedVariables false
open Go
variable [Inhabited LayT]

def opdTmps : Operand → List Nat
  | .tmp t => [t]
  | _ => []
def opdsX : XOp → List Operand
  | .mkM => []
  | .mup _ x k v => [x, k, v]
  | .look _ _ _ x k => [x, k]
  | .rngS x | .rngM x | .nxtS x | .nxtM x | .ent x => [x]
  | .appS _ _ s x => [s, x]
def opds : LOp → List Operand
  | .x op => opdsX op
  | .bad => []
  | .gix _ _ _ ix => [ix]
  | .eqs _ x | .capL x | .convSl x => [x]
  | .appN _ _ _ s x => [s, x]
  | .slc3 _ x lo hi mx => x :: (lo.toList ++ [hi, mx])
  | .mov x | .nilc x | .un _ x | .convI _ x | .convS x | .convB x | .mkI _ x | .fldA _ x | .fld _ _ _ x | .ext x _ | .lenL x | .lenS x | .box _ x | .load _ _ x | .eqn _ _ x => [x]
  | .pick c a b => [c, a, b]
  | .alloc _ _ | .lenC _ => []
  | .build _ ps => ps.map (·.2.2)
  | .slit _ _ _ ps => ps.map (·.2)
  | .store _ p v => [p, v]
  | .bin _ x y | .eqB _ x y | .eqa _ _ x y | .mkSl _ _ _ x y | .idxA _ x y | .idxP _ _ x y | .idx _ _ _ x y | .idxS x y | .app _ _ _ x y | .mn x y | .mx x y => [x, y]
  | .mkF _ caps => caps
  | .mkB _ caps => caps
  | .slc _ x lo hi | .slcS x lo hi | .slcA _ _ x lo hi => x :: (lo.toList ++ hi.toList)
  | .call _ args => args
  | .callv x args => x :: args
def tmpsOf (o : LOper) : List Nat := (opds o.op).flatMap opdTmps ++ (match o.guard with | none => [] | some (t, _) => [t])

section
variable {P : Program} {T T' : Tm} {M M' : Mem} {slot : Nat}

theorem ev_congr {x : Operand} (h : ∀ t ∈ opdTmps x, T' t = T t) : ev T' x = ev T x := by
  cases x with
  | tmp t => exact h t (by simp [opdTmps])
  | _ => rfl
theorem fillL_congr : ∀ (ps : List (Nat × Nat × Operand)) (cs : List AV), (∀ x ∈ ps.map (·.2.2), ev T' x = ev T x) → fillL M cs T' ps = fillL M cs T ps
  | [], _, _ => rfl
  | (off, n, x) :: ps, cs, h => by
    simp only [fillL, h x (by simp)]
    split
    · exact fillL_congr ps _ (fun y hy => h y (by simp at hy ⊢; exact .inr hy))
    · rfl
theorem fillE_congr {sz : Nat} : ∀ (ps : List (Nat × Operand)) (el : List (List AV)), (∀ x ∈ ps.map (·.2), ev T' x = ev T x) → fillE M el sz T' ps = fillE M el sz T ps
  | [], _, _ => rfl
  | (i, x) :: ps, el, h => by
    simp only [fillE, h x (by simp)]
    split
    · exact fillE_congr ps _ (fun y hy => h y (by simp at hy ⊢; exact .inr hy))
    · rfl
theorem bound_congr {d : Nat} {x : Option Operand} (h : ∀ y ∈ x.toList, ev T' y = ev T y) : bound T' d x = bound T d x := by
  cases x with
  | none => rfl
  | some y => simp only [bound, h y (by simp)]

theorem step_congrT {op : LOp} (h : ∀ x ∈ opds op, ev T' x = ev T x) : step T' M slot op = step T M slot op := by
  cases op with
  | build zs ps =>
    simp only [step, opds] at h ⊢
    rw [fillL_congr ps _ h]
    have : (ps.flatMap fun p => refsC (ev T' p.2.2)) = ps.flatMap fun p => refsC (ev T p.2.2) := by
      rw [List.flatMap_def, List.flatMap_def]
      congr 1
      exact List.map_congr_left fun p hp => by rw [h p.2.2 (List.mem_map.2 ⟨p, hp, rfl⟩)]
    rw [this]
  | slit sz zs len ps =>
    simp only [step, opds] at h ⊢
    rw [fillE_congr ps _ h]
    have : (ps.flatMap fun p => refsC (ev T' p.2)) = ps.flatMap fun p => refsC (ev T p.2) := by
      rw [List.flatMap_def, List.flatMap_def]
      congr 1
      exact List.map_congr_left fun p hp => by rw [h p.2 (List.mem_map.2 ⟨p, hp, rfl⟩)]
    rw [this]
  | mkF f caps =>
    simp only [step, opds] at h ⊢
    rw [List.map_congr_left h]
  | mkB f caps =>
    simp only [step, opds] at h ⊢
    rw [List.map_congr_left h]
  | slc sz x lo hi =>
    simp only [opds] at h
    have h1 := h x (by simp)
    have h2 : ∀ d, bound T' d lo = bound T d lo := fun d => bound_congr fun y hy => h y (by simp at hy ⊢; simp [hy])
    have h3 : ∀ d, bound T' d hi = bound T d hi := fun d => bound_congr fun y hy => h y (by simp at hy ⊢; simp [hy])
    simp only [step, h1, h2, h3]
  | bad => rfl
  | slc3 sz x lo hi mx =>
    simp only [opds] at h
    have h1 := h x (by simp)
    have h2 : ∀ d, bound T' d lo = bound T d lo := fun d => bound_congr fun y hy => h y (by simp at hy ⊢; simp [hy])
    have h3 : ∀ d, bound T' d (some hi) = bound T d (some hi) := fun d => bound_congr fun y hy => h y (by simp at hy ⊢; simp [hy])
    have h4 : ∀ d, bound T' d (some mx) = bound T d (some mx) := fun d => bound_congr fun y hy => h y (by simp at hy ⊢; simp [hy])
    simp only [step, h1, h2, h3, h4]
  | slcS x lo hi =>
    simp only [opds] at h
    have h1 := h x (by simp)
    have h2 : ∀ d, bound T' d lo = bound T d lo := fun d => bound_congr fun y hy => h y (by simp at hy ⊢; simp [hy])
    have h3 : ∀ d, bound T' d hi = bound T d hi := fun d => bound_congr fun y hy => h y (by simp at hy ⊢; simp [hy])
    simp only [step, h1, h2, h3]
  | slcA m sz x lo hi =>
    simp only [opds] at h
    have h1 := h x (by simp)
    have h2 : ∀ d, bound T' d lo = bound T d lo := fun d => bound_congr fun y hy => h y (by simp at hy ⊢; simp [hy])
    have h3 : ∀ d, bound T' d hi = bound T d hi := fun d => bound_congr fun y hy => h y (by simp at hy ⊢; simp [hy])
    simp only [step, h1, h2, h3]
  | eqn neg isP x => cases isP <;> simp only [opds, List.mem_cons, forall_eq_or_imp, List.not_mem_nil, false_implies, implies_true, and_true] at h <;> simp only [step, h]
  | call f args => rfl
  | callv x args => rfl
  | alloc e zs => rfl
  | x op =>
    cases op <;> (simp only [opds, opdsX, List.mem_cons, forall_eq_or_imp, List.not_mem_nil, false_implies, implies_true, and_true] at h; first | rfl | simp only [step, stepX, h])
  | lenC n => rfl
  | _ =>
    simp only [opds, List.mem_cons, forall_eq_or_imp, List.not_mem_nil, false_implies, implies_true, and_true] at h
    simp only [step, h]

theorem one_congr {v : AV} (h : ∀ id ∈ v.ref1, M' id = M id) : oneC M' v = oneC M v := by
  cases v with
  | k v => cases v <;> rfl
  | own id off n st => simp only [oneC]; rw [h _ (by simp [AV.ref1])]
  | ptr id i o => simp only [oneC]; rw [h _ (by simp [AV.ref1])]
  | mp id => simp only [oneC]; rw [h _ (by simp [AV.ref1])]
  | _ => rfl
theorem flat_congr {v : AV} (h : ∀ id ∈ refsC v, M' id = M id) : flatC M' v = flatC M v := by
  cases v with
  | agg cs =>
    simp only [flatC]
    have : ∀ c ∈ cs, oneC M' c = oneC M c := fun c hc => one_congr fun id hid => h id (by simp only [refsC, AV.cells, List.mem_flatMap]; exact ⟨c, hc, hid⟩)
    rw [Bool.eq_iff_iff, List.all_eq_true, List.all_eq_true]
    exact ⟨fun k c hc => by rw [← this c hc]; exact k c hc, fun k c hc => by rw [this c hc]; exact k c hc⟩
  | _ => exact one_congr fun id hid => h id (by simpa [refsC, AV.cells] using hid)
theorem fillL_congrM : ∀ (ps : List (Nat × Nat × Operand)) (cs : List AV), (∀ id ∈ ps.flatMap (fun p => refsC (ev T p.2.2)), M' id = M id) → fillL M' cs T ps = fillL M cs T ps
  | [], _, _ => rfl
  | (off, n, x) :: ps, cs, h => by
    simp only [fillL, flat_congr (fun id hid => h id (by simp only [List.mem_flatMap, List.mem_cons]; exact ⟨_, .inl rfl, hid⟩))]
    split
    · exact fillL_congrM ps _ (fun id hid => h id (by rw [List.flatMap_cons]; exact List.mem_append.2 (.inr hid)))
    · rfl
theorem fillE_congrM {sz : Nat} : ∀ (ps : List (Nat × Operand)) (el : List (List AV)), (∀ id ∈ ps.flatMap (fun p => refsC (ev T p.2)), M' id = M id) → fillE M' el sz T ps = fillE M el sz T ps
  | [], _, _ => rfl
  | (i, x) :: ps, el, h => by
    simp only [fillE, flat_congr (fun id hid => h id (by simp only [List.mem_flatMap, List.mem_cons]; exact ⟨_, .inl rfl, hid⟩))]
    split
    · exact fillE_congrM ps _ (fun id hid => h id (by rw [List.flatMap_cons]; exact List.mem_append.2 (.inr hid)))
    · rfl
theorem elems_congr {sz : Nat} {v : AV} {ys : List (List AV)} {rd : List Nat} (h : elems M sz v = some (ys, rd)) (hr : ∀ id ∈ rd, M' id = M id) : elems M' sz v = some (ys, rd) := by
  unfold elems at h ⊢
  split at h
  · exact h
  · exact h
  · exact h
  · rename_i id off n
    simp only [Option.bind_eq_some_iff] at h
    obtain ⟨r, h1, h2⟩ := h
    split at h2
    · rename_i hs
      cases h2
      simp [hr id (by simp), h1, hs]
    · cases h2
  · cases h

theorem appX_rd {e : TypeId} {sz bytes : Nat} {s : AV} {ys : List (List AV)} {rd : List Nat} {out : Out} (h : appX M slot e sz bytes s ys rd = some out) : ∀ id ∈ rd, id ∈ out.rd := by
  unfold appX at h
  split at h
  · split at h
    · cases h; exact fun _ h => h
    · cases h
  · obtain ⟨r, h1, h⟩ := Option.bind_eq_some_iff.1 h
    split at h
    · cases h; exact fun _ h => by simp [h]
    · cases h
  · cases h
theorem appX_congr {e : TypeId} {sz bytes : Nat} {s : AV} {ys : List (List AV)} {rd : List Nat} {out : Out} (h : appX M slot e sz bytes s ys rd = some out) (hr : ∀ id ∈ out.rd, M' id = M id) : appX M' slot e sz bytes s ys rd = some out := by
  unfold appX at h ⊢
  split at h
  · exact h
  · obtain ⟨r, h1, h2⟩ := Option.bind_eq_some_iff.1 h
    rw [hr _ ?_, h1]
    · exact h2
    · split at h2
      · cases h2; simp
      · cases h2
  · cases h
theorem spc1_congr {id : Nat} {y : List AV × Option TypeId} (h : spc1 M id = some y) (hr : M' id = M id) : spc1 M' id = some y := by
  unfold spc1 at h ⊢
  rw [hr]; exact h
theorem mapc_congr {id : Nat} {y : List AV × Option TypeId} (h : mapc M id = some y) (hr : M' id = M id) : mapc M' id = some y := by
  unfold mapc spc1 at h ⊢
  rw [hr]; exact h
theorem stepX_congrM {op : XOp} {out : Out} (h : stepX T M slot op = some out) (hr : ∀ id ∈ out.rd, M' id = M id) : stepX T M' slot op = some out := by
  cases op with
  | mkM => exact h
  | rngS x => exact h
  | mup isS x k v =>
    simp only [stepX] at h ⊢
    split at h
    · obtain ⟨y, h1, h2⟩ := Option.bind_eq_some_iff.1 h
      rw [mapc_congr h1 (hr _ ?_)]
      · exact h2
      · split at h2
        · obtain ⟨_, _, rfl⟩ := Option.map_eq_some_iff.1 h2; simp
        · cases h2
    · cases h
  | look isS z ok x k =>
    simp only [stepX] at h ⊢
    split at h
    · obtain ⟨y, h1, h2⟩ := Option.bind_eq_some_iff.1 h
      rw [mapc_congr h1 (hr _ ?_)]
      · exact h2
      · split at h2
        · obtain ⟨_, _, rfl⟩ := Option.map_eq_some_iff.1 h2; simp
        · cases h2
    · cases h
  | rngM x =>
    simp only [stepX] at h ⊢
    split at h
    · obtain ⟨y, h1, rfl⟩ := Option.map_eq_some_iff.1 h
      rw [mapc_congr h1 (hr _ (by simp))]
      rfl
    · cases h
  | nxtS x =>
    simp only [stepX] at h ⊢
    split at h
    · obtain ⟨y, h1, h2⟩ := Option.bind_eq_some_iff.1 h
      rw [spc1_congr h1 (hr _ ?_)]
      · exact h2
      · unfold nxtSX at h2
        split at h2
        · split at h2
          · split at h2
            · split at h2
              · cases h2; simp
              · cases h2
            · cases h2; simp
          · cases h2
        · cases h2
    · cases h
  | nxtM x =>
    simp only [stepX] at h ⊢
    split at h
    · obtain ⟨⟨cs, ty⟩, h1, h2⟩ := Option.bind_eq_some_iff.1 h
      simp only at h2
      split at h2
      · obtain ⟨e, h3, h4⟩ := Option.bind_eq_some_iff.1 h2
        have key : ∀ {id mid : Nat} {since n st : Int} {es : List AV}, nxtMX id mid ty since n st es = some out → id ∈ out.rd ∧ mid ∈ out.rd := by
          intro id mid since n st es h
          unfold nxtMX at h
          split at h
          · split at h
            · split at h
              · cases h; simp
              · split at h
                · cases h; simp
                · cases h
            · cases h
          · cases h
        obtain ⟨k1, k2⟩ := key h4
        rw [spc1_congr h1 (hr _ k1)]
        simp only [Option.bind_some]
        rw [mapc_congr h3 (hr _ k2)]
        exact h4
      · cases h2
    · cases h
  | ent x =>
    simp only [stepX] at h ⊢
    split at h
    · obtain ⟨⟨cs, ty⟩, h1, h2⟩ := Option.bind_eq_some_iff.1 h
      simp only at h2
      split at h2
      · obtain ⟨e, h3, h4⟩ := Option.bind_eq_some_iff.1 h2
        have key : ∀ {id mid : Nat} {n st : Int} {es : List AV}, entX id mid n st es = some out → id ∈ out.rd ∧ mid ∈ out.rd := by
          intro id mid n st es h
          unfold entX at h
          split at h
          · split at h
            · cases h; simp
            · cases h
          · cases h
        obtain ⟨k1, k2⟩ := key h4
        rw [spc1_congr h1 (hr _ k1)]
        simp only [Option.bind_some]
        rw [mapc_congr h3 (hr _ k2)]
        exact h4
      · cases h2
    · cases h
  | appS e bytes s x =>
    simp only [stepX] at h ⊢
    split at h
    · exact appX_congr h hr
    · cases h

set_option maxHeartbeats 1000000 in
theorem step_congrM {op : LOp} {out : Out} (h : step T M slot op = some out) (hr : ∀ id ∈ out.rd, M' id = M id) : step T M' slot op = some out := by
  cases op with
  | build zs ps =>
    simp only [step, Option.map_eq_some_iff] at h ⊢
    obtain ⟨cs, h1, rfl⟩ := h
    exact ⟨cs, by rw [fillL_congrM ps _ hr]; exact h1, rfl⟩
  | slit sz zs len ps =>
    simp only [step, Option.map_eq_some_iff] at h ⊢
    obtain ⟨cs, h1, rfl⟩ := h
    exact ⟨cs, by rw [fillE_congrM ps _ hr]; exact h1, rfl⟩
  | box n x =>
    simp only [step] at h ⊢
    split at h
    · rename_i hc
      cases h
      rw [if_pos ⟨by rw [flat_congr hr]; exact hc.1, hc.2⟩]
    · cases h
  | mkI t x =>
    simp only [step] at h ⊢
    split at h
    · rename_i hc
      cases h
      have : ∀ id ∈ (ev T x).ref1, M' id = M id := by
        intro id hid
        refine hr id ?_
        generalize ev T x = v at hid
        cases v <;> simp [AV.ref1] at hid <;> simp [refsC, AV.cells, AV.ref1, hid]
      rw [if_pos (by rw [one_congr this]; exact hc)]
    · cases h
  | load n ag p =>
    simp only [step] at h ⊢
    split at h
    · exact h
    · rename_i id i o' e
      simp only [Option.bind_eq_some_iff] at h ⊢
      obtain ⟨r, h1, h2⟩ := h
      refine ⟨r, ?_, h2⟩
      rw [hr id ?_]
      · exact h1
      · split at h2 <;> (simp only [Option.map_eq_some_iff] at h2; obtain ⟨_, _, rfl⟩ := h2; simp)
    · cases h
  | store n p x =>
    simp only [step] at h ⊢
    split at h
    · rename_i id i o' e
      split at h
      · rename_i hc
        simp only [Option.bind_eq_some_iff, Option.map_eq_some_iff] at h
        obtain ⟨r, h1, r', h2, rfl⟩ := h
        rw [if_pos ⟨by rw [flat_congr fun id hid => hr id (by simp [hid])]; exact hc.1, hc.2⟩, hr id (by simp)]
        simp only [Option.bind_eq_some_iff, Option.map_eq_some_iff]
        exact ⟨r, h1, r', h2, rfl⟩
      · cases h
    · cases h
  | nilc x =>
    simp only [step] at h ⊢
    split at h
    · simp only [Option.map_eq_some_iff] at h ⊢
      obtain ⟨r, h1, rfl⟩ := h
      exact ⟨r, by rw [hr _ (by simp)]; exact h1, rfl⟩
    · exact h
    · cases h
  | eqn neg isP x =>
    cases isP with
    | false => exact h
    | true =>
      simp only [step] at h ⊢
      split at h
      · exact h
      · exact h
      · simp only [Option.map_eq_some_iff] at h ⊢
        obtain ⟨r, h1, rfl⟩ := h
        exact ⟨r, by rw [hr _ (by simp)]; exact h1, rfl⟩
      · cases h
  | eqs neg x =>
    simp only [step] at h ⊢
    split at h
    · exact h
    · exact h
    · exact h
    · simp only [Option.bind_eq_some_iff] at h ⊢
      obtain ⟨r, h1, h2⟩ := h
      split at h2
      · rename_i hc
        cases h2
        exact ⟨r, by rw [hr _ (by simp)]; exact h1, by rw [if_pos hc]⟩
      · cases h2
    · cases h
  | convS x =>
    simp only [step, Option.bind_eq_some_iff, Option.map_eq_some_iff] at h ⊢
    obtain ⟨⟨el, rd⟩, h1, l, h2, rfl⟩ := h
    exact ⟨(el, rd), elems_congr h1 hr, l, h2, rfl⟩
  | slc sz x lo hi =>
    simp only [step] at h ⊢
    split at h
    · simp only [Option.bind_eq_some_iff] at h ⊢
      obtain ⟨l, h1, h', h2, r, h3, h4⟩ := h
      split at h4
      · rename_i hc
        cases h4
        exact ⟨l, h1, h', h2, r, by rw [hr _ (by simp)]; exact h3, by rw [if_pos hc]⟩
      · cases h4
    · exact h
    · exact h
    · cases h
  | convSl x =>
    simp only [step] at h ⊢
    split at h
    · simp only [Option.bind_eq_some_iff] at h ⊢
      obtain ⟨r, h3, h4⟩ := h
      split at h4
      · rename_i hc
        cases h4
        exact ⟨r, by rw [hr _ (by simp)]; exact h3, by rw [if_pos hc]⟩
      · cases h4
    · cases h
  | slc3 sz x lo hi mx =>
    simp only [step] at h ⊢
    split at h
    · simp only [Option.bind_eq_some_iff] at h ⊢
      obtain ⟨l, h1, h', h2, m, h5, r, h3, h4⟩ := h
      split at h4
      · rename_i hc
        cases h4
        exact ⟨l, h1, h', h2, m, h5, r, by rw [hr _ (by simp)]; exact h3, by rw [if_pos hc]⟩
      · cases h4
    · exact h
    · cases h
  | slcA m sz x lo hi =>
    simp only [step] at h ⊢
    split at h
    · simp only [Option.bind_eq_some_iff] at h ⊢
      obtain ⟨l, h1, h', h2, r, h3, h4⟩ := h
      split at h4
      · rename_i hc
        cases h4
        exact ⟨l, h1, h', h2, r, by rw [hr _ (by simp)]; exact h3, by rw [if_pos hc]⟩
      · cases h4
    · cases h
  | fldA off p =>
    simp only [step] at h ⊢
    split at h
    · simp only [Option.map_eq_some_iff] at h ⊢
      obtain ⟨r, h1, rfl⟩ := h
      exact ⟨r, by rw [hr _ (by simp)]; exact h1, rfl⟩
    · exact h
    · cases h
  | idxA sz x ix =>
    simp only [step] at h ⊢
    split at h
    · split at h
      · simp only [Option.bind_eq_some_iff] at h ⊢
        obtain ⟨r, h1, h2⟩ := h
        split at h2
        · rename_i hc
          cases h2
          exact ⟨r, by rw [hr _ (by simp)]; exact h1, by rw [if_pos hc]⟩
        · cases h2
      · exact h
      · cases h
    · cases h
  | idxP m sz x ix =>
    simp only [step] at h ⊢
    split at h
    · split at h
      · rename_i hc
        rw [if_pos hc]
        split at h
        · simp only [Option.map_eq_some_iff] at h ⊢
          obtain ⟨r, h1, rfl⟩ := h
          exact ⟨r, by rw [hr _ (by simp)]; exact h1, rfl⟩
        · exact h
        · cases h
      · cases h
    · cases h
  | lenL x =>
    simp only [step] at h ⊢
    split at h
    · simp only [Option.map_eq_some_iff] at h ⊢
      obtain ⟨r, h1, rfl⟩ := h
      exact ⟨r, by rw [hr _ (by simp)]; exact h1, rfl⟩
    · exact h
    · exact h
    · cases h
  | app e sz bytes s x =>
    simp only [step] at h ⊢
    simp only [Option.bind_eq_some_iff] at h ⊢
    obtain ⟨⟨ys, rd⟩, h1, h2⟩ := h
    exact ⟨(ys, rd), elems_congr h1 fun id hid => hr id (appX_rd h2 id hid), appX_congr h2 hr⟩
  | x op =>
    simp only [step] at h ⊢
    exact stepX_congrM h hr
  | _ => exact h

theorem does_congr {op : LOp} {out : Out} (h : does P T M slot op out) (hT : ∀ t ∈ (opds op).flatMap opdTmps, T' t = T t) (hr : ∀ id ∈ out.rd, M' id = M id) : does P T' M' slot op out := by
  have he : ∀ x ∈ opds op, ev T' x = ev T x := fun x hx => ev_congr fun t ht => hT t (List.mem_flatMap.2 ⟨x, hx, ht⟩)
  have calls : ∀ {f : FuncId} {args : List AV}, CallOk P f args M slot out → CallOk P f args M' slot out := fun hc => ⟨hc.1, fun M2 h2 => hc.2 M2 fun id hid => (h2 id hid).trans (hr id hid)⟩
  have other : step T M slot op = some out → step T' M' slot op = some out := fun hs => step_congrM (by rw [step_congrT he]; exact hs) hr
  cases op with
  | call f args =>
    have h' : CallOk P f (args.map (ev T)) M slot out := h
    show CallOk P f (args.map (ev T')) M' slot out
    rw [List.map_congr_left (show ∀ x ∈ args, ev T' x = ev T x from he)]
    exact calls h'
  | callv x args =>
    obtain ⟨f, caps, h1, h2⟩ := h
    refine ⟨f, caps, by rw [he x (by simp [opds])]; exact h1, ?_⟩
    rw [List.map_congr_left (show ∀ y ∈ args, ev T' y = ev T y from fun y hy => he y (by simp [opds, hy]))]
    exact calls h2
  | _ => exact other h
end
end Go.Vm

namespace Go.Vm
set_option linter.unusedSectionVars false
set_option linter.unusedSimpArgs false
set_option linter.unusedVariables false
open Go
variable [Inhabited LayT]

/-! ### regions that draw their order -/
structure It where
  i : Nat
  o : Oper
  lo : LOper
  x : Option Out

def It.wr (p : It) : List Nat := match p.x with | none => [] | some out => out.eff.map (·.1)
def It.rd (p : It) : List Nat := match p.x with | none => [] | some out => out.rd
def It.nT (T : Tm) (p : It) : Tm := match p.x with | none => put T p.lo.dst (.k undef) | some out => put T p.lo.dst out.v
def It.nM (M : Mem) (p : It) : Mem := match p.x with | none => M | some out => upd M out.eff
def It.val (p : It) : AV := match p.x with | none => .k undef | some out => out.v
def It.eff (p : It) : List (Nat × Option Row) := match p.x with | none => [] | some out => out.eff

def okAt (P : Program) (base : Nat) (T : Tm) (M : Mem) (p : It) : Prop :=
  guardOk T p.lo.guard = some p.x.isSome ∧ ∀ out, p.x = some out → does P T M (base + 8 * p.i) p.lo.op out

structure Ind (p q : It) : Prop where
  pq : ∀ d, p.lo.dst = some d → d ∉ tmpsOf q.lo ∧ q.lo.dst ≠ some d
  qp : ∀ d, q.lo.dst = some d → d ∉ tmpsOf p.lo
  m1 : ∀ id ∈ p.wr, id ∉ q.rd ∧ id ∉ q.wr
  m2 : ∀ id ∈ q.wr, id ∉ p.rd

section
variable {P : Program} {base : Nat} {T : Tm} {M : Mem}

theorem nT_eq (p : It) : p.nT T = put T p.lo.dst p.val := by unfold It.nT It.val; cases p.x <;> rfl
theorem nM_eq (p : It) : p.nM M = upd M p.eff := by unfold It.nM It.eff; cases p.x <;> rfl
theorem wr_eq (p : It) : p.wr = p.eff.map (·.1) := by unfold It.wr It.eff; cases p.x <;> rfl

theorem put_other {T : Tm} {d : Option Nat} {v : AV} {t : Nat} (h : d ≠ some t) : put T d v t = T t := by
  cases d with
  | none => rfl
  | some d => simp only [put]; rw [if_neg (fun e => h (by rw [e]))]
theorem upd_other {e : List (Nat × Option Row)} : ∀ {M : Mem} {id : Nat}, id ∉ e.map (·.1) → upd M e id = M id := by
  induction e with
  | nil => intro M id _; rfl
  | cons x e ih =>
    intro M id h
    obtain ⟨a, r⟩ := x
    simp only [List.map_cons, List.mem_cons, not_or] at h
    simp only [upd]
    rw [if_neg h.1, ih h.2]
theorem upd_in {e : List (Nat × Option Row)} : ∀ {M M' : Mem} {id : Nat}, id ∈ e.map (·.1) → upd M e id = upd M' e id := by
  induction e with
  | nil => intro M M' id h; simp at h
  | cons x e ih =>
    intro M M' id h
    obtain ⟨a, r⟩ := x
    simp only [upd]
    by_cases c : id = a
    · rw [if_pos c, if_pos c]
    · rw [if_neg c, if_neg c]
      simp only [List.map_cons, List.mem_cons] at h
      exact ih (h.resolve_left c)

theorem okAt_congr {T' : Tm} {M' : Mem} {p : It} (h : okAt P base T M p) (hT : ∀ t ∈ tmpsOf p.lo, T' t = T t) (hM : ∀ id ∈ p.rd, M' id = M id) : okAt P base T' M' p := by
  refine ⟨?_, fun out ho => does_congr (h.2 out ho) (fun t ht => hT t (List.mem_append.2 (.inl ht))) fun id hid => hM id (by unfold It.rd; rw [ho]; exact hid)⟩
  rw [← h.1]
  cases hg : p.lo.guard with
  | none => rfl
  | some x =>
    obtain ⟨t, want⟩ := x
    simp only [guardOk]
    rw [hT t (List.mem_append.2 (.inr (by rw [hg]; simp)))]

theorem commute {p q : It} (h : Ind p q) (h1 : okAt P base T M p) (h2 : okAt P base (p.nT T) (p.nM M) q) :
    okAt P base T M q ∧ okAt P base (q.nT T) (q.nM M) p ∧ q.nT (p.nT T) = p.nT (q.nT T) ∧ q.nM (p.nM M) = p.nM (q.nM M) := by
  refine ⟨okAt_congr h2 ?_ ?_, okAt_congr h1 ?_ ?_, ?_, ?_⟩
  · intro t ht
    rw [nT_eq, put_other (fun e => (h.pq t e).1 ht)]
  · intro id hid
    rw [nM_eq, upd_other (fun e => (h.m1 id (by rw [wr_eq]; exact e)).1 hid)]
  · intro t ht
    rw [nT_eq, put_other (fun e => h.qp t e ht)]
  · intro id hid
    rw [nM_eq, upd_other (fun e => h.m2 id (by rw [wr_eq]; exact e) hid)]
  · rw [nT_eq, nT_eq, nT_eq, nT_eq]
    funext t
    by_cases c1 : p.lo.dst = some t
    · have c2 := (h.pq t c1).2
      rw [put_other c2, c1]
      simp [put]
    · rw [put_other (d := p.lo.dst) c1]
      by_cases c2 : q.lo.dst = some t
      · rw [c2]; simp [put]
      · rw [put_other c2, put_other c1, put_other c2]
  · rw [nM_eq, nM_eq, nM_eq, nM_eq]
    funext id
    by_cases c1 : id ∈ p.eff.map (·.1)
    · have c2 : id ∉ q.eff.map (·.1) := by rw [← wr_eq]; exact (h.m1 id (by rw [wr_eq]; exact c1)).2
      rw [upd_other c2]
      exact upd_in c1
    · rw [upd_other (e := p.eff) c1]
      by_cases c2 : id ∈ q.eff.map (·.1)
      · exact upd_in c2
      · rw [upd_other c2, upd_other c1, upd_other c2]

def Runs (P : Program) (base : Nat) : List It → Tm → Mem → Tm → Mem → Prop
  | [], T, M, T', M' => T' = T ∧ M' = M
  | p :: r, T, M, T', M' => okAt P base T M p ∧ Runs P base r (p.nT T) (p.nM M) T' M'

theorem front {q : It} {post : List It} : ∀ (pre : List It) {T : Tm} {M : Mem} {T' : Tm} {M' : Mem}, (∀ p ∈ pre, Ind p q) → Runs P base (pre ++ q :: post) T M T' M' →
    okAt P base T M q ∧ Runs P base (pre ++ post) (q.nT T) (q.nM M) T' M'
  | [], T, M, T', M', _, h => h
  | p :: pre, T, M, T', M', hi, ⟨h1, h2⟩ => by
    obtain ⟨h3, h4⟩ := front pre (fun x hx => hi x (by simp [hx])) h2
    obtain ⟨c1, c2, c3, c4⟩ := commute (hi p (by simp)) h1 h3
    exact ⟨c1, c2, by rw [← c3, ← c4]; exact h4⟩

/-! ### whichever comes up -/
def befOf (bef : List Nat) (i j : Nat) : Bool := (bef.getD i 0).testBit j
def okBack (ops : List Oper) : Bool := ops.zipIdx.all fun (o, i) => o.after.toList.all fun e => !Region.binds .any e || decide (e.on < i)
def okBef (ops : List Oper) (bef : List Nat) : Bool :=
  ops.zipIdx.all fun (o, i) => (List.range ops.length).all fun j => !befOf bef i j || o.after.toList.any fun e => Region.binds .any e && (e.on == j || befOf bef e.on j)

structure Inv (ops : Array Oper) (n : Nat) (bef : List Nat) (listed : Array Bool) (R : List It) : Prop where
  size : listed.size = ops.size
  mem : ∀ i, i < ops.size → listed.getD i true = false → ∃ p ∈ R, p.i = i
  un : ∀ p ∈ R, p.i < ops.size ∧ listed.getD p.i true = false
  cl : ∀ i, i < ops.size → listed.getD i true = true → ∀ j, j < ops.size → befOf bef i j = true → listed.getD j true = true
  it : ∀ p ∈ R, ops[p.i]? = some p.o ∧ Comped P n ops p.o p.lo
  pw : R.Pairwise fun p q => befOf bef q.i p.i = true ∨ Ind p q
  so : R.Pairwise fun p q => p.i < q.i

theorem getD_set' (l : Array Bool) (i j : Nat) (hi : i < l.size) : (l.setIfInBounds i true).getD j true = if j = i then true else l.getD j true := by
  simp only [Array.getD_eq_getD_getElem?, Array.getElem?_setIfInBounds]
  by_cases h : i = j
  · subst h; simp [hi]
  · rw [if_neg h, if_neg (Ne.symm h)]

theorem any_runs {n k : Nat} {ops : Array Oper} {bef : List Nat} {Q : Exit → Act → World → Prop} {g0 : Gh} {M0 : Mem} {w0 : World} {T' : Tm} {M' : Mem}
    (hb : okBef ops.toList bef = true) (hback : okBack ops.toList = true)
    (hQ : ∀ g' a' w', StR n k g' T' M' (base + 8 * ops.size) a' w' → WEvo k g0 M0 w0 g' M' w' → Q .normal a' w') :
    ∀ (fuel : Nat) (listed : Array Bool) (R : List It) {g : Gh} {T : Tm} {M : Mem} {a : Act} {w : World}, R.length ≤ fuel → Inv (P := P) ops n bef listed R → Runs P base R T M T' M' →
      MemRel g M w → RelT g M w T a → a.tmps.size = n → a.defers = [] → (∀ id, g.L id → id < base ∨ ∃ j, j < ops.size ∧ listed.getD j true = true ∧ base + 8 * j ≤ id ∧ id < base + 8 * j + 8) → (∀ id, id < k → g.L id) → WEvo k g0 M0 w0 g M w →
      wpAny P .any ops Q fuel listed a w := by
  have done : ∀ (listed : Array Bool) {g : Gh} {T : Tm} {M : Mem} {a : Act} {w : World}, Runs P base [] T M T' M' →
      MemRel g M w → RelT g M w T a → a.tmps.size = n → a.defers = [] → (∀ id, g.L id → id < base ∨ ∃ j, j < ops.size ∧ listed.getD j true = true ∧ base + 8 * j ≤ id ∧ id < base + 8 * j + 8) → (∀ id, id < k → g.L id) → WEvo k g0 M0 w0 g M w → Q .normal a w := by
    intro listed g T M a w hR hm hT hs hd hl hkn hw
    obtain ⟨rfl, rfl⟩ := hR
    refine hQ g a w ⟨hm, hT, fun id hid => ?_, hkn, hs, hd⟩ hw
    rcases hl id hid with h | ⟨j, h1, _, h2, h3⟩ <;> omega
  have ready_nil : ∀ {listed : Array Bool} {R : List It}, Inv (P := P) ops n bef listed R → Region.ready .any ops listed = [] → R = [] := by
    intro listed R inv hr
    cases hR : R with
    | nil => rfl
    | cons p R' =>
      exfalso
      subst hR
      obtain ⟨h1, h2⟩ := inv.un p (by simp)
      obtain ⟨h3, _⟩ := inv.it p (by simp)
      have hmem : p.i ∈ Region.ready .any ops listed := by
        refine mem_ready.2 ⟨h2, p.o, h3, fun e he hbe => ?_⟩
        have h4 := List.all_eq_true.1 hback (p.o, p.i) (by rw [List.mem_iff_getElem?]; exact ⟨p.i, by rw [List.getElem?_zipIdx]; simp [h3]⟩)
        have h5 := List.all_eq_true.1 h4 e (by simpa using he)
        simp only [hbe, Bool.not_true, Bool.false_or, decide_eq_true_eq] at h5
        cases hl : listed.getD e.on true with
        | true =>
          have : e.on < listed.size := by rw [inv.size]; omega
          simp [this] at hl ⊢
          exact hl
        | false =>
          exfalso
          obtain ⟨q, hq, hqi⟩ := inv.mem e.on (by omega) hl
          rcases List.mem_cons.1 hq with rfl | hq
          · omega
          · have := List.rel_of_pairwise_cons inv.so hq
            omega
      rw [hr] at hmem
      cases hmem
  intro fuel
  induction fuel with
  | zero =>
    intro listed R g T M a w hlen inv hR hm hT hs hd hl hkn hw
    obtain rfl : R = [] := List.eq_nil_of_length_eq_zero (by omega)
    refine ⟨?_, done listed hR hm hT hs hd hl hkn hw⟩
    cases hr : Region.ready .any ops listed with
    | nil => rfl
    | cons i r =>
      exfalso
      have : i ∈ Region.ready .any ops listed := by rw [hr]; simp
      obtain ⟨h1, o, h2, _⟩ := mem_ready.1 this
      obtain ⟨p, hp, _⟩ := inv.mem i (Array.getElem?_eq_some_iff.1 h2).1 h1
      simp at hp
  | succ fuel ih =>
    intro listed R g T M a w hlen inv hR hm hT hs hd hl hkn hw
    refine ⟨fun hr => ?_, fun i hi => ?_⟩
    · have := ready_nil inv hr
      subst this
      exact done listed hR hm hT hs hd hl hkn hw
    · obtain ⟨h1, o, h2, hall⟩ := mem_ready.1 hi
      have hilt := (Array.getElem?_eq_some_iff.1 h2).1
      obtain ⟨q, hq, rfl⟩ := inv.mem i hilt h1
      obtain ⟨pre, post, rfl⟩ := List.append_of_mem hq
      obtain ⟨hqo, hqc⟩ := inv.it q (by simp)
      have ho : o = q.o := Option.some.inj (h2.symm.trans hqo)
      subst ho
      -- nothing ahead of it is what it waits for
      have hnb : ∀ j, j < ops.size → befOf bef q.i j = true → listed.getD j true = true := by
        intro j hj hbj
        have h3 := List.all_eq_true.1 hb (q.o, q.i) (by rw [List.mem_iff_getElem?]; exact ⟨q.i, by rw [List.getElem?_zipIdx]; simp [hqo]⟩)
        have h4 := List.all_eq_true.1 h3 j (by simpa using hj)
        simp only [hbj, Bool.not_true, Bool.false_or, List.any_eq_true, Bool.and_eq_true, Bool.or_eq_true, beq_iff_eq] at h4
        obtain ⟨e, he, hbe, h5⟩ := h4
        have hel := hall e (by simpa using he) hbe
        have helt : e.on < ops.size := by
          rcases Nat.lt_or_ge e.on listed.size with h | h
          · rw [← inv.size]; exact h
          · simp [Array.getElem?_eq_none h] at hel
        have hel' : listed.getD e.on true = true := by
          have : e.on < listed.size := by rw [inv.size]; exact helt
          simp [this] at hel ⊢
          exact hel
        rcases h5 with rfl | h5
        · exact hel'
        · exact inv.cl e.on helt hel' j hj h5
      have hind : ∀ p ∈ pre, Ind p q := by
        intro p hp
        have hpw := inv.pw
        rw [List.pairwise_append] at hpw
        rcases hpw.2.2 p hp q (by simp) with h | h
        · have := inv.un p (by simp [hp])
          have := hnb p.i this.1 h
          rw [(inv.un p (by simp [hp])).2] at this
          cases this
        · exact h
      obtain ⟨hok, hrest⟩ := front pre hind hR
      have inv' : Inv (P := P) ops n bef (listed.setIfInBounds q.i true) (pre ++ post) := by
        have hsz : q.i < listed.size := by rw [inv.size]; exact hilt
        have hsub : ∀ p ∈ pre ++ post, p ∈ pre ++ q :: post := fun p hp => by
          simp only [List.mem_append, List.mem_cons] at hp ⊢
          rcases hp with h | h
          · exact .inl h
          · exact .inr (.inr h)
        have hne : ∀ p ∈ pre ++ post, p.i ≠ q.i := by
          intro p hp e
          have hso := inv.so
          rw [List.pairwise_append] at hso
          simp only [List.mem_append] at hp
          rcases hp with h | h
          · have := hso.2.2 p h q (by simp)
            omega
          · have := List.rel_of_pairwise_cons hso.2.1 h
            omega
        refine { size := by simp [inv.size], mem := fun j hj hjl => ?_, un := fun p hp => ?_, cl := fun j hj hjl k hk hbk => ?_, it := fun p hp => inv.it p (hsub p hp), pw := ?_, so := ?_ }
        · rw [getD_set' _ _ _ hsz] at hjl
          split at hjl
          · cases hjl
          · rename_i hji
            obtain ⟨p, hp, rfl⟩ := inv.mem j hj hjl
            refine ⟨p, ?_, rfl⟩
            simp only [List.mem_append, List.mem_cons] at hp ⊢
            rcases hp with h | rfl | h
            · exact .inl h
            · exact absurd rfl hji
            · exact .inr h
        · obtain ⟨k1, k2⟩ := inv.un p (hsub p hp)
          exact ⟨k1, by rw [getD_set' _ _ _ hsz, if_neg (hne p hp)]; exact k2⟩
        · rw [getD_set' _ _ _ hsz] at hjl ⊢
          split
          · rfl
          · split at hjl
            · rename_i hji
              subst hji
              exact hnb k hk hbk
            · exact inv.cl j hj hjl k hk hbk
        · exact inv.pw.sublist (by simp)
        · exact inv.so.sublist (by simp)
      have hlen' : (pre ++ post).length ≤ fuel := by simp at hlen ⊢; omega
      unfold wpOp
      simp only [h2]
      have hwant := wanted_guard hT hqc.gd hok.1
      rw [hwant]
      have hnew : ∀ {g' : Gh}, (∀ id, g'.L id → g.L id ∨ (base + 8 * q.i ≤ id ∧ id < base + 8 * q.i + 8)) → ∀ id, g'.L id → id < base ∨ ∃ j, j < ops.size ∧ (listed.setIfInBounds q.i true).getD j true = true ∧ base + 8 * j ≤ id ∧ id < base + 8 * j + 8 := by
        intro g' hg' id hid
        have hsz : q.i < listed.size := by rw [inv.size]; exact hilt
        rcases hg' id hid with h | h
        · rcases hl id h with h | ⟨j, k1, k2, k3⟩
          · exact .inl h
          · exact .inr ⟨j, k1, by rw [getD_set' _ _ _ hsz]; split; rfl; exact k2, k3⟩
        · exact .inr ⟨q.i, hilt, by rw [getD_set' _ _ _ hsz]; simp, h⟩
      cases hx : q.x with
      | none =>
        simp only [hx, Option.isSome_none, Bool.false_eq_true, if_false]
        have e1 : q.nT T = put T q.lo.dst (.k undef) := by unfold It.nT; rw [hx]
        have e2 : q.nM M = M := by unfold It.nM; rw [hx]
        rw [e1, e2] at hrest
        have st : StR n k g T M (base + 8 * ops.size) a w := ⟨hm, hT, fun id hid => by rcases hl id hid with h | ⟨j, h1, _, h2, h3⟩ <;> omega, hkn, hs, hd⟩
        have st' := st.put hqc.lt hm (Evo.refl _ _ _) (v := .k undef) (u := undef) rfl st.nb
        rw [← hqc.dst]
        exact ih _ _ hlen' inv' hrest st'.mem st'.tm st'.size st'.defers (hnew (fun id h => .inl h)) st'.kn hw
      | some out =>
        simp only [hx, Option.isSome_some, if_true]
        left
        have e1 : q.nT T = put T q.lo.dst out.v := by unfold It.nT; rw [hx]
        have e2 : q.nM M = upd M out.eff := by unfold It.nM; rw [hx]
        rw [e1, e2] at hrest
        refine does_wp (hqc.real (hok.2 out hx)) (hok.2 out hx) hm hT (fun id k1 k2 k3 => ?_) (fun u w' g' k1 k2 k3 k4 => ?_)
        · rcases hl id k3 with h | ⟨j, _, k5, k6, k7⟩
          · omega
          · have : j = q.i := by omega
            subst this
            rw [h1] at k5; cases k5
        · have st : StR n k g T M (base + 8 * ops.size) a w := ⟨hm, hT, fun id hid => by rcases hl id hid with h | ⟨j, h1, _, h2, h3⟩ <;> omega, hkn, hs, hd⟩
          have st' := st.put hqc.lt k2 k3 k1 (nb' := base + 8 * ops.size) (fun id hid => by
            rcases k4 id hid with h | h
            · exact st.nb id h
            · omega)
          rw [← hqc.dst]
          exact ih _ _ hlen' inv' hrest st'.mem st'.tm st'.size st'.defers (hnew k4) st'.kn (hw.trans (k3.wevo hkn))
end
end Go.Vm

namespace Go.Vm
set_option linter.unusedSectionVars false
set_option linter.unusedSimpArgs false
set_option linter.unusedVariables false
open Go
variable [Inhabited LayT]

def lkT : List (Nat × AV) → Tm
  | [] => fun _ => .undef
  | (a, v) :: r => fun t => if t = a then v else lkT r t
def restrict (keep : List Nat) (T : Tm) : Tm := lkT (keep.map fun t => (t, T t))

def disj (a b : List Nat) : Bool := a.all fun x => !b.contains x
def okLog (bef : List Nat) : Log → Bool
  | [] => true
  | (i, w, r) :: rest => (rest.all fun e => befOf bef i e.1 || (disj e.2.1 r && disj e.2.1 w && disj w e.2.2)) && okLog bef rest
def apartB (p q : LOper) : Bool :=
  (match p.dst with | none => true | some d => !(tmpsOf q).contains d && !(q.dst == some d)) && (match q.dst with | none => true | some d => !(tmpsOf p).contains d)
def okTmps (bef : List Nat) (os : List LOper) : Bool :=
  os.zipIdx.all fun (q, i) => (os.zipIdx.take i).all fun (p, j) => befOf bef i j || apartB p q

def compC (P : Program) (n : Nat) (ks : Nat → Bool × List Nat) : Code → Option LCode
  | .skip => some .skip
  | .region id ops dr => match ops.toList.mapM (compOper P n ops) with
    | none => none
    | some os => if dr = true then
        (if okBack ops.toList = true ∧ okBef ops.toList (Region.before ops).toList = true ∧ okTmps (Region.before ops).toList os = true then some (.rgn (ks id).1 true (Region.before ops).toList (ks id).2 os) else none)
      else some (.rgn (ks id).1 false [] (ks id).2 os)
  | .seq x y => match compC P n ks x, compC P n ks y with
    | some a, some b => some (.seq a b)
    | _, _ => none
  | .cond c x y => match compC P n ks x, compC P n ks y with
    | some a, some b => some (.cond c a b)
    | _, _ => none
  | .block id c => (compC P n ks c).map (.block id)
  | .loop c => (compC P n ks c).map .loop
  | .exit id => some (.exit id)
  | .ret => some .ret
  | _ => none

abbrev Cont := Exit → Tm → Mem → Nat → Prop

def onNormal (f : Tm → Mem → Nat → Prop) (K : Cont) : Cont
  | .normal, T, M, nb => f T M nb
  | x, T, M, nb => K x T M nb
def onExit (id : Nat) (K : Cont) : Cont
  | .exit i, T, M, nb => if i = id then K .normal T M nb else K (.exit i) T M nb
  | x, T, M, nb => K x T M nb
/-- What is told of a state is told of it in other words, too: weaker ones. -/
def Wk (n k : Nat) (T : Tm) (M : Mem) (nb : Nat) (T2 : Tm) (M2 : Mem) (nb2 : Nat) : Prop :=
  ∀ g a w, StR n k g T M nb a w → ∃ g2, StR n k g2 T2 M2 nb2 a w ∧ WEvo k g M w g2 M2 w
theorem Wk.refl (n k : Nat) (T : Tm) (M : Mem) (nb : Nat) : Wk n k T M nb T M nb := fun g a w st => ⟨g, st, WEvo.refl _ _ _ _⟩
theorem Wk.trans {n k : Nat} {T T1 T2 : Tm} {M M1 M2 : Mem} {nb nb1 nb2 : Nat} (h : Wk n k T M nb T1 M1 nb1) (h2 : Wk n k T1 M1 nb1 T2 M2 nb2) : Wk n k T M nb T2 M2 nb2 := fun g a w st => by
  obtain ⟨g1, st1, e1⟩ := h g a w st
  obtain ⟨g2, st2, e2⟩ := h2 g1 a w st1
  exact ⟨g2, st2, e1.trans e2⟩
def WkB (wk : Bool) (n k : Nat) (F : Tm → Mem → Nat → Prop) (T : Tm) (M : Mem) (nb : Nat) : Prop :=
  if wk = true then ∃ T2 M2 nb2, Wk n k T M nb T2 M2 nb2 ∧ F T2 M2 nb2 else F T M nb

def loopN (n k : Nat) (body : Cont → Tm → Mem → Nat → Prop) (K : Cont) : Nat → Tm → Mem → Nat → Prop
  | 0 => fun _ _ _ => False
  | m + 1 => fun T M nb => ∃ T2 M2 nb2, Wk n k T M nb T2 M2 nb2 ∧ body (onNormal (loopN n k body K m) K) T2 M2 nb2
def LoopB (n k : Nat) (body : Cont → Tm → Mem → Nat → Prop) (K : Cont) (T : Tm) (M : Mem) (nb : Nat) : Prop := ∃ m, loopN n k body K m T M nb

/-- What a code comes to: told by canonical states alone. -/
def run (P : Program) (n k : Nat) : LCode → Cont → Tm → Mem → Nat → Prop
  | .skip, K => K .normal
  | .rgn wk dr bef keep ops, K => WkB wk n k fun T M nb => rgnP P dr nb (fun T' M' log => (dr = true → okLog bef log = true) ∧ K .normal (restrict keep T') M' (nb + 8 * ops.length)) ops 0 T M []
  | .seq a b, K => run P n k a (onNormal (run P n k b K) K)
  | .cond c x y, K => fun T M nb => match ev T c with
    | .b t => if t = true then run P n k x K T M nb else run P n k y K T M nb
    | _ => False
  | .block id c, K => run P n k c (onExit id K)
  | .loop c, K => LoopB n k (run P n k c) K
  | .exit id, K => K (.exit id)
  | .ret, K => K .ret

section
variable {P : Program} {n k : Nat}

/-- From every real state that is told so. -/
def AWp (P : Program) (n k : Nat) (c : Code) (Q : Cont) (T : Tm) (M : Mem) (nb : Nat) : Prop :=
  ∀ g a w, StR n k g T M nb a w → c.wp P (fun ex a' w' => ∃ T' M' nb' g', Q ex T' M' nb' ∧ StR n k g' T' M' nb' a' w' ∧ WEvo k g M w g' M' w') a w

theorem lkT_rel {g : Gh} {M : Mem} {w : World} {T : Tm} {a : Act} (h : RelT g M w T a) : ∀ (keep : List Nat), RelT g M w (restrict keep T) a
  | [] => fun t => trivial
  | k :: keep => fun t => by
    have ih := lkT_rel h keep t
    simp only [restrict, List.map_cons, lkT] at ih ⊢
    by_cases e : t = k
    · rw [if_pos e, e]; exact h k
    · rw [if_neg e]; exact ih
theorem StR.restrict {g : Gh} {T : Tm} {M : Mem} {nb : Nat} {a : Act} {w : World} (h : StR n k g T M nb a w) (keep : List Nat) : StR n k g (restrict keep T) M nb a w :=
  { h with tm := lkT_rel h.tm keep }

/-- What the text's order shows, operation by operation. -/
theorem tr_of_rgnP {base : Nat} {K : Tm → Mem → Log → Prop} {ops : Array Oper} : ∀ (os : List LOper) (rest : List Oper) (i : Nat) {T : Tm} {M : Mem} {log : Log},
    rest.mapM (compOper P n ops) = some os → (∀ j o, rest[j]? = some o → ops[i + j]? = some o) → rgnP P true base K os i T M log →
    ∃ R : List It, ∃ T' M' log', Runs P base R T M T' M' ∧ K T' M' (log' ++ log) ∧ R.map (·.lo) = os ∧ R.map (·.i) = List.range' i os.length ∧ (∀ p ∈ R, ops[p.i]? = some p.o ∧ Comped P n ops p.o p.lo) ∧
      ((R.filter (·.x.isSome)).map fun p => (p.i, p.wr, p.rd)).reverse = log'
  | [], rest, i, T, M, log, hc, hget, h => by
    cases rest with
    | nil => exact ⟨[], T, M, [], ⟨rfl, rfl⟩, h, rfl, rfl, by simp, rfl⟩
    | cons o r =>
      rw [List.mapM_cons] at hc
      simp only [Option.bind_eq_bind, Option.bind_eq_some_iff] at hc
      obtain ⟨_, _, _, _, h3⟩ := hc
      cases h3
  | lo :: os, [], i, T, M, log, hc, hget, h => by simp at hc
  | lo :: os, o :: rest, i, T, M, log, hc, hget, h => by
    rw [List.mapM_cons] at hc
    simp only [Option.bind_eq_bind, Option.bind_eq_some_iff] at hc
    obtain ⟨lo', h1, os', h2, h3⟩ := hc
    cases h3
    have hc' := comped h1
    have ho : ops[i]? = some o := by simpa using hget 0 o rfl
    have hget' : ∀ j o', rest[j]? = some o' → ops[i + 1 + j]? = some o' := fun j o' hj => by
      have := hget (j + 1) o' (by simpa using hj)
      rwa [show i + (j + 1) = i + 1 + j by omega] at this
    unfold rgnP at h
    split at h
    · exact h.elim
    · rename_i t hg
      cases t with
      | false =>
        simp only [Bool.false_eq_true, if_false] at h
        obtain ⟨R, T', M', log', r1, r2, r3, r4, r5, r6⟩ := tr_of_rgnP os rest (i + 1) h2 hget' h
        refine ⟨⟨i, o, lo, none⟩ :: R, T', M', log', ⟨⟨by simpa using hg, by simp⟩, r1⟩, r2, by simp [r3], by simp [r4, List.range'_succ], ?_, by simpa using r6⟩
        intro p hp
        rcases List.mem_cons.1 hp with rfl | hp
        · exact ⟨ho, hc'⟩
        · exact r5 p hp
      | true =>
        simp only [if_true] at h
        have go : ∀ out, does P T M (base + 8 * i) lo.op out → rgnP P true base K os (i + 1) (put T lo.dst out.v) (upd M out.eff) ((i, out.eff.map (·.1), out.rd) :: log) →
            ∃ R : List It, ∃ T' M' log', Runs P base R T M T' M' ∧ K T' M' (log' ++ log) ∧ R.map (·.lo) = lo :: os ∧ R.map (·.i) = List.range' i (lo :: os).length ∧ (∀ p ∈ R, ops[p.i]? = some p.o ∧ Comped P n ops p.o p.lo) ∧
              ((R.filter (·.x.isSome)).map fun p => (p.i, p.wr, p.rd)).reverse = log' := by
          intro out hd hr
          obtain ⟨R, T', M', log', r1, r2, r3, r4, r5, r6⟩ := tr_of_rgnP os rest (i + 1) h2 hget' hr
          refine ⟨⟨i, o, lo, some out⟩ :: R, T', M', log' ++ [(i, out.eff.map (·.1), out.rd)], ⟨⟨by simpa using hg, fun out' e => by cases e; exact hd⟩, r1⟩, by simpa using r2, by simp [r3], by simp [r4, List.range'_succ], ?_, ?_⟩
          · intro p hp
            rcases List.mem_cons.1 hp with rfl | hp
            · exact ⟨ho, hc'⟩
            · exact r5 p hp
          · simp only [List.filter_cons, Option.isSome_some, if_true, List.map_cons, List.reverse_cons, r6]
            rfl
        split at h
        · rename_i f args e
          obtain ⟨out, h4, h5⟩ := h
          exact go out (by rw [e]; exact h4) h5
        · rename_i x args e
          obtain ⟨out, h4, h5⟩ := h
          exact go out (by rw [e]; exact h4) h5
        · rename_i op hn1 hn2
          split at h
          · exact h.elim
          · rename_i out hs
            exact go out (does_of_step hs) h

theorem disj_spec {a b : List Nat} (h : disj a b = true) : ∀ x ∈ a, x ∉ b := fun x hx hb => by
  have := List.all_eq_true.1 h x hx
  simp at this
  exact this hb
theorem apartB_spec {p q : LOper} (h : apartB p q = true) : (∀ d, p.dst = some d → d ∉ tmpsOf q ∧ q.dst ≠ some d) ∧ (∀ d, q.dst = some d → d ∉ tmpsOf p) := by
  unfold apartB at h
  rw [Bool.and_eq_true] at h
  refine ⟨fun d hd => ?_, fun d hd => ?_⟩
  · rw [hd] at h; simp at h; exact h.1
  · rw [hd] at h; simp at h; exact h.2

theorem pair_ok {bef : List Nat} {R : List It} {os : List LOper} (h1 : R.map (·.lo) = os) (h2 : R.map (·.i) = List.range' 0 os.length) (ht : okTmps bef os = true)
    (hl : okLog bef (((R.filter (·.x.isSome)).map fun p => (p.i, p.wr, p.rd)).reverse) = true) : R.Pairwise fun p q => befOf bef q.i p.i = true ∨ Ind p q := by
  have hlog : ∀ l : Log, okLog bef l = true → l.reverse.Pairwise fun e e' => befOf bef e'.1 e.1 = true ∨ ((∀ x ∈ e.2.1, x ∉ e'.2.2 ∧ x ∉ e'.2.1) ∧ ∀ x ∈ e'.2.1, x ∉ e.2.2) := by
    intro l
    induction l with
    | nil => intro _; exact List.Pairwise.nil
    | cons e l ih =>
      intro h
      obtain ⟨i, w, r⟩ := e
      simp only [okLog, Bool.and_eq_true] at h
      rw [List.reverse_cons, List.pairwise_append]
      refine ⟨ih h.2, List.pairwise_singleton _ _, fun e1 he1 e2 he2 => ?_⟩
      simp only [List.mem_singleton] at he2
      subst he2
      have := List.all_eq_true.1 h.1 e1 (by simpa using he1)
      simp only [Bool.or_eq_true, Bool.and_eq_true] at this
      rcases this with h | ⟨⟨k1, k2⟩, k3⟩
      · exact .inl h
      · exact .inr ⟨fun x hx => ⟨disj_spec k1 x hx, disj_spec k2 x hx⟩, disj_spec k3⟩
  have hmem := hlog _ hl
  rw [List.reverse_reverse, List.pairwise_map] at hmem
  have hpm : R.Pairwise fun p q => befOf bef q.i p.i = true ∨ ((∀ x ∈ p.wr, x ∉ q.rd ∧ x ∉ q.wr) ∧ ∀ x ∈ q.wr, x ∉ p.rd) := by
    rw [List.pairwise_iff_getElem] at hmem ⊢
    have key : ∀ {R : List It}, (R.filter (·.x.isSome)).Pairwise (fun p q => befOf bef q.i p.i = true ∨ ((∀ x ∈ p.wr, x ∉ q.rd ∧ x ∉ q.wr) ∧ ∀ x ∈ q.wr, x ∉ p.rd)) →
        R.Pairwise fun p q => befOf bef q.i p.i = true ∨ ((∀ x ∈ p.wr, x ∉ q.rd ∧ x ∉ q.wr) ∧ ∀ x ∈ q.wr, x ∉ p.rd) := by
      intro R
      induction R with
      | nil => intro _; exact List.Pairwise.nil
      | cons p R ih =>
        intro h
        rw [List.filter_cons] at h
        cases hx : p.x with
        | none =>
          simp only [hx, Option.isSome_none, Bool.false_eq_true, if_false] at h
          refine List.Pairwise.cons (fun q _ => .inr ⟨fun x hx' => ?_, fun x _ hr => ?_⟩) (ih h)
          · simp [It.wr, hx] at hx'
          · simp [It.rd, hx] at hr
        | some out =>
          simp only [hx, Option.isSome_some, if_true] at h
          refine List.Pairwise.cons (fun q hq => ?_) (ih (List.Pairwise.of_cons h))
          cases hy : q.x with
          | none => exact .inr ⟨fun x _ => by simp [It.rd, It.wr, hy], fun x hx' => by simp [It.wr, hy] at hx'⟩
          | some out' => exact List.rel_of_pairwise_cons h (List.mem_filter.2 ⟨hq, by simp [hy]⟩)
    have := key (R := R) (by rw [List.pairwise_iff_getElem]; exact hmem)
    rw [List.pairwise_iff_getElem] at this
    exact this
  rw [List.pairwise_iff_getElem] at hpm ⊢
  intro i j hi hj hij
  rcases hpm i j hi hj hij with h | h
  · exact .inl h
  · subst h1
    have e1 : (R.map (·.lo)).length = R.length := by simp
    have ei : R[i].i = i := by
      have : (R.map (·.i))[i]? = some R[i].i := by simp [hi]
      rw [h2, List.getElem?_range' (by rw [e1]; exact hi)] at this
      simpa using this.symm
    have ej : R[j].i = j := by
      have : (R.map (·.i))[j]? = some R[j].i := by simp [hj]
      rw [h2, List.getElem?_range' (by rw [e1]; exact hj)] at this
      simpa using this.symm
    have k1 := List.all_eq_true.1 ht (R[j].lo, j) (by rw [List.mem_iff_getElem?]; exact ⟨j, by rw [List.getElem?_zipIdx]; simp [hj]⟩)
    have k2 := List.all_eq_true.1 k1 (R[i].lo, i) (by
      rw [List.mem_iff_getElem?]
      exact ⟨i, by rw [List.getElem?_take, if_pos hij, List.getElem?_zipIdx]; simp [hi]⟩)
    simp only [Bool.or_eq_true] at k2
    rw [ei, ej]
    rcases k2 with k2 | k2
    · exact .inl k2
    · obtain ⟨k3, k4⟩ := apartB_spec k2
      exact .inr ⟨k3, k4, h.1, h.2⟩

theorem awp_region {id : Nat} {ops : Array Oper} {dr : Bool} {bef keep : List Nat} {os : List LOper} {K : Cont} {T : Tm} {M : Mem} {nb : Nat} (hmix : P.follows .mixedOrders = true)
    (hc : ops.toList.mapM (compOper P n ops) = some os) (hd : dr = true → okBack ops.toList = true ∧ okBef ops.toList bef = true ∧ okTmps bef os = true)
    (h : rgnP P dr nb (fun T' M' log => (dr = true → okLog bef log = true) ∧ K .normal (Go.Vm.restrict keep T') M' (nb + 8 * os.length)) os 0 T M []) : AWp P n k (.region id ops dr) K T M nb := by
  intro g a w st
  have hlen : os.length = ops.size := by
    have key : ∀ (l : List Oper) (os : List LOper), l.mapM (compOper P n ops) = some os → os.length = l.length := by
      intro l
      induction l with
      | nil => intro os h; simp at h; subst h; rfl
      | cons o l ih =>
        intro os h
        rw [List.mapM_cons] at h
        simp only [Option.bind_eq_bind, Option.bind_eq_some_iff] at h
        obtain ⟨_, _, os', h2, h3⟩ := h
        cases h3
        simp [ih os' h2]
    simpa using key _ _ hc
  cases dr with
  | false =>
    refine wp_region ?_
    rw [List.range_eq_range']
    have := rgn_seq (P := P) (n := n) (ops := ops) (Q := fun ex a' w' => ∃ T' M' nb' g', K ex T' M' nb' ∧ StR n k g' T' M' nb' a' w' ∧ WEvo k g M w g' M' w') (k := k) (g0 := g) (M0 := M) (w0 := w) ops.size
      (fun T' M' log g' a' w' hk st' hw => ⟨_, M', _, g', hk.2, by rw [hlen]; exact st'.restrict keep, hw⟩) ops.toList os 0 (by simp) (fun j o hj => by simpa using hj) hc (by simpa using st) (WEvo.refl k g M w) h
    simpa using this
  | true =>
    obtain ⟨h1, h2, h3⟩ := hd rfl
    refine wp_region_any hmix ?_
    obtain ⟨R, T', M', log', r1, r2, r3, r4, r5, r6⟩ := tr_of_rgnP os ops.toList 0 hc (fun j o hj => by simpa using hj) h
    simp only [List.append_nil] at r2
    have hRl : R.length = ops.size := by rw [← hlen, ← r3]; simp
    have hmemi : ∀ p ∈ R, p.i < ops.size := fun p hp => by
      have : p.i ∈ R.map (·.i) := List.mem_map.2 ⟨p, hp, rfl⟩
      rw [r4] at this
      simp at this
      omega
    have hE : Evo g M w g M { w with drawn := w.drawn + 1 } := ⟨fun _ h => h, fun _ h => h, fun _ h => .inl h, fun _ h => h, fun _ _ => rfl, Nat.le_refl _, rfl, rfl, ⟨rfl, Nat.le_succ _⟩, fun _ _ r h => ⟨r, h, rfl, rfl, rfl⟩⟩
    have hm' : MemRel g M { w with drawn := w.drawn + 1 } :=
      { zu := st.mem.zu, lay := st.mem.lay.evo st.mem.zu hE, ul := st.mem.ul, known := st.mem.known, inj := st.mem.inj
        row := fun id r hr => by
          rcases st.mem.row id r hr with h | ⟨rb, ro, size, k1, k2, k3⟩
          · exact .inl h
          · exact .inr ⟨rb, ro, size, k1, k2, k3.evo hE st.mem.zu rfl⟩ }
    refine any_runs (P := P) (n := n) (ops := ops) (bef := bef) (base := nb) (k := k) (g0 := g) (M0 := M) (w0 := w) (T' := T') (M' := M') h2 h1
      (fun g' a' w' st' hw => ⟨_, M', _, g', r2.2, by rw [hlen]; exact st'.restrict keep, hw⟩) ops.size _ R (by omega) ?_ r1 hm' (fun t => Rel.evo hE st.mem.zu _ _ (st.tm t)) st.size st.defers
      (fun id hid => .inl (st.nb id hid)) st.kn (hE.wevo st.kn)
    exact {
      size := by simp
      mem := fun i hi _ => by
        have : i ∈ R.map (·.i) := by rw [r4]; simp [hlen]; exact hi
        obtain ⟨p, hp, rfl⟩ := List.mem_map.1 this
        exact ⟨p, hp, rfl⟩
      un := fun p hp => ⟨hmemi p hp, by simp [hmemi p hp]⟩
      cl := fun i hi hl => by simp [hi] at hl
      it := r5
      pw := pair_ok r3 r4 h3 (by rw [r6]; exact r2.1 (by trivial))
      so := by
        have : (R.map (·.i)).Pairwise (· < ·) := by rw [r4]; exact List.pairwise_lt_range'
        rwa [List.pairwise_map] at this }
end
end Go.Vm

namespace Go.Vm
set_option linter.unusedSectionVars false
set_option linter.unusedSimpArgs false
set_option linter.unusedVariables false
open Go
variable [Inhabited LayT]

/-! ### results that lie in cells -/
inductive RV where
  | t (t : Nat)
  | c (t n : Nat) (ag : Bool)
def rvOf (P : Program) : ResultVar → Option RV
  | .tmp t => some (.t t)
  | .cell a ty => match isAggB P ty, sizeB P ty with
    | some ag, some n => some (.c a n ag)
    | _, _ => none
def rvsOf (P : Program) : List ResultVar → Option (List RV)
  | [] => some []
  | r :: rs => match rvOf P r, rvsOf P rs with
    | some x, some xs => some (x :: xs)
    | _, _ => none
def res1 (T : Tm) (M : Mem) : RV → Option AV
  | .t t => some (T t)
  | .c a n ag => match T a with
    | .ptr id i o => (M id).bind fun r => if ag then (r.getN i o n).map .agg else r.get1 i o
    | _ => none
def resL (T : Tm) (M : Mem) : List RV → Option (List AV)
  | [] => some []
  | r :: rs => (res1 T M r).bind fun x => (resL T M rs).map (x :: ·)
def resRV (rs : List RV) (T : Tm) (M : Mem) : Option AV :=
  match rs with
  | [r] => res1 T M r
  | rs => (resL T M rs).map .tup
section
variable {P : Program} {g : Gh} {M : Mem} {w : World} {T : Tm} {a : Act}
def rdR (tmps : Array Value) : ResultVar → Sem Value
  | .tmp t => pure (tmps.getD t undef)
  | .cell ad t => do loadVar t (← asAddr (tmps.getD ad undef))
theorem res1_rel (hm : MemRel g M w) (hT : RelT g M w T a) {r : ResultVar} {x : RV} (h : rvOf P r = some x) {v : AV} (hv : res1 T M x = some v) :
    ∃ u, (rdR a.tmps r).run P w = .ok u w ∧ Rel g M w v u := by
  cases r with
  | tmp t =>
    cases h
    cases hv
    exact ⟨_, by simp [rdR], hT t⟩
  | cell ad t =>
    simp only [rvOf] at h
    split at h
    · rename_i ag n hag hn
      cases h
      simp only [res1] at hv
      split at hv
      · rename_i id i o e
        simp only [Option.bind_eq_some_iff] at hv
        obtain ⟨r, hr, hv⟩ := hv
        have hp := hT ad
        rw [e] at hp
        obtain ⟨_, rb, ro, size, hat, hu⟩ := hp.2 r hr
        cases ag
        · simp only [Bool.false_eq_true, if_false] at hv
          obtain ⟨_, _, _, hD⟩ := row_at hm hr hat (get1_sz hv)
          obtain ⟨u, h1, h2⟩ := get1_rel hD hv
          exact ⟨u, by simp only [rdR, hu, Sem.run_bind, asAddr, Sem.run_pure, Result.andThen_ok]; exact run_load1 hag h1, h2⟩
        · simp only [if_true, Option.map_eq_some_iff] at hv
          obtain ⟨cs, hc, rfl⟩ := hv
          obtain ⟨_, _, _, hD⟩ := row_at hm hr hat (getN_sz hc)
          obtain ⟨hl, hM⟩ := getN_rel hD hc
          obtain ⟨u, h1, h2⟩ := run_loadN (P := P) hag hn hl hM
          exact ⟨u, by simp only [rdR, hu, Sem.run_bind, asAddr, Sem.run_pure, Result.andThen_ok]; exact h1, h2⟩
      · cases hv
    · cases h
theorem resL_rel (hm : MemRel g M w) (hT : RelT g M w T a) : ∀ {rs : List ResultVar} {xs : List RV} {vs : List AV}, rvsOf P rs = some xs → resL T M xs = some vs →
    ∃ us, (rs.mapM (rdR a.tmps)).run P w = .ok us w ∧ RelL g M w vs us
  | [], xs, vs, h, hv => by
    cases h
    cases hv
    exact ⟨[], by simp, rfl⟩
  | r :: rs, xs, vs, h, hv => by
    simp only [rvsOf] at h
    split at h
    · rename_i x xs' e1 e2
      cases h
      simp only [resL, Option.bind_eq_some_iff, Option.map_eq_some_iff] at hv
      obtain ⟨v, h1, vs', h2, rfl⟩ := hv
      obtain ⟨u, p1, p2⟩ := res1_rel hm hT e1 h1
      obtain ⟨us, p3, p4⟩ := resL_rel hm hT e2 h2
      refine ⟨u :: us, ?_, u, us, rfl, p2, p4⟩
      rw [List.mapM_cons]
      simp only [Sem.run_bind, p1, p3, Sem.run_pure, Result.andThen_ok]
    · cases h
theorem resRV_rel {fn : Func} (hm : MemRel g M w) (hT : RelT g M w T a) {xs : List RV} (h : rvsOf P fn.results.toList = some xs) {v : AV} (hv : resRV xs T M = some v) :
    ∃ u, (results fn a.tmps).run P w = .ok u w ∧ Rel g M w v u := by
  have key : ∀ vs, resL T M xs = some vs → ∃ us, (results fn a.tmps).run P w = .ok (if h : us.length = 1 then us[0] else .tuple us.toArray) w ∧ RelL g M w vs us := by
    intro vs hvs
    obtain ⟨us, p1, p2⟩ := resL_rel hm hT h hvs
    refine ⟨us, ?_, p2⟩
    unfold results
    rw [Array.mapM_eq_mapM_toList]
    simp only [Sem.run_bind, Sem.run_map]
    have key0 : ∀ F : ResultVar → Sem Value, (∀ r, F r = rdR a.tmps r) → (fn.results.toList.mapM F).run P w = .ok us w := fun F hF => by rw [show F = rdR a.tmps from funext hF]; exact p1
    rw [key0 _ (fun r => by cases r <;> rfl)]
    simp only [Result.andThen_ok, Sem.run_pure]
    simp
  cases xs with
  | nil =>
    simp only [resRV, resL, Option.map_some] at hv
    cases hv
    obtain ⟨us, p1, p2⟩ := key [] rfl
    cases p2
    exact ⟨_, p1, [], rfl, rfl⟩
  | cons x xs =>
    cases xs with
    | nil =>
      simp only [resRV] at hv
      obtain ⟨us, p1, p2⟩ := key [v] (by simp [resL, hv])
      obtain ⟨u, r, rfl, p3, p4⟩ := p2
      cases p4
      exact ⟨_, p1, p3⟩
    | cons y l =>
      simp only [resRV, Option.map_eq_some_iff] at hv
      obtain ⟨vs, hvs, rfl⟩ := hv
      obtain ⟨us, p1, p2⟩ := key vs hvs
      have hl : vs.length = l.length + 2 := by
        have : ∀ (xs : List RV) vs, resL T M xs = some vs → vs.length = xs.length := by
          intro xs
          induction xs with
          | nil => intro vs h; cases h; rfl
          | cons x xs ih =>
            intro vs h
            simp only [resL, Option.bind_eq_some_iff, Option.map_eq_some_iff] at h
            obtain ⟨v, _, vs', h2, rfl⟩ := h
            simp [ih _ h2]
        simpa using this _ _ hvs
      have := relL_length p2
      rw [dif_neg (by omega)] at p1
      exact ⟨_, p1, us, rfl, p2⟩
end
end Go.Vm
