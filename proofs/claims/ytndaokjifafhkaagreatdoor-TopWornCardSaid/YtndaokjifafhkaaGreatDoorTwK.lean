import Derived.Test.YtndaokjifafhkaaGreatDoorTwC
import Derived.Test.YtndaokjifafhkaaGreatDoorTwO
import Derived.Test.YtndaokjifafhkaaGreatDoorVxO
import Derived.Test.YtndaokjifafhkaaGreatDoorTwT
/- The Once's slow road as a step of the executor. -/
namespace Go.Proofs.Tw
set_option linter.unusedSectionVars false
set_option linter.unusedSimpArgs false
set_option linter.unusedVariables false
set_option maxRecDepth 100000
open Go Go.Vm Go.Vx
theorem cal60 : Callable Tryz.prog 60 := ⟨Tryz.f60, Tryz.f60.body.getD .skip, Tryz.func60, by kernel_rfl, by kernel_rfl⟩
theorem cal22 : Callable Tryz.prog 22 := ⟨Tryz.f22, Tryz.f22.body.getD .skip, Tryz.func22, by kernel_rfl, by kernel_rfl⟩
set_option maxHeartbeats 1000000 in
theorem once_ok {call : Caller} (hcall : CallerOk Tryz.prog call) {xs : List AV} (h22 : is22 xs = true) {m : Tr} {nb : Nat} {v : AV} {m' : Tr} {nb' rr ww : Nat} (h : onceP call xs m nb = some (v, m', nb', rr, ww)) : CallS Tryz.prog 60 xs m nb v m' nb' rr ww := by
  unfold onceP at h
  split at h
  · rename_i id i o f caps
    obtain ⟨c, rfl⟩ : ∃ c, caps = [c] := by
      unfold is22 at h22
      split at h22
      · rename_i e; cases e; exact ⟨_, rfl⟩
      · cases h22
    obtain rfl : f = 22 := Nat.eq_of_beq_eq_true h22
    obtain ⟨r, hr, h⟩ := Option.bind_eq_some_iff.1 h
    obtain ⟨m1, ha, h⟩ := Option.bind_eq_some_iff.1 h
    obtain ⟨⟨v2, m2, nb2, r2, w2⟩, hc, h⟩ := Option.bind_eq_some_iff.1 h
    obtain ⟨ro2, hro2, h⟩ := Option.bind_eq_some_iff.1 h
    obtain ⟨m3, hb, h⟩ := Option.map_eq_some_iff.1 h
    simp only [Prod.mk.injEq] at h hb hro2
    obtain ⟨rfl, rfl, rfl, rfl, rfl⟩ := h
    unfold onceA at ha
    split at ha
    · rename_i g0 g1
      obtain ⟨r1, hs1, ha⟩ := Option.bind_eq_some_iff.1 ha
      unfold onceB at hb
      split at hb
      · rename_i g2 g3
        obtain ⟨r3, hs3, hb⟩ := Option.bind_eq_some_iff.1 hb
        obtain ⟨r4, hs4, hb⟩ := Option.bind_eq_some_iff.1 hb
        have hm1 : ∀ j, m1.get j = if j = id then some r1 else m.get j := Tr.get_set ha
        have hm3 : ∀ j, m3.get j = if j = id then some r4 else m2.get j := Tr.get_set hb
        have hS := hcall _ _ _ _ _ _ _ _ _ hc
        refine ⟨hS.nn, fun j hj => ?_, fun hZ => ?_⟩
        · have e1 : j ≠ id := fun e => hj (inM_lor.2 (.inl (inM_mask (by simp [e]))))
          have e2 : ¬ inM w2 j := fun e => hj (inM_lor.2 (.inr e))
          rw [hm3, if_neg e1, hS.same j e2, hm1, if_neg e1]
        · obtain ⟨k, hk⟩ := hS.ok hZ
          refine ⟨k, fun wz hwz => ?_⟩
          intro M' hM' g w us hm hus hV
          have hMr : ∀ j, inM (Nat.lor (mask [id]) r2) j → M' j = m.get j := fun j hj => hM' j (mem_RL.2 hj)
          have hMid : M' id = some r := (hMr id (inM_lor.2 (.inl (inM_mask (by simp))))).trans hr
          obtain ⟨u, us', rfl, ⟨hL, hu⟩, u2, us2, rfl, ⟨cv, rfl, hcv⟩, e⟩ := hus
          obtain rfl : us2 = [] := e
          obtain ⟨hi, rb, ro, size, hat, rfl⟩ := hu r hMid
          obtain ⟨ua, hca, hra, hfa⟩ := at_cell hm hMid hat hi g0
          obtain rfl : ua = .int .u32 0 := hra
          obtain ⟨ub, ga, hcb, hrb, hfb, hm1', hE1, hL1⟩ := set_cellV (c := .i .i32 1) (uc := .int .i32 1) sz1 hm hMid hat hi g1 hs1 rfl rfl rfl rfl rfl
          obtain rfl : ub = .int .i32 0 := hrb
          have hcl := hk wz hwz (upd M' [(id, some r1)]) (fun j hj => by
            by_cases e : j = id
            · subst e; rw [upd1, hm1, if_pos rfl]
            · rw [hm1, if_neg e]
              have := hMr j (inM_lor.2 (.inr (mem_RL.1 hj)))
              simpa [upd, e] using this) ga _ _ hm1' (RelL.evo hE1 hm.zu _ _ hcv) fun j hj hg => hV j hj (hL1 j hg)
          obtain ⟨cv1, cv2, rfl, hcv1, e⟩ := hcv
          obtain rfl : cv2 = [] := e
          have hcl' : Calls Tryz.prog 22 #[cv1] (w.setCell ⟨rb, ro + i * r.sz + o + 1, none⟩ (.int .i32 1)) fun e w' => (∃ u, e = .returned u) ∧ ∃ u g', Rel g' (upd (upd M' [(id, some r1)]) (EL m2 w2)) w' v2 u ∧ MemRel g' (upd (upd M' [(id, some r1)]) (EL m2 w2)) w' ∧ Evo ga (upd M' [(id, some r1)]) (w.setCell ⟨rb, ro + i * r.sz + o + 1, none⟩ (.int .i32 1)) g' (upd (upd M' [(id, some r1)]) (EL m2 w2)) w' ∧ ∀ j, g'.L j → ga.L j ∨ Vx.Fn nb nb2 wz (wz + k) j := by
            rcases hcl with ⟨_, h⟩ | ⟨u, w', h, _⟩
            · exact h.mono fun e w' ⟨u, e1, h⟩ => ⟨⟨u, e1⟩, u, h⟩
            · rw [run_callFunc cal22] at h; cases h
          -- the memory behind the closure
          have hM2id : upd (upd M' [(id, some r1)]) (EL m2 w2) id = some ro2 := by
            by_cases e : inM w2 id
            · rw [upd_EL.1 e]; exact hro2
            · rw [upd_EL.2 e, upd1]
              have := hS.same id e
              rw [hm1, if_pos rfl, hro2] at this
              exact this.symm
          obtain ⟨hl1, hz1⟩ := set1_len hs1
          have far : ∀ (g' : Gh) w', MemRel g' (upd (upd M' [(id, some r1)]) (EL m2 w2)) w' → Evo ga (upd M' [(id, some r1)]) (w.setCell ⟨rb, ro + i * r.sz + o + 1, none⟩ (.int .i32 1)) g' (upd (upd M' [(id, some r1)]) (EL m2 w2)) w' →
              g'.at_ id = some (rb, ro, size) ∧ ro2.sz = r.sz ∧ i < ro2.el.length := fun g' w' h1 h2 => by
            obtain ⟨ra, e1, e2, e3, e4⟩ := h2.ids id (hE1.L id hL) ro2 hM2id
            rw [upd1] at e1; cases e1
            obtain ⟨rb', e5, e6, e7, e8⟩ := hE1.ids id hL r1 (upd1 _ _ _)
            rw [hMid] at e5; cases e5
            exact ⟨e2.trans (e6.trans hat), e3.trans e7, by rw [e4, e8]; exact hi⟩
          refine .inl ⟨cal60, (slow_any rb (ro + i * r.sz + o) cv1 w _ hca hcb hfa hfb hcl' ?_).mono ?_⟩
          · rintro w' ⟨u, g', h1, h2, h3, h4⟩
            obtain ⟨f1, f2, f3⟩ := far g' w' h2 h3
            obtain ⟨u0, c0, e0, z0⟩ := at_cell h2 hM2id f1 f3 g2
            obtain ⟨u1, c1, e1, z1⟩ := at_cell h2 hM2id f1 f3 g3
            obtain rfl : u0 = .int .u32 0 := e0
            obtain rfl : u1 = .int .i32 1 := e1
            rw [f2] at c0 c1 z0 z1
            exact ⟨c0, c1, z0, z1⟩
          · rintro e w' ⟨rfl, w3, ⟨u, g', h1, h2, h3, h4⟩, rfl⟩
            obtain ⟨f1, f2, f3⟩ := far g' w3 h2 h3
            obtain ⟨hE3, h2'⟩ := evo_drew h2
            obtain ⟨_, g4, _, _, _, hm4, hE4, hL4⟩ := set_cellV (c := .i .u32 1) (uc := .int .u32 1) sz1 h2' hM2id f1 f3 g2 hs3 rfl rfl rfl rfl rfl
            obtain ⟨l3, z3⟩ := set1_len hs3
            obtain ⟨rc, q1, q2, q3, q4⟩ := hE4.ids id (h2.known id _ hM2id) r3 (upd1 _ _ _)
            have hat4 : g4.at_ id = some (rb, ro, size) := q2.trans f1
            obtain ⟨_, g5, _, _, _, hm5, hE5, hL5⟩ := set_cellV (c := .i .i32 0) (uc := .int .i32 0) sz1 hm4 (upd1 _ _ _) hat4 (by rw [l3]; exact f3) (get1_other hs3 g3) hs4 rfl rfl rfl rfl rfl
            rw [z3, f2] at hm5 hE5
            rw [f2] at hE4
            have eM : upd (upd (upd (upd M' [(id, some r1)]) (EL m2 w2)) [(id, some r3)]) [(id, some r4)] = upd M' (EL m3 (Nat.lor (mask [id]) w2)) := by
              funext j
              by_cases e : j = id
              · subst e
                rw [upd1, upd_EL.1 (inM_lor.2 (.inl (inM_mask (by simp)))), hm3, if_pos rfl]
              · have e3 : ∀ (N : Mem) (x : Option Row), upd N [(id, x)] j = N j := fun N x => by simp [upd, e]
                rw [e3, e3]
                by_cases e2 : inM w2 j
                · rw [upd_EL.1 e2, upd_EL.1 (inM_lor.2 (.inr e2)), hm3, if_neg e]
                · rw [upd_EL.2 e2, e3, upd_EL.2 fun h => ?_]
                  rcases inM_lor.1 h with h | h
                  · exact e (by simpa using mask_inM h)
                  · exact e2 h
            rw [eM] at hm5 hE5
            refine ⟨_, rfl, g5, ⟨[], rfl, rfl⟩, hm5, hE1.trans (h3.trans (hE3.trans (hE4.trans hE5))), fun j hj => ?_⟩
            rcases h4 j (hL4 j (hL5 j hj)) with h | h
            · exact .inl (hL1 j h)
            · exact .inr h
      · cases hb
    · cases ha
  · cases h
end Go.Proofs.Tw
