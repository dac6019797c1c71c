import Derived.Test.YtndaokjifafhkaaGreatDoorTwA
import Derived.Test.YtndaokjifafhkaaGreatDoorTwB
/- The special functions' contracts. -/
namespace Go.Proofs.Tw
set_option linter.unusedSectionVars false
set_option linter.unusedSimpArgs false
set_option linter.unusedVariables false
set_option maxRecDepth 100000
open Go Go.Vm Go.Vx
theorem sz1 : sizeB Tryz.prog 3 = some 1 := by kernel_rfl
theorem cal24 : Callable Tryz.prog 24 := ⟨Tryz.f24, Tryz.f24.body.getD .skip, Tryz.func24, by kernel_rfl, by kernel_rfl⟩
theorem cal105 : Callable Tryz.prog 105 := ⟨Tryz.f105, Tryz.f105.body.getD .skip, Tryz.func105, by kernel_rfl, by kernel_rfl⟩
theorem cal55 : Callable Tryz.prog 55 := ⟨Tryz.f55, Tryz.f55.body.getD .skip, Tryz.func55, by kernel_rfl, by kernel_rfl⟩
theorem cal326 : Callable Tryz.prog 326 := ⟨Tryz.f326, Tryz.f326.body.getD .skip, Tryz.func326, by kernel_rfl, by kernel_rfl⟩
theorem as_ok {xs : List AV} {M : Mem} {nb : Nat} {out : Out} {nb' : Nat} (h : soAs 59 94 xs M nb = some (out, nb')) : nb' = nb ∧ ∀ V, CallW Tryz.prog 24 xs M V out := by
  unfold soAs at h
  split at h
  · rename_i t kd n t2 id i o
    split at h
    · rename_i e
      obtain ⟨rfl, rfl, rfl⟩ := e
      obtain ⟨r, hr, h⟩ := Option.bind_eq_some_iff.1 h
      obtain ⟨v, hg, h⟩ := Option.bind_eq_some_iff.1 h
      split at h
      · rename_i n0
        obtain ⟨r', hs, h⟩ := Option.map_eq_some_iff.1 h
        cases h
        refine ⟨rfl, fun V => ?_⟩
        intro M' hM' g w us hm hus hV
        obtain ⟨u, us', rfl, ⟨u1, rfl, hu1⟩, u2, us2, rfl, ⟨u3, rfl, hu3⟩, hr2⟩ := hus
        obtain rfl : us2 = [] := hr2
        obtain rfl : u1 = .int .i64 n := hu1
        have hM2 : M' id = some r := (hM' id (by simp)).trans hr
        obtain ⟨b, p, _, rfl, hc, hfz, _⟩ := set_cell sz1 hm hu3 hM2 hg hs
        have hlay : w.cell? ⟨1, 0, none⟩ = some etv := hm.lay.2.2.2
        refine .inl ⟨cal24, (as_hit n ⟨b, p, none⟩ _ w hlay hc hfz).mono ?_⟩
        rintro e w' ⟨rfl, rfl⟩
        obtain ⟨E1, m1⟩ := evo_alloc hm (.cells #[.pointer (some ⟨b, p, none⟩)] 94)
        obtain ⟨E2, m2⟩ := evo_alloc m1 (.cells #[.pointer (some ⟨10, 94, none⟩), .pointer (some ⟨w.heap.size, 0, none⟩), .int .u64 150] 154)
        obtain ⟨E3, m3⟩ := evo_alloc m2 (.cells #[.pointer (some ⟨10, 94, none⟩), .pointer (some ⟨w.heap.size, 0, none⟩), .int .u64 150] 154)
        obtain ⟨E4, m4⟩ := evo_alloc m3 (.cells #[.int .i64 n] 59)
        have E := E1.trans (E2.trans (E3.trans E4))
        obtain ⟨b', p', g', e, _, _, h5, h6, h7⟩ := set_cell sz1 m4 (Rel.evo E hm.zu _ _ hu3) hM2 hg hs
        cases e
        exact ⟨_, rfl, g', rfl, h5, E.trans h6, fun id hid => .inl (h7 id hid)⟩
      · cases h
    · cases h
  · cases h
theorem check_ok {xs : List AV} {M : Mem} {nb : Nat} {out : Out} {nb' : Nat} (h : soCheck 133 xs M nb = some (out, nb')) : nb' = nb ∧ ∀ V, CallW Tryz.prog 105 xs M V out := by
  unfold soCheck at h
  split at h
  · rename_i id
    obtain ⟨r, hr, h⟩ := Option.bind_eq_some_iff.1 h
    split at h
    · rename_i e
      obtain ⟨ht, hsz, hln⟩ := e
      obtain ⟨v, hg, h⟩ := Option.bind_eq_some_iff.1 h
      split at h
      · obtain ⟨r', hs, h⟩ := Option.map_eq_some_iff.1 h
        cases h
        refine ⟨rfl, fun V => ?_⟩
        intro M' hM' g w us hm hus hV
        obtain ⟨u, us', rfl, hu, hr2⟩ := hus
        obtain rfl : us' = [] := hr2
        have hM2 : M' id = some r := (hM' id (by simp)).trans hr
        obtain ⟨hL, hu2⟩ := hu
        obtain ⟨hi, rb, ro, size, hat, rfl⟩ := hu2 r hM2
        obtain ⟨h0, arr, fz, hb⟩ := row_ty hm hM2 hat (get1_sz hg) 133 ht
        subst h0
        obtain ⟨_, hblk, hfit, _⟩ := row_at hm hM2 hat (get1_sz hg)
        have hsz2 : 2 ≤ arr.size := by
          obtain ⟨arr2, ty2, fz2, k1, k2, _⟩ := hblk
          rw [hb] at k1; cases k1
          rw [hsz, hln] at hfit; omega
        obtain ⟨u0, g', hc, hrel, hfz, h5, h6, h7⟩ := set_cellV (c := .ptr id 0 0) (uc := .pointer (some ⟨rb, 0, none⟩)) sz1 hm hM2 hat hi hg hs ⟨hL, fun r2 hr2 => by
          rw [hM2] at hr2; cases hr2; exact ⟨hi, rb, 0, size, hat, by simp⟩⟩ rfl (by simp [flatC, oneC, hM2]) rfl rfl
        obtain rfl : u0 = .pointer none := hrel
        simp only [Nat.zero_mul, Nat.add_zero] at hc hfz h5 h6 ⊢
        refine .inl ⟨cal105, (copyCheck_fresh rb arr.size w hc (by simp [World.shape?, hb]) hsz2 hfz).mono ?_⟩
        rintro e w' ⟨rfl, rfl⟩
        exact ⟨_, rfl, g', ⟨[], rfl, rfl⟩, h5, h6, fun id hid => .inl (h7 id hid)⟩
      · split at h
        · rename_i id' e
          subst e
          cases h
          refine ⟨rfl, fun V => ?_⟩
          intro M' hM' g w us hm hus hV
          obtain ⟨u, us', rfl, hu, hr2⟩ := hus
          obtain rfl : us' = [] := hr2
          have hM2 : M' id' = some r := (hM' id' (by simp)).trans hr
          obtain ⟨hL, hu2⟩ := hu
          obtain ⟨hi, rb, ro, size, hat, rfl⟩ := hu2 r hM2
          obtain ⟨h0, arr, fz, hb⟩ := row_ty hm hM2 hat (get1_sz hg) 133 ht
          subst h0
          obtain ⟨_, hblk, hfit, hD⟩ := row_at hm hM2 hat (get1_sz hg)
          obtain ⟨u0, hc, hrel⟩ := get1_rel hD hg
          obtain ⟨_, rb2, ro2, size2, hat2, rfl⟩ := hrel.2 r hM2
          rw [hat] at hat2
          cases hat2
          simp only [Nat.zero_mul, Nat.add_zero] at hc ⊢
          refine .inl ⟨cal105, (copyCheck_used rb w hc).mono ?_⟩
          rintro e w' ⟨rfl, rfl⟩
          exact ⟨_, rfl, g, ⟨[], rfl, rfl⟩, hm, Evo.refl _ _ _, fun id hid => .inl hid⟩
        · cases h
      · cases h
    · cases h
  · cases h
theorem byt_get {g : Gh} {M : Mem} {w : World} : ∀ {el : List (List AV)} {l : List UInt8} {rb ro : Nat}, bytesOf el = some l → bytesIn el = true → RelD g M w 1 rb ro el → l.length = el.length ∧ ∀ j x, l[j]? = some x → w.cell? ⟨rb, ro + j, none⟩ = some (.int .u8 x.toNat)
  | [], l, rb, ro, h, _, _ => by
    cases h
    exact ⟨rfl, fun j x hj => by simp at hj⟩
  | cs :: el, l, rb, ro, h, hi, hD => by
    unfold bytesIn at hi
    split at hi
    · rename_i e; cases e
    · rename_i k r e
      cases e
      simp only [bytesOf] at h
      obtain ⟨l', hl', rfl⟩ := Option.map_eq_some_iff.1 h
      rw [Bool.and_eq_true] at hi
      obtain ⟨⟨_, ⟨u, hu, _, hrel⟩, _⟩, hD2⟩ := hD
      obtain rfl : u = .int .u8 (Int.ofNat k) := hrel
      obtain ⟨h1, h2⟩ := byt_get hl' hi.2 hD2
      refine ⟨by simp [h1], fun j x hj => ?_⟩
      cases j with
      | zero =>
        simp only [List.getElem?_cons_zero, Option.some.injEq] at hj
        subst hj
        rw [Nat.add_zero, hu]
        have hk : k < 256 := by simpa [Nat.blt_eq] using hi.1
        have : (UInt8.ofNat (Int.ofNat k).toNat).toNat = k := by
          show (UInt8.ofNat k).toNat = k
          rw [UInt8.toNat_ofNat']
          exact Nat.mod_eq_of_lt hk
        rw [this]
        rfl
      | succ j =>
        have := h2 j x (by simpa using hj)
        rw [show ro + (j + 1) = ro + 1 + j by omega]
        exact this
    · cases hi
theorem str_ok {xs : List AV} {M : Mem} {nb : Nat} {out : Out} {nb' : Nat} (h : soStr 5 xs M nb = some (out, nb')) : nb' = nb ∧ ∀ V, CallW Tryz.prog 55 xs M V out := by
  unfold soStr at h
  split at h
  · rename_i id
    obtain ⟨r, hr, h⟩ := Option.bind_eq_some_iff.1 h
    obtain ⟨v, hg, h⟩ := Option.bind_eq_some_iff.1 h
    split at h
    · rename_i b n
      obtain ⟨rb, hb, h⟩ := Option.bind_eq_some_iff.1 h
      split at h
      · rename_i e
        obtain ⟨ht, hsz, hln, hn0, hne, hn1, hbi⟩ := e
        obtain ⟨l, hl, h⟩ := Option.map_eq_some_iff.1 h
        cases h
        refine ⟨rfl, fun V => ?_⟩
        intro M' hM' g w us hm hus hV
        obtain ⟨u, us', rfl, hu, hr2⟩ := hus
        obtain rfl : us' = [] := hr2
        have hM2 : M' id = some r := (hM' id (by simp)).trans hr
        have hMb : M' b = some rb := (hM' b (by simp)).trans hb
        obtain ⟨hL, hu2⟩ := hu
        obtain ⟨hi, k1, ro, size, hat, rfl⟩ := hu2 r hM2
        obtain ⟨_, hblk, hfit, hD⟩ := row_at hm hM2 hat (get1_sz hg)
        obtain ⟨u0, hc, hrel⟩ := get1_rel hD hg
        obtain ⟨hLb, hown⟩ := hrel
        obtain ⟨q1, A, c, rfl, q2, q3⟩ := hown rb hMb
        obtain ⟨k2, ro2, size2, hat2, rfl, q4⟩ := q3 (by omega)
        have hz2 : rb.sz ≠ 0 := by omega
        obtain ⟨h0, arr, fz, hb2⟩ := row_ty hm hMb hat2 hz2 5 ht
        subst h0
        obtain ⟨_, hblk2, hfit2, hD2⟩ := row_at hm hMb hat2 hz2
        have hsz2 : n ≤ arr.size := by
          obtain ⟨arr2, ty2, fz2, p1, p2, _⟩ := hblk2
          rw [hb2] at p1; cases p1
          rw [hsz, hln] at hfit2; omega
        rw [hsz] at hD2
        obtain ⟨hl1, hl2⟩ := byt_get hl hbi hD2
        have hll : l.length = n := hl1.trans hln
        simp only [Nat.zero_mul, Nat.add_zero] at hc ⊢
        refine .inl ⟨cal55, (string_walk k1 ro k2 c n l w (fun e => by rw [e] at hll; simp at hll; omega) hll q2 hn1 hc arr.size (by show w.shape? k2 = _; simp [World.shape?, hb2]) hsz2 (fun j x hj => ?_)).mono ?_⟩
        · have := hl2 j x hj
          rw [Nat.zero_add] at this
          by_cases e0 : j = 0
          · subst e0; simpa [Addr.add] using this
          · simpa [Addr.add, e0] using this
        rintro e w' ⟨rfl, rfl⟩
        obtain ⟨E1, m1⟩ := evo_drew hm
        obtain ⟨f1, f2, f3, f4, f5, f6⟩ := freeze_keep w.drew ⟨k2, 0, none⟩ n
        obtain ⟨E2, m2⟩ := evo_drop m1 hMb hat2 f1 (by rw [f2]; exact Nat.le_refl _) f3 f4 ⟨f5, by rw [f6]; exact Nat.le_refl _⟩
        exact ⟨_, rfl, g, rfl, m2, E1.trans E2, fun id hid => .inl hid⟩
      · cases h
    · cases h
  · cases h
theorem clone_ok {xs : List AV} {M : Mem} {nb : Nat} {out : Out} {nb' : Nat} (h : soClone xs M nb = some (out, nb')) : nb' = nb + 1 ∧ CallW Tryz.prog 326 xs M (fun id => id = nb) out := by
  unfold soClone at h
  split at h
  · rename_i id off
    obtain ⟨r, hr, h⟩ := Option.map_eq_some_iff.1 h
    cases h
    refine ⟨rfl, ?_⟩
    intro M' hM' g w us hm hus hV
    obtain ⟨u, us', rfl, hu, hr2⟩ := hus
    obtain rfl : us' = [] := hr2
    have hM2 : M' id = some r := (hM' id (by simp)).trans hr
    obtain ⟨hL, hu2⟩ := hu
    obtain ⟨q1, A, c, rfl, q2, q3⟩ := hu2 r hM2
    have hnb : ¬ g.L nb := hV nb rfl
    have fin : ∀ A' w', MemRel g M' w' → Evo g M' w g M' w' → ∃ g', Rel g' (upd M' [(nb, some ⟨1, [], none⟩)]) w' (.own nb 0 0 1) (.slice A' 0 0) ∧ MemRel g' (upd M' [(nb, some ⟨1, [], none⟩)]) w' ∧ Evo g M' w g' (upd M' [(nb, some ⟨1, [], none⟩)]) w' ∧ ∀ id, g'.L id → g.L id ∨ id = nb := fun A' w' hm' hE => by
      obtain ⟨m2, E2⟩ := install_nil (M' := upd M' [(nb, some ⟨1, [], none⟩)]) (slot := nb) (sz := 1) (ty := none) hm' hnb (upd1 _ _ _) fun id' h => .inl (by simp [upd, h])
      refine ⟨_, ⟨Or.inr rfl, fun r' hr' => ?_⟩, m2, hE.trans E2, fun id hid => ?_⟩
      · rw [upd1] at hr'; cases hr'
        exact ⟨Nat.le_refl _, A', 0, rfl, Nat.le_refl _, fun h => absurd h (Nat.lt_irrefl 0)⟩
      · exact hid
    cases A with
    | none =>
      have hc0 : c = 0 := by
        rcases Nat.eq_zero_or_pos c with h | h
        · exact h
        · obtain ⟨_, _, _, _, e, _⟩ := q3 h; cases e
      subst hc0
      refine .inl ⟨cal326, (clone_nil w).mono ?_⟩
      rintro e w' ⟨rfl, rfl⟩
      exact ⟨_, rfl, fin _ _ hm (Evo.refl _ _ _)⟩
    | some a =>
      refine .inl ⟨cal326, (clone_some a c w).mono ?_⟩
      rintro e w' ⟨A', rfl, rfl⟩
      obtain ⟨E1, m1⟩ := evo_alloc hm (.cells #[] 5)
      exact ⟨_, rfl, fin _ _ m1 E1⟩
  · cases h
end Go.Proofs.Tw
