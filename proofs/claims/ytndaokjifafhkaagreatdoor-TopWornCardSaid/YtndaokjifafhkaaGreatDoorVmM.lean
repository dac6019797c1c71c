import Derived.Test.YtndaokjifafhkaaGreatDoorVmK
import Derived.Deep.Upon
namespace Go.Vm
set_option linter.unusedSectionVars false
set_option linter.unusedSimpArgs false
set_option linter.unusedVariables false
open Go
variable [Inhabited LayT]
section
variable {P : Program} {o : Oper} {a : Act} {w : World} {g : Gh} {M : Mem} {slot : Nat} {T : Tm}

theorem relD_vals {sz blk off : Nat} {el : List (List AV)} (h : RelD g M w sz blk off el) : ∃ us, RelL g M w el.flatten us ∧ (∀ c ∈ el, c.length = sz) ∧ us.length = el.length * sz ∧ (∀ v ∈ us, v.oneCell' = true) ∧
    ∀ (j : Nat) (v : Value), us[j]? = some v → w.cell? ((⟨blk, off, none⟩ : Addr).add j) = some v := by
  obtain ⟨h1, us, h2, h3, h4, h5⟩ := flat_of_relD h
  exact ⟨us, h2, h1, h3, h4, fun j v hj => by rw [addr_add]; exact h5 j v hj⟩

theorem elems_rel (hm : MemRel g M w) {sz : Nat} {v : AV} {u : Value} {ys : List (List AV)} {rd : List Nat} (h : elems M sz v = some (ys, rd)) (hr : Rel g M w v u) :
    ∃ A c news, u = .slice A ys.length c ∧ ys.length ≤ c ∧ RelL g M w ys.flatten news ∧ (∀ c ∈ ys, c.length = sz) ∧ news.length = ys.length * sz ∧ (∀ v ∈ news, v.oneCell' = true) ∧
      (A = none → ys = []) ∧ ∀ ad, A = some ad → ∀ (j : Nat) (v : Value), news[j]? = some v → w.cell? (ad.add j) = some v := by
  unfold elems at h
  split at h
  · obtain rfl : u = .slice none 0 0 := hr
    cases h
    exact ⟨none, 0, [], rfl, Nat.le_refl _, rfl, by simp, by simp, by simp, fun _ => rfl, fun _ h => by cases h⟩
  · rename_i A c
    obtain rfl : u = .slice (some A) 0 c := hr
    cases h
    exact ⟨some A, c, [], rfl, Nat.zero_le _, rfl, by simp, by simp, by simp, fun _ => rfl, fun _ _ j v h => by simp at h⟩
  · rename_i sz' xs
    split at h
    · rename_i hc
      cases h
      obtain ⟨A, c, rfl, hle, hor⟩ := hr
      rcases hor with rfl | ⟨blk, off, rfl, hz, hD⟩
      · exact ⟨A, c, [], rfl, hle, rfl, by simp, by simp, by simp, fun _ => rfl, fun _ _ j v h => by simp at h⟩
      · rcases hc with rfl | rfl
        · obtain ⟨us, h1, h2, h3, h4, h5⟩ := relD_vals hD
          exact ⟨_, c, us, rfl, hle, h1, h2, h3, h4, fun h => (by cases h), fun ad had => (by cases had; exact h5)⟩
        · exact ⟨_, c, [], rfl, hle, rfl, by simp, by simp, by simp, fun _ => rfl, fun _ _ j v h => by simp at h⟩
    · cases h
  · rename_i id off n
    simp only [Option.bind_eq_some_iff] at h
    obtain ⟨r, hr1, h⟩ := h
    split at h
    · rename_i hs
      cases h
      obtain ⟨hlen, A, c, rfl, hnc, hA⟩ := hr.2 r hr1
      have hl : ((r.el.drop off).take n).length = n := by simp; omega
      rw [hl]
      rcases Nat.eq_zero_or_pos c with hc | hc
      · have hn : n = 0 := by omega
        subst hn
        exact ⟨A, c, [], rfl, hnc, by simp [RelL], by simp, by simp, by simp, fun _ => by simp, fun _ _ j v h => by simp at h⟩
      · obtain ⟨rb, ro, size, hat, rfl, hfit⟩ := hA hc
        obtain ⟨_, _, _, hD⟩ := row_at hm hr1 hat (by rw [hs.1]; exact hs.2)
        obtain ⟨us, h1, h2, h3, h4, h5⟩ := relD_vals (relD_take n (relD_drop off hD))
        exact ⟨_, c, us, rfl, hnc, h1, by rw [← hs.1]; exact h2, by rw [h3, hl, hs.1], h4, fun h => (by cases h), fun ad had => (by cases had; exact h5)⟩
    · cases h
  · cases h

theorem src_of {sz : Nat} {tx e' : TypeId} (hk : P.underlying tx = some (.slice e')) {A : Option Addr} {n c : Nat} {news : List Value} (hl : news.length = n * sz) (h1 : ∀ v ∈ news, v.oneCell' = true) (h0 : A = none → n = 0)
    (hc : ∀ ad, A = some ad → ∀ (j : Nat) (v : Value), news[j]? = some v → w.cell? (ad.add j) = some v) : Src P sz tx (.slice A n c) n news w := by
  cases A with
  | none =>
    obtain rfl := h0 rfl
    obtain rfl : news = [] := List.eq_nil_of_length_eq_zero (by simpa using hl)
    exact Src.ofNil w hk c
  | some ad => exact Src.ofSlice w hk ad n c news hl (hc ad rfl) h1

theorem bytesOf_vals : ∀ {el : List (List AV)} {l : List UInt8} {us : List Value}, bytesOf el = some l → RelL g M w el.flatten us → ∃ ns : List Int, us = ns.map (Value.int .u8) ∧ l = ns.map fun n => UInt8.ofNat n.toNat
  | [], l, us, h, hr => by
    obtain rfl := Option.some.inj h
    exact ⟨[], hr, rfl⟩
  | x :: el, l, us, h, hr => by
    unfold bytesOf at h
    split at h
    · rename_i e; cases e
    · rename_i n r e
      cases e
      simp only [Option.map_eq_some_iff] at h
      obtain ⟨l', h1, rfl⟩ := h
      obtain ⟨u, us', rfl, hu, h2⟩ := hr
      obtain rfl : u = .int .u8 n := hu
      obtain ⟨ns, rfl, rfl⟩ := bytesOf_vals h1 h2
      exact ⟨n :: ns, rfl, rfl⟩
    · cases h

theorem step_convS (hm : MemRel g M w) (hT : RelT g M w T a) {src dst e : TypeId} {x : Operand} (ho : o.op = .convert src dst x)
    (hs : P.underlying src = some (.slice e)) (he : P.underlying e = some (.int .u8)) (hd : P.underlying dst = some .string) {out : Out}
    (h : step T M slot (.convS x) = some out) : Res P o a w g M slot out := by
  have hx := rel_ev hT x
  simp only [step, Option.bind_eq_some_iff, Option.map_eq_some_iff] at h
  obtain ⟨⟨el, rd⟩, hel, l, hl, rfl⟩ := h
  obtain ⟨A, c, news, hu, hle, h1, h2, h3, h4, h5, h6⟩ := elems_rel hm hel hx
  obtain ⟨ns, rfl, rfl⟩ := bytesOf_vals hl h1
  refine Res.pure hm rfl (u := .string ⟨(ns.map fun (n : Int) => UInt8.ofNat n.toNat).toArray⟩) (.inl ?_) rfl
  have hfold : ∀ (ns : List Int) (s : ByteArray), ns.foldl (fun r n => r.push (UInt8.ofNat n.toNat)) s = ⟨s.data ++ (ns.map fun n => UInt8.ofNat n.toNat).toArray⟩ := by
    intro ns
    induction ns with
    | nil => intro s; cases s; simp
    | cons n ns ih =>
      intro s
      rw [List.foldl_cons, ih]
      apply ByteArray.ext
      simp [ByteArray.push]
  have hconv : (convert src dst (a.eval x)).run P w = .ok (.string ⟨(ns.map fun n => UInt8.ofNat n.toNat).toArray⟩) w := by
    rw [hu, run_convert_bytes_string w src dst e A _ c hs he hd]
    cases A with
    | none =>
      have : el = [] := h5 rfl
      subst this
      simp at h3
      subst h3
      rfl
    | some ad =>
      have hlc := run_loadCells_list (P := P) w ad _ (h6 ad rfl)
      rw [h3, Nat.mul_one] at hlc
      rw [run_bytesToString w ad _ c ns hlc, hfold]
      simp [ByteArray.empty, ByteArray.emptyWithCapacity]
      try rfl
  simp [execOp, ho, hconv]

theorem byts_flat : ∀ (l : List UInt8), (byts l).flatten = l.map fun c => AV.i .u8 c.toNat
  | [] => rfl
  | c :: l => by
    have := byts_flat l
    unfold byts at this ⊢
    rw [List.map_cons, List.flatten_cons, this]; rfl

theorem step_convB (hm : MemRel g M w) (hs : ¬ g.L slot) (hT : RelT g M w T a) {src dst e : TypeId} {x : Operand} (ho : o.op = .convert src dst x)
    (hsrc : P.underlying src = some .string) (he : P.underlying e = some (.int .u8)) (hd : P.underlying dst = some (.slice e)) {out : Out}
    (h : step T M slot (.convB x) = some out) : Res P o a w g M slot out := by
  have hx := rel_ev hT x
  simp only [step] at h
  split at h
  · rename_i s e1
    rw [e1] at hx
    have hx' : a.eval x = .string ⟨s.toArray⟩ := hx
    split at h
    · obtain rfl := Option.some.inj h
      let cap : Nat := (Question.appendCap s.length 0 e).cut (w.tape w.drawn (.appendCap s.length 0 e))
      have hcap : s.length ≤ cap := by simp only [cap, Question.cut]; omega
      let arr : Array Value := (s.map fun c => Value.int .u8 c.toNat).toArray ++ Array.replicate (cap - s.length) (.int .u8 0)
      have harr : arr.size = cap := by simp [arr]; omega
      let w0 : World := { w with drawn := w.drawn + 1, heap := w.heap.push (.cells arr e (cap, cap + 1)) }
      have hrun : (execOp a.eval o).run P w = .ok (.value (.slice (some ⟨w.heap.size, 0, none⟩) s.length cap)) w0 := by
        have hf : (Question.appendCap s.length 0 e).forced = false := rfl
        have hmap : (⟨s.toArray⟩ : ByteArray).data.map (fun b => Value.int .u8 b.toNat) = (s.map fun c => Value.int .u8 c.toNat).toArray := by simp
        have hcv : (Conv.stringToBytes e ⟨s.toArray⟩).run P w = .ok (.slice (some ⟨w.heap.size, 0, none⟩) s.length cap) w0 := by
          unfold Conv.stringToBytes
          simp only [size_mk, Sem.run_bind, run_choose, hf, Bool.false_eq_true, if_false, Result.andThen_ok, newRow, run_newObj, Sem.run_pure, markStringish, run_shape, hmap]
          show _ = Result.ok (Value.slice (some ⟨w.heap.size, 0, none⟩) s.length cap) w0
          simp only [World.shape?]
          simp only [Array.getElem?_push_size]
          simp only [run_freeze, Result.andThen_ok]
          have : ((s.map fun c => Value.int IntKind.u8 c.toNat).toArray ++ Array.replicate ((Question.appendCap s.length 0 e).cut (w.tape w.drawn (.appendCap s.length 0 e)) - s.length) (Value.int .u8 0)) = arr := rfl
          rw [this]
          congr 1
          simp only [World.freeze, Nat.one_ne_zero, if_false, w0]
          congr 1
          apply Array.ext_getElem?
          intro i
          rw [Array.getElem?_modify]
          by_cases hi : w.heap.size = i
          · subst hi
            simp [harr]
          · rw [if_neg hi, Array.getElem?_push, Array.getElem?_push, if_neg (Ne.symm hi), if_neg (Ne.symm hi)]
        have hconv : (convert src dst (.string ⟨s.toArray⟩)).run P w = .ok (.slice (some ⟨w.heap.size, 0, none⟩) s.length cap) w0 := by
          simp only [convert, Sem.run_bind, run_under hsrc, run_under hd, Result.andThen_ok, run_under he]
          exact hcv
        simp [execOp, ho, hx', hconv]
      have hG : Grew g w w0 w.heap.size := {
        os := rfl, tape := rfl, output := ⟨rfl, by first | exact Nat.le_refl _ | simp [w0, World.drew]⟩, size := by simp [w0]
        keep := fun b hb _ => by simp only [w0]; rw [Array.getElem?_push, if_neg (by omega)]
        free := fun h => absurd (hm.ul _ h) (Nat.lt_irrefl _) }
      have hblk : BlockAt w0 w.heap.size cap := ⟨arr, e, (cap, cap + 1), by simp [w0], harr, fun o ho => by simp; omega⟩
      obtain ⟨hm', hE⟩ := install (M' := upd M [(slot, some ⟨1, byts s, none⟩)]) (r := ⟨1, byts s, none⟩) (ro := 0) (us := s.map fun c => Value.int .u8 c.toNat) hm hs hG (upd1 _ _ _) (upd1_ne _ _ _) (at_fresh hm hs (upd1_ne _ _ _)) (by simp) tyAt_none hblk
        (by simp [byts]; exact hcap) (fun cs hcs => by simp only [byts, List.mem_map] at hcs; obtain ⟨_, _, rfl⟩ := hcs; rfl)
        (by
          rw [byts_flat]
          have : ∀ l : List UInt8, RelL g M w (l.map fun c => AV.i .u8 c.toNat) (l.map fun c => Value.int .u8 c.toNat) := by
            intro l
            induction l with
            | nil => rfl
            | cons c l ih => exact ⟨_, _, rfl, rfl, ih⟩
          exact this s)
        (fun v hv => by simp only [List.mem_map] at hv; obtain ⟨_, _, rfl⟩ := hv; rfl)
        (fun j v hj => by
          have hjl := (List.getElem?_eq_some_iff.1 hj).1
          simp only [World.cell?, w0, Array.getElem?_push_size, Nat.zero_add]
          simp only [Option.isSome_none, Bool.false_eq_true, if_false, arr]
          rw [Array.getElem?_append_left (by simpa using hjl)]
          simpa using hj)
      refine ⟨_, w0, _, .inl hrun, ⟨Or.inr rfl, fun r hr => ?_⟩, hm', hE, fun id h => h⟩
      rw [upd1] at hr
      cases hr
      exact ⟨by simp [byts], _, _, rfl, hcap, fun _ => ⟨w.heap.size, 0, cap, by simp [Gh.add], by simp, by simp⟩⟩
    · cases h
  · cases h
end
end Go.Vm
