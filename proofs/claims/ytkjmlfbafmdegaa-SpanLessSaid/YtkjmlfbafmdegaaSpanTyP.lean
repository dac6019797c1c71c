/- What the types of edges and marks say. -/
import Derived.Test.YtkjmlfbafmdegaaSpanPS
namespace Go.Proofs.Ytkjmlfbafmdegaa
open Go Go.Vm Go.SpanM
variable [Inhabited LayT]
set_option linter.unusedSectionVars false
set_option maxRecDepth 100000
theorem cS3 : Try.prog.cellsOf 3 = 1 := by kernel_rfl
theorem cS21 : Try.prog.cellsOf 21 = 1 := by kernel_rfl
theorem cSB : Try.prog.cellsOf 4 = 1 := by kernel_rfl
theorem cSE : Try.prog.cellsOf 27 = 3 := by kernel_rfl
theorem bSE : Try.prog.bytesOf 27 = 24 := by kernel_rfl
theorem bSB : Try.prog.bytesOf 4 = 1 := by kernel_rfl
theorem tySInt {f : Nat} {t : TypeId} {kd : IntKind} {cs : List AV} (ht : Try.prog.underlying t = some (.int kd)) (h : TyC Try.prog (f + 1) t cs) : ∃ n, cs = [.i kd n] ∧ kd.min ≤ n ∧ n ≤ kd.max := by
  unfold TyC at h
  rw [ht] at h
  exact h
theorem tyEdge {f : Nat} {x : List AV} (h : TyC Try.prog (f + 2) 27 x) : ∃ e : E, x = eC e ∧ -2147483648 ≤ e.w ∧ e.w ≤ 2147483647 := by
  unfold TyC at h
  rw [Try.underlying27] at h
  obtain ⟨hl, h⟩ := h
  rw [cSE] at hl
  obtain ⟨a, h1, _⟩ := tySInt Try.underlying3 (h _ (List.mem_cons_self ..))
  obtain ⟨b, h2, _⟩ := tySInt Try.underlying3 (h _ (List.mem_cons_of_mem _ (List.mem_cons_self ..)))
  obtain ⟨w, h3, w1, w2⟩ := tySInt Try.underlying21 (h _ (List.mem_cons_of_mem _ (List.mem_cons_of_mem _ (List.mem_cons_self ..))))
  rw [cS3] at h1 h2
  rw [cS21] at h3
  have e1 : IntKind.i32.min = -2147483648 := by decide
  have e2 : IntKind.i32.max = 2147483647 := by decide
  match x, hl with
  | [p, q, r], _ =>
    simp at h1 h2 h3
    exact ⟨⟨a, b, w⟩, by rw [h1, h2, h3]; rfl, by show -2147483648 ≤ w; omega, by show w ≤ 2147483647; omega⟩
theorem tyEdges {a : AV} (h : TyV Try.prog 9 22 a) : ∃ l : List E, a = dE l ∧ l.length ≤ 4611686018427387904 ∧ In32 l := by
  obtain ⟨xs, rfl, h1, h2, h3⟩ := tySlice Try.underlying22 h
  have key : ∀ xs : List (List AV), (∀ x ∈ xs, TyC Try.prog 8 27 x) → ∃ l : List E, xs = eE l ∧ In32 l := by
    intro xs
    induction xs with
    | nil => intro _; exact ⟨[], rfl, fun e h => by cases h⟩
    | cons x xs ih =>
      intro h
      obtain ⟨l, rfl, hl⟩ := ih fun y hy => h y (List.mem_cons_of_mem _ hy)
      obtain ⟨e, rfl, he⟩ := tyEdge (h x (List.mem_cons_self ..))
      refine ⟨e :: l, rfl, fun e' h' => ?_⟩
      rcases List.mem_cons.1 h' with rfl | h'
      · exact he
      · exact hl e' h'
  obtain ⟨l, rfl, hl⟩ := key xs h3
  rw [eE_length, bSE] at h2
  exact ⟨l, by rw [cSE], by omega, hl⟩
theorem tyMarks {a : AV} (h : TyV Try.prog 9 28 a) : ∃ m : List Bool, a = dB m := by
  obtain ⟨xs, rfl, h1, h2, h3⟩ := tySlice Try.underlying28 h
  have key : ∀ xs : List (List AV), (∀ x ∈ xs, TyC Try.prog 8 4 x) → ∃ l : List Bool, xs = enc .b l := by
    intro xs
    induction xs with
    | nil => intro _; exact ⟨[], rfl⟩
    | cons x xs ih =>
      intro h
      obtain ⟨l, rfl⟩ := ih fun y hy => h y (List.mem_cons_of_mem _ hy)
      have hx := h x (List.mem_cons_self ..)
      unfold TyC at hx
      rw [Try.underlying4] at hx
      obtain ⟨b, rfl⟩ := hx
      exact ⟨b :: l, rfl⟩
  obtain ⟨l, rfl⟩ := key xs h3
  exact ⟨l, by rw [cSB]⟩
end Go.Proofs.Ytkjmlfbafmdegaa
