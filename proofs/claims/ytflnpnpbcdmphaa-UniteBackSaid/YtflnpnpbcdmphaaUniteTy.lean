/- What the laws' arguments are. -/
import Derived.Test.YtflnpnpbcdmphaaUniteP4
namespace Go.Proofs.Ytflnpnpbcdmphaa
open Go Go.Vm Go.UniteM
set_option linter.unusedSectionVars false
variable [Inhabited LayT]
theorem c3 : Try.prog.cellsOf 3 = 1 := by kernel_rfl
theorem c31 : Try.prog.cellsOf 31 = 3 := by kernel_rfl
theorem b31 : Try.prog.bytesOf 31 = 24 := by kernel_rfl
theorem tyC3 {f : Nat} {cs : List AV} (h : TyC Try.prog (f + 1) 3 cs) : ∃ n : Int, cs = [.i .i64 n] := by
  unfold TyC at h
  rw [Try.underlying3] at h
  obtain ⟨n, h, _⟩ := h
  exact ⟨n, h⟩
theorem tyAct {f : Nat} {x : List AV} (h : TyC Try.prog (f + 2) 31 x) : ∃ k a b : Int, x = [.i .i64 k, .i .i64 a, .i .i64 b] := by
  unfold TyC at h
  rw [Try.underlying31] at h
  obtain ⟨hl, h⟩ := h
  rw [c31] at hl
  have h1 := h _ (List.mem_cons_self ..)
  have h2 := h _ (List.mem_cons_of_mem _ (List.mem_cons_self ..))
  have h3 := h _ (List.mem_cons_of_mem _ (List.mem_cons_of_mem _ (List.mem_cons_self ..)))
  obtain ⟨k, h1⟩ := tyC3 h1
  obtain ⟨a, h2⟩ := tyC3 h2
  obtain ⟨b, h3⟩ := tyC3 h3
  rw [c3] at h1 h2 h3
  match x, hl with
  | [p, q, r], _ =>
    simp at h1 h2 h3
    exact ⟨k, a, b, by rw [h1, h2, h3]⟩
theorem tyActs {a : AV} (h : TyV Try.prog 9 22 a) : ∃ acts : List (Int × Int × Int), a = .deep 3 (acE acts) ∧ acts.length ≤ 100000000000000 := by
  obtain ⟨xs, rfl, h1, h2, h3⟩ := tySlice Try.underlying22 h
  have key : ∀ xs : List (List AV), (∀ x ∈ xs, TyC Try.prog 8 31 x) → ∃ acts, xs = acE acts := by
    intro xs
    induction xs with
    | nil => intro _; exact ⟨[], rfl⟩
    | cons x xs ih =>
      intro h
      obtain ⟨l, rfl⟩ := ih fun y hy => h y (List.mem_cons_of_mem _ hy)
      obtain ⟨k, a, b, rfl⟩ := tyAct (h x (List.mem_cons_self ..))
      exact ⟨(k, a, b) :: l, rfl⟩
  obtain ⟨acts, rfl⟩ := key xs h3
  rw [acE_length, b31] at h2
  exact ⟨acts, by rw [c31], by omega⟩
end Go.Proofs.Ytflnpnpbcdmphaa
