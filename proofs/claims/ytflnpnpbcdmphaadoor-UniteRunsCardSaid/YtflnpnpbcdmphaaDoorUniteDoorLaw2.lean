/- UniteRuns: for every input the law returns true, and the arguments read as before. The listed variable is tied to the program's text. -/
import Derived.Test.YtflnpnpbcdmphaaDoorUniteDoorBase
import Derived.Test.YtflnpnpbcdmphaaDoorUniteD8
namespace Go.Proofs.YtflnpnpbcdmphaaDoor
open Go Go.Vm Go.ChangeShapes Go.WideShapes Go.ChangeAt Go.RowKit
theorem c3 : Tryd.prog.cellsOf 3 = 1 := by kernel_rfl
theorem c31 : Tryd.prog.cellsOf 33 = 3 := by kernel_rfl
theorem b31 : Tryd.prog.bytesOf 33 = 24 := by kernel_rfl
theorem tyC3 {f : Nat} {cs : List AV} (h : TyC Tryd.prog (f + 1) 3 cs) : ∃ n : Int, cs = [.i .i64 n] := by
  unfold TyC at h
  rw [Tryd.underlying3] at h
  obtain ⟨n, h, _⟩ := h
  exact ⟨n, h⟩
theorem tyAct {f : Nat} {x : List AV} (h : TyC Tryd.prog (f + 2) 33 x) : ∃ k a b : Int, x = [.i .i64 k, .i .i64 a, .i .i64 b] := by
  unfold TyC at h
  rw [Tryd.underlying33] at h
  obtain ⟨hl, h⟩ := h
  rw [c31] at hl
  have h1 := h _ (List.mem_cons_self ..)
  have h2 := h _ (List.mem_cons_of_mem _ (List.mem_cons_self ..))
  have h3 := h _ (List.mem_cons_of_mem _ (List.mem_cons_of_mem _ (List.mem_cons_self ..)))
  obtain ⟨k, h1⟩ := tyC3 h1
  obtain ⟨a, h2⟩ := tyC3 h2
  obtain ⟨b, h3⟩ := tyC3 h3
  rw [c3] at h1 h2 h3
  match x, hl with
  | [p, q, r], _ =>
    simp at h1 h2 h3
    exact ⟨k, a, b, by rw [h1, h2, h3]⟩
theorem tyActs {a : AV} (h : TyV Tryd.prog 9 22 a) : ∃ acts : List (Int × Int × Int), a = .deep 3 (acE acts) ∧ acts.length ≤ 100000000000000 := by
  obtain ⟨xs, rfl, h1, h2, h3⟩ := tySlice Tryd.underlying22 h
  have key : ∀ xs : List (List AV), (∀ x ∈ xs, TyC Tryd.prog 8 33 x) → ∃ acts, xs = acE acts := by
    intro xs
    induction xs with
    | nil => intro _; exact ⟨[], rfl⟩
    | cons x xs ih =>
      intro h
      obtain ⟨l, rfl⟩ := ih fun y hy => h y (List.mem_cons_of_mem _ hy)
      obtain ⟨k, a, b, rfl⟩ := tyAct (h x (List.mem_cons_self ..))
      exact ⟨(k, a, b) :: l, rfl⟩
  obtain ⟨acts, rfl⟩ := key xs h3
  rw [acE_length, b31] at h2
  exact ⟨acts, by rw [c31], by omega⟩
theorem uniteRuns_main : ∀ avs, TyVs Tryd.prog 9 [3, 22] avs → CallOk Tryd.prog 3 avs mem0 0 { v := .b true } := by
  rintro avs ⟨a0, _, rfl, h0, a1, _, rfl, h1, rfl⟩
  obtain ⟨x, rfl, _⟩ := tyInt Tryd.underlying3 h0
  obtain ⟨acts, rfl, h3⟩ := tyActs h1
  exact uniteRuns_ok h3
set_option maxRecDepth 100000 in
theorem uniteRuns_lifted (os : Os) (started : os.Started) (H : Type) (enc : TypeId × Value → H) :
    ReturnsInHanded {} Tryd.checked os 3 .any (fun w args => (Rows.uniteRunsSpec.pre enc Tryd.prog Tryd.f3 [] false w args ∧ laidMetH Tryd.prog Rows.uniteRunsRow.laid w) ∧ sizedMet enc Tryd.prog Tryd.f3 (OpenSpec.ofChange Rows.uniteRunsSpec) false w args)
      (Rows.uniteRunsSpec.post enc Tryd.prog Tryd.f3 false true false false) :=
  lifted_laid started own (by kernel_rfl) Tryd.func3
    (ChangeSpec.witness_at (enc := enc) (C := Tryd.checked) (os := os) (X := fun w _ => laidMetH Tryd.prog Rows.uniteRunsRow.laid w) false (laidWorld os) #[.int .i64 0, .slice none 0 0] 8 rfl (by kernel_rfl) (by kernel_rfl) (by kernel_rfl) (by kernel_rfl) (by kernel_rfl) (laidWorld_met os _))
    laidOut (by kernel_rfl) (by kernel_rfl) (tb := 4) (by kernel_rfl) Tryd.underlying4 rfl rfl
    (fun ds h => by
      match ds, h with
      | [_, _], _ => exact ⟨rfl, rfl, rfl⟩)
    (fun W h => layOk_of h) uniteRuns_main
theorem uniteRuns_row : Rows.UniteRunsSaid :=
  OpenClaim.holds_of_wide 3 Tryd.f3 rfl rfl rfl rfl rfl rfl rfl ⟨rfl, rfl, rfl, rfl, rfl⟩ rfl rfl rfl rfl rfl (by kernel_rfl) Tryd.func3 (by kernel_rfl)
    (of_decide_eq_true (by kernel_rfl)) (by unfold Func.isWrapper; first | (rw [if_pos (by decide +kernel)]; kernel_rfl) | (rw [if_neg (by decide +kernel)]; exact ⟨rfl, rfl⟩))
    (fun os started H enc _ => uniteRuns_lifted os started H enc)
theorem uniteRuns_card_holds : Rows.UniteRunsCardSaid :=
  Claim7.holds_tied_plain_at .later [] [.handle] true (true, "6e5d0f30256c82422af48996a3a32535e6f917f749b44f242fcd3b1c078f4635") true
    uniteRuns_row (fun _ h => by cases h) (by kernel_rfl) (fun _ h => by cases h) uniteRuns_row_tie rfl ⟨rfl, rfl⟩ (by kernel_rfl) rfl
    (fun f fn hf hfn => by
      obtain rfl : f = 3 := Option.some.inj ((show Tryd.prog.funcNamed "plait/plaitlaw07.UniteRuns" = some 3 by kernel_rfl).symm.trans hf) |>.symm
      obtain rfl : fn = Tryd.f3 := (Option.some.inj (Tryd.func3.symm.trans hfn)).symm
      exact ⟨by kernel_rfl, params_all (q := Tryd.prog.wantsStandIn) (by kernel_rfl)⟩)
    (by kernel_rfl)
#print axioms uniteRuns_card_holds
end Go.Proofs.YtflnpnpbcdmphaaDoor
