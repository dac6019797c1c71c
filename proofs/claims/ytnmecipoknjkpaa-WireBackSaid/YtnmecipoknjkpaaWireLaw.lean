/- WireOrder, WireSigns, WireBack: for every input the laws return true, and the arguments read as before. No condition. -/
import Derived.Test.YtnmecipoknjkpaaRows
import Derived.Test.YtnmecipoknjkpaaWireP2
import Derived.WalkKit
import Derived.ProofKit
import Derived.OpenShut
namespace Go.Proofs.Ytnmecipoknjkpaa
open Go Go.Vm Go.ChangeShapes Go.WideShapes Go.ChangeAt Go.RowKit
instance : Inhabited LayT := ⟨⟨fun _ _ => True, fun _ _ h => h⟩⟩
theorem own : ownKnob Try.prog.godebug = none := by kernel_rfl
theorem laidOut : laidOutB Try.prog = true := by kernel_rfl
theorem tyU64 {a : AV} (h : TyV Try.prog 9 22 a) : ∃ n : Nat, a = .i .u64 n ∧ n < 2 ^ 64 := by
  obtain ⟨n, rfl, h0, h1⟩ := tyInt Try.underlying22 h
  simp [IntKind.min, IntKind.max, IntKind.signed, IntKind.bits] at h0 h1
  exact ⟨n.toNat, by congr 1; omega, by omega⟩
theorem wireOrder_main : ∀ avs, TyVs Try.prog 9 [22, 22, 3] avs → CallOk Try.prog 3 avs mem0 0 { v := .b true } := by
  rintro avs ⟨a0, _, rfl, h0, a1, _, rfl, h1, a2, _, rfl, h2, rfl⟩
  obtain ⟨a, rfl, ha⟩ := tyU64 h0
  obtain ⟨b, rfl, hb⟩ := tyU64 h1
  obtain ⟨x, rfl, _⟩ := tyInt Try.underlying3 h2
  exact wireOrder_ok ha hb
theorem wireSigns_main : ∀ avs, TyVs Try.prog 9 [21] avs → CallOk Try.prog 4 avs mem0 0 { v := .b true } := by
  rintro avs ⟨a0, _, rfl, h0, rfl⟩
  obtain ⟨v, rfl, hv⟩ := tyInt Try.underlying21 h0
  exact wireSigns_ok hv.1 hv.2
theorem wireBack_main : ∀ avs, TyVs Try.prog 9 [35, 22, 3] avs → CallOk Try.prog 5 avs mem0 0 { v := .b true } := by
  rintro avs ⟨a0, _, rfl, h0, a1, _, rfl, h1, a2, _, rfl, h2, rfl⟩
  obtain ⟨ls, rfl, h3, h4, h5⟩ := tyLists Try.underlying35 Try.underlying24 Try.underlying5 (by kernel_rfl) (by kernel_rfl) h0
  obtain ⟨v, rfl, hv⟩ := tyU64 h1
  obtain ⟨x, rfl, _⟩ := tyInt Try.underlying3 h2
  have hb : Try.prog.bytesOf 24 = 24 := by kernel_rfl
  rw [hb] at h4
  exact wireBack_ok (fun l hl n hn => (h5 l hl).2.2 n hn) (by omega) hv
set_option maxRecDepth 100000 in
theorem wireOrder_lifted (os : Os) (started : os.Started) (H : Type) (enc : TypeId × Value → H) :
    ReturnsInHanded {} Try.checked os 3 .any (Rows.wireOrderSpec.pre6 enc Try.prog Try.f3 Rows.wireOrderRow.domain false) (Rows.wireOrderSpec.post enc Try.prog Try.f3 false true false false) :=
  lifted_true started own (by kernel_rfl) Try.func3
    (ChangeSpec.witness6 (enc := enc) (C := Try.checked) false ⟨#[], #[.int .u64 0, .int .u64 0, .int .i64 0], []⟩ 8 (by kernel_rfl) (by kernel_rfl) (by kernel_rfl) (by kernel_rfl))
    laidOut (by kernel_rfl) (by kernel_rfl) (tb := 4) (by kernel_rfl) Try.underlying4 rfl rfl
    (fun ds h => by
      match ds, h with
      | [_, _, _], _ => exact ⟨rfl, rfl, rfl⟩)
    (fun _ => trivial) wireOrder_main
theorem wireOrder_holds : Rows.WireOrderSaid :=
  OpenClaim.holds_of_wide 3 Try.f3 rfl rfl rfl rfl rfl rfl rfl ⟨rfl, rfl, rfl, rfl, rfl⟩ rfl rfl rfl rfl rfl (by kernel_rfl) Try.func3 (by kernel_rfl)
    (of_decide_eq_true (by kernel_rfl)) (by unfold Func.isWrapper; first | (rw [if_pos (by decide +kernel)]; kernel_rfl) | (rw [if_neg (by decide +kernel)]; exact ⟨rfl, rfl⟩))
    (fun os started H enc _ => wireOrder_lifted os started H enc)
#print axioms wireOrder_holds
set_option maxRecDepth 100000 in
theorem wireSigns_lifted (os : Os) (started : os.Started) (H : Type) (enc : TypeId × Value → H) :
    ReturnsInHanded {} Try.checked os 4 .any (Rows.wireSignsSpec.pre6 enc Try.prog Try.f4 Rows.wireSignsRow.domain false) (Rows.wireSignsSpec.post enc Try.prog Try.f4 false true false false) :=
  lifted_true started own (by kernel_rfl) Try.func4
    (ChangeSpec.witness6 (enc := enc) (C := Try.checked) false ⟨#[], #[.int .i32 0], []⟩ 8 (by kernel_rfl) (by kernel_rfl) (by kernel_rfl) (by kernel_rfl))
    laidOut (by kernel_rfl) (by kernel_rfl) (tb := 4) (by kernel_rfl) Try.underlying4 rfl rfl
    (fun ds h => by
      match ds, h with
      | [_], _ => exact ⟨rfl, rfl, rfl⟩)
    (fun _ => trivial) wireSigns_main
theorem wireSigns_holds : Rows.WireSignsSaid :=
  OpenClaim.holds_of_wide 4 Try.f4 rfl rfl rfl rfl rfl rfl rfl ⟨rfl, rfl, rfl, rfl, rfl⟩ rfl rfl rfl rfl rfl (by kernel_rfl) Try.func4 (by kernel_rfl)
    (of_decide_eq_true (by kernel_rfl)) (by unfold Func.isWrapper; first | (rw [if_pos (by decide +kernel)]; kernel_rfl) | (rw [if_neg (by decide +kernel)]; exact ⟨rfl, rfl⟩))
    (fun os started H enc _ => wireSigns_lifted os started H enc)
#print axioms wireSigns_holds
set_option maxRecDepth 100000 in
theorem wireBack_lifted (os : Os) (started : os.Started) (H : Type) (enc : TypeId × Value → H) :
    ReturnsInHanded {} Try.checked os 5 .any (Rows.wireBackSpec.pre6 enc Try.prog Try.f5 Rows.wireBackRow.domain false) (Rows.wireBackSpec.post enc Try.prog Try.f5 false true false false) :=
  lifted_true started own (by kernel_rfl) Try.func5
    (ChangeSpec.witness6 (enc := enc) (C := Try.checked) false ⟨#[], #[.slice none 0 0, .int .u64 0, .int .i64 0], []⟩ 8 (by kernel_rfl) (by kernel_rfl) (by kernel_rfl) (by kernel_rfl))
    laidOut (by kernel_rfl) (by kernel_rfl) (tb := 4) (by kernel_rfl) Try.underlying4 rfl rfl
    (fun ds h => by
      match ds, h with
      | [_, _, _], _ => exact ⟨rfl, rfl, rfl⟩)
    (fun _ => trivial) wireBack_main
theorem wireBack_holds : Rows.WireBackSaid :=
  OpenClaim.holds_of_wide 5 Try.f5 rfl rfl rfl rfl rfl rfl rfl ⟨rfl, rfl, rfl, rfl, rfl⟩ rfl rfl rfl rfl rfl (by kernel_rfl) Try.func5 (by kernel_rfl)
    (of_decide_eq_true (by kernel_rfl)) (by unfold Func.isWrapper; first | (rw [if_pos (by decide +kernel)]; kernel_rfl) | (rw [if_neg (by decide +kernel)]; exact ⟨rfl, rfl⟩))
    (fun os started H enc _ => wireBack_lifted os started H enc)
#print axioms wireBack_holds
end Go.Proofs.Ytnmecipoknjkpaa
