import Derived.Test.YtndaokjifafhkaaGreatDoorRows
import Derived.Test.YtndaokjifafhkaaGreatDoorCards
import Derived.Test.YtndaokjifafhkaaGreatDoorTie
import Derived.SevenTiedAt
import Derived.Lay
import Derived.LaidSub
import Derived.Lib.LaidU8
import Derived.Test.YtndaokjifafhkaaGreatDoorTwL
import Derived.Test.YtndaokjifafhkaaGreatDoorVxZ
/- What the row lists, as the walks read it; a world that meets the condition. -/
namespace Go.Proofs.Tw
set_option linter.unusedSectionVars false
set_option linter.unusedSimpArgs false
set_option linter.unusedVariables false
set_option maxRecDepth 100000
open Go Go.Vm Go.Vx Go.ChangeShapes Go.WideShapes Go.ChangeAt Go.RowKit
open Go.Proofs.YtndaokjifafhkaaGreatDoor
theorem own : ownKnob Tryz.prog.godebug = none := by kernel_rfl
theorem laidOut : laidOutB Tryz.prog = true := by kernel_rfl
theorem etG : Tryz.prog.globalNamed "errors.errorType" = some 1 := by kernel_rfl
theorem rtT : (Tryz.prog.cutTypes.find? (·.1 == "internal/reflectlite.rtype")).map (·.2) = some 230 := by kernel_rfl
theorem oneRow : ((List.range 518).filter fun t => Tryz.prog.rowNamed t [101, 114, 114, 111, 114]) = [36] := by kernel_rfl
theorem nTypes : Tryz.prog.types.size = 518 := by kernel_rfl
def laidL : List (String × DataW Unit) := Rows.topWornRow.laid
def dataL : List (String × DataW Unit) := laidL.filter fun x => x.2.handleName?.isNone
theorem handle_of_laid {W : World} (h : laidMetH Tryz.prog laidL W) : W.cell? ⟨1, 0, none⟩ = some etv := by
  have h' := (laidMetH_iff.1 h).2
  obtain ⟨name, u, ty, e1, e2, e3, e4, e5⟩ := h' ("errors.errorType", Rows.laid_errors_errorType) (List.mem_filter.2 ⟨by simp [laidL, Rows.topWornRow], rfl⟩)
  have en : name = [101, 114, 114, 111, 114] := (Option.some.inj e1).symm
  subst en
  obtain rfl := Option.some.inj (rtT.symm.trans e2)
  have hm : ty ∈ (List.range 518).filter fun t => Tryz.prog.rowNamed t [101, 114, 114, 111, 114] := List.mem_filter.2 ⟨List.mem_range.2 (by rw [← nTypes]; exact e3), e4⟩
  rw [oneRow] at hm
  obtain rfl := List.mem_singleton.1 hm
  have hh : typeHandle Tryz.prog 36 = .pointer (some ⟨10, 36, none⟩) := by kernel_rfl
  rw [hh] at e5
  have h9 := World.var?_cell etG e5 0
  unfold etv
  simpa using h9
theorem cellsAt_of {w : World} {b : Nat} {k : IntKind} : ∀ {xs : List Int} {o : Nat}, (∀ i, i < xs.length → w.cell? ⟨b, o + i, none⟩ = some (.int k (xs.getD i 0))) → cellsAt w b k xs o
  | [], _, _ => trivial
  | x :: xs, o, h => ⟨by simpa using h 0 (by simp), cellsAt_of fun i hi => by
      have := h (i + 1) (by simpa using hi)
      rw [show o + 1 + i = o + (i + 1) by omega, this]
      simp⟩
theorem tab_of {W : World} {n : String} {g t e len : Nat} {k : IntKind} {zs : List Int} (h : Lib.VarReads Tryz.prog W n (Lib.tabData k zs)) (hg : Tryz.prog.globalNamed n = some g) (hty : (Tryz.prog.globals[g]?).map (·.type) = some t) (ht : Tryz.prog.underlying t = some (.array len e))
    (he : Tryz.prog.underlying e = some (.int k)) (hce : Tryz.prog.cellsOf e = 1) (hct : Tryz.prog.cellsOf t = len) : cellsAt W g k zs 0 := by
  obtain ⟨g', t', cs, fuel, p, e1, e2, e3, e4⟩ := h
  obtain rfl := Option.some.inj (hg.symm.trans e1)
  obtain rfl := Option.some.inj (hty.symm.trans e2)
  have := Lib.cells_of_tab ht he hce hct e4
  have hT : Lib.TabIs Tryz.prog W n k zs := by unfold Lib.TabIs; rw [e3, ← this]
  exact cellsAt_of fun i hi => by rw [Nat.zero_add]; exact hT.cell hg i hi
theorem layOk_of {W : World} (h : laidMetH Tryz.prog laidL W) : layOk (gh0 W) W := by
  have hd := (laidMetH_iff.1 h).1
  have h0 : cellsAt W 0 .i64 hv 0 := tab_of (t := 100) (e := 3) (len := 18) (Lib.laidMet.reads hd (n := "plait/serve.handles") (d := Lib.tabData .i64 hv) (List.mem_filter.2 ⟨by
    have : (Lib.tabData .i64 hv : DataW Unit) = Rows.laid_plait_serve_handles := by kernel_rfl
    rw [this]; simp [laidL, Rows.topWornRow], rfl⟩)) (by kernel_rfl) (by kernel_rfl) (by kernel_rfl) (by kernel_rfl) (by kernel_rfl) (by kernel_rfl)
  have h2 : cellsAt W 2 .u8 db 0 := tab_of (t := 322) (e := 5) (len := 64) (Lib.laidMet.reads hd (n := "math/bits.deBruijn64tab") (d := Lib.tabData .u8 db) (List.mem_filter.2 ⟨by
    have : (Lib.tabData .u8 db : DataW Unit) = Rows.laid_math_bits_deBruijn64tab := by kernel_rfl
    rw [this]; simp [laidL, Rows.topWornRow], rfl⟩)) (by kernel_rfl) (by kernel_rfl) (by kernel_rfl) (by kernel_rfl) (by kernel_rfl) (by kernel_rfl)
  have h1 := handle_of_laid h
  have hs : 2 < W.heap.size := by
    rcases Nat.lt_or_ge 2 W.heap.size with h | h
    · exact h
    · have := h2.1
      simp [World.cell?, Array.getElem?_eq_none h] at this
  exact ⟨⟨by show 0 < W.heap.size; omega, by show 1 < W.heap.size; omega, hs⟩, h0, h2, h1⟩
noncomputable def world1 (os : Os) : World :=
  let w0 := World.holding Tryz.prog os ⟨#[], #[], []⟩
  { w0 with heap := w0.heap.modify 1 fun
      | .cells _ t frozen => .cells #[etv] t frozen
      | o => o }
noncomputable def laidWorld (os : Os) : World := (world1 os).layVars Tryz.prog dataL
end Go.Proofs.Tw
