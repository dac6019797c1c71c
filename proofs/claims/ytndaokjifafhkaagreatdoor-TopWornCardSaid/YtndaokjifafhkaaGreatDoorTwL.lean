import Derived.Test.YtndaokjifafhkaaGreatDoorProg
import Derived.Test.YtndaokjifafhkaaGreatDoorVxB
import Derived.KernelRfl
/- What stands in the blocks of the package's variables that are read: serve.handles, errors.errorType, bits.deBruijn64tab. -/
namespace Go.Proofs.Tw
set_option linter.unusedSectionVars false
set_option linter.unusedSimpArgs false
set_option linter.unusedVariables false
open Go Go.Vm Go.Vx
set_option maxRecDepth 100000
def hv : List Int := [0,0,1,2,1,1,2,2,1,1,1,0,1,0,0,0,1,1]
def db : List Int := [0, 1, 56, 2, 57, 49, 28, 3, 61, 58, 42, 50, 38, 29, 17, 4, 62, 47, 59, 36, 45, 43, 51, 22, 53, 39, 33, 30, 24, 18, 12, 5, 63, 55, 48, 27, 60, 41, 37, 16, 46, 35, 44, 21, 52, 32, 23, 11, 54, 26, 40, 15, 34, 20, 31, 10, 25, 14, 19, 9, 13, 8, 7, 6]
def cellsAt (w : World) (b : Nat) (k : IntKind) : List Int → Nat → Prop
  | [], _ => True
  | x :: xs, o => w.cell? ⟨b, o, none⟩ = some (.int k x) ∧ cellsAt w b k xs (o + 1)
theorem cellsAt.keep {w w' : World} {b : Nat} {k : IntKind} (h : w'.heap[b]? = w.heap[b]?) : ∀ {xs : List Int} {o : Nat}, cellsAt w b k xs o → cellsAt w' b k xs o
  | [], _, _ => trivial
  | x :: xs, o, ⟨h1, h2⟩ => ⟨(World.cell?_of_block (a := ⟨b, o, none⟩) h).trans h1, cellsAt.keep h h2⟩
theorem cellsAt.rel {g : Gh} {M : Mem} {w : World} {b : Nat} {k : IntKind} : ∀ {xs : List Int} {o : Nat}, cellsAt w b k xs o → RelM g M w b o (xs.map (AV.i k))
  | [], _, _ => trivial
  | x :: xs, o, ⟨h1, h2⟩ => ⟨⟨_, h1, rfl, rfl⟩, cellsAt.rel h2⟩
def etv : Value := .iface 230 (.agg #[.pointer (some ⟨10, 36, none⟩)])
def hA : List AV := hv.map (AV.i .i64)
def dA : List AV := db.map (AV.i .u8)
noncomputable def glcT (i : Nat) : Option (List AV) := bK (Nat.beq i 0) (some hA) (bK (Nat.beq i 2) (some dA) none)
noncomputable instance lay : Inhabited LayT := ⟨{
  ok := fun Z w => (Z 0 ∧ Z 1 ∧ Z 2) ∧ cellsAt w 0 .i64 hv 0 ∧ cellsAt w 2 .u8 db 0 ∧ w.cell? ⟨1, 0, none⟩ = some etv
  st := fun hZ hk h => ⟨⟨hZ _ h.1.1, hZ _ h.1.2.1, hZ _ h.1.2.2⟩, h.2.1.keep (hk 0 h.1.1), h.2.2.1.keep (hk 2 h.1.2.2), (World.cell?_of_block (a := ⟨1, 0, none⟩) (hk 1 h.1.2.1)).trans h.2.2.2⟩
  glc := glcT
  glr := fun {g M w i cs} h e => by
    unfold glcT at e
    rw [bK_eq, bK_eq] at e
    split at e
    · rename_i e0; cases Nat.eq_of_beq_eq_true e0; cases e; exact ⟨h.1.1, h.2.1.rel⟩
    · split at e
      · rename_i e0; cases Nat.eq_of_beq_eq_true e0; cases e; exact ⟨h.1.2.2, h.2.2.1.rel⟩
      · cases e }⟩
end Go.Proofs.Tw
