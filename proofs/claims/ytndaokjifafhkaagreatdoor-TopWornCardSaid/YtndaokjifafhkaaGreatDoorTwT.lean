import Derived.Test.YtndaokjifafhkaaGreatDoorTwL
import Derived.Test.YtndaokjifafhkaaGreatDoorTwQ1
import Derived.Test.YtndaokjifafhkaaGreatDoorTwS
import Derived.Test.YtndaokjifafhkaaGreatDoorVxW
/- The special functions and lifts range, told by steps; the same for the kernel. -/
namespace Go.Proofs.Tw
set_option linter.unusedSectionVars false
set_option linter.unusedSimpArgs false
set_option linter.unusedVariables false
open Go Go.Vm Go.Vx
set_option maxRecDepth 100000
def is22 : List AV → Bool | [_, .fn f [_]] => Nat.beq f 22 | _ => false
noncomputable section
def so (k : Nat) (xs : List AV) (M : Mem) (nb : Nat) : Option (Out × Nat) :=
  bK (Nat.beq k 112) (soLoad .u32 xs M nb) (bK (Nat.beq k 264) (soLoad .i64 xs M nb) (bK (Nat.beq k 203) (soAdd .i64 xs M nb) (bK (Nat.beq k 328) (soIndex xs M nb) (bK (Nat.beq k 237) (soCount xs M nb) (bK (Nat.beq k 105) (soCheck 133 xs M nb) (bK (Nat.beq k 55) (soStr 5 xs M nb) (bK (Nat.beq k 24) (soAs 59 94 xs M nb) none)))))))
def sp (call : Caller) (k : Nat) (xs : List AV) (m : Tr) (nb : Nat) : CR :=
  bK (Nat.beq k 60) (bK (is22 xs) (onceP call xs m nb) none) (bK (Nat.beq k 326) (spOut (soClone xs m.get nb) m nb) (spOut (so k xs m.get nb) m nb))
def spF (ck : CallK) (k : Nat) (xs : List AV) (m : Tr) (nb : Nat) (kc : KC) : Bool :=
  bK (Nat.beq k 60) (bK (is22 xs) (onceF ck xs m nb kc) false) (bK (Nat.beq k 326) (spOutF (soClone xs m.get nb) m kc) (spOutF (so k xs m.get nb) m kc))
theorem spF_eq (call : Caller) (ck : CallK) (hc : CEq call ck) (k : Nat) (xs : List AV) (m : Tr) (nb : Nat) (kc : KC) : spF ck k xs m nb kc = kcO kc (sp call k xs m nb) := by
  unfold spF sp
  simp only [bK_eq]
  split
  · split
    · exact onceF_eq call ck hc xs m nb kc
    · rfl
  · split
    · exact spOutF_eq _ m nb kc
    · exact spOutF_eq _ m nb kc
def isUn (v : AV) : Bool := match v with | .undef => true | _ => false
theorem isUn_spec {v : AV} (h : isUn v = true) : v = .undef := by cases v <;> first | rfl | cases h
/-- Lift's range over the road, from its end on. -/
def spc (call : Caller) (k : Nat) (s : RS) : Option (Exit × RS) :=
  if k = 1 then match lkT s.l 36 with
    | .fn 341 [.ptr b bi bo] => if (isUn (lkT s.l 37) && isUn (lkT s.l 38)) = true then (s.m.get b).bind fun rb => (rb.get1 bi bo).bind fun v => match v with
        | .own id off n 1 => if (Nat.ble 1 n && Nat.ble n 1000000) = true then (rnds call s.l body 7 b bi bo id off n n { s with R := Nat.lor s.R (mask [b, id]) }).map fun s' => (.normal, { s' with l := s.l }) else none
        | _ => none
      else none
    | _ => none
  else none
def stepK (m : Tr) (b bi bo id off n i : Nat) (k : Int → Bool) : Bool := rowK m b fun rb => get1K rb bi bo fun v => match v with
  | .own id' off' n' 1 => bK (Nat.beq id' id && (Nat.beq off' off && Nat.beq n' n)) (rowK m id fun r => bK (Nat.beq r.sz 1) (get1K r (off + i) 0 fun c => match c with
      | .i .i32 z => k z
      | _ => false) false) false
  | _ => false
theorem stepK_eq (s : RS) (b bi bo id off n i : Nat) (k : Int → Bool) : stepK s.m b bi bo id off n i k = orD (stepV s b bi bo id off n i) false k := by
  unfold stepK stepV
  rw [rowK_eq]
  cases s.m.get b with
  | none => rfl
  | some rb =>
    rw [orD_some, get1K_eq, Option.bind_some]
    cases rb.get1 bi bo with
    | none => rfl
    | some v =>
      rw [orD_some, Option.bind_some]
      split
      · rename_i id' off' n'
        rw [bK_eq]
        by_cases e : id' = id ∧ off' = off ∧ n' = n
        · obtain ⟨rfl, rfl, rfl⟩ := e
          simp only [Nat.beq_refl, Bool.and_self, if_true, and_self]
          rw [rowK_eq]
          cases s.m.get id' with
          | none => rfl
          | some r =>
            rw [orD_some, Option.bind_some, bK_eq]
            by_cases hz : r.sz = 1
            · simp only [hz, Nat.beq_refl, if_true]
              rw [get1K_eq]
              cases r.get1 (off' + i) 0 with
              | none => rfl
              | some c =>
                rw [orD_some, Option.bind_some]
                cases c with
                | i kd z => cases kd <;> rfl
                | _ => rfl
            · rw [if_neg hz, if_neg fun h => hz (Nat.eq_of_beq_eq_true h)]
              rfl
        · show _ = orD (if id' = id ∧ off' = off ∧ n' = n then _ else none) false k
          rw [if_neg e, if_neg]
          · rfl
          · intro h
            simp only [Bool.and_eq_true, beq_if] at h
            exact e h
      · rename_i hne
        cases v with
        | own id' off' n' st =>
          match st with
          | 0 => rfl
          | 1 => exact absurd rfl (hne _ _ _)
          | st + 2 => rfl
        | _ => rfl
def rndK (ck : CallK) (kn : KS) (l : Lo) (b bi bo id off n i : Nat) : Tr → Nat → Nat → Nat → Bool := Nat.rec (motive := fun _ => Tr → Nat → Nat → Nat → Bool) (kn l) (fun i ih m nb R W =>
  stepK m b bi bo id off n i fun z => opsK ck false body 0 (fun _ m nb R W _ => ih m nb R W) ((7, .i .i32 z) :: l) m nb R W []) i
def spcF (ck : CallK) (k : Nat) : CK := fun kn kx l m nb R W => bK (Nat.beq k 1) (lk l 36 fun v => match v with
  | .fn 341 [.ptr b bi bo] => bK (isUn (lkT l 37) && isUn (lkT l 38)) (rowK m b fun r => get1K r bi bo fun s => match s with
      | .own id off n 1 => bK (Nat.ble 1 n && Nat.ble n 1000000) (fN (Nat.lor R (mask [b, id])) fun R => rndK ck kn l b bi bo id off n n m nb R W) false
      | _ => false) false
  | _ => false) false
theorem rndK_eq (call : Caller) (ck : CallK) (hc : CEq call ck) (kn : KS) (l : Lo) (b bi bo id off n : Nat) : ∀ (i : Nat) (l0 : Lo) (m : Tr) (nb R W : Nat), rndK ck kn l b bi bo id off n i m nb R W = orD (rnds call l body 7 b bi bo id off n i ⟨l0, m, nb, R, W⟩) false fun s => kn l s.m s.nb s.R s.W
  | 0, l0, m, nb, R, W => rfl
  | i + 1, l0, m, nb, R, W => by
    show stepK m b bi bo id off n i (fun z => opsK ck false body 0 (fun _ m nb R W _ => rndK ck kn l b bi bo id off n i m nb R W) ((7, .i .i32 z) :: l) m nb R W []) = _
    rw [stepK_eq ⟨l0, m, nb, R, W⟩, rnds]
    cases stepV ⟨l0, m, nb, R, W⟩ b bi bo id off n i with
    | none => rfl
    | some z =>
      rw [orD_some, Option.bind_some, opsK_eq call ck hc]
      cases opsP call false body 0 ⟨(7, .i .i32 z) :: l, m, nb, R, W⟩ [] with
      | none => rfl
      | some y =>
        obtain ⟨⟨l1, m1, nb1, R1, W1⟩, log⟩ := y
        exact rndK_eq call ck hc kn l b bi bo id off n i l1 m1 nb1 R1 W1
theorem spcF_eq (call : Caller) (ck : CallK) (hc : CEq call ck) : SEq call spc (spcF ck) := by
  intro k kn kx l m nb R W
  unfold spcF spc
  simp only [bK_eq, beq_if, lk_eq]
  split
  · split
    · rename_i b bi bo e
      split
      · rw [rowK_eq]
        cases m.get b with
        | none => rfl
        | some rb =>
          rw [orD_some, get1K_eq, Option.bind_some]
          cases rb.get1 bi bo with
          | none => rfl
          | some v =>
            rw [orD_some, Option.bind_some]
            split
            · rename_i id off n
              split
              · rw [fN_eq, rndK_eq call ck hc kn l b bi bo id off n n l]
                cases rnds call l body 7 b bi bo id off n n ⟨l, m, nb, Nat.lor R (mask [b, id]), W⟩ <;> rfl
              · rfl
            · rfl
      · rfl
    · rfl
  · rfl
theorem spc_ok (hclo : ClosureOk Tryz.prog 341) (hcal : Callable Tryz.prog 341) : SpcOk Tryz.prog SpD spc := by
  intro call hcall N c k hk s ex s' h
  unfold spc at h
  split at h
  · rename_i hk1
    subst hk1
    rcases hk with hk | ⟨_, ida, idb, blk, osa, osb, rfl, rfl, hA, hB⟩
    · cases hk
    split at h
    · rename_i b bi bo e
      split at h
      · rename_i hun
        rw [Bool.and_eq_true] at hun
        obtain ⟨rb, h1, h⟩ := Option.bind_eq_some_iff.1 h
        obtain ⟨v, h2, k2⟩ := Option.bind_eq_some_iff.1 h
        clear h
        split at k2
        · rename_i id off n
          split at k2
          · rename_i hn
            rw [Bool.and_eq_true] at hn
            obtain ⟨sE, h3, h4⟩ := Option.map_eq_some_iff.1 k2
            cases h4
            exact range_code hcall hclo hcal hA hB (by simp [body, den]) (by decide) e (isUn_spec hun.1) (isUn_spec hun.2) (Nat.le_of_ble_eq_true hn.1) (Nat.le_of_ble_eq_true hn.2) h3
          · cases k2
        · cases k2
      · cases h
    · cases h
  · cases h
end
end Go.Proofs.Tw
