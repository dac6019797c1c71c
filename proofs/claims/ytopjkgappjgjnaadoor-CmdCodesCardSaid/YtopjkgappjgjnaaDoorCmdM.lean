import Derived.Test.YtopjkgappjgjnaaDoorVmA
/- Commands, in plain words: what they have, whether they may be, their bytes. -/
namespace Go.CmdM
structure Cm where
  co : Int
  a0 : Int
  t0 : Int
  a1 : Int
  t1 : Int
  s0 : Int
  s1 : Int
  w : Int
  d : List Int
def hs (c : Int) : Nat := if c = 3 ∨ c = 6 ∨ c = 7 then 2 else if c = 2 ∨ c = 4 ∨ c = 5 ∨ c = 8 ∨ c = 9 ∨ c = 10 ∨ c = 12 ∨ c = 16 ∨ c = 17 then 1 else 0
def sd (c : Int) : Nat := if c = 3 then 2 else if c = 7 ∨ c = 9 ∨ c = 10 ∨ c = 17 then 1 else 0
def wt (c : Int) : Bool := decide (c = 3 ∨ c = 5)
def da (c : Int) : Bool := decide (c = 15)
def isC (c : Int) : Bool := decide (1 ≤ c ∧ c ≤ 17)
/-- A form: what a command has. -/
structure Fm where
  h : Nat
  s : Nat
  w : Bool
  d : Bool
def fm (c : Int) : Fm := ⟨hs c, sd c, wt c, da c⟩
/-- Are the sides beyond what they may be? -/
def bad3 (f : Fm) (c : Cm) : Bool := decide (0 < f.s ∧ ((0 < f.h ∧ (c.s0 < 0 ∨ (f.s : Int) < c.s0)) ∨ (1 < f.h ∧ (c.s1 < 0 ∨ (f.s : Int) < c.s1))))
/-- Is there what there may not be? -/
def bad1 (f : Fm) (c : Cm) : Bool :=
  decide ((f.h = 0 ∧ ¬ (c.a0 = 0 ∧ c.t0 = 0)) ∨ ((f.h = 0 ∨ f.s = 0) ∧ c.s0 ≠ 0) ∨ (f.h ≤ 1 ∧ ¬ (c.a1 = 0 ∧ c.t1 = 0)) ∨ ((f.h ≤ 1 ∨ f.s = 0) ∧ c.s1 ≠ 0) ∨ (f.w = false ∧ c.w ≠ 0) ∨ (f.d = false ∧ (0 : Int) < c.d.length))
def rest (f : Fm) (c : Cm) : Int := if bad1 f c = true then 1 else if (67108863 : Int) < c.d.length then 2 else 0
def chk (c : Cm) : Int := if isC c.co = false then 10 else if bad3 (fm c.co) c = true then 3 else rest (fm c.co) c
end Go.CmdM
