/-
  Products of phasors of 64ths of turns: near the phasor of the sum, by the kernel.
-/
import Derived.Test.YtokbpcfgeklliaaCiA
namespace Go.Proofs.Ytokbpcfgeklliaa
open Go.RowKit
/-- A number widened, narrowed: only where the word is fixed. -/
def wid (x : Nat) : Option Nat := floatToFloatBits .f32 x .f64
def nar (x : Nat) : Option Nat := floatToFloatBits .f64 x .f32
def mulC (p q : Nat × Nat) : Option (Nat × Nat) := do
  let a ← wid p.1
  let b ← wid p.2
  let c ← wid q.1
  let d ← wid q.2
  let ac ← floatBits .mul .f64 a c
  let bd ← floatBits .mul .f64 b d
  let re ← floatBits .sub .f64 ac bd
  let ad ← floatBits .mul .f64 a d
  let bc ← floatBits .mul .f64 b c
  let im ← floatBits .add .f64 ad bc
  let x ← nar re
  let y ← nar im
  some (x, y)
/-- The distance of two numbers. -/
def gapC (a b : Nat) : Option Nat := if FloatKind.f64.format.order a b == some .lt then floatBits .sub .f64 b a else floatBits .sub .f64 a b
def leC (a b : Nat) : Bool := FloatKind.f64.format.order a b == some .lt || FloatKind.f64.format.order a b == some .eq
def nearC (x y : Nat) : Bool := (do
  let a ← wid x
  let b ← wid y
  let g ← gapC a b
  some (leC g 4547007122018943789)).getD false
def prodB (i j : Nat) : Bool := match mulC (phT i) (phT j) with
  | some z => nearC z.1 (phT ((i + j) % 64)).1 && nearC z.2 (phT ((i + j) % 64)).2
  | none => false
end Go.Proofs.Ytokbpcfgeklliaa
