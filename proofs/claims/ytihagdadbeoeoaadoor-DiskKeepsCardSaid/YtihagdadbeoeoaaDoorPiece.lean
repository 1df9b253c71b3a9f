/-
  Program-independent: a region or an 'if' of a function's text, by its number: for walking a piece of a long function in a theorem of its own.
-/
import Derived.WalkKit
namespace Go.Proofs.YtihagdadbeoeoaaDoor
open Go
def regionOf (n : Nat) : Code → Option Code
  | .region k ops d => if k = n then some (.region k ops d) else none
  | .seq a b => match regionOf n a with
    | some c => some c
    | none => regionOf n b
  | .cond _ a b => match regionOf n a with
    | some c => some c
    | none => regionOf n b
  | .block _ c => regionOf n c
  | .loop c => regionOf n c
  | .scope c => regionOf n c
  | _ => none
def condOf (n : Nat) : Code → Option Code
  | .seq a b => match condOf n a with
    | some c => some c
    | none => condOf n b
  | .cond (.tmp t) a b => if t = n then some (.cond (.tmp t) a b) else match condOf n a with
    | some c => some c
    | none => condOf n b
  | .cond _ a b => match condOf n a with
    | some c => some c
    | none => condOf n b
  | .block _ c => condOf n c
  | .loop c => condOf n c
  | .scope c => condOf n c
  | _ => none
/-- What a region's steps ask of the exits. -/
def PanicOk (Q : Exit → Act → World → Prop) : Prop := ∀ (c : List PanicEntry) (a : Act) (d : Tmp) (v : Value) (w : World), Q (.panic c) (a.put (some d) v) w → Q (.panic c) a w
end Go.Proofs.YtihagdadbeoeoaaDoor
