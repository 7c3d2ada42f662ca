/- Words for points of the code. -/
import Derived.Test.YtpljgnjdlciicaaGreatDoorLyKQ20
import Derived.KernelRfl
namespace Go.Proofs.YtpljgnjdlciicaaGreatDoor
open Go Go.Ev Go.Proofs
noncomputable def cB (f : Nat) : Code := match En.fn.get f with
  | some fn => (match fn.body with
    | some c => c
    | none => .skip)
  | none => .skip
noncomputable def tm0 : Tm := tmL 0 []
def cL : Code → Code
  | .seq a _ => a
  | .cond _ a _ => a
  | c => c
def cR : Code → Code
  | .seq _ b => b
  | .cond _ _ b => b
  | c => c
def cI : Code → Code
  | .block _ b => b
  | .loop b => b
  | .scope b => b
  | c => c
end Go.Proofs.YtpljgnjdlciicaaGreatDoor
