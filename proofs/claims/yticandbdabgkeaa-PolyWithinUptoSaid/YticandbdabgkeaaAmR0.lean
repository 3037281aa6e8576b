/- Points as the proofs see them, and as the machine holds them, for the poly seat. No condition: definitions alone. -/
import Derived.Test.YticandbdabgkeaaAmD3
import Derived.Test.YticandbdabgkeaaProg
namespace Go.Proofs.Yticandbdabgkeaa.Am
open Go

structure XY where
  x : Int
  y : Int
deriving DecidableEq
def eP (p : XY) : List SV := [.i p.x, .i p.y]

theorem mixed : Try.prog.follows .mixedOrders = true := by kernel_rfl

/-- The program lists no variable here (to be checked for the seat). -/
def G0 : Nat → List SV := fun _ => []
end Go.Proofs.Yticandbdabgkeaa.Am
