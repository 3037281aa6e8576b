/- Rings, readings and points as the proofs see them, and as the machine holds them. No condition: definitions alone. -/
import Derived.Test.YtilepdoijdeohaaDoorAmD3
import Derived.Test.YtilepdoijdeohaaDoorProg
namespace Go.Proofs.YtilepdoijdeohaaDoor.Am
open Go

structure XY where
  x : Int
  y : Int
deriving DecidableEq
structure Rd where
  p : XY
  ok : Bool
deriving DecidableEq
structure Rg where
  z : Int
  l : List Rd
deriving DecidableEq

def eP (p : XY) : List SV := [.i p.x, .i p.y]
def eRd (r : Rd) : List SV := [.i r.p.x, .i r.p.y, .bool r.ok]
def eRg (r : Rg) : SV := .agg [.i r.z, .sl 3 (r.l.map eRd)]

theorem mixed : Tryd.prog.follows .mixedOrders = true := by kernel_rfl

def G0 : Nat → List SV := fun g => match Nat.beq g 0 with | true => [.i (-1), .i 1] | false => []
end Go.Proofs.YtilepdoijdeohaaDoor.Am
