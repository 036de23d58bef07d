/- What a call returns: a number, or 0 and false. No conditions. -/
import Derived.Test.YtnkogheibofboaaWs
namespace Go.Proofs.Ytnkogheibofboaa.B
open Go.RowKit

/-- A number and true, or 0 and false. -/
def GivesIf (ok : Bool) (X : Option Nat) (w : World) (e : Ending) (w' : World) : Prop :=
  ∃ r m, e = .returned (.tuple #[.float .f32 r, .bool ok]) ∧ Ab .f32 r (if ok = true then X else some 0) ∧ w' = w.drewN m

end Go.Proofs.Ytnkogheibofboaa.B
