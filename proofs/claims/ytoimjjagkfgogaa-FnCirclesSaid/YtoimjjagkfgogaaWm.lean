/- Walks: the law of SineTurns. No conditions. -/
import Derived.Test.YtoimjjagkfgogaaWl
namespace Go.Proofs.Ytoimjjagkfgogaa
open Go.RowKit
set_option maxRecDepth 8000

def Turns64 (R : Option Nat) (w : World) (e : Ending) (w' : World) : Prop := ∃ r n', e = .returned (.float .f64 r) ∧ Ab .f64 r R ∧ w' = w.drewN n'




end Go.Proofs.Ytoimjjagkfgogaa
