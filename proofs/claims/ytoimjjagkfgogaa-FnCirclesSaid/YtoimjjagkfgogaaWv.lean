/- Walks: the sine of turns, one side. No conditions. -/
import Derived.Test.YtoimjjagkfgogaaWn
import Derived.Test.YtoimjjagkfgogaaWu
import Derived.Test.YtoimjjagkfgogaaFq
namespace Go.Proofs.Ytoimjjagkfgogaa
open Go.RowKit
set_option maxRecDepth 8000

theorem fl_toint {P : Program} {ops : Array Oper} {rest : List Oper} {o : Oper} {a : Act} {w : World} {Q : Exit → Act → World → Prop} (hg : Region.wanted o (yielded ops a.tmps) = true) (src dst : TypeId) (x : Operand) (ho : o.op = .convert src dst x) (k : FloatKind) (u : Nat) (hx : a.eval x = .float k u)
    (hs : (P.underlying src).isSome = true) (q : IntKind) (hd : P.underlying dst = some (.int q)) (n : Int) (hn : floatToIntVal k u q = some n)
    (h : wpList P ops Q rest (a.put o.dst (.int q n)) w) : wpList P ops Q (o :: rest) a w := by
  refine wpList_wanted hg fun K hK => ?_
  refine wp_value (v := .int q n) (w' := w) ?_ (hK _ _ h)
  simp [execOp, ho, hx, run_convert_float_int w src dst k q u n hs hd hn]


end Go.Proofs.Ytoimjjagkfgogaa
