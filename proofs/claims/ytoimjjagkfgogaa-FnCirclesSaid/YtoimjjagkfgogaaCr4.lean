/- Tenths of decibels of products of eighths, evaluated: a part. No conditions. -/
import Derived.Test.YtoimjjagkfgogaaCt
namespace Go.Proofs.Ytoimjjagkfgogaa.fast
theorem rows_4 : rows 19 (tab.drop 97) = true := by decide +kernel
end Go.Proofs.Ytoimjjagkfgogaa.fast
