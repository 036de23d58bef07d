/- Tenths of decibels of products of eighths, evaluated: a part. No conditions. -/
import Derived.Test.YtoimjjagkfgogaaCt
namespace Go.Proofs.Ytoimjjagkfgogaa.fast
theorem rows_0 : rows 31 (tab.drop 0) = true := by decide +kernel
end Go.Proofs.Ytoimjjagkfgogaa.fast
