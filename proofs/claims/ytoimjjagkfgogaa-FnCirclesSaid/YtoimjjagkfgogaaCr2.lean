/- Tenths of decibels of products of eighths, evaluated: a part. No conditions. -/
import Derived.Test.YtoimjjagkfgogaaCt
namespace Go.Proofs.Ytoimjjagkfgogaa.fast
theorem rows_2 : rows 21 (tab.drop 52) = true := by decide +kernel
end Go.Proofs.Ytoimjjagkfgogaa.fast
