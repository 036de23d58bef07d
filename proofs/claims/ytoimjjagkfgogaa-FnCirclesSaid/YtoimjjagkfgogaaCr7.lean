/- Tenths of decibels of products of eighths, evaluated: a part. No conditions. -/
import Derived.Test.YtoimjjagkfgogaaCt
namespace Go.Proofs.Ytoimjjagkfgogaa.fast
theorem rows_7 : rows 39 (tab.drop 161) = true := by decide +kernel
end Go.Proofs.Ytoimjjagkfgogaa.fast
