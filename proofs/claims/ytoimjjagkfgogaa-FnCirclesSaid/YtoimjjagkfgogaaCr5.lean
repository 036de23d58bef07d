/- Tenths of decibels of products of eighths, evaluated: a part. No conditions. -/
import Derived.Test.YtoimjjagkfgogaaCt
namespace Go.Proofs.Ytoimjjagkfgogaa.fast
theorem rows_5 : rows 24 (tab.drop 116) = true := by decide +kernel
end Go.Proofs.Ytoimjjagkfgogaa.fast
