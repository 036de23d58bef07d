/- Tenths of decibels of products of eighths, evaluated: a part. No conditions. -/
import Derived.Test.YtecdnpmafmfobaaCt
namespace Go.Proofs.Ytecdnpmafmfobaa.fast
theorem rows_1 : rows 14 (tab.drop 13) = true := by decide +kernel
end Go.Proofs.Ytecdnpmafmfobaa.fast
