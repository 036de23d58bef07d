/- Tenths of decibels of products of eighths, evaluated: a part. No conditions. -/
import Derived.Test.YtecdnpmafmfobaaCt
namespace Go.Proofs.Ytecdnpmafmfobaa.fast
theorem rows_3 : rows 17 (tab.drop 42) = true := by decide +kernel
end Go.Proofs.Ytecdnpmafmfobaa.fast
