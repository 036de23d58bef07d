/- Tenths of decibels of products of eighths, evaluated: a part. No conditions. -/
import Derived.Test.YtecdnpmafmfobaaCt
namespace Go.Proofs.Ytecdnpmafmfobaa.fast
theorem rows_0 : rows 31 (tab.drop 0) = true := by decide +kernel
end Go.Proofs.Ytecdnpmafmfobaa.fast
