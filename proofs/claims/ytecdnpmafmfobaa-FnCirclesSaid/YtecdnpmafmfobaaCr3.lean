/- Tenths of decibels of products of eighths, evaluated: a part. No conditions. -/
import Derived.Test.YtecdnpmafmfobaaCt
namespace Go.Proofs.Ytecdnpmafmfobaa.fast
theorem rows_3 : rows 24 (tab.drop 73) = true := by decide +kernel
end Go.Proofs.Ytecdnpmafmfobaa.fast
