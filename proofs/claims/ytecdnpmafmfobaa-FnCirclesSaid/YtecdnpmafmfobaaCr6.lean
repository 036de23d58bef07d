/- Tenths of decibels of products of eighths, evaluated: a part. No conditions. -/
import Derived.Test.YtecdnpmafmfobaaCt
namespace Go.Proofs.Ytecdnpmafmfobaa.fast
theorem rows_6 : rows 29 (tab.drop 101) = true := by decide +kernel
end Go.Proofs.Ytecdnpmafmfobaa.fast
