/- Tenths of decibels of products of eighths, evaluated: a part. No conditions. -/
import Derived.Test.YtecdnpmafmfobaaCt
namespace Go.Proofs.Ytecdnpmafmfobaa.fast
theorem rows_5 : rows 23 (tab.drop 78) = true := by decide +kernel
end Go.Proofs.Ytecdnpmafmfobaa.fast
