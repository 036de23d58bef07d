/- Tenths of decibels of products of eighths, evaluated: a part. No conditions. -/
import Derived.Test.YtecdnpmafmfobaaCt
namespace Go.Proofs.Ytecdnpmafmfobaa.fast
theorem rows_4 : rows 19 (tab.drop 97) = true := by decide +kernel
end Go.Proofs.Ytecdnpmafmfobaa.fast
