/- Walks: the angle of a point. No conditions. -/
import Derived.Test.YtoimjjagkfgogaaWn
import Derived.Test.YtoimjjagkfgogaaWu
import Derived.Test.YtoimjjagkfgogaaFt
namespace Go.Proofs.Ytoimjjagkfgogaa
open Go.RowKit
set_option maxRecDepth 8000

/-- The angle in 64 bits, out of what the comparisons say. -/
def outA (fy fx zx zy o nx ny : Bool) (Y X : Option Nat) : Option Nat :=
  if (fy && fx) = true then (if (zx && zy) = true then some 0 else turnT o nx ny (rawT (if o = true then opA .quo .f64 (absA X) (absA Y) else opA .quo .f64 (absA Y) (absA X)))) else none

theorem ab_nan : Ab .f64 9221120237041090561 none := Ab.nan (by decide) (by decide)



/-- The angle of a point. -/
def angleA (Y X : Option Nat) : Option Nat :=
  narrowA (outA (finA .f32 Y) (finA .f32 X) (cmpA .eql .f32 X (some 0)) (cmpA .eql .f32 Y (some 0)) (cmpA .gtr .f64 (absA (wideA Y)) (absA (wideA X))) (cmpA .lss .f32 X (some 0)) (cmpA .lss .f32 Y (some 0)) (wideA Y) (wideA X))

theorem fits_none : Fits none := fun b h => by cases h
theorem fits_zero : Fits (some 0) := fun b h => by cases h; decide +kernel

theorem fits_angle {y x : Nat} {Y X : Option Nat} (hy : Ab .f32 y Y) (hx : Ab .f32 x X) (o1 o2 : Bool) :
    Fits (outA (finA .f32 Y) (finA .f32 X) (cmpA .eql .f32 X (some 0)) (cmpA .eql .f32 Y (some 0)) (cmpA .gtr .f64 (absA (wideA Y)) (absA (wideA X))) o1 o2 (wideA Y) (wideA X)) := by
  unfold outA
  cases fy : finA .f32 Y
  · exact fits_none
  cases fx : finA .f32 X
  · exact fits_none
  cases hz : (cmpA .eql .f32 X (some 0) && cmpA .eql .f32 Y (some 0))
  · exact fits_turn _ _ _ (ratio_top hy hx fy fx hz)
  · exact fits_zero

theorem neq_fin {x : Nat} {X : Option Nat} (h : Ab .f32 x X) : cmpA .neq .f64 (opA .sub .f64 (wideA X) (wideA X)) (some 0) = !finA .f32 X := by
  rw [← finA_wide h]
  show (ordA .f64 _ _ != some .eq) = !(ordA .f64 _ _ == some .eq)
  rfl



end Go.Proofs.Ytoimjjagkfgogaa
