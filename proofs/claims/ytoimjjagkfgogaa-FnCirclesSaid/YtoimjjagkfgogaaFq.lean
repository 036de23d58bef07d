/- The sine of turns, in 64 bits, and that it is small. No conditions. -/
import Derived.Test.YtoimjjagkfgogaaFs
namespace Go.Proofs.Ytoimjjagkfgogaa
open Go.RowKit

def den : Nat → Int
  | 0 => 272
  | 1 => 210
  | 2 => 156
  | 3 => 110
  | 4 => 72
  | 5 => 42
  | 6 => 20
  | _ => 6
def polyS (U : Option Nat) : Nat → Option Nat
  | 0 => some 4607182418800017408
  | j + 1 => opA .sub .f64 (some 4607182418800017408) (opA .quo .f64 (opA .mul .f64 U (polyS U j)) (some (floatOfInt .f64 (den j))))
/-- The fraction, out of the difference. -/
def fracA (b : Bool) (F : Option Nat) : Option Nat := if b = true then opA .add .f64 F (some 4607182418800017408) else F
def halfA (b : Bool) (F : Option Nat) : Option Nat := if b = true then opA .sub .f64 F (some 4602678819172646912) else F
def quartA (b : Bool) (F : Option Nat) : Option Nat := if b = true then opA .sub .f64 (some 4602678819172646912) F else F
def radA (F : Option Nat) : Option Nat := opA .mul .f64 F (some 4618760256179416344)
def waveA (Z : Option Nat) : Option Nat := opA .mul .f64 Z (polyS (opA .mul .f64 Z Z) 8)
def negIf (b : Bool) (F : Option Nat) : Option Nat := if b = true then negA .f64 F else F
/-- The sine of a fraction. -/
def sineF (F : Option Nat) : Option Nat :=
  negIf (cmpA .geq .f64 F (some 4602678819172646912)) (waveA (radA (quartA (cmpA .gtr .f64 (halfA (cmpA .geq .f64 F (some 4602678819172646912)) F) (some 4598175219545276416)) (halfA (cmpA .geq .f64 F (some 4602678819172646912)) F))))
/-- The sine of a difference from a whole number. -/
def sineD (D : Option Nat) : Option Nat := sineF (fracA (cmpA .lss .f64 D (some 0)) D)

theorem den_bot (j : Nat) : Bot .f64 2 (some (floatOfInt .f64 (den j))) := fun b hb => by
  cases hb
  rcases (by omega : j = 0 ∨ j = 1 ∨ j = 2 ∨ j = 3 ∨ j = 4 ∨ j = 5 ∨ j = 6 ∨ 7 ≤ j) with rfl | rfl | rfl | rfl | rfl | rfl | rfl | h
  all_goals first | exact ⟨by decide +kernel, by decide +kernel, by decide +kernel⟩ | skip
  have : den j = 6 := by
    obtain ⟨i, rfl⟩ : ∃ i, j = i + 7 := ⟨j - 7, by omega⟩
    rfl
  rw [this]
  exact ⟨by decide +kernel, by decide +kernel, by decide +kernel⟩

theorem top_polyS {U : Option Nat} (h : Top .f64 12 U) : ∀ j : Nat, j ≤ 8 → Top .f64 (1 + 11 * (j : Int)) (polyS U j)
  | 0, _ => top_one.mono (show (0 : Int) ≤ 1 + 11 * ((0 : Nat) : Int) by omega)
  | j + 1, hj => by
    have e1 := lp64
    have e2 := em64
    have e3 := ex64
    have hm : Top .f64 (13 + 11 * (j : Int)) (opA .mul .f64 U (polyS U j)) := top_mul h (top_polyS h j (by omega)) (by omega) (by omega) (by omega) (by omega) (by omega)
    have hq : Top .f64 (11 + 11 * (j : Int)) (opA .quo .f64 (opA .mul .f64 U (polyS U j)) (some (floatOfInt .f64 (den j)))) := top_div hm (den_bot j) (by omega) (by omega) (by omega) (by omega) (by omega)
    exact (top_sub (k := .f64) Ok.op (top_one.mono (show (0 : Int) ≤ 11 + 11 * (j : Int) by omega)) hq (by omega) (by omega)).mono (show 11 + 11 * (j : Int) + 1 ≤ 1 + 11 * ((j + 1 : Nat) : Int) by omega)

theorem ok_if {b : Bool} {X Y : Option Nat} (h1 : Ok .f64 X) (h2 : Ok .f64 Y) : Ok .f64 (if b = true then X else Y) := by split <;> assumption

theorem top_sineF {F : Option Nat} (oF : Ok .f64 F) (h : Top .f64 1 F) : Top .f64 95 (sineF F) := by
  have e1 := lp64
  have e2 := em64
  have e3 := ex64
  have q : Top .f64 0 (some 4602678819172646912) := fun b hb => by cases hb; exact ⟨by decide +kernel, by decide +kernel⟩
  have oq : Ok .f64 (some 4602678819172646912) := Ok.lit (by decide +kernel) (by decide +kernel)
  have h2 : ∀ b, Top .f64 2 (halfA b F) ∧ Ok .f64 (halfA b F) := fun b => by
    refine ⟨?_, ok_if Ok.op oF⟩
    unfold halfA
    split
    · exact (top_sub oq h (q.mono (show (0 : Int) ≤ 1 by omega)) (by omega) (by omega)).mono (show (1 : Int) + 1 ≤ 2 by omega)
    · exact h.mono (show (1 : Int) ≤ 2 by omega)
  have h3 : ∀ b c, Top .f64 3 (quartA c (halfA b F)) := fun b c => by
    unfold quartA
    split
    · exact (top_sub (h2 b).2 (q.mono (show (0 : Int) ≤ 2 by omega)) (h2 b).1 (by omega) (by omega)).mono (show (2 : Int) + 1 ≤ 3 by omega)
    · exact (h2 b).1.mono (show (2 : Int) ≤ 3 by omega)
  have hpi : Top .f64 3 (some 4618760256179416344) := fun b hb => by cases hb; exact ⟨by decide +kernel, by decide +kernel⟩
  have hz : ∀ b c, Top .f64 6 (radA (quartA c (halfA b F))) := fun b c => top_mul (h3 b c) hpi (by omega) (by omega) (by omega) (by omega) (by omega)
  have hw : ∀ b c, Top .f64 95 (waveA (radA (quartA c (halfA b F)))) := fun b c => by
    have hu : Top .f64 12 (opA .mul .f64 (radA (quartA c (halfA b F))) (radA (quartA c (halfA b F)))) := top_mul (hz b c) (hz b c) (by omega) (by omega) (by omega) (by omega) (by omega)
    exact top_mul (hz b c) ((top_polyS hu 8 (by omega)).mono (show 1 + 11 * ((8 : Nat) : Int) ≤ 89 by omega)) (by omega) (by omega) (by omega) (by omega) (by omega)
  unfold sineF negIf
  split
  · exact top_neg (hw _ _)
  · exact hw _ _

theorem fits_sineD {D : Option Nat} (oD : Ok .f64 D) (h : Top .f64 0 D) : Fits (sineD D) := by
  have e2 := em64
  have e3 := ex64
  refine (fits_top (t := 95) (top_sineF (ok_if Ok.op oD) ?_) (by omega) (by omega)).1
  split
  · exact (top_add h top_one (by omega) (by omega)).mono (show (0 : Int) + 1 ≤ 1 by omega)
  · exact h.mono (show (0 : Int) ≤ 1 by omega)

end Go.Proofs.Ytoimjjagkfgogaa
