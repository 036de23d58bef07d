/- Walks: zones; the law of ZoneOf. No conditions. -/
import Derived.Test.YtgjcjgaflgmofaaFz
import Derived.Test.YtgjcjgaflgmofaaWj
import Derived.Test.YtgjcjgaflgmofaaWd
namespace Go.Proofs.Ytgjcjgaflgmofaa
open Go.RowKit
set_option maxRecDepth 8000

theorem wrap_small {x : Nat} {X : Option Nat} (hx : Ab .f32 x X) (c1 : cmpA .geq .f32 X (some 3296329728) = true) (c2 : cmpA .leq .f32 X (some 1148846080) = true) : ∃ r, wrapA X = some r ∧ finW .f32 r = true ∧ Top .f32 12 (wrapA X) := by
  obtain ⟨rfl, hf, ht⟩ := near_fin hx c1 c2
  have e1 := lp32
  have e2 := em32
  have e3 : emax .f32 = 127 := rfl
  have hh : finW .f32 1056964608 = true := by decide
  have th : Top .f32 0 (some 1056964608) := fun b hb => by cases hb; exact ⟨by decide, by decide +kernel⟩
  obtain ⟨a, ha⟩ := add_some hf hh
  have ta : Top .f32 11 (some a) := by
    rw [← ha]
    exact (top_add ht (th.mono (show (0 : Int) ≤ 10 by omega)) (by omega) (by omega)).mono (show (10 : Int) + 1 ≤ 11 by omega)
  have tw : Top .f64 11 (some (wideW a)) := top_wide ta (by omega)
  have tf := top_floor tw
  have tn := (fits_top tf (by omega) (by omega)).2
  obtain ⟨f, hfl⟩ : ∃ f, floorA (some a) = some f := ⟨_, rfl⟩
  have tfl : Top .f32 11 (some f) := by rw [← hfl]; exact tn
  have of : Ok .f32 (some f) := by
    rw [← hfl]
    exact Ok.narrow fun r hr => by
      have hr' : integralA .down (some (wideW a)) = some r := hr
      have := (tf r hr').1
      refine ⟨fin_nan this, ?_⟩
      cases hr'
      exact encode_lt _ _
  have eb : backA (some x) = opA .sub .f32 (some x) (some f) := by unfold backA; rw [ha, hfl]
  obtain ⟨r, hr⟩ := sub_some (of f rfl).2 hf (tfl f rfl).1
  have tr := (top_sub of (ht.mono (show (10 : Int) ≤ 11 by omega)) tfl (by omega) (by omega)).mono (show (11 : Int) + 1 ≤ 12 by omega)
  rw [hr] at tr
  have fr := (tr r rfl).1
  unfold wrapA
  rw [eb, hr]
  split
  · exact ⟨_, rfl, by decide, fun b hb => by cases hb; exact ⟨by decide, by decide +kernel⟩⟩
  · exact ⟨_, rfl, fr, tr⟩

/-- The share of the zones, in 32 bits. -/
def shareA (W : Option Nat) (z : Int) : Option Nat := opA .mul .f32 (opA .add .f32 W (some 1056964608)) (some (floatOfInt .f32 z))

theorem zone_top (z : Int) (h1 : 1 ≤ z) (h2 : z ≤ 60) : finW .f32 (floatOfInt .f32 z) = true ∧ vl FloatKind.f32.format (rg FloatKind.f32.format (floatOfInt .f32 z)) ≤ 2 ^ ((6 : Int) - FloatKind.f32.format.leastPlace).toNat := by
  obtain ⟨n, rfl⟩ : ∃ n : Nat, z = n := ⟨z.toNat, by omega⟩
  have key : ∀ n : Fin 61, finW .f32 (floatOfInt .f32 (n.val : Int)) = true ∧ vl FloatKind.f32.format (rg FloatKind.f32.format (floatOfInt .f32 (n.val : Int))) ≤ 2 ^ ((6 : Int) - FloatKind.f32.format.leastPlace).toNat := by decide +kernel
  exact key ⟨n, by omega⟩

theorem share_int {W : Option Nat} {r : Nat} (hW : W = some r) (hf : finW .f32 r = true) (ht : Top .f32 12 W) (z : Int) (h1 : 1 ≤ z) (h2 : z ≤ 60) :
    ∃ V n, integralA .down (wideA (shareA W z)) = some V ∧ floatToIntVal .f64 V .i64 = some n ∧ floatToIntVal .f32 (FloatKind.f32.encode (FloatKind.f64.decode V)) .i64 = some n ∧ Fits (some V) ∧
      nanW .f32 (FloatKind.f32.encode (FloatKind.f64.decode V)) = false ∧ -2097152 ≤ n ∧ n ≤ 2097152 := by
  subst hW
  have e1 := lp32
  have e2 := em32
  have e3 : emax .f32 = 127 := rfl
  obtain ⟨zf, zt⟩ := zone_top z h1 h2
  have hz : Top .f32 6 (some (floatOfInt .f32 z)) := fun b hb => by cases hb; exact ⟨zf, zt⟩
  have hh : finW .f32 1056964608 = true := by decide
  have th : Top .f32 0 (some 1056964608) := fun b hb => by cases hb; exact ⟨by decide, by decide +kernel⟩
  obtain ⟨a, ha⟩ := add_some hf hh
  have ta : Top .f32 13 (some a) := by
    rw [← ha]
    exact (top_add ht (th.mono (show (0 : Int) ≤ 12 by omega)) (by omega) (by omega)).mono (show (12 : Int) + 1 ≤ 13 by omega)
  obtain ⟨p, hp⟩ : ∃ p, opA .mul .f32 (some a) (some (floatOfInt .f32 z)) = some p := ⟨_, mul_word (ta a rfl).1 zf⟩
  have tp : Top .f32 19 (some p) := by
    rw [← hp]
    exact top_mul ta hz (by omega) (by omega) (show (13 : Int) + 6 ≤ 19 by omega) (by omega) (by omega)
  have tw : Top .f64 19 (some (wideW p)) := top_wide tp (by omega)
  have es : wideA (shareA (some r) z) = some (wideW p) := by unfold shareA; rw [ha, hp]; rfl
  rw [es]
  obtain ⟨g1, g2⟩ := tw _ rfl
  refine floor_int g1 (Nat.le_trans g2 ?_)
  rw [← Nat.pow_add]
  exact Nat.pow_le_pow_right (by omega) (by rw [lpu]; omega)

end Go.Proofs.Ytgjcjgaflgmofaa
