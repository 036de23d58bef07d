/- Whole numbers in 64 and in 32 bits, read as integers. No conditions. -/
import Derived.Test.YtoimjjagkfgogaaFh
namespace Go.Proofs.Ytoimjjagkfgogaa
open Go.RowKit
open Ieee (Toward Datum)

/-- The whole part of a finite number, of either width. -/
theorem trunc_part_of {k : FloatKind} {u : Nat} (hu : k.format.leastPlace = -(u : Int)) {y : Nat} (h : finW k y = true) : ∃ M, (k.decode y).integral .zero = .number (ng k.format y) M 0 ∧
    M * 2 ^ u ≤ vl k.format (rg k.format y) ∧ vl k.format (rg k.format y) < (M + 1) * 2 ^ u := by
  have hl := plR_ge k.format (rg k.format y)
  refine ⟨_, by rw [decode_fin h]; rfl, ?_⟩
  rw [cut_zero]
  unfold vl
  generalize mgR k.format (rg k.format y) = m
  generalize plR k.format (rg k.format y) = e at *
  rw [hu] at hl ⊢
  have hp := two_pos u
  rcases Int.le_total 0 e with he | he
  · have e1 : (-e).toNat = 0 := by omega
    have e2 : (e - -(u : Int)).toNat = e.toNat + u := by omega
    rw [e1, e2, Nat.shiftLeft_eq, Nat.pow_zero, Nat.div_one, Nat.pow_add, ← Nat.mul_assoc]
    exact ⟨Nat.le_refl _, Nat.mul_lt_mul_of_pos_right (by omega) hp⟩
  · have e1 : e.toNat = 0 := by omega
    rw [e1]
    obtain ⟨d, hd⟩ : ∃ d : Nat, d = (-e).toNat := ⟨_, rfl⟩
    rw [← hd]
    have e2 : (e - -(u : Int)).toNat = u - d := by omega
    have e3 : 2 ^ u = 2 ^ d * 2 ^ (u - d) := by rw [← Nat.pow_add]; congr 1; omega
    rw [e2, e3, Nat.shiftLeft_eq, Nat.pow_zero, Nat.mul_one, ← Nat.mul_assoc, ← Nat.mul_assoc]
    have hq := two_pos d
    refine ⟨Nat.mul_le_mul_right _ (Nat.div_mul_le_self m _), Nat.mul_lt_mul_of_pos_right ?_ (two_pos _)⟩
    have := Nat.lt_div_mul_add (a := m) hq
    rw [Nat.add_mul, Nat.one_mul]
    omega

/-- A number whose value is whole is read as that integer. -/
theorem int_of_whole {k : FloatKind} {u : Nat} (hu : k.format.leastPlace = -(u : Int)) {y M : Nat} (h : finW k y = true) (hv : vl k.format (rg k.format y) = M * 2 ^ u) (hM : M < 2 ^ 52) :
    floatToIntVal k y .i64 = some (wholeN (ng k.format y) M) := by
  obtain ⟨N, h1, h2, h3⟩ := trunc_part_of hu h
  have hp := two_pos u
  rw [hv] at h2 h3
  have hNM : N = M := by
    have a := Nat.le_of_mul_le_mul_right h2 hp
    have b := Nat.lt_of_mul_lt_mul_right h3
    omega
  subst hNM
  unfold floatToIntVal
  have ht : (k.decode y).toInt .zero = some (wholeN (ng k.format y) N) := by
    unfold Ieee.Datum.toInt
    rw [h1]
    show some (Ieee.signed _ N 0) = _
    unfold Ieee.signed wholeN
    rw [Nat.shiftLeft_zero]
  rw [ht]
  have hb : IntKind.i64.min ≤ wholeN (ng k.format y) N ∧ wholeN (ng k.format y) N ≤ IntKind.i64.max := by
    have m1 : IntKind.i64.min = -9223372036854775808 := by decide
    have m2 : IntKind.i64.max = 9223372036854775807 := by decide
    rw [m1, m2]
    unfold wholeN
    split <;> omega
  dsimp only
  rw [if_pos hb]

theorem lp32u : FloatKind.f32.format.leastPlace = -((149 : Nat) : Int) := by decide

/-- Some rung of 32 bits is M. -/
theorem rung32 {M : Nat} (h : M < 2 ^ 24) : ∃ c, c < FloatKind.f32.format.infRung ∧ vl FloatKind.f32.format c = M * 2 ^ 149 := by
  by_cases h0 : M = 0
  · exact ⟨0, by decide, by rw [vl_zero, h0, Nat.zero_mul]⟩
  · have hL : M.log2 < 24 := (Nat.log2_lt h0).2 h
    have h1 := Nat.log2_self_le h0
    have h2 := Nat.lt_log2_self (n := M)
    have hfb : FloatKind.f32.format.fractionBits = 23 := by decide
    have hbin : FloatKind.f32.format.binade = 2 ^ 23 := by decide
    have hm : IsMag FloatKind.f32.format (M * 2 ^ (23 - M.log2)) ((M.log2 : Int) - 23) := by
      refine ⟨?_, by rw [lp32u]; omega, .inl ?_⟩
      · rw [hfb, show 23 + 1 = (M.log2 + 1) + (23 - M.log2) by omega, Nat.pow_add]
        exact Nat.mul_lt_mul_of_pos_right h2 (two_pos _)
      · rw [hfb]
        calc 2 ^ 23 = 2 ^ M.log2 * 2 ^ (23 - M.log2) := by rw [← Nat.pow_add]; congr 1; omega
          _ ≤ M * 2 ^ (23 - M.log2) := Nat.mul_le_mul_right _ h1
    obtain ⟨g1, g2⟩ := mg_rungOf hm
    refine ⟨rungOf FloatKind.f32.format (M * 2 ^ (23 - M.log2)) ((M.log2 : Int) - 23), ?_, ?_⟩
    · have hl1 := hm.lt
      rw [hfb] at hl1
      unfold rungOf
      rw [hbin, show FloatKind.f32.format.infRung = 255 * 2 ^ 23 by decide]
      have : ((M.log2 : Int) - 23 - FloatKind.f32.format.leastPlace).toNat ≤ 149 := by rw [lp32u]; omega
      have := Nat.mul_le_mul_right (2 ^ 23) this
      omega
    · unfold vl
      rw [g1, g2, Nat.mul_assoc, ← Nat.pow_add]
      congr 2
      rw [lp32u]
      omega

/-- A whole 64-bit number of at most 24 digits, narrowed. -/
theorem narrow_whole {y M : Nat} (h : finW .f64 y = true) (hv : vl FloatKind.f64.format (rg FloatKind.f64.format y) = M * 2 ^ u64) (hM : M < 2 ^ 24) :
    finW .f32 (FloatKind.f32.encode (FloatKind.f64.decode y)) = true ∧ vl FloatKind.f32.format (rg FloatKind.f32.format (FloatKind.f32.encode (FloatKind.f64.decode y))) = M * 2 ^ 149 ∧ ng FloatKind.f32.format (FloatKind.f32.encode (FloatKind.f64.decode y)) = ng FloatKind.f64.format y := by
  obtain ⟨c, hc, hcv⟩ := rung32 hM
  have hw : wexp + 149 = u64 := rfl
  have e : FloatKind.f32.encode (FloatKind.f64.decode y) = FloatKind.f32.format.nearest (ng FloatKind.f64.format y) (mgR FloatKind.f64.format (rg FloatKind.f64.format y)) (plR FloatKind.f64.format (rg FloatKind.f64.format y)) := by
    rw [decode_fin h]; rfl
  have hup : rg FloatKind.f32.format (FloatKind.f32.encode (FloatKind.f64.decode y)) ≤ c := by
    refine narrow_fin h ?_
    show vl FloatKind.f64.format (rg FloatKind.f64.format y) ≤ vl FloatKind.f32.format c * 2 ^ wexp
    rw [hv, hcv, Nat.mul_assoc, ← Nat.pow_add, Nat.add_comm 149, hw]
    exact Nat.le_refl _
  have hlo : c ≤ rg FloatKind.f32.format (FloatKind.f32.encode (FloatKind.f64.decode y)) := by
    rw [e]
    refine le_nearest .f32 _ (Nat.le_of_lt hc) ((leV_vl_left _ _ _ _).2 ?_)
    have hp := plR_ge FloatKind.f64.format (rg FloatKind.f64.format y)
    rw [lpu] at hp
    rw [lp32u, leV_base (-(u64 : Int)) (by rw [u64_eq]; omega) hp]
    have e2 : mgR FloatKind.f64.format (rg FloatKind.f64.format y) * 2 ^ (plR FloatKind.f64.format (rg FloatKind.f64.format y) - -(u64 : Int)).toNat = vl FloatKind.f64.format (rg FloatKind.f64.format y) := by
      unfold vl; rw [lpu]
    rw [e2, hv, hcv, show (-((149 : Nat) : Int) - -(u64 : Int)).toNat = wexp by rw [u64_eq, wexp_eq]; rfl, Nat.mul_assoc, ← Nat.pow_add, Nat.add_comm 149, hw]
    exact Nat.le_refl _
  have heq : rg FloatKind.f32.format (FloatKind.f32.encode (FloatKind.f64.decode y)) = c := Nat.le_antisymm hup hlo
  refine ⟨?_, by rw [heq, hcv], by rw [e]; exact nearest_ng _ _ _ _⟩
  unfold finW
  rw [heq]
  exact decide_eq_true hc

/-- The floor of a number below 2 ^ 20, as both sides read it. -/
theorem floor_int {y : Nat} (hf : finW .f64 y = true) (hs : vl FloatKind.f64.format (rg FloatKind.f64.format y) ≤ 2 ^ 20 * 2 ^ u64) :
    ∃ W n, integralA .down (some y) = some W ∧ floatToIntVal .f64 W .i64 = some n ∧ floatToIntVal .f32 (FloatKind.f32.encode (FloatKind.f64.decode W)) .i64 = some n ∧ Fits (some W) ∧
      nanW .f32 (FloatKind.f32.encode (FloatKind.f64.decode W)) = false ∧ -2097152 ≤ n ∧ n ≤ 2097152 := by
  obtain ⟨M, q1, q2⟩ := floor_part hf
  have hM : M < 2 ^ 21 := by
    have : M * 2 ^ u64 < (2 ^ 20 + 1) * 2 ^ u64 := by rw [Nat.add_mul, Nat.one_mul]; omega
    have := Nat.lt_of_mul_lt_mul_right this
    omega
  obtain ⟨x1, x2⟩ := exact_word (ng FloatKind.f64.format y) (M := M) (by omega)
  have xn : ng FloatKind.f64.format (FloatKind.f64.format.nearest (ng FloatKind.f64.format y) M 0) = ng FloatKind.f64.format y := nearest_ng .f64 _ _ _
  obtain ⟨z1, z2, z3⟩ := narrow_whole x2 x1 (by omega)
  refine ⟨FloatKind.f64.format.nearest (ng FloatKind.f64.format y) M 0, wholeN (ng FloatKind.f64.format y) M, ?_, ?_, ?_, fits_whole _ (by omega), fin_nan z1, ?_, ?_⟩
  · show some (FloatKind.f64.encode ((FloatKind.f64.decode y).integral .down)) = _
    rw [q1]; rfl
  · have := int_of_whole lpu x2 x1 (by omega)
    rw [xn] at this
    exact this
  · have := int_of_whole lp32u z1 z2 (by omega)
    rw [z3, xn] at this
    exact this
  · unfold wholeN; split <;> omega
  · unfold wholeN; split <;> omega

end Go.Proofs.Ytoimjjagkfgogaa
