/- The floor of a 32-bit number, in 64 bits, fits 32 bits. No conditions. -/
import Derived.Test.YtoimjjagkfgogaaFs
namespace Go.Proofs.Ytoimjjagkfgogaa
open Go.RowKit
open Ieee (Toward Datum)

theorem cut_down (s : Bool) (n d : Nat) : Toward.down.cut s n d * 2 ^ d < n + 2 ^ d := by
  have hp := two_pos d
  have h0 := Nat.div_mul_le_self n (2 ^ d)
  by_cases hr : n % 1 <<< min d (n.log2 + 2) = 0
  · have e : Toward.down.cut s n d = n / 2 ^ d := by
      rw [← cut_zero s n d]
      unfold Ieee.Toward.cut
      dsimp only
      rw [hr]
      simp
    rw [e]
    omega
  · have hle : Toward.down.cut s n d ≤ n / 2 ^ d + 1 := by
      have h := cut_zero s n d
      unfold Ieee.Toward.cut at h ⊢
      dsimp only at h ⊢
      have hz : ∀ b : Bool, b.toNat ≤ 1 := by decide
      have h2 := hz (s && n % 1 <<< min d (n.log2 + 2) != 0)
      have h0 : (false : Bool).toNat = 0 := rfl
      omega
    have hlt : n / 2 ^ d * 2 ^ d < n := by
      rcases Nat.lt_or_eq_of_le h0 with h | h
      · exact h
      · exfalso
        apply hr
        rw [Nat.one_shiftLeft]
        have hm : n % 2 ^ d = 0 := by
          have := Nat.div_add_mod n (2 ^ d)
          rw [Nat.mul_comm] at this
          omega
        exact Nat.mod_eq_zero_of_dvd (Nat.dvd_trans (Nat.pow_dvd_pow 2 (Nat.min_le_left d _)) (Nat.dvd_of_mod_eq_zero hm))
    calc Toward.down.cut s n d * 2 ^ d ≤ (n / 2 ^ d + 1) * 2 ^ d := Nat.mul_le_mul_right _ hle
      _ = n / 2 ^ d * 2 ^ d + 2 ^ d := by rw [Nat.add_mul, Nat.one_mul]
      _ < n + 2 ^ d := by omega

/-- The floor of a finite number: its magnitude is less than 1 greater. -/
theorem floor_part {y : Nat} (h : finW .f64 y = true) : ∃ M, (FloatKind.f64.decode y).integral .down = .number (ng FloatKind.f64.format y) M 0 ∧
    M * 2 ^ u64 < vl FloatKind.f64.format (rg FloatKind.f64.format y) + 2 ^ u64 := by
  have hl := plR_ge FloatKind.f64.format (rg FloatKind.f64.format y)
  have hu := lpu
  refine ⟨_, by rw [decode_fin h]; rfl, ?_⟩
  generalize ng FloatKind.f64.format y = s
  unfold vl
  generalize mgR FloatKind.f64.format (rg FloatKind.f64.format y) = m
  generalize plR FloatKind.f64.format (rg FloatKind.f64.format y) = e at *
  rw [hu] at hl ⊢
  have hp := two_pos u64
  rcases Int.le_total 0 e with he | he
  · have e1 : (-e).toNat = 0 := by omega
    have e2 : (e - -(u64 : Int)).toNat = e.toNat + u64 := by omega
    have hc := cut_down s (m <<< e.toNat) 0
    rw [e1, e2]
    rw [Nat.pow_zero, Nat.mul_one] at hc
    have hc' : Toward.down.cut s (m <<< e.toNat) 0 ≤ m * 2 ^ e.toNat := by rw [← Nat.shiftLeft_eq]; omega
    have := Nat.mul_le_mul_right (2 ^ u64) hc'
    rw [Nat.pow_add, ← Nat.mul_assoc]
    omega
  · have e1 : e.toNat = 0 := by omega
    rw [e1]
    obtain ⟨d, hd⟩ : ∃ d : Nat, d = (-e).toNat := ⟨_, rfl⟩
    rw [← hd]
    have e2 : (e - -(u64 : Int)).toNat = u64 - d := by omega
    have e3 : 2 ^ u64 = 2 ^ d * 2 ^ (u64 - d) := by rw [← Nat.pow_add]; congr 1; omega
    have hc := cut_down s (m <<< 0) d
    rw [Nat.shiftLeft_zero] at hc ⊢
    rw [e2, e3, ← Nat.mul_assoc, ← Nat.add_mul]
    exact Nat.mul_lt_mul_of_pos_right hc (two_pos _)

theorem fits_none' : Fits none := fun b h => by cases h

theorem max_vl : vl FloatKind.f64.format (rg FloatKind.f64.format (wideW 2139095039)) = (2 ^ 128 - 2 ^ 104) * 2 ^ u64 := by decide +kernel

/-- A magnitude below 2 ^ 128 that is cut to a whole number fits. -/
theorem fits_whole (s : Bool) {M : Nat} (h : M ≤ 2 ^ 128 - 2 ^ 104) : Fits (some (FloatKind.f64.format.nearest s M 0)) := by
  have e0 : ((0 : Int) - FloatKind.f64.format.leastPlace).toNat = u64 := by rw [lpu]; omega
  have hr : rg FloatKind.f64.format (FloatKind.f64.format.nearest s M 0) ≤ rg FloatKind.f64.format (wideW 2139095039) := by
    refine near_le .f64 s (by rw [lp64]; omega) ?_
    rw [e0, max_vl]
    exact Nat.mul_le_mul_right _ h
  have hm : finW .f64 (wideW 2139095039) = true := by decide +kernel
  have hf : finW .f64 (FloatKind.f64.format.nearest s M 0) = true := by
    unfold finW at hm ⊢
    exact decide_eq_true (Nat.lt_of_le_of_lt hr (of_decide_eq_true hm))
  refine fits_of_fin fun b hb => .inr ?_
  cases hb
  have hv : vl Ieee.double (rg Ieee.double (FloatKind.f64.format.nearest s M 0)) ≤ vl Ieee.single 2139095039 * 2 ^ wexp := by
    have h1 := vl_mono FloatKind.f64.format hr
    have h2 := (wide_fin (b := 2139095039) (by decide)).2.1
    have h3 := V_abs .f64 (wideW 2139095039)
    have h4 := V_abs .f32 2139095039
    have h5 : rg FloatKind.f32.format 2139095039 = 2139095039 := by decide
    generalize 2 ^ wexp = B at h2 ⊢
    rw [h2, natAbs_mul_nat, h4, h5] at h3
    exact Nat.le_trans h1 (Nat.le_of_eq h3.symm)
  have hn := narrow_fin hf hv
  have e1 : FloatKind.f32.format.infRung = 2139095040 := by decide +kernel
  unfold finW
  exact decide_eq_true (by rw [e1]; exact Nat.lt_of_le_of_lt hn (by omega))

theorem fits_floor {x : Nat} {X : Option Nat} (hx : Ab .f32 x X) : Fits (integralA .down (wideA X)) := by
  cases X with
  | none => exact fits_none'
  | some b =>
    obtain ⟨rfl, hn⟩ := hx.of_some
    rcases kinds .f32 x with ⟨h1, _, _⟩ | ⟨_, h1, _⟩ | ⟨_, _, h1⟩
    · obtain ⟨g1, g2, _⟩ := wide_fin h1
      obtain ⟨M, q1, q2⟩ := floor_part g1
      have e : integralA .down (wideA (some x)) = some (FloatKind.f64.format.nearest (ng FloatKind.f64.format (wideW x)) M 0) := by
        show some (FloatKind.f64.encode ((FloatKind.f64.decode (wideW x)).integral .down)) = _
        rw [q1]; rfl
      rw [e]
      refine fits_whole _ ?_
      have hle : vl FloatKind.f64.format (rg FloatKind.f64.format (wideW x)) ≤ vl FloatKind.f64.format (rg FloatKind.f64.format (wideW 2139095039)) := by
        have h2 := (wide_fin (b := 2139095039) (by decide)).2.1
        have h3 := V_abs .f64 (wideW 2139095039)
        have h4 := V_abs .f32 2139095039
        have h5 : rg FloatKind.f32.format 2139095039 = 2139095039 := by decide
        have k3 := V_abs .f64 (wideW x)
        have k4 := V_abs .f32 x
        have hxr : rg FloatKind.f32.format x ≤ 2139095039 := by
          have e1 : FloatKind.f32.format.infRung = 2139095040 := by decide +kernel
          have := of_decide_eq_true h1
          rw [e1] at this
          omega
        have hvl := vl_mono FloatKind.f32.format hxr
        generalize 2 ^ wexp = B at h2 g2
        rw [h2, natAbs_mul_nat, h4, h5] at h3
        rw [g2, natAbs_mul_nat, k4] at k3
        rw [← h3, ← k3]
        exact Nat.mul_le_mul_right _ hvl
      rw [max_vl] at hle
      generalize 2 ^ u64 = B at *
      have : M * B < (2 ^ 128 - 2 ^ 104 + 1) * B := by rw [Nat.add_mul, Nat.one_mul]; omega
      exact Nat.le_of_lt_succ (Nat.lt_of_mul_lt_mul_right this)
    · have hi := (wide_inf h1).1
      refine fits_of_fin fun b hb => .inl ?_
      have e : integralA .down (wideA (some x)) = some (FloatKind.f64.encode (.infinity (ng FloatKind.f64.format (wideW x)))) := by
        show some (FloatKind.f64.encode ((FloatKind.f64.decode (wideW x)).integral .down)) = _
        rw [decode_inf hi]; rfl
      rw [e] at hb
      cases hb
      cases ng FloatKind.f64.format (wideW x) <;> decide +kernel
    · rw [hn] at h1; cases h1

end Go.Proofs.Ytoimjjagkfgogaa
