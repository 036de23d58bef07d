/- Logarithms in 64 bits: the loops end, and what comes of them is small. No conditions. -/
import Derived.Test.YtoimjjagkfgogaaFs
namespace Go.Proofs.Ytoimjjagkfgogaa
open Go.RowKit

def two64 : Option Nat := some 4611686018427387904
def halfs (X : Option Nat) : Nat → Option Nat
  | 0 => X
  | k + 1 => opA .quo .f64 (halfs X k) (some 4611686018427387904)
def dbls (X : Option Nat) : Nat → Option Nat
  | 0 => X
  | k + 1 => opA .mul .f64 (dbls X k) (some 4611686018427387904)

theorem exists_stop (p : Nat → Bool) : ∀ n, p n = false → ∃ k, k ≤ n ∧ (∀ j, j < k → p j = true) ∧ p k = false
  | 0, h => ⟨0, Nat.le_refl _, fun j hj => absurd hj (Nat.not_lt_zero j), h⟩
  | n + 1, h => by
    cases h0 : p 0 with
    | false => exact ⟨0, Nat.zero_le _, fun j hj => absurd hj (Nat.not_lt_zero j), h0⟩
    | true =>
      obtain ⟨k, h1, h2, h3⟩ := exists_stop (fun j => p (j + 1)) n h
      exact ⟨k + 1, by omega, fun j hj => by
        cases j with
        | zero => exact h0
        | succ i => exact h2 i (by omega), h3⟩

theorem top_two : Top .f64 1 (some 4611686018427387904) := fun b hb => by cases hb; exact ⟨by decide +kernel, by decide +kernel⟩
theorem bot_two : Bot .f64 1 (some 4611686018427387904) := fun b hb => by cases hb; exact ⟨by decide +kernel, by decide +kernel, by decide +kernel⟩

/-- A positive, finite number between two powers of two. -/
structure Mid (g t : Int) (X : Option Nat) : Prop where
  word : ∃ b, X = some b
  top : Top .f64 t X
  bot : Bot .f64 g X

theorem ng_half {x r : Nat} (hx : ng FloatKind.f64.format x = false) (hf : finW .f64 x = true) (h : floatBits .quo .f64 x 4611686018427387904 = some r) : ng FloatKind.f64.format r = false := by
  rw [div_word hf (by decide +kernel) (by decide +kernel)] at h
  cases h
  rw [nearest_ng, hx]
  decide +kernel
theorem ng_dbl {x r : Nat} (hx : ng FloatKind.f64.format x = false) (hf : finW .f64 x = true) (h : floatBits .mul .f64 x 4611686018427387904 = some r) : ng FloatKind.f64.format r = false := by
  rw [mul_word hf (by decide +kernel)] at h
  cases h
  rw [nearest_ng, hx]
  decide +kernel

theorem two_vl : vl FloatKind.f64.format (rg FloatKind.f64.format 4611686018427387904) = 2 * 2 ^ u64 := by decide +kernel

theorem p2u {t : Int} (h : -1022 ≤ t) : vl FloatKind.f64.format (p2 .f64 t) = 2 ^ (t + u64).toNat := by
  rw [p2_vl .f64 (by rw [show FloatKind.f64.format.leastPlace + FloatKind.f64.format.fractionBits = -1022 from em64]; omega), lpu]
  congr 2

theorem lpn : (-FloatKind.f64.format.leastPlace).toNat = u64 := by rw [lpu]; omega

theorem Mid.half {g t : Int} {X : Option Nat} (h : Mid g t X) (h1 : -1000 ≤ g) (h2 : t ≤ 1000) (h3 : -1000 ≤ t) (h4 : g ≤ 1000) : Mid (g - 1) (t - 1) (opA .quo .f64 X (some 4611686018427387904)) := by
  have e1 := lp64
  have e2 := em64
  have e3 := ex64
  obtain ⟨x, rfl⟩ := h.word
  obtain ⟨b1, b2, b3⟩ := h.bot x rfl
  have hw := div_word (k := .f64) (a := x) (b := 4611686018427387904) b1 (by decide +kernel) (by decide +kernel)
  refine ⟨⟨_, hw⟩, top_div h.top bot_two (by omega) (by omega) (by omega) (by omega) (by omega), fun r hr => ?_⟩
  have hr' : floatBits .quo .f64 x 4611686018427387904 = some r := hr
  have hng := ng_half b2 b1 hr'
  have ht := (top_div h.top bot_two (by omega) (by omega) (show t - 1 ≤ t - 1 by omega) (by omega) (by omega)) r hr
  refine ⟨ht.1, hng, ?_⟩
  rw [hw] at hr'
  cases hr'
  have hge := div_ge (k := .f64) (s := ng FloatKind.f64.format x ^^ ng FloatKind.f64.format 4611686018427387904) (r := rg FloatKind.f64.format x) (b := rg FloatKind.f64.format 4611686018427387904) (c := p2 .f64 (g - 1)) (by decide +kernel) (Nat.le_of_lt (p2_fin .f64 (by omega))) (by
    rw [p2u (by omega), two_vl, lpn]
    rw [show (g - FloatKind.f64.format.leastPlace).toNat = (g - 1 + u64).toNat + 1 by rw [lpu, u64_eq]; omega, Nat.pow_succ] at b3
    rw [← Nat.mul_assoc]
    exact Nat.mul_le_mul_right _ b3)
  have := vl_mono FloatKind.f64.format hge
  rw [p2u (by omega)] at this
  rw [show (g - 1 - FloatKind.f64.format.leastPlace).toNat = (g - 1 + u64).toNat by rw [lpu]; congr 1]
  exact this

theorem Mid.dbl {g t : Int} {X : Option Nat} (h : Mid g t X) (h1 : -1000 ≤ g) (h2 : t ≤ 1000) (h3 : -1000 ≤ t) (h4 : g ≤ 1000) : Mid (g + 1) (t + 1) (opA .mul .f64 X (some 4611686018427387904)) := by
  have e1 := lp64
  have e2 := em64
  have e3 := ex64
  obtain ⟨x, rfl⟩ := h.word
  obtain ⟨b1, b2, b3⟩ := h.bot x rfl
  have hw := mul_word (k := .f64) (a := x) (b := 4611686018427387904) b1 (by decide +kernel)
  have htop : Top .f64 (t + 1) (opA .mul .f64 (some x) (some 4611686018427387904)) := top_mul h.top top_two (by omega) (by omega) (by omega) (by omega) (by omega)
  refine ⟨⟨_, hw⟩, htop, fun r hr => ?_⟩
  have hr' : floatBits .mul .f64 x 4611686018427387904 = some r := hr
  have hng := ng_dbl b2 b1 hr'
  refine ⟨(htop r hr).1, hng, ?_⟩
  rw [hw] at hr'
  cases hr'
  have hge := mul_ge (k := .f64) (s := ng FloatKind.f64.format x ^^ ng FloatKind.f64.format 4611686018427387904) (r := rg FloatKind.f64.format x) (t := rg FloatKind.f64.format 4611686018427387904) (c := p2 .f64 (g + 1)) (Nat.le_of_lt (p2_fin .f64 (by omega))) (by
    rw [p2u (by omega), two_vl, lpn]
    rw [show (g - FloatKind.f64.format.leastPlace).toNat = (g + u64).toNat by rw [lpu]; congr 1] at b3
    rw [show (g + 1 + u64).toNat = (g + u64).toNat + 1 by rw [u64_eq]; omega, Nat.pow_succ, Nat.mul_assoc]
    exact Nat.mul_le_mul_right _ b3)
  have := vl_mono FloatKind.f64.format hge
  rw [p2u (by omega)] at this
  rw [show (g + 1 - FloatKind.f64.format.leastPlace).toNat = (g + 1 + u64).toNat by rw [lpu]; congr 1]
  exact this

end Go.Proofs.Ytoimjjagkfgogaa
