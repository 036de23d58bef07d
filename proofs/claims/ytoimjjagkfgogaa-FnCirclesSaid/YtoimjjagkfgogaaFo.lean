/- Logarithms in 64 bits: where the loops stop; the result is small. No conditions. -/
import Derived.Test.YtoimjjagkfgogaaFn
namespace Go.Proofs.Ytoimjjagkfgogaa
open Go.RowKit

theorem mid_halfs {g t : Int} {X : Option Nat} (h : Mid g t X) (h1 : -200 ≤ g) (h2 : t ≤ 200) (h3 : 0 ≤ t) (h4 : g ≤ 200) : ∀ j : Nat, j ≤ 200 → Mid (g - j) (t - j) (halfs X j)
  | 0, _ => by simpa [halfs] using h
  | j + 1, hj => by
    have := (mid_halfs h h1 h2 h3 h4 j (by omega)).half (by omega) (by omega) (by omega) (by omega)
    have e1 : g - (j : Int) - 1 = g - ((j + 1 : Nat) : Int) := by omega
    have e2 : t - (j : Int) - 1 = t - ((j + 1 : Nat) : Int) := by omega
    rw [e1, e2] at this
    exact this
theorem mid_dbls {g t : Int} {X : Option Nat} (h : Mid g t X) (h1 : -400 ≤ g) (h2 : t ≤ 200) (h3 : -200 ≤ t) (h4 : g ≤ 200) : ∀ j : Nat, j ≤ 500 → Mid (g + j) (t + j) (dbls X j)
  | 0, _ => by simpa [dbls] using h
  | j + 1, hj => by
    have := (mid_dbls h h1 h2 h3 h4 j (by omega)).dbl (by omega) (by omega) (by omega) (by omega)
    have e1 : g + (j : Int) + 1 = g + ((j + 1 : Nat) : Int) := by omega
    have e2 : t + (j : Int) + 1 = t + ((j + 1 : Nat) : Int) := by omega
    rw [e1, e2] at this
    exact this

theorem V15 : ((2 ^ u64 : Nat) : Int) < V .f64 4609434218613702656 ∧ V .f64 4609434218613702656 ≤ ((2 ^ (1 + u64) : Nat) : Int) := by decide +kernel
theorem V075 : V .f64 4604930618986332160 < ((2 ^ u64 : Nat) : Int) ∧ ((2 ^ (u64 - 1) : Nat) : Int) ≤ V .f64 4604930618986332160 := by decide +kernel

theorem geq15 {x : Nat} (hf : finW .f64 x = true) (hs : ng FloatKind.f64.format x = false) : cmpA .geq .f64 (some x) (some 4609434218613702656) = decide (V .f64 4609434218613702656 ≤ (vl FloatKind.f64.format (rg FloatKind.f64.format x) : Int)) := by
  show (FloatKind.f64.format.order _ _ == some .gt || FloatKind.f64.format.order _ _ == some .eq) = _
  rw [order_fin hf (by decide +kernel), geq_iff, V_pos hs]
theorem lss075 {x : Nat} (hf : finW .f64 x = true) (hs : ng FloatKind.f64.format x = false) : cmpA .lss .f64 (some x) (some 4604930618986332160) = decide ((vl FloatKind.f64.format (rg FloatKind.f64.format x) : Int) < V .f64 4604930618986332160) := by
  show (FloatKind.f64.format.order _ _ == some .lt) = _
  rw [order_fin hf (by decide +kernel), lt_iff, V_pos hs]

theorem tu (t : Int) (_h : -(u64 : Int) ≤ t) : (t - FloatKind.f64.format.leastPlace).toNat = (t + u64).toNat := by rw [lpu]; congr 1

/-- A number that is at most 1 ends the first loop; one at which it ends is at most 2. -/
theorem stop15 {g : Int} {X : Option Nat} (h : Mid g 0 X) : cmpA .geq .f64 X (some 4609434218613702656) = false := by
  obtain ⟨x, rfl⟩ := h.word
  obtain ⟨b1, b2, _⟩ := h.bot x rfl
  have ht := (h.top x rfl).2
  rw [tu 0 (by omega), Int.zero_add, Int.toNat_natCast] at ht
  rw [geq15 b1 b2]
  have := V15.1
  generalize 2 ^ u64 = B at *
  exact decide_eq_false (by omega)
theorem at15 {g t : Int} {X : Option Nat} (h : Mid g t X) (hc : cmpA .geq .f64 X (some 4609434218613702656) = false) : Mid g 1 X := by
  obtain ⟨x, rfl⟩ := h.word
  obtain ⟨b1, b2, _⟩ := h.bot x rfl
  rw [geq15 b1 b2] at hc
  have hc' := of_decide_eq_false hc
  refine ⟨⟨_, rfl⟩, fun b hb => ?_, h.bot⟩
  cases hb
  refine ⟨b1, ?_⟩
  rw [tu 1 (by omega), show ((1 : Int) + u64).toNat = 1 + u64 by omega]
  have := V15.2
  generalize 2 ^ (1 + u64) = B at *
  omega
theorem stop075 {t : Int} {X : Option Nat} (h : Mid 0 t X) : cmpA .lss .f64 X (some 4604930618986332160) = false := by
  obtain ⟨x, rfl⟩ := h.word
  obtain ⟨b1, b2, b3⟩ := h.bot x rfl
  rw [tu 0 (by omega), Int.zero_add, Int.toNat_natCast] at b3
  rw [lss075 b1 b2]
  have := V075.1
  generalize 2 ^ u64 = B at *
  exact decide_eq_false (by omega)
theorem at075 {g t : Int} {X : Option Nat} (h : Mid g t X) (hc : cmpA .lss .f64 X (some 4604930618986332160) = false) : Mid (-1) t X := by
  obtain ⟨x, rfl⟩ := h.word
  obtain ⟨b1, b2, _⟩ := h.bot x rfl
  rw [lss075 b1 b2] at hc
  have hc' := of_decide_eq_false hc
  refine ⟨⟨_, rfl⟩, h.top, fun b hb => ?_⟩
  cases hb
  refine ⟨b1, b2, ?_⟩
  rw [tu (-1) (by rw [u64_eq]; omega), show ((-1 : Int) + u64).toNat = u64 - 1 by rw [u64_eq]; omega]
  have := V075.2
  generalize 2 ^ (u64 - 1) = B at *
  omega
theorem below075 {g t : Int} {X : Option Nat} (h : Mid g t X) (hc : cmpA .lss .f64 X (some 4604930618986332160) = true) : Mid g 0 X := by
  obtain ⟨x, rfl⟩ := h.word
  obtain ⟨b1, b2, _⟩ := h.bot x rfl
  rw [lss075 b1 b2] at hc
  have hc' := of_decide_eq_true hc
  refine ⟨⟨_, rfl⟩, fun b hb => ?_, h.bot⟩
  cases hb
  refine ⟨b1, ?_⟩
  rw [tu 0 (by omega), Int.zero_add, Int.toNat_natCast]
  have := V075.1
  generalize 2 ^ u64 = B at *
  omega

end Go.Proofs.Ytoimjjagkfgogaa
