/- Logarithms in 64 bits: the whole of it. No conditions. -/
import Derived.Test.YtoimjjagkfgogaaFo
namespace Go.Proofs.Ytoimjjagkfgogaa
open Go.RowKit

/-- Where both loops stop. -/
structure Stops (X : Option Nat) (a b : Nat) : Prop where
  up : ∀ j, j < a → cmpA .geq .f64 (halfs X j) (some 4609434218613702656) = true
  upEnd : cmpA .geq .f64 (halfs X a) (some 4609434218613702656) = false
  down : ∀ j, j < b → cmpA .lss .f64 (dbls (halfs X a) j) (some 4604930618986332160) = true
  downEnd : cmpA .lss .f64 (dbls (halfs X a) b) (some 4604930618986332160) = false
  la : a ≤ 128
  lb : b ≤ 277
  mid : Mid (-1) 1 (dbls (halfs X a) b)
  le : ∀ z, dbls (halfs X a) b = some z → V .f64 z ≤ V .f64 4609434218613702656

theorem two15 : vl FloatKind.f64.format (rg FloatKind.f64.format 4611686018427387904) = 2 * 2 ^ u64 ∧ V .f64 4604930618986332160 * 2 = V .f64 4609434218613702656 ∧ V .f64 4609434218613702656 = (vl FloatKind.f64.format (rg FloatKind.f64.format 4609434218613702656) : Int) := by decide +kernel

/-- Twice a number below 0.75. -/
theorem dbl_le {y z : Nat} (h1 : finW .f64 y = true) (h2 : ng FloatKind.f64.format y = false) (hlt : V .f64 y < V .f64 4604930618986332160) (hz : opA .mul .f64 (some y) (some 4611686018427387904) = some z) : V .f64 z ≤ V .f64 4609434218613702656 := by
  have hz' : floatBits .mul .f64 y 4611686018427387904 = some z := hz
  have hg := ng_dbl h2 h1 hz'
  rw [mul_word h1 (by decide +kernel)] at hz'
  have hr : rg FloatKind.f64.format z ≤ rg FloatKind.f64.format 4609434218613702656 := by
    cases hz'
    refine mul_le ?_
    obtain ⟨t1, t2, t3⟩ := two15
    rw [V_pos h2] at hlt
    rw [t1, lpu, show (- -((u64 : Nat) : Int)).toNat = u64 by omega]
    generalize 2 ^ u64 = B at *
    have : vl FloatKind.f64.format (rg FloatKind.f64.format y) * 2 ≤ vl FloatKind.f64.format (rg FloatKind.f64.format 4609434218613702656) := by omega
    calc _ = vl FloatKind.f64.format (rg FloatKind.f64.format y) * 2 * B := (Nat.mul_assoc _ _ _).symm
      _ ≤ _ := Nat.mul_le_mul_right _ this
  rw [V_pos hg, two15.2.2]
  have := vl_mono FloatKind.f64.format hr
  omega

theorem stops {X : Option Nat} (h : Mid (-149) 128 X) : ∃ a b, Stops X a b := by
  have h128 := mid_halfs h (by omega) (by omega) (by omega) (by omega) 128 (by omega)
  have e128 : (128 : Int) - ((128 : Nat) : Int) = 0 := by omega
  rw [e128] at h128
  obtain ⟨a, ha, hup, hend⟩ := exists_stop (fun j => cmpA .geq .f64 (halfs X j) (some 4609434218613702656)) 128 (stop15 h128)
  have hY := at15 (mid_halfs h (by omega) (by omega) (by omega) (by omega) a (by omega)) hend
  have hY' : Mid (-277) 1 (halfs X a) := ⟨hY.word, hY.top, fun b hb => by
    obtain ⟨q1, q2, q3⟩ := hY.bot b hb
    exact ⟨q1, q2, Nat.le_trans (Nat.pow_le_pow_right (by omega) (by rw [lp64]; omega)) q3⟩⟩
  have h277 := mid_dbls hY' (by omega) (by omega) (by omega) (by omega) 277 (by omega)
  have e277 : (-277 : Int) + ((277 : Nat) : Int) = 0 := by omega
  rw [e277] at h277
  obtain ⟨b, hb, hdn, hdend⟩ := exists_stop (fun j => cmpA .lss .f64 (dbls (halfs X a) j) (some 4604930618986332160)) 277 (stop075 h277)
  have hZ := at075 (mid_dbls hY' (by omega) (by omega) (by omega) (by omega) b (by omega)) hdend
  have hZ1 : Mid (-1) 1 (dbls (halfs X a) b) := by
    cases b with
    | zero =>
      have := hZ
      rw [show (1 : Int) + ((0 : Nat) : Int) = 1 by omega] at this
      exact this
    | succ i =>
      have hp := below075 (mid_dbls hY' (by omega) (by omega) (by omega) (by omega) i (by omega)) (hdn i (by omega))
      have hd := hp.dbl (by omega) (by omega) (by omega) (by omega)
      rw [show (0 : Int) + 1 = 1 by omega] at hd
      exact ⟨hZ.word, hd.top, hZ.bot⟩
  have hZ2 : ∀ z, dbls (halfs X a) b = some z → V .f64 z ≤ V .f64 4609434218613702656 := by
    intro z hz
    cases b with
    | zero =>
      have hz' : halfs X a = some z := hz
      obtain ⟨b1, b2, _⟩ := hY.bot z hz'
      have he : cmpA .geq .f64 (halfs X a) (some 4609434218613702656) = false := hend
      rw [hz', geq15 b1 b2] at he
      have := of_decide_eq_false he
      rw [V_pos b2]
      omega
    | succ i =>
      have hm := mid_dbls hY' (by omega) (by omega) (by omega) (by omega) i (by omega)
      obtain ⟨y, hy⟩ := hm.word
      obtain ⟨b1, b2, _⟩ := hm.bot y hy
      have hlt : cmpA .lss .f64 (dbls (halfs X a) i) (some 4604930618986332160) = true := hdn i (by omega)
      rw [hy, lss075 b1 b2] at hlt
      have hlt' := of_decide_eq_true hlt
      refine dbl_le b1 b2 (by rw [V_pos b2]; exact hlt') ?_
      rw [← hz]
      show _ = opA .mul .f64 (dbls (halfs X a) i) _
      rw [hy]
  exact ⟨a, b, hup, hend, hdn, hdend, ha, hb, hZ1, hZ2⟩

def sA (Z : Option Nat) : Option Nat := opA .quo .f64 (opA .sub .f64 Z (some 4607182418800017408)) (opA .add .f64 Z (some 4607182418800017408))
def polyL (U : Option Nat) : Nat → Option Nat
  | 0 => some 0
  | j + 1 => opA .add .f64 (opA .quo .f64 (some 4607182418800017408) (some (floatOfInt .f64 (25 - 2 * (j : Int))))) (opA .mul .f64 U (polyL U j))
def logA (Z : Option Nat) (e : Int) : Option Nat :=
  opA .add .f64 (opA .mul .f64 (some 4611686018427387904) (opA .mul .f64 (sA Z) (polyL (opA .mul .f64 (sA Z) (sA Z)) 13))) (opA .mul .f64 (some (floatOfInt .f64 e)) (some 4604418534313441775))

theorem nonneg_one : NonNeg .f64 (some 4607182418800017408) := fun b hb _ => by
  cases hb
  rw [V_pos (by decide +kernel)]
  omega

theorem odd_botL (j : Nat) (h : j < 13) : Bot .f64 0 (some (floatOfInt .f64 (25 - 2 * (j : Int)))) := fun b hb => by
  cases hb
  rcases (by omega : j = 0 ∨ j = 1 ∨ j = 2 ∨ j = 3 ∨ j = 4 ∨ j = 5 ∨ j = 6 ∨ j = 7 ∨ j = 8 ∨ j = 9 ∨ j = 10 ∨ j = 11 ∨ j = 12) with rfl | rfl | rfl | rfl | rfl | rfl | rfl | rfl | rfl | rfl | rfl | rfl | rfl <;> exact ⟨by decide +kernel, by decide +kernel, by decide +kernel⟩

theorem top_s {Z : Option Nat} (h : Mid (-1) 1 Z) : Top .f64 3 (sA Z) := by
  have e1 := lp64
  have e2 := em64
  have e3 := ex64
  have o1 : Ok .f64 (some 4607182418800017408) := Ok.lit (by decide +kernel) (by decide +kernel)
  have t1 := top_one.mono (show (0 : Int) ≤ 1 by omega)
  have hn := (top_sub o1 h.top t1 (by omega) (by omega)).mono (show (1 : Int) + 1 ≤ 2 by omega)
  have hd := bot_add (k := .f64) h.top t1 h.bot nonneg_one (by omega) (by omega) (by omega) (by omega)
  exact top_div hn hd (by omega) (by omega) (by omega) (by omega) (by omega)

theorem top_polyL {U : Option Nat} (h : Top .f64 6 U) : ∀ j : Nat, j ≤ 13 → Top .f64 (1 + 7 * (j : Int)) (polyL U j)
  | 0, _ => top_zero _
  | j + 1, hj => by
    have e1 := lp64
    have e2 := em64
    have e3 := ex64
    have hq : Top .f64 0 (opA .quo .f64 (some 4607182418800017408) (some (floatOfInt .f64 (25 - 2 * (j : Int))))) := top_div top_one (odd_botL j (by omega)) (by omega) (by omega) (by omega) (by omega) (by omega)
    have hm : Top .f64 (7 + 7 * (j : Int)) (opA .mul .f64 U (polyL U j)) := top_mul h (top_polyL h j (by omega)) (by omega) (by omega) (by omega) (by omega) (by omega)
    exact (top_add (k := .f64) (hq.mono (show (0 : Int) ≤ 7 + 7 * (j : Int) by omega)) hm (by omega) (by omega)).mono (show 7 + 7 * (j : Int) + 1 ≤ 1 + 7 * ((j + 1 : Nat) : Int) by omega)

theorem top_exp {e : Int} (h1 : -300 ≤ e) (h2 : e ≤ 300) : Top .f64 9 (some (floatOfInt .f64 e)) := fun b hb => by
  cases hb
  obtain ⟨s, M, rfl, hM⟩ : ∃ (s : Bool) (M : Nat), e = wholeN s M ∧ M ≤ 300 := by
    rcases Int.le_total 0 e with h | h
    · exact ⟨false, e.toNat, by unfold wholeN; simp; omega, by omega⟩
    · exact ⟨true, (-e).toNat, by unfold wholeN; simp; omega, by omega⟩
  obtain ⟨v1, v2⟩ := V_whole s (M := M) (by omega)
  refine ⟨v2, ?_⟩
  have ha := V_abs .f64 (floatOfInt .f64 (wholeN s M))
  rw [v1, natAbs_mul_nat] at ha
  have hw : (wholeN s M).natAbs = M := by unfold wholeN; split <;> omega
  rw [hw] at ha
  rw [← ha, tu 9 (by omega), show ((9 : Int) + u64).toNat = 9 + u64 by omega, Nat.pow_add]
  exact Nat.mul_le_mul_right _ (by omega)

theorem top_log {Z : Option Nat} (h : Mid (-1) 1 Z) {e : Int} (h1 : -300 ≤ e) (h2 : e ≤ 300) : Top .f64 98 (logA Z e) := by
  have e1 := lp64
  have e2 := em64
  have e3 := ex64
  have hs := top_s h
  have hu : Top .f64 6 (opA .mul .f64 (sA Z) (sA Z)) := top_mul hs hs (by omega) (by omega) (by omega) (by omega) (by omega)
  have hq := (top_polyL hu 13 (by omega)).mono (show 1 + 7 * ((13 : Nat) : Int) ≤ 92 by omega)
  have hm : Top .f64 95 (opA .mul .f64 (sA Z) (polyL (opA .mul .f64 (sA Z) (sA Z)) 13)) := top_mul hs hq (by omega) (by omega) (by omega) (by omega) (by omega)
  have h2m : Top .f64 96 (opA .mul .f64 (some 4611686018427387904) (opA .mul .f64 (sA Z) (polyL (opA .mul .f64 (sA Z) (sA Z)) 13))) := top_mul top_two hm (by omega) (by omega) (by omega) (by omega) (by omega)
  have hl : Top .f64 0 (some 4604418534313441775) := fun b hb => by cases hb; exact ⟨by decide +kernel, by decide +kernel⟩
  have he : Top .f64 9 (opA .mul .f64 (some (floatOfInt .f64 e)) (some 4604418534313441775)) := top_mul (top_exp h1 h2) hl (by omega) (by omega) (by omega) (by omega) (by omega)
  exact (top_add h2m (he.mono (show (9 : Int) ≤ 96 by omega)) (by omega) (by omega)).mono (show (96 : Int) + 1 ≤ 98 by omega)

theorem fits_log {Z : Option Nat} (h : Mid (-1) 1 Z) {e : Int} (h1 : -300 ≤ e) (h2 : e ≤ 300) : Fits (logA Z e) := (fits_top (top_log h h1 h2) (by omega) (by omega)).1

/-- A positive, finite 32-bit number. -/
theorem mid_of {x : Nat} (hf : finW .f32 x = true) (hs : ng FloatKind.f32.format x = false) (h0 : rg FloatKind.f32.format x ≠ 0) : Mid (-149) 128 (some (wideW x)) := by
  obtain ⟨g1, g2, g3⟩ := wide_fin hf
  have ht : Top .f64 128 (wideA (some x)) := top_wide (top_all hf) (by omega)
  refine ⟨⟨_, rfl⟩, ht, fun b hb => ?_⟩
  cases hb
  refine ⟨g1, g3.trans hs, ?_⟩
  have k3 := V_abs .f64 (wideW x)
  have k4 := V_abs .f32 x
  rw [g2, natAbs_mul_nat, k4] at k3
  have hpos : 1 ≤ vl FloatKind.f32.format (rg FloatKind.f32.format x) := by
    have := vl_mono_lt FloatKind.f32.format (Nat.pos_of_ne_zero h0)
    omega
  rw [tu (-149) (by rw [u64_eq]; omega), show ((-149 : Int) + u64).toNat = wexp by rw [u64_eq, wexp_eq]; rfl, ← k3]
  exact Nat.le_mul_of_pos_left _ hpos

end Go.Proofs.Ytoimjjagkfgogaa
