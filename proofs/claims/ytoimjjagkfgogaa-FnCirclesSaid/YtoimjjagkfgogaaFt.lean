/- Angles: what the angle of a point is, in 64 bits, and that it is small. No conditions. -/
import Derived.Test.YtoimjjagkfgogaaFc
import Derived.Test.YtoimjjagkfgogaaFx
import Derived.Test.YtoimjjagkfgogaaFy
namespace Go.Proofs.Ytoimjjagkfgogaa
open Go.RowKit

def one64 : Nat := 4607182418800017408
def stepT (T : Option Nat) : Option Nat := opA .quo .f64 T (opA .add .f64 (some 4607182418800017408) (sqrtA (opA .add .f64 (some 4607182418800017408) (opA .mul .f64 T T))))
def iterT (T : Option Nat) : Nat → Option Nat
  | 0 => T
  | k + 1 => stepT (iterT T k)
def polyT (U : Option Nat) : Nat → Option Nat
  | 0 => some 0
  | j + 1 => opA .sub .f64 (opA .quo .f64 (some 4607182418800017408) (some (floatOfInt .f64 (15 - 2 * (j : Int))))) (opA .mul .f64 U (polyT U j))

theorem top_one : Top .f64 0 (some 4607182418800017408) := fun b hb => by cases hb; exact ⟨by decide +kernel, by decide +kernel⟩
theorem bot_one : Bot .f64 0 (some 4607182418800017408) := fun b hb => by cases hb; exact ⟨by decide +kernel, by decide +kernel, by decide +kernel⟩
theorem lp64 : FloatKind.f64.format.leastPlace = -1074 := by decide
theorem em64' : emin .f64 = -1022 := em64
theorem ex64 : emax .f64 = 1023 := rfl

theorem top_step {T : Option Nat} (h : Top .f64 0 T) : Top .f64 0 (stepT T) := by
  have e1 := lp64
  have e2 := em64
  have e3 := ex64
  have hS : Top .f64 0 (opA .mul .f64 T T) := top_mul h h (by omega) (by omega) (by omega) (by omega) (by omega)
  have hA : Top .f64 1 (opA .add .f64 (some 4607182418800017408) (opA .mul .f64 T T)) := (top_add top_one hS (by omega) (by omega)).mono (show (0 : Int) + 1 ≤ 1 by omega)
  have hQ : Top .f64 1 (sqrtA (opA .add .f64 (some 4607182418800017408) (opA .mul .f64 T T))) := top_sqrt Ok.op hA (by omega) (by omega) (by omega) (by omega)
  have hD := bot_add (k := .f64) (top_one.mono (show (0 : Int) ≤ 1 by omega)) hQ bot_one (nonneg_sqrt Ok.op) (by omega) (by omega) (by omega) (by omega)
  exact top_div h hD (by omega) (by omega) (by omega) (by omega) (by omega)

theorem top_iter {T : Option Nat} (h : Top .f64 0 T) : ∀ k, Top .f64 0 (iterT T k)
  | 0 => h
  | k + 1 => top_step (top_iter h k)

theorem odd_bot (j : Nat) (h : j < 8) : Bot .f64 0 (some (floatOfInt .f64 (15 - 2 * (j : Int)))) := fun b hb => by
  cases hb
  have : j = 0 ∨ j = 1 ∨ j = 2 ∨ j = 3 ∨ j = 4 ∨ j = 5 ∨ j = 6 ∨ j = 7 := by omega
  rcases this with rfl | rfl | rfl | rfl | rfl | rfl | rfl | rfl <;> exact ⟨by decide +kernel, by decide +kernel, by decide +kernel⟩

theorem top_zero (t : Int) : Top .f64 t (some 0) := fun b hb => by
  cases hb
  refine ⟨fin_zero .f64, ?_⟩
  have : rg FloatKind.f64.format 0 = 0 := rfl
  rw [this, vl_zero]
  exact Nat.zero_le _

theorem top_poly {U : Option Nat} (h : Top .f64 0 U) : ∀ j : Nat, j ≤ 8 → Top .f64 (1 + (j : Int)) (polyT U j)
  | 0, _ => top_zero _
  | j + 1, hj => by
    have e1 := lp64
    have e2 := em64
    have e3 := ex64
    have hq : Top .f64 0 (opA .quo .f64 (some 4607182418800017408) (some (floatOfInt .f64 (15 - 2 * (j : Int))))) := top_div top_one (odd_bot j (by omega)) (by omega) (by omega) (by omega) (by omega) (by omega)
    have hm : Top .f64 (1 + (j : Int)) (opA .mul .f64 U (polyT U j)) := top_mul h (top_poly h j (by omega)) (by omega) (by omega) (by omega) (by omega) (by omega)
    have hs := top_sub (k := .f64) Ok.op (hq.mono (show (0 : Int) ≤ 1 + (j : Int) by omega)) hm (by omega) (by omega)
    exact hs.mono (show 1 + (j : Int) + 1 ≤ 1 + ((j + 1 : Nat) : Int) by omega)

/-- The angle, out of the ratio T. -/
def rawT (T : Option Nat) : Option Nat := opA .quo .f64 (opA .mul .f64 (some 4620693217682128896) (opA .mul .f64 (iterT T 3) (polyT (opA .mul .f64 (iterT T 3) (iterT T 3)) 8))) (some 4618760256179416344)
def turnT (o1 o2 o3 : Bool) (A : Option Nat) : Option Nat :=
  let B := if o1 = true then opA .sub .f64 (some 4598175219545276416) A else A
  let C := if o2 = true then opA .sub .f64 (some 4602678819172646912) B else B
  if o3 = true then negA .f64 C else C

theorem top_raw {T : Option Nat} (h : Top .f64 0 T) : Top .f64 10 (rawT T) := by
  have e1 := lp64
  have e2 := em64
  have e3 := ex64
  have h3 := top_iter h 3
  have hU : Top .f64 0 (opA .mul .f64 (iterT T 3) (iterT T 3)) := top_mul h3 h3 (by omega) (by omega) (by omega) (by omega) (by omega)
  have hP := top_poly hU 8 (by omega)
  have hM : Top .f64 9 (opA .mul .f64 (iterT T 3) (polyT (opA .mul .f64 (iterT T 3) (iterT T 3)) 8)) := top_mul h3 (hP.mono (show 1 + ((8 : Nat) : Int) ≤ 9 by omega)) (by omega) (by omega) (by omega) (by omega) (by omega)
  have h8 : Top .f64 3 (some 4620693217682128896) := fun b hb => by cases hb; exact ⟨by decide +kernel, by decide +kernel⟩
  have hb : Bot .f64 2 (some 4618760256179416344) := fun b hb => by cases hb; exact ⟨by decide +kernel, by decide +kernel, by decide +kernel⟩
  exact top_div (top_mul h8 hM (by omega) (by omega) (show (3 : Int) + 9 ≤ 12 by omega) (by omega) (by omega)) hb (by omega) (by omega) (by omega) (by omega) (by omega)

theorem top_turn (o1 o2 o3 : Bool) {A : Option Nat} (oA : Ok .f64 A) (h : Top .f64 10 A) : Top .f64 12 (turnT o1 o2 o3 A) := by
  have e1 := lp64
  have e2 := em64
  have e3 := ex64
  have q1 : Top .f64 0 (some 4598175219545276416) := fun b hb => by cases hb; exact ⟨by decide +kernel, by decide +kernel⟩
  have q2 : Top .f64 0 (some 4602678819172646912) := fun b hb => by cases hb; exact ⟨by decide +kernel, by decide +kernel⟩
  have hB : Top .f64 11 (if o1 = true then opA .sub .f64 (some 4598175219545276416) A else A) ∧ Ok .f64 (if o1 = true then opA .sub .f64 (some 4598175219545276416) A else A) := by
    split
    · exact ⟨(top_sub oA (q1.mono (show (0 : Int) ≤ 10 by omega)) h (by omega) (by omega)).mono (show (10 : Int) + 1 ≤ 11 by omega), Ok.op⟩
    · exact ⟨h.mono (show (10 : Int) ≤ 11 by omega), oA⟩
  have hC : Top .f64 12 (if o2 = true then opA .sub .f64 (some 4602678819172646912) (if o1 = true then opA .sub .f64 (some 4598175219545276416) A else A) else (if o1 = true then opA .sub .f64 (some 4598175219545276416) A else A)) := by
    split
    · exact (top_sub hB.2 (q2.mono (show (0 : Int) ≤ 11 by omega)) hB.1 (by omega) (by omega)).mono (show (11 : Int) + 1 ≤ 12 by omega)
    · exact hB.1.mono (show (11 : Int) ≤ 12 by omega)
  unfold turnT
  dsimp only
  split
  · exact top_neg hC
  · exact hC

theorem fits_turn (o1 o2 o3 : Bool) {T : Option Nat} (h : Top .f64 0 T) : Fits (turnT o1 o2 o3 (rawT T)) :=
  (fits_top (top_turn o1 o2 o3 Ok.op (top_raw h)) (by omega) (by omega)).1

/-! Comparisons of 32-bit numbers with 0 are the same in 64 bits. -/
theorem compare_scale (x : Int) {c : Nat} (hc : 0 < c) : compare (x * c) 0 = compare x 0 := by
  have := compare_mul x 0 hc
  simpa using this

theorem order_wide {b : Nat} (h : nanW .f32 b = false) : FloatKind.f64.format.order (wideW b) 0 = FloatKind.f32.format.order b 0 := by
  rcases kinds .f32 b with ⟨h1, _, _⟩ | ⟨_, h1, _⟩ | ⟨_, _, h1⟩
  · obtain ⟨g1, g2, _⟩ := wide_fin h1
    rw [order_fin g1 (fin_zero .f64), order_fin h1 (fin_zero .f32), g2, V_zero, V_zero, compare_scale _ (Nat.two_pow_pos _)]
  · obtain ⟨g1, g2⟩ := wide_inf h1
    show (FloatKind.f64.decode (wideW b)).order (FloatKind.f64.decode 0) = (FloatKind.f32.decode b).order (FloatKind.f32.decode 0)
    have g2' : ng FloatKind.f64.format (wideW b) = ng FloatKind.f32.format b := g2
    rw [decode_inf g1, decode_inf h1, decode_fin (fin_zero .f64), decode_fin (fin_zero .f32), g2']
    cases ng FloatKind.f32.format b <;> rfl
  · rw [h] at h1; cases h1

theorem cmp_wide {op : BinOp} (hop : isCmp op = true) {x : Nat} {X : Option Nat} (h : Ab .f32 x X) : cmpA op .f64 (wideA X) (some 0) = cmpA op .f32 X (some 0) := by
  cases X with
  | none => cases op <;> first | rfl | cases hop
  | some b =>
    have e := order_wide h.of_some.2
    obtain ⟨rfl, _⟩ := h.of_some
    cases op <;> first | cases hop | skip
    all_goals
      simp only [wideA_some, cmpA, ordA, Option.bind_some, e]

/-- The ratio of the smaller to the greater of two numbers that are not below 0. -/
def ratioT (A B : Option Nat) : Option Nat := if cmpA .gtr .f64 A B = true then opA .quo .f64 B A else opA .quo .f64 A B

theorem top_ratio {a b : Nat} (ha : finW .f64 a = true) (hb : finW .f64 b = true) (h0 : rg Ieee.double b ≠ 0) (hle : vl Ieee.double (rg Ieee.double a) ≤ vl Ieee.double (rg Ieee.double b)) : Top .f64 0 (opA .quo .f64 (some a) (some b)) := by
  intro r hr
  have hr' : floatBits .quo .f64 a b = some r := hr
  rw [div_word ha hb h0] at hr'
  cases hr'
  refine top_of_rg (div_le ?_) (by rw [em64]; omega) (by rw [ex64]; omega)
  rw [p2_vl .f64 (by rw [show FloatKind.f64.format.leastPlace + FloatKind.f64.format.fractionBits = -1022 from em64]; omega)]
  rw [Nat.mul_comm, Int.zero_sub]
  exact Nat.mul_le_mul_left _ hle

theorem ratio_top {y x : Nat} {Y X : Option Nat} (hy : Ab .f32 y Y) (hx : Ab .f32 x X) (fy : finA .f32 Y = true) (fx : finA .f32 X = true) (h0 : (cmpA .eql .f32 X (some 0) && cmpA .eql .f32 Y (some 0)) = false) :
    Top .f64 0 (ratioT (absA (wideA Y)) (absA (wideA X))) := by
  cases Y with
  | none => cases fy
  | some y' =>
  cases X with
  | none => cases fx
  | some x' =>
  obtain ⟨rfl, ny⟩ := hy.of_some
  obtain ⟨rfl, nx⟩ := hx.of_some
  rw [finA_some ny] at fy
  rw [finA_some nx] at fx
  obtain ⟨y1, y2, _⟩ := wide_fin fy
  obtain ⟨x1, x2, _⟩ := wide_fin fx
  have ey : absA (wideA (some y)) = some (wideW y % Ieee.double.signWeight) := rfl
  have ex : absA (wideA (some x)) = some (wideW x % Ieee.double.signWeight) := rfl
  rw [ey, ex]
  have fay : finW .f64 (wideW y % Ieee.double.signWeight) = true := by unfold finW at y1 ⊢; rw [show rg FloatKind.f64.format (wideW y % Ieee.double.signWeight) = rg FloatKind.f64.format (wideW y) from rg_abs _]; exact y1
  have fax : finW .f64 (wideW x % Ieee.double.signWeight) = true := by unfold finW at x1 ⊢; rw [show rg FloatKind.f64.format (wideW x % Ieee.double.signWeight) = rg FloatKind.f64.format (wideW x) from rg_abs _]; exact x1
  have zero : ∀ c, finW .f32 c = true → vl Ieee.double (rg Ieee.double (wideW c)) = 0 → cmpA .eql .f32 (some c) (some 0) = true := fun c hc hv => by
    obtain ⟨c1, c2, _⟩ := wide_fin hc
    have h1 : V .f64 (wideW c) = 0 := by
      have := V_abs .f64 (wideW c)
      rw [show vl FloatKind.f64.format (rg FloatKind.f64.format (wideW c)) = 0 from hv] at this
      omega
    rw [h1] at c2
    have h2 : V .f32 c = 0 := by
      have hp : ((2 ^ wexp : Nat) : Int) ≠ 0 := by have := Nat.two_pow_pos wexp; omega
      rcases Int.mul_eq_zero.1 c2.symm with h | h
      · exact h
      · exact absurd h hp
    show (FloatKind.f32.format.order c 0 == some .eq) = true
    rw [order_fin hc (fin_zero .f32), h2, V_zero]
    rfl
  have hcmp : cmpA .gtr .f64 (some (wideW y % Ieee.double.signWeight)) (some (wideW x % Ieee.double.signWeight)) = decide (vl Ieee.double (rg Ieee.double (wideW x)) < vl Ieee.double (rg Ieee.double (wideW y))) := by
    show (FloatKind.f64.format.order _ _ == some .gt) = _
    rw [order_fin fay fax, V_absW, V_absW]
    by_cases hlt : vl Ieee.double (rg Ieee.double (wideW x)) < vl Ieee.double (rg Ieee.double (wideW y))
    · rw [show compare ((vl Ieee.double (rg Ieee.double (wideW y)) : Nat) : Int) ((vl Ieee.double (rg Ieee.double (wideW x)) : Nat) : Int) = .gt from Int.compare_eq_gt.2 (by omega)]
      simp [hlt]
    · have : compare ((vl Ieee.double (rg Ieee.double (wideW y)) : Nat) : Int) ((vl Ieee.double (rg Ieee.double (wideW x)) : Nat) : Int) ≠ .gt := fun h => by have := Int.compare_eq_gt.1 h; omega
      simp [hlt, this]
  unfold ratioT
  rw [hcmp]
  by_cases hlt : vl Ieee.double (rg Ieee.double (wideW x)) < vl Ieee.double (rg Ieee.double (wideW y))
  · rw [decide_eq_true hlt, if_pos rfl]
    refine top_ratio fax fay ?_ ?_
    · rw [rg_abs]
      intro h
      rw [h, vl_zero] at hlt
      omega
    · rw [rg_abs, rg_abs]; omega
  · rw [decide_eq_false hlt, if_neg (by simp)]
    refine top_ratio fay fax ?_ ?_
    · rw [rg_abs]
      intro h
      have hvx : vl Ieee.double (rg Ieee.double (wideW x)) = 0 := by rw [h, vl_zero]
      have hvy : vl Ieee.double (rg Ieee.double (wideW y)) = 0 := by omega
      rw [zero x fx hvx, zero y fy hvy] at h0
      cases h0
    · rw [rg_abs, rg_abs]; omega

end Go.Proofs.Ytoimjjagkfgogaa
