/- Facts on single bits of floating-point words: the sign cleared or copied, the exponent field. No conditions. -/
import Derived.Test.YtoimjjagkfgogaaFx
import Derived.WalkKit
namespace Go.Proofs.Ytoimjjagkfgogaa
open Ieee Go.RowKit

def absA (X : Option Nat) : Option Nat := X.map fun b => b % Ieee.double.signWeight

theorem sw64 : Ieee.double.signWeight = 9223372036854775808 := by decide
theorem sw32 : Ieee.single.signWeight = 2147483648 := by decide
theorem width64 {x : Nat} {X : Option Nat} (h : Ab .f64 x X) : x < 18446744073709551616 := h.lt
theorem width32 {x : Nat} {X : Option Nat} (h : Ab .f32 x X) : x < 4294967296 := h.lt
theorem le32 {x : Nat} {X : Option Nat} (h : Ab .f32 x X) : (x : Int) ≤ 4294967295 := by
  have := width32 h
  omega

theorem clear_sign {x : Nat} (h : x < 18446744073709551616) : (bits .andNot .u64 (x : Int) 9223372036854775808).toNat = x % Ieee.double.signWeight := by
  have e := u64_andNot_nat x 9223372036854775808 h (by decide)
  have e2 : (18446744073709551615 - 9223372036854775808 : Nat) = 2 ^ 63 - 1 := by decide
  rw [e2, Nat.and_two_pow_sub_one_eq_mod] at e
  have e3 : ((9223372036854775808 : Nat) : Int) = 9223372036854775808 := rfl
  rw [e3] at e
  rw [e, Int.toNat_natCast]
  rfl

theorem rg_abs (b : Nat) : rg Ieee.double (b % Ieee.double.signWeight) = rg Ieee.double b := by unfold rg; exact Nat.mod_mod _ _
theorem ng_abs (b : Nat) : ng Ieee.double (b % Ieee.double.signWeight) = false := by
  unfold ng
  rw [Nat.div_eq_of_lt (Nat.mod_lt _ (sw_pos _))]
  rfl
theorem V_absW (b : Nat) : V .f64 (b % Ieee.double.signWeight) = (vl Ieee.double (rg Ieee.double b) : Int) := by
  show (if ng Ieee.double (b % Ieee.double.signWeight) then -(vl Ieee.double (rg Ieee.double (b % Ieee.double.signWeight)) : Int) else (vl Ieee.double (rg Ieee.double (b % Ieee.double.signWeight)) : Int)) = _
  rw [ng_abs, rg_abs]
  simp

theorem abs_lt (b : Nat) : b % Ieee.double.signWeight < 2 ^ FloatKind.f64.format.width :=
  Nat.lt_trans (Nat.mod_lt _ (sw_pos _)) (by decide)

theorem abs_ab {x : Nat} {X : Option Nat} (h : Ab .f64 x X) : Ab .f64 (bits .andNot .u64 (x : Int) 9223372036854775808).toNat (absA X) := by
  rw [clear_sign (width64 h)]
  have hr : nanW .f64 (x % Ieee.double.signWeight) = nanW .f64 x := by
    show decide (_ < rg Ieee.double (x % Ieee.double.signWeight)) = decide (_ < rg Ieee.double x)
    rw [rg_abs]
  refine ⟨?_, abs_lt x⟩
  cases X with
  | none => exact ab_none.2 (by rw [hr]; exact h.to_nan)
  | some a => obtain ⟨rfl, hn⟩ := h.of_some; exact ab_some.2 ⟨by rw [hr]; exact hn, rfl⟩

/-- The bits of a number: those of one NaN for all of them. -/
def bitsA (X : Option Nat) : Int := match X with | none => 2143289344 | some b => b

theorem and_exp (b : Nat) : b &&& 2139095040 = (b / 8388608 % 256) * 8388608 := by
  have e : (2139095040 : Nat) = 255 <<< 23 := by decide
  have h : b &&& 255 <<< 23 = (b >>> 23 &&& 255) <<< 23 := by
    apply Nat.eq_of_testBit_eq
    intro i
    simp only [Nat.testBit_and, Nat.testBit_shiftLeft, Nat.testBit_shiftRight]
    by_cases h : 23 ≤ i
    · simp [h]
    · simp [h]
  rw [e, h, Nat.shiftLeft_eq, Nat.shiftRight_eq_div_pow, show (255 : Nat) = 2 ^ 8 - 1 by decide, Nat.and_two_pow_sub_one_eq_mod]

theorem i64_and_exp {b : Nat} (h : b < 4294967296) : bits .and .i64 (b : Int) 2139095040 = ((b / 8388608 % 256) * 8388608 : Nat) := by
  have e := bits_nat .i64 32 (by decide) (fun n h0 h1 => by rw [IntKind.wrap_i64]; omega) b 2139095040 h (by decide)
  rw [← and_exp]
  exact e.1

theorem exp_zero {b : Nat} (h : b < 4294967296) : (bits .and .i64 (b : Int) 2139095040 == 0) = decide (rg Ieee.single b < 8388608) := by
  rw [i64_and_exp h]
  unfold rg
  rw [sw32]
  by_cases h2 : b % 2147483648 < 8388608
  · rw [show b / 8388608 % 256 = 0 by omega]
    simp [h2]
  · have : b / 8388608 % 256 ≠ 0 := by omega
    simp [h2]
    omega

theorem lt_iff (x y : Int) : (some (compare x y) == some Ordering.lt) = decide (x < y) := by
  show (some (compareOfLessAndEq x y) == some Ordering.lt) = _
  unfold compareOfLessAndEq
  by_cases h : x < y
  · simp [h]
  · by_cases h2 : x = y
    · simp [h2]
    · simp [h, h2]

theorem c126 : wideW 8388608 = 4039728865751334912 := by decide +kernel

theorem sub_same {x : Nat} {X : Option Nat} (h : Ab .f32 x X) : cmpA .lss .f64 (absA (wideA X)) (some 4039728865751334912) = (bits .and .i64 (bitsA X) 2139095040 == 0) := by
  cases X with
  | none =>
    have e := exp_zero (b := 2143289344) (by decide)
    have e2 : bitsA none = ((2143289344 : Nat) : Int) := rfl
    rw [e2, e]
    have e3 : cmpA .lss .f64 (absA (wideA none)) (some 4039728865751334912) = false := rfl
    rw [e3]
    decide
  | some b =>
    obtain ⟨rfl, hn⟩ := h.of_some
    have e2 : bitsA (some x) = (x : Int) := rfl
    rw [e2, exp_zero (width32 h)]
    show (FloatKind.f64.format.order (wideW x % Ieee.double.signWeight) 4039728865751334912 == some Ordering.lt) = _
    rw [← c126]
    rcases kinds .f32 x with ⟨h1, _, _⟩ | ⟨h0, h1, _⟩ | ⟨_, _, h1⟩
    · obtain ⟨w1, w2, _⟩ := wide_fin h1
      obtain ⟨c1, c2, _⟩ := wide_fin (b := 8388608) (by decide)
      have f1 : finW .f64 (wideW x % Ieee.double.signWeight) = true := by
        show decide (rg Ieee.double (wideW x % Ieee.double.signWeight) < Ieee.double.infRung) = true
        rw [rg_abs]; exact w1
      have v1 : V .f64 (wideW x % Ieee.double.signWeight) = (vl Ieee.single (rg Ieee.single x) : Int) * (2 ^ wexp : Nat) := by
        rw [V_absW]
        have := V_abs .f64 (wideW x)
        have t2 := V_abs .f32 x
        rw [w2, Int.natAbs_mul, t2] at this
        show (vl FloatKind.f64.format (rg FloatKind.f64.format (wideW x)) : Int) = _
        rw [← this]
        show ((vl Ieee.single (rg Ieee.single x) * (2 ^ wexp : Nat) : Nat) : Int) = _
        simp only [Int.natCast_mul]
      have v2 : V .f64 (wideW 8388608) = (vl Ieee.single 8388608 : Int) * (2 ^ wexp : Nat) := by
        rw [c2]
        have : V .f32 8388608 = (vl Ieee.single 8388608 : Int) := by
          show (if ng Ieee.single 8388608 then -(vl Ieee.single (rg Ieee.single 8388608) : Int) else (vl Ieee.single (rg Ieee.single 8388608) : Int)) = _
          have n1 : ng Ieee.single 8388608 = false := by decide
          have n2 : rg Ieee.single 8388608 = 8388608 := by decide
          rw [n1, n2]; simp
        rw [this]
      rw [order_fin f1 c1, v1, v2, compare_mul _ _ (two_pos _), lt_iff]
      have := vl_lt_iff Ieee.single (r := rg Ieee.single x) (s := 8388608)
      rw [decide_eq_decide]
      omega
    · obtain ⟨w1, _⟩ := wide_inf h1
      obtain ⟨c1, _, _⟩ := wide_fin (b := 8388608) (by decide)
      have f1 : infW .f64 (wideW x % Ieee.double.signWeight) = true := by
        show decide (rg Ieee.double (wideW x % Ieee.double.signWeight) = Ieee.double.infRung) = true
        rw [rg_abs]; exact w1
      have e : FloatKind.f64.format.order (wideW x % Ieee.double.signWeight) (wideW 8388608) = some .gt := by
        show (FloatKind.f64.decode _).order (FloatKind.f64.decode _) = _
        rw [decode_inf f1, decode_fin c1]
        show some (if ng Ieee.double (wideW x % Ieee.double.signWeight) then Ordering.lt else Ordering.gt) = _
        rw [ng_abs]; rfl
      rw [e]
      have : rg Ieee.single x = Ieee.single.infRung := of_decide_eq_true h1
      rw [this]
      decide
    · rw [hn] at h1; cases h1

/-! ## Flushing -/

/-- A zero of the word's sign for what is nearer to 0 than the least normal number. -/
def flushW (b : Nat) : Nat := if rg Ieee.single b < 8388608 then Ieee.single.word (ng Ieee.single b) 0 else b
def flushA (X : Option Nat) : Option Nat := X.map flushW

theorem sign_part {x n : Nat} (h : x < 2 * 2 ^ n) : x &&& 2 ^ n = x / 2 ^ n * 2 ^ n := by
  have hp := Nat.two_pow_pos n
  have h1 : x / 2 ^ n < 2 := by rw [Nat.div_lt_iff_lt_mul hp]; exact h
  have h2 := Nat.div_add_mod x (2 ^ n)
  have h3 := Nat.mod_lt x hp
  have key : ∀ q r, r < 2 ^ n → q < 2 → (2 ^ n * q + r) &&& 2 ^ n = q * 2 ^ n := by
    intro q r hr hq
    apply Nat.eq_of_testBit_eq
    intro i
    rw [Nat.testBit_and, Nat.testBit_two_pow, Nat.testBit_two_pow_mul_add q hr, Nat.testBit_mul_two_pow]
    by_cases hi : n = i
    · subst hi
      simp
    · by_cases h4 : i < n
      · have h5 : ¬ n ≤ i := by omega
        simp [hi, h5]
      · have h5 : n ≤ i := by omega
        have h6 : 1 ≤ i - n := by omega
        have h7 : q.testBit (i - n) = false := Nat.testBit_lt_two_pow (Nat.lt_of_lt_of_le hq (by
          calc 2 = 2 ^ 1 := rfl
            _ ≤ 2 ^ (i - n) := Nat.pow_le_pow_right (by omega) h6))
        simp [h4, h7]
  have h4 := key (x / 2 ^ n) (x % 2 ^ n) h3 h1
  rw [h2] at h4
  exact h4

theorem sign_word {f : Format} {b n : Nat} (hn : f.signWeight = 2 ^ n) (h : b < 2 * 2 ^ n) : f.word (ng f b) 0 = b / 2 ^ n * 2 ^ n := by
  have h1 : b / 2 ^ n < 2 := by rw [Nat.div_lt_iff_lt_mul (Nat.two_pow_pos n)]; exact h
  unfold Format.word ng
  rw [hn]
  have : b / 2 ^ n = 0 ∨ b / 2 ^ n = 1 := (show ∀ q : Nat, q < 2 → q = 0 ∨ q = 1 by omega) _ h1
  rcases this with e | e <;> rw [e] <;> simp

theorem i64_and_sign {b : Nat} (h : b < 4294967296) : bits .and .i64 (b : Int) 2147483648 = (Ieee.single.word (ng Ieee.single b) 0 : Nat) := by
  have e := bits_nat .i64 32 (by decide) (fun n h0 h1 => by rw [IntKind.wrap_i64]; omega) b 2147483648 h (by decide)
  have e1 : b &&& 2147483648 = b / 2147483648 * 2147483648 := sign_part (n := 31) h
  have e2 : Ieee.single.word (ng Ieee.single b) 0 = b / 2147483648 * 2147483648 := sign_word (n := 31) (by decide) h
  rw [e2, ← e1]
  exact e.1

theorem copy_sign {y : Nat} (h : y < 18446744073709551616) :
    (bits .or .u64 (bits .andNot .u64 ((0 : Nat) : Int) ((9223372036854775808 : Nat) : Int)) (bits .and .u64 (y : Int) ((9223372036854775808 : Nat) : Int))).toNat = Ieee.double.word (ng Ieee.double y) 0 := by
  have e1 := u64_andNot_nat 0 9223372036854775808 (by decide) (by decide)
  have e2 := u64_and_nat y 9223372036854775808 h (by decide)
  have e3 : y &&& 9223372036854775808 = y / 9223372036854775808 * 9223372036854775808 := sign_part (n := 63) h
  have e4 : Ieee.double.word (ng Ieee.double y) 0 = y / 9223372036854775808 * 9223372036854775808 := sign_word (n := 63) (by decide) h
  have hlt : y / 9223372036854775808 * 9223372036854775808 < 18446744073709551616 := by omega
  rw [e1, e2, e3, e4, Nat.zero_and]
  have e5 := u64_or_nat 0 (y / 9223372036854775808 * 9223372036854775808) (by decide) hlt
  rw [e5, Nat.zero_or, Int.toNat_natCast]

theorem narrow_zero (s : Bool) : FloatKind.f32.encode (FloatKind.f64.decode (Ieee.double.word s 0)) = Ieee.single.word s 0 := by
  cases s <;> decide +kernel

theorem zero_fits (s : Bool) : tooGreat (Ieee.double.word s 0) = false := by cases s <;> decide +kernel

theorem zero32 (s : Bool) : Ab .f32 (Ieee.single.word s 0) (some (Ieee.single.word s 0)) := by cases s <;> exact Ab.lit (by decide) (by decide)
theorem zero64 (s : Bool) : Ab .f64 (Ieee.double.word s 0) (some (Ieee.double.word s 0)) := by cases s <;> exact Ab.lit (by decide) (by decide)

end Go.Proofs.Ytoimjjagkfgogaa
