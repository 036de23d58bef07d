/- Walks: logarithms of positive numbers, on both sides. No conditions. -/
import Derived.Test.YtecdnpmafmfobaaWg2
import Derived.Test.YtecdnpmafmfobaaFp
import Derived.Test.YtecdnpmafmfobaaWm
namespace Go.Proofs.Ytecdnpmafmfobaa
open Go.RowKit
set_option maxRecDepth 8000

/-- A word that is positive: the facts that both sides ask. -/
theorem log_facts {x : Nat} (_hx : Ab .f32 x (some x)) (c1 : cmpA .eql .f32 (some x) (some 0) = false) (c2 : cmpA .lss .f32 (some x) (some 0) = false) (hf : finW .f32 x = true) :
    Mid (-149) 128 (some (wideW x)) ∧ cmpA .gtr .f64 (some (wideW x)) (some 9218868437227405311) = false := by
  have o := order_fin hf (fin_zero .f32)
  rw [V_zero] at o
  have k1 : (FloatKind.f32.format.order x 0 == some .eq) = false := c1
  have k2 : (FloatKind.f32.format.order x 0 == some .lt) = false := c2
  rw [o, lt_iff] at k2
  rw [o, show (some (compare (V .f32 x) 0) == some Ordering.eq) = decide (V .f32 x = 0) by
    rw [Bool.eq_iff_iff]; simp] at k1
  have h1 := of_decide_eq_false k1
  have h2 := of_decide_eq_false k2
  have hs : ng FloatKind.f32.format x = false := by
    cases h : ng FloatKind.f32.format x with
    | false => rfl
    | true =>
      unfold V at h2 h1
      rw [h] at h2 h1
      simp at h1 h2
      omega
  have h0 : rg FloatKind.f32.format x ≠ 0 := fun h => by
    have := V_abs .f32 x
    rw [h, vl_zero] at this
    omega
  refine ⟨mid_of hf hs h0, ?_⟩
  obtain ⟨g1, _, g3⟩ := wide_fin hf
  show (FloatKind.f64.format.order _ _ == some .gt) = false
  have m1 : finW .f64 9218868437227405311 = true := by decide +kernel
  have m2 : ng FloatKind.f64.format 9218868437227405311 = false := by decide +kernel
  have m3 : rg FloatKind.f64.format 9218868437227405311 + 1 = FloatKind.f64.format.infRung := by decide +kernel
  rw [order_fin g1 m1, show ∀ a b : Int, (some (compare a b) == some Ordering.gt) = decide (b < a) from fun a b => by rw [Bool.eq_iff_iff]; simp [Int.compare_eq_gt]]
  refine decide_eq_false ?_
  rw [V_pos (k := .f64) (b := wideW x) (g3.trans hs), V_pos m2]
  have hlt : rg FloatKind.f64.format (wideW x) < FloatKind.f64.format.infRung := of_decide_eq_true g1
  have := vl_mono FloatKind.f64.format (show rg FloatKind.f64.format (wideW x) ≤ rg FloatKind.f64.format 9218868437227405311 by omega)
  omega

/-- What is no number, no zero, not below 0 and not finite is the positive infinity. -/
theorem log_inf {x : Nat} (hx : Ab .f32 x (some x)) (c2 : cmpA .lss .f32 (some x) (some 0) = false) (hf : finW .f32 x = false) : x = 2139095040 := by
  have hn := hx.of_some.2
  have hl := hx.lt
  rcases kinds .f32 x with ⟨h, _, _⟩ | ⟨_, h, _⟩ | ⟨_, _, h⟩
  · rw [hf] at h; cases h
  · have hr : rg FloatKind.f32.format x = FloatKind.f32.format.infRung := of_decide_eq_true h
    have hi : FloatKind.f32.format.infRung = 2139095040 := by decide +kernel
    have hw : x < 2 ^ 32 := hl
    have hrg : rg FloatKind.f32.format x = x % 2 ^ 31 := by
      show x % FloatKind.f32.format.signWeight = _
      rw [show FloatKind.f32.format.signWeight = 2 ^ 31 by decide +kernel]
    rw [hrg, hi] at hr
    have : x = 2139095040 ∨ x = 4286578688 := by omega
    rcases this with h | rfl
    · exact h
    · have : cmpA .lss .f32 (some 4286578688) (some 0) = true := by decide +kernel
      rw [this] at c2; cases c2
  · rw [hn] at h; cases h


set_option maxHeartbeats 1000000 in
theorem log_pos (x : Nat) (hx : Ab .f32 x (some x)) (c1 : cmpA .eql .f32 (some x) (some 0) = false) (c2 : cmpA .lss .f32 (some x) (some 0) = false) (hf : finW .f32 x = true) :
    ∃ L, Num 10 L ∧ (∀ w, Calls Try.prog 40 #[.float .f64 (wideW x)] w (Turns64 L w)) ∧ (∀ w, Calls Try.prog 27 #[.float .f32 x] w (Turns64 L w)) := by
  obtain ⟨hm, f4⟩ := log_facts hx c1 c2 hf
  have hn := hx.of_some.2
  obtain ⟨a, b, hS⟩ := stops hm
  have hy : Ab .f64 (wideW x) (some (wideW x)) := Ab.lit (wide_not_nan hn).1 (encode_lt _ _)
  have e1 : cmpA .neq .f64 (some (wideW x)) (some (wideW x)) = false := by rw [neq_self hy]; rfl
  have e2 : cmpA .lss .f64 (some (wideW x)) (some 0) = false := (cmp_wide rfl hx).trans c2
  have e3 : cmpA .eql .f64 (some (wideW x)) (some 0) = false := (cmp_wide rfl hx).trans c1
  have la := hS.la
  have lb := hS.lb
  exact ⟨_, num_log hS.mid hS.le (e := (a : Int) - b) (by omega) (by omega), fun w => spec_log_main (wideW x) _ hy a b hS e1 e2 e3 f4 w, fun w => impl_log_main x (some x) _ hx rfl a b hS w⟩

end Go.Proofs.Ytecdnpmafmfobaa
