/- Walks: easts that are brought back; the law of WrapEast. No conditions. -/
import Derived.Test.YtnkogheibofboaaFh
import Derived.Test.YtnkogheibofboaaWo
namespace Go.Proofs.Ytnkogheibofboaa
open Go.RowKit
set_option maxRecDepth 8000

def floorA (X : Option Nat) : Option Nat := narrowA (integralA .down (wideA X))
def backA (X : Option Nat) : Option Nat := opA .sub .f32 X (floorA (opA .add .f32 X (some 1056964608)))
def wrapA (X : Option Nat) : Option Nat := if cmpA .geq .f32 (backA X) (some 1056964608) = true then some 3204448256 else backA X

theorem fits_half {x : Nat} {X : Option Nat} (hx : Ab .f32 x X) (w : World) : Fits (integralA .down (wideA (opA .add .f32 X (some 1056964608)))) := by
  obtain ⟨r, n, hr, hb⟩ := run_farith (P := Try.prog) w (op := .add) rfl 0 .f32 x 1056964608
  exact fits_floor (hb _ _ hx (Ab.lit (by decide) (by decide)))

set_option maxHeartbeats 1000000 in
theorem spec_wrap (x : Nat) (X : Option Nat) (hx : Ab .f32 x X) (w : World) : Calls Try.prog 95 #[.float .f32 x] w (Turns (wrapA X) w) := by
  have hF := fits_half hx w
  unfold wrapA
  cases c : cmpA .geq .f32 (backA X) (some 1056964608)
  all_goals
    unfold backA floorA at c
    go_enter Try.func95, Try.ntmps95
    go_wp2_with (first | (refine fl_arith rfl _ _ _ _ _ rfl rfl _ _ _ rfl rfl ?_; intro r n hr0; have hr := hr0 _ _ (by first | assumption | exact Ab.lit rfl (by decide)) (by first | assumption | exact Ab.lit rfl (by decide)); clear hr0) | (refine fl_cmp rfl _ _ _ _ _ rfl rfl _ _ _ rfl rfl ?_; intro b hb0; have hb := hb0 _ _ (by first | assumption | exact Ab.lit rfl (by decide)) (by first | assumption | exact Ab.lit rfl (by decide)); clear hb0; (try simp only [*] at hb); subst hb) | (refine fl_same rfl _ _ _ rfl _ _ rfl rfl rfl ?_) | (refine fl_wide rfl _ _ _ rfl _ rfl rfl rfl ?_; intro r n hr0; have hr := hr0 _ (by first | assumption | exact Ab.lit rfl (by decide)); clear hr0) | (refine fl_narrow rfl _ _ _ rfl _ rfl rfl rfl ?_; intro r n hl hr0; have hr := hr0 _ (by first | assumption | exact Ab.lit rfl (by decide)) (by assumption); clear hr0 hl) | (refine fl_neg rfl _ _ rfl _ _ rfl ?_; intro r hr0; have hr := hr0 _ (by first | assumption | exact Ab.lit rfl (by decide)); clear hr0) | (refine fl_integral rfl 91 _ _ rfl _ rfl _ _ ext_floor ?_; intro r n hr0; have hr := hr0 _ (by first | assumption | exact Ab.lit rfl (by decide)); clear hr0) | go_in)
    go_ret
    exact ⟨_, _, rfl, by first | assumption | exact Ab.lit (by decide) (by decide), rfl⟩

set_option maxHeartbeats 1000000 in
theorem impl_wrap (x : Nat) (X : Option Nat) (hx : Ab .f32 x X) (w : World) : Calls Try.prog 63 #[.float .f32 x] w (Turns (wrapA X) w) := by
  have hF := fits_half hx w
  unfold wrapA
  cases c : cmpA .geq .f32 (backA X) (some 1056964608)
  all_goals
    unfold backA floorA at c
    go_enter Try.func63, Try.ntmps63
    go_wp2_with (first | (refine fl_arith rfl _ _ _ _ _ rfl rfl _ _ _ rfl rfl ?_; intro r n hr0; have hr := hr0 _ _ (by first | assumption | exact Ab.lit rfl (by decide)) (by first | assumption | exact Ab.lit rfl (by decide)); clear hr0) | (refine fl_cmp rfl _ _ _ _ _ rfl rfl _ _ _ rfl rfl ?_; intro b hb0; have hb := hb0 _ _ (by first | assumption | exact Ab.lit rfl (by decide)) (by first | assumption | exact Ab.lit rfl (by decide)); clear hb0; (try simp only [*] at hb); subst hb) | (refine fl_same rfl _ _ _ rfl _ _ rfl rfl rfl ?_) | (refine fl_wide rfl _ _ _ rfl _ rfl rfl rfl ?_; intro r n hr0; have hr := hr0 _ (by first | assumption | exact Ab.lit rfl (by decide)); clear hr0) | (refine fl_narrow rfl _ _ _ rfl _ rfl rfl rfl ?_; intro r n hl hr0; have hr := hr0 _ (by first | assumption | exact Ab.lit rfl (by decide)) (by assumption); clear hr0 hl) | (refine fl_neg rfl _ _ rfl _ _ rfl ?_; intro r hr0; have hr := hr0 _ (by first | assumption | exact Ab.lit rfl (by decide)); clear hr0) | (refine fl_integral rfl 91 _ _ rfl _ rfl _ _ ext_floor ?_; intro r n hr0; have hr := hr0 _ (by first | assumption | exact Ab.lit rfl (by decide)); clear hr0) | go_in)
    go_ret
    exact ⟨_, _, rfl, by first | assumption | exact Ab.lit (by decide) (by decide), rfl⟩

/-! Within 1000 turns all of it is finite. -/
theorem lp32 : FloatKind.f32.format.leastPlace = -149 := by decide
theorem add_some {k : FloatKind} {a b : Nat} (ha : finW k a = true) (hb : finW k b = true) : ∃ r, opA .add k (some a) (some b) = some r := by
  obtain ⟨s, m, e, h, _⟩ := add_word ha hb
  exact ⟨_, h⟩
theorem sub_some {k : FloatKind} {a b : Nat} (hl : b < 2 ^ k.format.width) (ha : finW k a = true) (hb : finW k b = true) : ∃ r, opA .sub k (some a) (some b) = some r := by
  obtain ⟨s, m, e, h, _⟩ := sub_word hl ha hb
  exact ⟨_, h⟩

theorem top_floor {y : Nat} (h : Top .f64 11 (some y)) : Top .f64 11 (integralA .down (some y)) := by
  intro b hb
  obtain ⟨h1, h2⟩ := h y rfl
  obtain ⟨M, q1, q2⟩ := floor_part h1
  have e : integralA .down (some y) = some (FloatKind.f64.format.nearest (ng FloatKind.f64.format y) M 0) := by
    show some (FloatKind.f64.encode ((FloatKind.f64.decode y).integral .down)) = _
    rw [q1]; rfl
  rw [e] at hb
  cases hb
  have e0 : ((0 : Int) - FloatKind.f64.format.leastPlace).toNat = u64 := by rw [lpu]; omega
  have e1 : ((11 : Int) - FloatKind.f64.format.leastPlace).toNat = 11 + u64 := by rw [lpu]; omega
  refine top_of_rg (near_le .f64 _ (by rw [lp64]; omega) ?_) (by rw [em64]; omega) (by rw [ex64]; omega)
  rw [p2_vl .f64 (by rw [show FloatKind.f64.format.leastPlace + FloatKind.f64.format.fractionBits = -1022 from em64]; omega), e0, e1]
  rw [e1] at h2
  rw [Nat.pow_add] at h2 ⊢
  generalize 2 ^ u64 = B at *
  have : M * B < (2 ^ 11 + 1) * B := by rw [Nat.add_mul, Nat.one_mul]; omega
  exact Nat.mul_le_mul_right _ (Nat.le_of_lt_succ (Nat.lt_of_mul_lt_mul_right this))

theorem inf_words' {b : Nat} (h : infW .f32 b = true) (hb : b < 2 ^ 32) : b = 2139095040 ∨ b = 4286578688 := by
  have h' : rg FloatKind.f32.format b = FloatKind.f32.format.infRung := by simpa [infW] using h
  have e1 : FloatKind.f32.format.infRung = 2139095040 := by decide +kernel
  have e2 : rg FloatKind.f32.format b = b % 2147483648 := rfl
  omega

theorem near_fin {x : Nat} {X : Option Nat} (hx : Ab .f32 x X) (c1 : cmpA .geq .f32 X (some 3296329728) = true) (c2 : cmpA .leq .f32 X (some 1148846080) = true) : X = some x ∧ finW .f32 x = true ∧ Top .f32 10 X := by
  cases X with
  | none => cases c1
  | some b =>
    obtain ⟨rfl, hn⟩ := hx.of_some
    have l1 : finW .f32 3296329728 = true := by decide
    have l2 : finW .f32 1148846080 = true := by decide
    have hf : finW .f32 x = true := by
      rcases kinds .f32 x with ⟨h1, _, _⟩ | ⟨_, h1, _⟩ | ⟨_, _, h1⟩
      · exact h1
      · rcases inf_words' h1 hx.lt with rfl | rfl
        · exact absurd c2 (by decide +kernel)
        · exact absurd c1 (by decide +kernel)
      · rw [hn] at h1; cases h1
    refine ⟨rfl, hf, fun b hb => ?_⟩
    cases hb
    refine ⟨hf, ?_⟩
    have k1 : cmpA .geq .f32 (some x) (some 3296329728) = decide (V .f32 3296329728 ≤ V .f32 x) := by
      show (FloatKind.f32.format.order _ _ == some .gt || FloatKind.f32.format.order _ _ == some .eq) = _
      rw [order_fin hf l1, geq_iff]
    have k2 : cmpA .leq .f32 (some x) (some 1148846080) = decide (V .f32 x ≤ V .f32 1148846080) := by
      show (FloatKind.f32.format.order _ _ == some .lt || FloatKind.f32.format.order _ _ == some .eq) = _
      rw [order_fin hf l2, leq_iff]
    rw [k1] at c1
    rw [k2] at c2
    have d1 := of_decide_eq_true c1
    have d2 := of_decide_eq_true c2
    have ha := V_abs .f32 x
    have v1 : -((2 ^ (10 - FloatKind.f32.format.leastPlace).toNat : Nat) : Int) ≤ V .f32 3296329728 := by decide +kernel
    have v2 : V .f32 1148846080 ≤ ((2 ^ (10 - FloatKind.f32.format.leastPlace).toNat : Nat) : Int) := by decide +kernel
    generalize 2 ^ (10 - FloatKind.f32.format.leastPlace).toNat = B at *
    omega

theorem wrap_fin {x : Nat} {X : Option Nat} (hx : Ab .f32 x X) (c1 : cmpA .geq .f32 X (some 3296329728) = true) (c2 : cmpA .leq .f32 X (some 1148846080) = true) : finA .f32 (wrapA X) = true := by
  obtain ⟨rfl, hf, ht⟩ := near_fin hx c1 c2
  have e1 := lp32
  have e2 := em32
  have e3 : emax .f32 = 127 := rfl
  have hh : finW .f32 1056964608 = true := by decide
  have th : Top .f32 0 (some 1056964608) := fun b hb => by cases hb; exact ⟨by decide, by decide +kernel⟩
  obtain ⟨a, ha⟩ := add_some hf hh
  have ta : Top .f32 11 (some a) := by
    rw [← ha]
    exact (top_add ht (th.mono (show (0 : Int) ≤ 10 by omega)) (by omega) (by omega)).mono (show (10 : Int) + 1 ≤ 11 by omega)
  have tw : Top .f64 11 (some (wideW a)) := top_wide ta (by omega)
  have tf := top_floor tw
  have tn := (fits_top tf (by omega) (by omega)).2
  obtain ⟨f, hfl⟩ : ∃ f, floorA (some a) = some f := ⟨_, rfl⟩
  have tfl : Top .f32 11 (some f) := by rw [← hfl]; exact tn
  have of : Ok .f32 (some f) := by
    rw [← hfl]
    exact Ok.narrow fun r hr => by
      have hr' : integralA .down (some (wideW a)) = some r := hr
      have := (tf r hr').1
      refine ⟨fin_nan this, ?_⟩
      cases hr'
      exact encode_lt _ _
  have eb : backA (some x) = opA .sub .f32 (some x) (some f) := by unfold backA; rw [ha, hfl]
  obtain ⟨r, hr⟩ := sub_some (of f rfl).2 hf (tfl f rfl).1
  have tr := top_sub of (ht.mono (show (10 : Int) ≤ 11 by omega)) tfl (by omega) (by omega)
  rw [hr] at tr
  have fr := (tr r rfl).1
  unfold wrapA
  rw [eb, hr]
  split
  · rw [finA_some (by decide)]; decide
  · rw [finA_some (fin_nan fr)]; exact fr

end Go.Proofs.Ytnkogheibofboaa
