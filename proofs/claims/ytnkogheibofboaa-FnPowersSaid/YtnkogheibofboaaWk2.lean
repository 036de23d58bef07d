/- Walks: logarithms of any number, on both sides. No conditions. -/
import Derived.Test.YtnkogheibofboaaWg2
import Derived.Test.YtnkogheibofboaaFp
import Derived.Test.YtnkogheibofboaaWm
namespace Go.Proofs.Ytnkogheibofboaa
open Go.RowKit
set_option maxRecDepth 8000

/-- A word that is positive: the facts that both sides ask. -/
theorem log_facts {x : Nat} (_hx : Ab .f32 x (some x)) (c1 : cmpA .eql .f32 (some x) (some 0) = false) (c2 : cmpA .lss .f32 (some x) (some 0) = false) (hf : finW .f32 x = true) :
    Mid (-149) 128 (some (wideW x)) ∧ cmpA .gtr .f64 (some (wideW x)) (some 9218868437227405311) = false := by
  have o := order_fin hf (fin_zero .f32)
  rw [V_zero] at o
  have k1 : (FloatKind.f32.format.order x 0 == some .eq) = false := c1
  have k2 : (FloatKind.f32.format.order x 0 == some .lt) = false := c2
  rw [o, lt_iff] at k2
  rw [o, show (some (compare (V .f32 x) 0) == some Ordering.eq) = decide (V .f32 x = 0) by
    rw [Bool.eq_iff_iff]; simp] at k1
  have h1 := of_decide_eq_false k1
  have h2 := of_decide_eq_false k2
  have hs : ng FloatKind.f32.format x = false := by
    cases h : ng FloatKind.f32.format x with
    | false => rfl
    | true =>
      unfold V at h2 h1
      rw [h] at h2 h1
      simp at h1 h2
      omega
  have h0 : rg FloatKind.f32.format x ≠ 0 := fun h => by
    have := V_abs .f32 x
    rw [h, vl_zero] at this
    omega
  refine ⟨mid_of hf hs h0, ?_⟩
  obtain ⟨g1, _, g3⟩ := wide_fin hf
  show (FloatKind.f64.format.order _ _ == some .gt) = false
  have m1 : finW .f64 9218868437227405311 = true := by decide +kernel
  have m2 : ng FloatKind.f64.format 9218868437227405311 = false := by decide +kernel
  have m3 : rg FloatKind.f64.format 9218868437227405311 + 1 = FloatKind.f64.format.infRung := by decide +kernel
  rw [order_fin g1 m1, show ∀ a b : Int, (some (compare a b) == some Ordering.gt) = decide (b < a) from fun a b => by rw [Bool.eq_iff_iff]; simp [Int.compare_eq_gt]]
  refine decide_eq_false ?_
  rw [V_pos (k := .f64) (b := wideW x) (g3.trans hs), V_pos m2]
  have hlt : rg FloatKind.f64.format (wideW x) < FloatKind.f64.format.infRung := of_decide_eq_true g1
  have := vl_mono FloatKind.f64.format (show rg FloatKind.f64.format (wideW x) ≤ rg FloatKind.f64.format 9218868437227405311 by omega)
  omega

/-- What is no number, no zero, not below 0 and not finite is the positive infinity. -/
theorem log_inf {x : Nat} (hx : Ab .f32 x (some x)) (c2 : cmpA .lss .f32 (some x) (some 0) = false) (hf : finW .f32 x = false) : x = 2139095040 := by
  have hn := hx.of_some.2
  have hl := hx.lt
  rcases kinds .f32 x with ⟨h, _, _⟩ | ⟨_, h, _⟩ | ⟨_, _, h⟩
  · rw [hf] at h; cases h
  · have hr : rg FloatKind.f32.format x = FloatKind.f32.format.infRung := of_decide_eq_true h
    have hi : FloatKind.f32.format.infRung = 2139095040 := by decide +kernel
    have hw : x < 2 ^ 32 := hl
    have hrg : rg FloatKind.f32.format x = x % 2 ^ 31 := by
      show x % FloatKind.f32.format.signWeight = _
      rw [show FloatKind.f32.format.signWeight = 2 ^ 31 by decide +kernel]
    rw [hrg, hi] at hr
    have : x = 2139095040 ∨ x = 4286578688 := by omega
    rcases this with h | rfl
    · exact h
    · have : cmpA .lss .f32 (some 4286578688) (some 0) = true := by decide +kernel
      rw [this] at c2; cases c2
  · rw [hn] at h; cases h


set_option maxHeartbeats 1000000 in
theorem log_nan (x : Nat) (w : World) (hx : Ab .f32 x none) : Calls Try.prog 49 #[.float .f32 x] w (Turns none w) ∧ Calls Try.prog 16 #[.float .f32 x] w (Turns none w) := by
  have e1 : cmpA .neq .f32 none none = true := rfl
  have e2 : cmpA .eql .f32 none (some 0) = false := rfl
  have e3 : cmpA .lss .f32 none (some 0) = false := rfl
  have e4 : cmpA .neq .f64 (wideA none) (wideA none) = true := rfl
  have hnan := ab_nan
  have hfn := fits_none
  constructor
  · go_enter Try.func49, Try.ntmps49
    go_wp2_with (first | (refine fl_arith rfl _ _ _ _ _ rfl rfl _ _ _ rfl rfl ?_; intro r n hr0; have hr := hr0 _ _ (by first | assumption | exact Ab.lit rfl (by decide)) (by first | assumption | exact Ab.lit rfl (by decide)); clear hr0) | (refine fl_cmp rfl _ _ _ _ _ rfl rfl _ _ _ rfl rfl ?_; intro b hb0; have hb := hb0 _ _ (by first | assumption | exact Ab.lit rfl (by decide)) (by first | assumption | exact Ab.lit rfl (by decide)); clear hb0; (try simp only [*] at hb); subst hb) | (refine fl_same rfl _ _ _ rfl _ _ rfl rfl rfl ?_) | (refine fl_wide rfl _ _ _ rfl _ rfl rfl rfl ?_; intro r n hr0; have hr := hr0 _ (by first | assumption | exact Ab.lit rfl (by decide)); clear hr0) | (refine fl_narrow rfl _ _ _ rfl _ rfl rfl rfl ?_; intro r n hl hr0; have hr := hr0 _ (by first | assumption | exact Ab.lit rfl (by decide)) (by assumption); clear hr0 hl) | (refine fl_neg rfl _ _ rfl _ _ rfl ?_; intro r hr0; have hr := hr0 _ (by first | assumption | exact Ab.lit rfl (by decide)); clear hr0) | go_in)
    go_ret
    exact ⟨_, _, rfl, hr, rfl⟩
  · go_enter Try.func16, Try.ntmps16
    go_wp2_with (first | (refine fl_arith rfl _ _ _ _ _ rfl rfl _ _ _ rfl rfl ?_; intro r n hr0; have hr := hr0 _ _ (by first | assumption | exact Ab.lit rfl (by decide)) (by first | assumption | exact Ab.lit rfl (by decide)); clear hr0) | (refine fl_cmp rfl _ _ _ _ _ rfl rfl _ _ _ rfl rfl ?_; intro b hb0; have hb := hb0 _ _ (by first | assumption | exact Ab.lit rfl (by decide)) (by first | assumption | exact Ab.lit rfl (by decide)); clear hb0; (try simp only [*] at hb); subst hb) | (refine fl_same rfl _ _ _ rfl _ _ rfl rfl rfl ?_) | (refine fl_wide rfl _ _ _ rfl _ rfl rfl rfl ?_; intro r n hr0; have hr := hr0 _ (by first | assumption | exact Ab.lit rfl (by decide)); clear hr0) | (refine fl_narrow rfl _ _ _ rfl _ rfl rfl rfl ?_; intro r n hl hr0; have hr := hr0 _ (by first | assumption | exact Ab.lit rfl (by decide)) (by assumption); clear hr0 hl) | (refine fl_neg rfl _ _ rfl _ _ rfl ?_; intro r hr0; have hr := hr0 _ (by first | assumption | exact Ab.lit rfl (by decide)); clear hr0) | go_in)
    go_ret
    exact ⟨_, _, rfl, hr, rfl⟩

theorem ab_minf : Ab .f64 18442240474082181120 (some 18442240474082181120) := Ab.lit (by decide) (by decide)
theorem fits_minf : Fits (some 18442240474082181120) := fits_of_fin fun b hb => by cases hb; exact .inl (by decide +kernel)
theorem fits_pinf : Fits (some 9218868437227405312) := fits_of_fin fun b hb => by cases hb; exact .inl (by decide +kernel)

set_option maxHeartbeats 1000000 in
theorem log_zero (x : Nat) (w : World) (hx : Ab .f32 x (some x)) (c : cmpA .eql .f32 (some x) (some 0) = true) : Calls Try.prog 49 #[.float .f32 x] w (Turns (some 4286578688) w) ∧ Calls Try.prog 16 #[.float .f32 x] w (Turns (some 4286578688) w) := by
  have hn : narrowA (some 18442240474082181120) = some 4286578688 := by decide +kernel
  have e4 : cmpA .neq .f64 (wideA (some x)) (wideA (some x)) = false := by rw [wideA_some, neq_self (Ab.lit (wide_not_nan hx.of_some.2).1 (encode_lt _ _))]; rfl
  have e5 : cmpA .eql .f64 (wideA (some x)) (some 0) = true := by rw [cmp_wide rfl hx]; exact c
  have e6 : cmpA .lss .f64 (wideA (some x)) (some 0) = false := by
    rw [cmp_wide rfl hx]
    have k : (FloatKind.f32.format.order x 0 == some .eq) = true := c
    show (FloatKind.f32.format.order x 0 == some .lt) = false
    revert k
    cases FloatKind.f32.format.order x 0 with
    | none => decide
    | some o => cases o <;> decide
  have hm := ab_minf
  have hfn := fits_minf
  constructor
  · go_enter Try.func49, Try.ntmps49
    go_wp2_with (first | (refine fl_arith rfl _ _ _ _ _ rfl rfl _ _ _ rfl rfl ?_; intro r n hr0; have hr := hr0 _ _ (by first | assumption | exact Ab.lit rfl (by decide)) (by first | assumption | exact Ab.lit rfl (by decide)); clear hr0) | (refine fl_cmp rfl _ _ _ _ _ rfl rfl _ _ _ rfl rfl ?_; intro b hb0; have hb := hb0 _ _ (by first | assumption | exact Ab.lit rfl (by decide)) (by first | assumption | exact Ab.lit rfl (by decide)); clear hb0; (try simp only [*] at hb); subst hb) | (refine fl_same rfl _ _ _ rfl _ _ rfl rfl rfl ?_) | (refine fl_wide rfl _ _ _ rfl _ rfl rfl rfl ?_; intro r n hr0; have hr := hr0 _ (by first | assumption | exact Ab.lit rfl (by decide)); clear hr0) | (refine fl_narrow rfl _ _ _ rfl _ rfl rfl rfl ?_; intro r n hl hr0; have hr := hr0 _ (by first | assumption | exact Ab.lit rfl (by decide)) (by assumption); clear hr0 hl) | (refine fl_neg rfl _ _ rfl _ _ rfl ?_; intro r hr0; have hr := hr0 _ (by first | assumption | exact Ab.lit rfl (by decide)); clear hr0) | go_in)
    go_ret
    exact ⟨_, _, rfl, by rw [← hn]; exact hr, rfl⟩
  · go_enter Try.func16, Try.ntmps16
    go_wp2_with (first | (refine fl_arith rfl _ _ _ _ _ rfl rfl _ _ _ rfl rfl ?_; intro r n hr0; have hr := hr0 _ _ (by first | assumption | exact Ab.lit rfl (by decide)) (by first | assumption | exact Ab.lit rfl (by decide)); clear hr0) | (refine fl_cmp rfl _ _ _ _ _ rfl rfl _ _ _ rfl rfl ?_; intro b hb0; have hb := hb0 _ _ (by first | assumption | exact Ab.lit rfl (by decide)) (by first | assumption | exact Ab.lit rfl (by decide)); clear hb0; (try simp only [*] at hb); subst hb) | (refine fl_same rfl _ _ _ rfl _ _ rfl rfl rfl ?_) | (refine fl_wide rfl _ _ _ rfl _ rfl rfl rfl ?_; intro r n hr0; have hr := hr0 _ (by first | assumption | exact Ab.lit rfl (by decide)); clear hr0) | (refine fl_narrow rfl _ _ _ rfl _ rfl rfl rfl ?_; intro r n hl hr0; have hr := hr0 _ (by first | assumption | exact Ab.lit rfl (by decide)) (by assumption); clear hr0 hl) | (refine fl_neg rfl _ _ rfl _ _ rfl ?_; intro r hr0; have hr := hr0 _ (by first | assumption | exact Ab.lit rfl (by decide)); clear hr0) | go_in)
    go_ret
    exact ⟨_, _, rfl, by rw [← hn]; exact hr, rfl⟩

set_option maxHeartbeats 1000000 in
theorem log_neg (x : Nat) (w : World) (hx : Ab .f32 x (some x)) (c1 : cmpA .eql .f32 (some x) (some 0) = false) (c2 : cmpA .lss .f32 (some x) (some 0) = true) : Calls Try.prog 49 #[.float .f32 x] w (Turns none w) ∧ Calls Try.prog 16 #[.float .f32 x] w (Turns none w) := by
  have e4 : cmpA .neq .f64 (wideA (some x)) (wideA (some x)) = false := by rw [wideA_some, neq_self (Ab.lit (wide_not_nan hx.of_some.2).1 (encode_lt _ _))]; rfl
  have e6 : cmpA .lss .f64 (wideA (some x)) (some 0) = true := by rw [cmp_wide rfl hx]; exact c2
  have hnan := ab_nan
  have hfn := fits_none
  constructor
  · go_enter Try.func49, Try.ntmps49
    go_wp2_with (first | (refine fl_arith rfl _ _ _ _ _ rfl rfl _ _ _ rfl rfl ?_; intro r n hr0; have hr := hr0 _ _ (by first | assumption | exact Ab.lit rfl (by decide)) (by first | assumption | exact Ab.lit rfl (by decide)); clear hr0) | (refine fl_cmp rfl _ _ _ _ _ rfl rfl _ _ _ rfl rfl ?_; intro b hb0; have hb := hb0 _ _ (by first | assumption | exact Ab.lit rfl (by decide)) (by first | assumption | exact Ab.lit rfl (by decide)); clear hb0; (try simp only [*] at hb); subst hb) | (refine fl_same rfl _ _ _ rfl _ _ rfl rfl rfl ?_) | (refine fl_wide rfl _ _ _ rfl _ rfl rfl rfl ?_; intro r n hr0; have hr := hr0 _ (by first | assumption | exact Ab.lit rfl (by decide)); clear hr0) | (refine fl_narrow rfl _ _ _ rfl _ rfl rfl rfl ?_; intro r n hl hr0; have hr := hr0 _ (by first | assumption | exact Ab.lit rfl (by decide)) (by assumption); clear hr0 hl) | (refine fl_neg rfl _ _ rfl _ _ rfl ?_; intro r hr0; have hr := hr0 _ (by first | assumption | exact Ab.lit rfl (by decide)); clear hr0) | go_in)
    go_ret
    exact ⟨_, _, rfl, hr, rfl⟩
  · go_enter Try.func16, Try.ntmps16
    go_wp2_with (first | (refine fl_arith rfl _ _ _ _ _ rfl rfl _ _ _ rfl rfl ?_; intro r n hr0; have hr := hr0 _ _ (by first | assumption | exact Ab.lit rfl (by decide)) (by first | assumption | exact Ab.lit rfl (by decide)); clear hr0) | (refine fl_cmp rfl _ _ _ _ _ rfl rfl _ _ _ rfl rfl ?_; intro b hb0; have hb := hb0 _ _ (by first | assumption | exact Ab.lit rfl (by decide)) (by first | assumption | exact Ab.lit rfl (by decide)); clear hb0; (try simp only [*] at hb); subst hb) | (refine fl_same rfl _ _ _ rfl _ _ rfl rfl rfl ?_) | (refine fl_wide rfl _ _ _ rfl _ rfl rfl rfl ?_; intro r n hr0; have hr := hr0 _ (by first | assumption | exact Ab.lit rfl (by decide)); clear hr0) | (refine fl_narrow rfl _ _ _ rfl _ rfl rfl rfl ?_; intro r n hl hr0; have hr := hr0 _ (by first | assumption | exact Ab.lit rfl (by decide)) (by assumption); clear hr0 hl) | (refine fl_neg rfl _ _ rfl _ _ rfl ?_; intro r hr0; have hr := hr0 _ (by first | assumption | exact Ab.lit rfl (by decide)); clear hr0) | go_in)
    go_ret
    exact ⟨_, _, rfl, hr, rfl⟩

set_option maxHeartbeats 1000000 in
theorem log_pinf (w : World) : Calls Try.prog 49 #[.float .f32 2139095040] w (Turns (some 2139095040) w) ∧ Calls Try.prog 16 #[.float .f32 2139095040] w (Turns (some 2139095040) w) := by
  have hx : Ab .f32 2139095040 (some 2139095040) := Ab.lit (by decide) (by decide)
  have hw : wideA (some 2139095040) = some 9218868437227405312 := by decide +kernel
  have hn : narrowA (some 9218868437227405312) = some 2139095040 := by decide +kernel
  have e0 : cmpA .eql .f32 (some 2139095040) (some 0) = false := by decide +kernel
  have e1 : cmpA .lss .f32 (some 2139095040) (some 0) = false := by decide +kernel
  have e2 : cmpA .neq .f32 (some 2139095040) (some 2139095040) = false := by decide +kernel
  have e3 : finA .f32 (some 2139095040) = false := by decide +kernel
  have d0 : cmpA .eql .f64 (wideA (some 2139095040)) (some 0) = false := by decide +kernel
  have d1 : cmpA .lss .f64 (wideA (some 2139095040)) (some 0) = false := by decide +kernel
  have d2 : cmpA .neq .f64 (wideA (some 2139095040)) (wideA (some 2139095040)) = false := by decide +kernel
  have d3 : cmpA .gtr .f64 (wideA (some 2139095040)) (some 9218868437227405311) = true := by decide +kernel
  have hfn : Fits (wideA (some 2139095040)) := by rw [hw]; exact fits_pinf
  constructor
  · go_enter Try.func49, Try.ntmps49
    go_wp2_with (first | (refine fl_arith rfl _ _ _ _ _ rfl rfl _ _ _ rfl rfl ?_; intro r n hr0; have hr := hr0 _ _ (by first | assumption | exact Ab.lit rfl (by decide)) (by first | assumption | exact Ab.lit rfl (by decide)); clear hr0) | (refine fl_cmp rfl _ _ _ _ _ rfl rfl _ _ _ rfl rfl ?_; intro b hb0; have hb := hb0 _ _ (by first | assumption | exact Ab.lit rfl (by decide)) (by first | assumption | exact Ab.lit rfl (by decide)); clear hb0; (try simp only [*] at hb); subst hb) | (refine fl_same rfl _ _ _ rfl _ _ rfl rfl rfl ?_) | (refine fl_wide rfl _ _ _ rfl _ rfl rfl rfl ?_; intro r n hr0; have hr := hr0 _ (by first | assumption | exact Ab.lit rfl (by decide)); clear hr0) | (refine fl_narrow rfl _ _ _ rfl _ rfl rfl rfl ?_; intro r n hl hr0; have hr := hr0 _ (by first | assumption | exact Ab.lit rfl (by decide)) (by assumption); clear hr0 hl) | (refine fl_neg rfl _ _ rfl _ _ rfl ?_; intro r hr0; have hr := hr0 _ (by first | assumption | exact Ab.lit rfl (by decide)); clear hr0) | go_in)
    go_ret
    exact ⟨_, _, rfl, by rw [← hn, ← hw]; exact hr, rfl⟩
  · go_enter Try.func16, Try.ntmps16
    go_wp2_with (first | (refine fl_arith rfl _ _ _ _ _ rfl rfl _ _ _ rfl rfl ?_; intro r n hr0; have hr := hr0 _ _ (by first | assumption | exact Ab.lit rfl (by decide)) (by first | assumption | exact Ab.lit rfl (by decide)); clear hr0) | (refine fl_cmp rfl _ _ _ _ _ rfl rfl _ _ _ rfl rfl ?_; intro b hb0; have hb := hb0 _ _ (by first | assumption | exact Ab.lit rfl (by decide)) (by first | assumption | exact Ab.lit rfl (by decide)); clear hb0; (try simp only [*] at hb); subst hb) | (refine fl_same rfl _ _ _ rfl _ _ rfl rfl rfl ?_) | (refine fl_wide rfl _ _ _ rfl _ rfl rfl rfl ?_; intro r n hr0; have hr := hr0 _ (by first | assumption | exact Ab.lit rfl (by decide)); clear hr0) | (refine fl_narrow rfl _ _ _ rfl _ rfl rfl rfl ?_; intro r n hl hr0; have hr := hr0 _ (by first | assumption | exact Ab.lit rfl (by decide)) (by assumption); clear hr0 hl) | (refine fl_neg rfl _ _ rfl _ _ rfl ?_; intro r hr0; have hr := hr0 _ (by first | assumption | exact Ab.lit rfl (by decide)); clear hr0) | (go_at_call 52; (with_reducible_and_instances refine Calls.mono (impl_finite _ _ hx _) ?_); rintro e w' ⟨rfl, n1, rfl⟩) | go_in)
    go_ret
    exact ⟨_, _, rfl, hx, rfl⟩

set_option maxHeartbeats 1000000 in
theorem log_pos (x : Nat) (hx : Ab .f32 x (some x)) (c1 : cmpA .eql .f32 (some x) (some 0) = false) (c2 : cmpA .lss .f32 (some x) (some 0) = false) (hf : finW .f32 x = true) :
    ∃ L, Num 10 L ∧ (∀ w, Calls Try.prog 87 #[.float .f64 (wideW x)] w (Turns64 L w)) ∧ (∀ w, Calls Try.prog 53 #[.float .f32 x] w (Turns64 L w)) := by
  obtain ⟨hm, f4⟩ := log_facts hx c1 c2 hf
  have hn := hx.of_some.2
  obtain ⟨a, b, hS⟩ := stops hm
  have hy : Ab .f64 (wideW x) (some (wideW x)) := Ab.lit (wide_not_nan hn).1 (encode_lt _ _)
  have e1 : cmpA .neq .f64 (some (wideW x)) (some (wideW x)) = false := by rw [neq_self hy]; rfl
  have e2 : cmpA .lss .f64 (some (wideW x)) (some 0) = false := (cmp_wide rfl hx).trans c2
  have e3 : cmpA .eql .f64 (some (wideW x)) (some 0) = false := (cmp_wide rfl hx).trans c1
  have la := hS.la
  have lb := hS.lb
  exact ⟨_, num_log hS.mid hS.le (e := (a : Int) - b) (by omega) (by omega), fun w => spec_log_main (wideW x) _ hy a b hS e1 e2 e3 f4 w, fun w => impl_log_main x (some x) _ hx rfl a b hS w⟩

set_option maxHeartbeats 1000000 in
theorem log_both (x : Nat) (X : Option Nat) (hx : Ab .f32 x X) : ∃ R, ∀ w, Calls Try.prog 49 #[.float .f32 x] w (Turns R w) ∧ Calls Try.prog 16 #[.float .f32 x] w (Turns R w) := by
  cases X with
  | none => exact ⟨none, fun w => log_nan x w hx⟩
  | some b =>
    obtain ⟨rfl, hn⟩ := hx.of_some
    cases c1 : cmpA .eql .f32 (some x) (some 0) with
    | true => exact ⟨_, fun w => log_zero x w hx c1⟩
    | false =>
      cases c2 : cmpA .lss .f32 (some x) (some 0) with
      | true => exact ⟨_, fun w => log_neg x w hx c1 c2⟩
      | false =>
        cases hf : finW .f32 x with
        | false =>
          have e := log_inf hx c2 hf
          subst e
          exact ⟨_, fun w => log_pinf w⟩
        | true =>
          obtain ⟨L, hL, HS0, HI⟩ := log_pos x hx c1 c2 hf
          have hfit : Fits L := (fits_top (hL.top.mono (show (10 : Int) ≤ 100 by omega)) (by omega) (by omega)).1
          have HS : ∀ r, Ab .f64 r (wideA (some x)) → ∀ w', Calls Try.prog 87 #[.float .f64 r] w' (Turns64 L w') := fun r hr w' => by
            have e := (show Ab .f64 r (some (wideW x)) from hr).of_some.1
            subst e
            exact HS0 w'
          have hfa : finA .f32 (some x) = true := by rw [finA_some hn]; exact hf
          have e2 : cmpA .neq .f32 (some x) (some x) = false := by rw [neq_self hx]; rfl
          refine ⟨narrowA L, fun w => ⟨?_, ?_⟩⟩
          · go_enter Try.func49, Try.ntmps49
            go_wp2_with (first | (refine fl_arith rfl _ _ _ _ _ rfl rfl _ _ _ rfl rfl ?_; intro r n hr0; have hr := hr0 _ _ (by first | assumption | exact Ab.lit rfl (by decide)) (by first | assumption | exact Ab.lit rfl (by decide)); clear hr0) | (refine fl_cmp rfl _ _ _ _ _ rfl rfl _ _ _ rfl rfl ?_; intro b hb0; have hb := hb0 _ _ (by first | assumption | exact Ab.lit rfl (by decide)) (by first | assumption | exact Ab.lit rfl (by decide)); clear hb0; (try simp only [*] at hb); subst hb) | (refine fl_same rfl _ _ _ rfl _ _ rfl rfl rfl ?_) | (refine fl_wide rfl _ _ _ rfl _ rfl rfl rfl ?_; intro r n hr0; have hr := hr0 _ (by first | assumption | exact Ab.lit rfl (by decide)); clear hr0) | (refine fl_narrow rfl _ _ _ rfl _ rfl rfl rfl ?_; intro r n hl hr0; have hr := hr0 _ (by first | assumption | exact Ab.lit rfl (by decide)) (by assumption); clear hr0 hl) | (refine fl_neg rfl _ _ rfl _ _ rfl ?_; intro r hr0; have hr := hr0 _ (by first | assumption | exact Ab.lit rfl (by decide)); clear hr0) | (go_at_call 87; refine Calls.mono (HS _ (by assumption) _) ?_; rintro e w' ⟨rs, ms, rfl, hs, rfl⟩) | go_in)
            go_ret
            exact ⟨_, _, rfl, hr, rfl⟩
          · go_enter Try.func16, Try.ntmps16
            go_wp2_with (first | (refine fl_arith rfl _ _ _ _ _ rfl rfl _ _ _ rfl rfl ?_; intro r n hr0; have hr := hr0 _ _ (by first | assumption | exact Ab.lit rfl (by decide)) (by first | assumption | exact Ab.lit rfl (by decide)); clear hr0) | (refine fl_cmp rfl _ _ _ _ _ rfl rfl _ _ _ rfl rfl ?_; intro b hb0; have hb := hb0 _ _ (by first | assumption | exact Ab.lit rfl (by decide)) (by first | assumption | exact Ab.lit rfl (by decide)); clear hb0; (try simp only [*] at hb); subst hb) | (refine fl_same rfl _ _ _ rfl _ _ rfl rfl rfl ?_) | (refine fl_wide rfl _ _ _ rfl _ rfl rfl rfl ?_; intro r n hr0; have hr := hr0 _ (by first | assumption | exact Ab.lit rfl (by decide)); clear hr0) | (refine fl_narrow rfl _ _ _ rfl _ rfl rfl rfl ?_; intro r n hl hr0; have hr := hr0 _ (by first | assumption | exact Ab.lit rfl (by decide)) (by assumption); clear hr0 hl) | (refine fl_neg rfl _ _ rfl _ _ rfl ?_; intro r hr0; have hr := hr0 _ (by first | assumption | exact Ab.lit rfl (by decide)); clear hr0) | (go_at_call 52; (with_reducible_and_instances refine Calls.mono (impl_finite _ _ hx _) ?_); rintro e w' ⟨rfl, n1, rfl⟩) | (go_at_call 53; (with_reducible_and_instances refine Calls.mono (HI _) ?_); rintro e w' ⟨rs, ms, rfl, hs, rfl⟩) | go_in)
            go_ret
            exact ⟨_, _, rfl, hr, rfl⟩

/-- .. whatever the word. -/
theorem log_fun (X : Option Nat) : ∃ R, ∀ x, Ab .f32 x X → ∀ w, Calls Try.prog 49 #[.float .f32 x] w (Turns R w) ∧ Calls Try.prog 16 #[.float .f32 x] w (Turns R w) := by
  cases X with
  | none => exact ⟨none, fun x hx w => log_nan x w hx⟩
  | some b =>
    by_cases h : Ab .f32 b (some b)
    · obtain ⟨R, H⟩ := log_both b (some b) h
      exact ⟨R, fun x hx w => by
        have e := hx.of_some.1
        subst e
        exact H w⟩
    · exact ⟨none, fun x hx w => absurd (by have e := hx.of_some.1; subst e; exact hx) h⟩

end Go.Proofs.Ytnkogheibofboaa
