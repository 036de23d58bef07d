/- Walks: the law of SineTurns. No conditions. -/
import Derived.Test.YtnkogheibofboaaWl
namespace Go.Proofs.Ytnkogheibofboaa
open Go.RowKit
set_option maxRecDepth 8000

def Turns64 (R : Option Nat) (w : World) (e : Ending) (w' : World) : Prop := ∃ r n', e = .returned (.float .f64 r) ∧ Ab .f64 r R ∧ w' = w.drewN n'

set_option maxHeartbeats 1000000 in
theorem sine_near (x : Nat) (nn : Int) (hx : Ab .f32 x (some x)) (hf : finA .f32 (some x) = true) (hw : Whole (wideW x) nn) (hy : Ab .f64 (wideW x) (some (wideW x)))
    (h1 : cmpA .geq .f64 (some (wideW x)) (some 4841369599423283200) = false) (h2 : cmpA .leq .f64 (some (wideW x)) (some 14064741636278059008) = false) (h3 : cmpA .geq .f64 (absA (some (wideW x))) (some 4841369599423283200) = false) (w : World) :
    Calls Try.prog 74 #[.float .f32 x] w (Turns (narrowA (sineD (opA .sub .f64 (some (wideW x)) (some (floatOfInt .f64 nn))))) w) ∧
    Calls Try.prog 31 #[.float .f32 x] w (Turns (narrowA (sineD (opA .sub .f64 (some (wideW x)) (some (floatOfInt .f64 nn))))) w) := by
  have e1 := neq_fin hx
  rw [hf] at e1
  have e2 : cmpA .eql .f64 (opA .sub .f64 (wideA (some x)) (wideA (some x))) (some 0) = true := (finA_wide hx).trans hf
  have hF := fits_sineD Ok.op hw.small
  have e1' : cmpA .neq .f64 (opA .sub .f64 (some (wideW x)) (some (wideW x))) (some 0) = false := e1
  have h3' : cmpA .geq .f64 (absA (wideA (some x))) (some 4841369599423283200) = false := h3
  have HS : ∀ r, Ab .f64 r (wideA (some x)) → ∀ w', Calls Try.prog 102 #[.float .f64 r] w' (Turns64 (sineD (opA .sub .f64 (some (wideW x)) (some (floatOfInt .f64 nn)))) w') := fun r hr w' => by
    have e := (show Ab .f64 r (some (wideW x)) from hr).of_some.1
    subst e
    exact spec_sine_main (wideW x) nn hw hy e1' h1 h2 w'
  have HI : ∀ r, Ab .f64 r (wideA (some x)) → ∀ w', Calls Try.prog 76 #[.float .f64 r] w' (Turns64 (sineD (opA .sub .f64 (some (wideW x)) (some (floatOfInt .f64 nn)))) w') := fun r hr w' => by
    have e := (show Ab .f64 r (some (wideW x)) from hr).of_some.1
    subst e
    exact impl_sine (wideW x) nn hw hy w'
  clear hw h1 h2 h3 e1'
  generalize sineD (opA .sub .f64 (some (wideW x)) (some (floatOfInt .f64 nn))) = S at *
  constructor
  · go_enter Try.func74, Try.ntmps74
    go_wp2_with (first | (refine fl_arith rfl _ _ _ _ _ rfl rfl _ _ _ rfl rfl ?_; intro r n hr0; have hr := hr0 _ _ (by first | assumption | exact Ab.lit rfl (by decide)) (by first | assumption | exact Ab.lit rfl (by decide)); clear hr0) | (refine fl_cmp rfl _ _ _ _ _ rfl rfl _ _ _ rfl rfl ?_; intro b hb0; have hb := hb0 _ _ (by first | assumption | exact Ab.lit rfl (by decide)) (by first | assumption | exact Ab.lit rfl (by decide)); clear hb0; (try simp only [*] at hb); subst hb) | (refine fl_same rfl _ _ _ rfl _ _ rfl rfl rfl ?_) | (refine fl_wide rfl _ _ _ rfl _ rfl rfl rfl ?_; intro r n hr0; have hr := hr0 _ (by first | assumption | exact Ab.lit rfl (by decide)); clear hr0) | (refine fl_narrow rfl _ _ _ rfl _ rfl rfl rfl ?_; intro r n hl hr0; have hr := hr0 _ (by first | assumption | exact Ab.lit rfl (by decide)) (by assumption); clear hr0 hl) | (refine fl_neg rfl _ _ rfl _ _ rfl ?_; intro r hr0; have hr := hr0 _ (by first | assumption | exact Ab.lit rfl (by decide)); clear hr0) | (go_at_call 102; refine Calls.mono (HS _ (by assumption) _) ?_; rintro e w' ⟨rs, ms, rfl, hs, rfl⟩) | go_in)
    go_ret
    exact ⟨_, _, rfl, hr, rfl⟩
  · go_enter Try.func31, Try.ntmps31
    go_wp2_with (first | (refine fl_arith rfl _ _ _ _ _ rfl rfl _ _ _ rfl rfl ?_; intro r n hr0; have hr := hr0 _ _ (by first | assumption | exact Ab.lit rfl (by decide)) (by first | assumption | exact Ab.lit rfl (by decide)); clear hr0) | (refine fl_cmp rfl _ _ _ _ _ rfl rfl _ _ _ rfl rfl ?_; intro b hb0; have hb := hb0 _ _ (by first | assumption | exact Ab.lit rfl (by decide)) (by first | assumption | exact Ab.lit rfl (by decide)); clear hb0; (try simp only [*] at hb); subst hb) | (refine fl_same rfl _ _ _ rfl _ _ rfl rfl rfl ?_) | (refine fl_wide rfl _ _ _ rfl _ rfl rfl rfl ?_; intro r n hr0; have hr := hr0 _ (by first | assumption | exact Ab.lit rfl (by decide)); clear hr0) | (refine fl_narrow rfl _ _ _ rfl _ rfl rfl rfl ?_; intro r n hl hr0; have hr := hr0 _ (by first | assumption | exact Ab.lit rfl (by decide)) (by assumption); clear hr0 hl) | (refine fl_neg rfl _ _ rfl _ _ rfl ?_; intro r hr0; have hr := hr0 _ (by first | assumption | exact Ab.lit rfl (by decide)); clear hr0) | (go_at_call 72; refine (abs_any _ _ (by assumption) _).mono ?_; rintro e w' ⟨ra, rfl, hra, rfl⟩) | (go_at_call 76; refine Calls.mono (HI _ (by assumption) _) ?_; rintro e w' ⟨rs, ms, rfl, hs, rfl⟩) | go_in)
    go_ret
    exact ⟨_, _, rfl, hr, rfl⟩

/-- Both sides return the same. -/
theorem sine_both (x : Nat) (X : Option Nat) (hx : Ab .f32 x X) : ∃ R, ∀ w, Calls Try.prog 74 #[.float .f32 x] w (Turns R w) ∧ Calls Try.prog 31 #[.float .f32 x] w (Turns R w) := by
  cases hf : finA .f32 X
  · exact ⟨none, fun w => sine_nan x X hx hf w⟩
  · cases X with
    | none => cases hf
    | some b =>
      obtain ⟨rfl, hn⟩ := hx.of_some
      have hfw : finW .f32 x = true := by rw [← finA_some hn]; exact hf
      obtain ⟨g1, _, _⟩ := wide_fin hfw
      obtain ⟨q1, q2⟩ := far_same g1
      cases h3 : cmpA .geq .f64 (absA (some (wideW x))) (some 4841369599423283200)
      · rw [h3] at q1
        simp only [Bool.or_eq_false_iff] at q1
        obtain ⟨nn, hw⟩ := whole_of g1 (q2 h3)
        exact ⟨_, fun w => sine_near x nn hx hf hw (Ab.lit (wide_not_nan hn).1 (encode_lt _ _)) q1.1 q1.2 h3 w⟩
      · rw [h3] at q1
        exact ⟨some 0, fun w => sine_far x (some x) hx hf q1 h3 w⟩

/-- .. whatever the word. -/
theorem sine_fun (X : Option Nat) : ∃ R, ∀ x, Ab .f32 x X → ∀ w, Calls Try.prog 74 #[.float .f32 x] w (Turns R w) ∧ Calls Try.prog 31 #[.float .f32 x] w (Turns R w) := by
  cases X with
  | none => exact ⟨none, fun x hx w => sine_nan x none hx rfl w⟩
  | some b =>
    by_cases h : Ab .f32 b (some b)
    · obtain ⟨R, H⟩ := sine_both b (some b) h
      exact ⟨R, fun x hx w => by
        have e := hx.of_some.1
        subst e
        exact H w⟩
    · exact ⟨none, fun x hx w => absurd (by have e := hx.of_some.1; subst e; exact hx) h⟩

set_option maxHeartbeats 1000000 in
theorem law_SineTurns (x : Nat) (wx : (Lit.float .f32 x).wf = true) (w : World) : Calls Try.prog 9 #[.float .f32 x] w (Told w) := by
  obtain ⟨R, H⟩ := sine_both x _ (Ab.of_wf wx)
  have HS := fun w' => (H w').1
  have HI := fun w' => (H w').2
  clear H
  go_enter Try.func9, Try.ntmps9
  go_wp2_with (first | (refine fl_arith rfl _ _ _ _ _ rfl rfl _ _ _ rfl rfl ?_; intro r n hr0; have hr := hr0 _ _ (by first | assumption | exact Ab.lit rfl (by decide)) (by first | assumption | exact Ab.lit rfl (by decide)); clear hr0) | (refine fl_cmp rfl _ _ _ _ _ rfl rfl _ _ _ rfl rfl ?_; intro b hb0; have hb := hb0 _ _ (by first | assumption | exact Ab.lit rfl (by decide)) (by first | assumption | exact Ab.lit rfl (by decide)); clear hb0; (try simp only [*] at hb); subst hb) | (refine fl_same rfl _ _ _ rfl _ _ rfl rfl rfl ?_) | (refine fl_wide rfl _ _ _ rfl _ rfl rfl rfl ?_; intro r n hr0; have hr := hr0 _ (by first | assumption | exact Ab.lit rfl (by decide)); clear hr0) | (refine fl_narrow rfl _ _ _ rfl _ rfl rfl rfl ?_; intro r n hl hr0; have hr := hr0 _ (by first | assumption | exact Ab.lit rfl (by decide)) (by assumption); clear hr0 hl) | (refine fl_neg rfl _ _ rfl _ _ rfl ?_; intro r hr0; have hr := hr0 _ (by first | assumption | exact Ab.lit rfl (by decide)); clear hr0) | (go_at_call 74; (with_reducible_and_instances refine Calls.mono (HS _) ?_); rintro e w' ⟨r1, m1, rfl, h1, rfl⟩) | (go_at_call 31; (with_reducible_and_instances refine Calls.mono (HI _) ?_); rintro e w' ⟨r2, m2, rfl, h2, rfl⟩) | (go_at_call 17; refine (same_float _ _ _ (by assumption) (by assumption) _).mono ?_; rintro e w' ⟨rfl, m3, rfl⟩) | go_in)
  go_ret
  exact ⟨rfl, below_drewN (Below.refl _ _) _⟩

end Go.Proofs.Ytnkogheibofboaa
