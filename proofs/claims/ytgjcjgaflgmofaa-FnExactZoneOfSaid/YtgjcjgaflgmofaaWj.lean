/- Walks: the law of WrapEast. No conditions. -/
import Derived.Test.YtgjcjgaflgmofaaWe
namespace Go.Proofs.Ytgjcjgaflgmofaa
open Go.RowKit
set_option maxRecDepth 8000

def nearA (X : Option Nat) : Bool := cmpA .geq .f32 X (some 3296329728) && cmpA .leq .f32 X (some 1148846080)

set_option maxHeartbeats 1000000 in
theorem spec_WrapEast (x : Nat) (X : Option Nat) (hx : Ab .f32 x X) (w : World) : Calls Try.prog 33 #[.float .f32 x] w (GivesIf (nearA X) (wrapA X) w) := by
  have HW := fun w' => spec_wrap x X hx w'
  unfold nearA
  cases c1 : cmpA .geq .f32 X (some 3296329728) <;> cases c2 : cmpA .leq .f32 X (some 1148846080)
  all_goals
    go_enter Try.func33, Try.ntmps33
    go_wp2_with (first | (refine fl_arith rfl _ _ _ _ _ rfl rfl _ _ _ rfl rfl ?_; intro r n hr0; have hr := hr0 _ _ (by first | assumption | exact Ab.lit rfl (by decide)) (by first | assumption | exact Ab.lit rfl (by decide)); clear hr0) | (refine fl_cmp rfl _ _ _ _ _ rfl rfl _ _ _ rfl rfl ?_; intro b hb0; have hb := hb0 _ _ (by first | assumption | exact Ab.lit rfl (by decide)) (by first | assumption | exact Ab.lit rfl (by decide)); clear hb0; (try simp only [*] at hb); subst hb) | (refine fl_same rfl _ _ _ rfl _ _ rfl rfl rfl ?_) | (refine fl_wide rfl _ _ _ rfl _ rfl rfl rfl ?_; intro r n hr0; have hr := hr0 _ (by first | assumption | exact Ab.lit rfl (by decide)); clear hr0) | (refine fl_narrow rfl _ _ _ rfl _ rfl rfl rfl ?_; intro r n hl hr0; have hr := hr0 _ (by first | assumption | exact Ab.lit rfl (by decide)) (by assumption); clear hr0 hl) | (refine fl_neg rfl _ _ rfl _ _ rfl ?_; intro r hr0; have hr := hr0 _ (by first | assumption | exact Ab.lit rfl (by decide)); clear hr0) | (go_at_call 67; (with_reducible_and_instances refine Calls.mono (HW _) ?_); rintro e w' ⟨r1, m1, rfl, h1, rfl⟩))
    go_ret2
  · exact ⟨0, 0, rfl, Ab.lit rfl (by decide), rfl⟩
  · exact ⟨0, 0, rfl, Ab.lit rfl (by decide), rfl⟩
  · exact ⟨0, 0, rfl, Ab.lit rfl (by decide), rfl⟩
  · exact ⟨_, _, rfl, h1, rfl⟩

theorem near_same {x : Nat} {X : Option Nat} (hx : Ab .f32 x X) : (nearA X && finA .f32 (wrapA X)) = nearA X := by
  cases h : nearA X
  · rfl
  · unfold nearA at h
    simp only [Bool.and_eq_true] at h
    rw [wrap_fin hx h.1 h.2]; rfl

set_option maxHeartbeats 1000000 in
theorem impl_WrapEast (x : Nat) (X : Option Nat) (hx : Ab .f32 x X) (w : World) : Calls Try.prog 34 #[.float .f32 x] w (GivesIf (nearA X) (wrapA X) w) := by
  have HW := fun w' => impl_wrap x X hx w'
  rw [← near_same hx]
  unfold nearA
  cases c1 : cmpA .geq .f32 X (some 3296329728) <;> cases c2 : cmpA .leq .f32 X (some 1148846080)
  all_goals
    go_enter Try.func34, Try.ntmps34
    go_wp2_with (first | (refine fl_arith rfl _ _ _ _ _ rfl rfl _ _ _ rfl rfl ?_; intro r n hr0; have hr := hr0 _ _ (by first | assumption | exact Ab.lit rfl (by decide)) (by first | assumption | exact Ab.lit rfl (by decide)); clear hr0) | (refine fl_cmp rfl _ _ _ _ _ rfl rfl _ _ _ rfl rfl ?_; intro b hb0; have hb := hb0 _ _ (by first | assumption | exact Ab.lit rfl (by decide)) (by first | assumption | exact Ab.lit rfl (by decide)); clear hb0; (try simp only [*] at hb); subst hb) | (refine fl_same rfl _ _ _ rfl _ _ rfl rfl rfl ?_) | (refine fl_wide rfl _ _ _ rfl _ rfl rfl rfl ?_; intro r n hr0; have hr := hr0 _ (by first | assumption | exact Ab.lit rfl (by decide)); clear hr0) | (refine fl_narrow rfl _ _ _ rfl _ rfl rfl rfl ?_; intro r n hl hr0; have hr := hr0 _ (by first | assumption | exact Ab.lit rfl (by decide)) (by assumption); clear hr0 hl) | (refine fl_neg rfl _ _ rfl _ _ rfl ?_; intro r hr0; have hr := hr0 _ (by first | assumption | exact Ab.lit rfl (by decide)); clear hr0) | (go_at_call 69; (with_reducible_and_instances refine Calls.mono (HW _) ?_); rintro e w' ⟨r1, m1, rfl, h1, rfl⟩) | (go_at_call 68; (with_reducible_and_instances refine Calls.mono (impl_number h1 _ _) ?_); rintro e w' ⟨r2, m2, rfl, h2, rfl⟩) | go_in)
    go_ret2
    exact ⟨_, _, rfl, h2, rfl⟩

set_option maxHeartbeats 1000000 in
theorem law_WrapEast (x : Nat) (wx : (Lit.float .f32 x).wf = true) (w : World) : Calls Try.prog 8 #[.float .f32 x] w (Told w) := by
  have HS := fun w' => spec_WrapEast x _ (Ab.of_wf wx) w'
  have HI := fun w' => impl_WrapEast x _ (Ab.of_wf wx) w'
  generalize wrapA (ab .f32 x) = D at *
  generalize nearA (ab .f32 x) = ok at *
  have eok : (ok != ok) = false := same_bool ok
  go_enter Try.func8, Try.ntmps8
  go_wp2_with (first | (refine fl_arith rfl _ _ _ _ _ rfl rfl _ _ _ rfl rfl ?_; intro r n hr0; have hr := hr0 _ _ (by first | assumption | exact Ab.lit rfl (by decide)) (by first | assumption | exact Ab.lit rfl (by decide)); clear hr0) | (refine fl_cmp rfl _ _ _ _ _ rfl rfl _ _ _ rfl rfl ?_; intro b hb0; have hb := hb0 _ _ (by first | assumption | exact Ab.lit rfl (by decide)) (by first | assumption | exact Ab.lit rfl (by decide)); clear hb0; (try simp only [*] at hb); subst hb) | (refine fl_same rfl _ _ _ rfl _ _ rfl rfl rfl ?_) | (refine fl_wide rfl _ _ _ rfl _ rfl rfl rfl ?_; intro r n hr0; have hr := hr0 _ (by first | assumption | exact Ab.lit rfl (by decide)); clear hr0) | (refine fl_narrow rfl _ _ _ rfl _ rfl rfl rfl ?_; intro r n hl hr0; have hr := hr0 _ (by first | assumption | exact Ab.lit rfl (by decide)) (by assumption); clear hr0 hl) | (refine fl_neg rfl _ _ rfl _ _ rfl ?_; intro r hr0; have hr := hr0 _ (by first | assumption | exact Ab.lit rfl (by decide)); clear hr0) | (go_at_call 33; (with_reducible_and_instances refine Calls.mono (HS _) ?_); rintro e w' ⟨r1, m1, rfl, h1, rfl⟩) | (go_at_call 34; (with_reducible_and_instances refine Calls.mono (HI _) ?_); rintro e w' ⟨r2, m2, rfl, h2, rfl⟩) | (go_at_call 19; refine (same_float _ _ _ (by assumption) (by assumption) _).mono ?_; rintro e w' ⟨rfl, m3, rfl⟩))
  go_ret
  exact ⟨rfl, below_drewN (Below.refl _ _) _⟩

end Go.Proofs.Ytgjcjgaflgmofaa
