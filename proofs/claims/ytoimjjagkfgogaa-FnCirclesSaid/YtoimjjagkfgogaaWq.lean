/- Walks: the law of AngleTurns. No conditions. -/
import Derived.Test.YtoimjjagkfgogaaWp
namespace Go.Proofs.Ytoimjjagkfgogaa
open Go.RowKit
set_option maxRecDepth 8000

theorem all_two (X Y : Option Nat) : allA (two X Y) 2 = (finA .f32 X && finA .f32 Y) := by simp [allA, two]

set_option maxHeartbeats 1000000 in
theorem impl_angle_nan (y x : Nat) (Y X : Option Nat) (hy : Ab .f32 y Y) (hx : Ab .f32 x X) (fin : allA (two X Y) 2 = false) (w : World) :
    Calls Try.prog 19 #[.float .f32 y, .float .f32 x] w fun e w' => ∃ r, e = .returned (.float .f32 r) ∧ Ab .f32 r none ∧ Below w.heap.size w w' := by
  have HA := fun b cap w' h1 => impl_areFinite 2 (by omega) (two x y) (two X Y) (fun i hi => by match i, hi with | 0, _ => exact hx | 1, _ => exact hy) b cap w' h1
  rw [fin] at HA
  clear fin
  have hnan := ab_nan
  have hfn := fits_none
  go_enter Try.func19, Try.ntmps19
  go_wp2_with (first | (refine fl_arith rfl _ _ _ _ _ rfl rfl _ _ _ rfl rfl ?_; intro r n hr0; have hr := hr0 _ _ (by first | assumption | exact Ab.lit rfl (by decide)) (by first | assumption | exact Ab.lit rfl (by decide)); clear hr0) | (refine fl_cmp rfl _ _ _ _ _ rfl rfl _ _ _ rfl rfl ?_; intro b hb0; have hb := hb0 _ _ (by first | assumption | exact Ab.lit rfl (by decide)) (by first | assumption | exact Ab.lit rfl (by decide)); clear hb0; (try simp only [*] at hb); subst hb) | (refine fl_same rfl _ _ _ rfl _ _ rfl rfl rfl ?_) | (refine fl_wide rfl _ _ _ rfl _ rfl rfl rfl ?_; intro r n hr0; have hr := hr0 _ (by first | assumption | exact Ab.lit rfl (by decide)); clear hr0) | (refine fl_narrow rfl _ _ _ rfl _ rfl rfl rfl ?_; intro r n hl hr0; have hr := hr0 _ (by first | assumption | exact Ab.lit rfl (by decide)) (by assumption); clear hr0 hl) | (refine fl_neg rfl _ _ rfl _ _ rfl ?_; intro r hr0; have hr := hr0 _ (by first | assumption | exact Ab.lit rfl (by decide)); clear hr0) | (go_at_call 29; refine Calls.mono (HA _ _ _ ?_) ?_; (next => intro i hi; match i, hi with | 0, _ => simp [two, go_sem] | 1, _ => simp [two, go_sem]); rintro e w' ⟨rfl, m, rfl⟩) | go_in)
  go_ret
  exact ⟨_, rfl, hr, below_drewN ((Below.refl _ _).alloc (Nat.le_refl _) _) _⟩

set_option maxHeartbeats 1000000 in
theorem impl_angle_zero (y x : Nat) (Y X : Option Nat) (hy : Ab .f32 y Y) (hx : Ab .f32 x X) (fin : allA (two X Y) 2 = true) (e3 : cmpA .eql .f32 X (some 0) = true) (e4 : cmpA .eql .f32 Y (some 0) = true) (w : World) :
    Calls Try.prog 19 #[.float .f32 y, .float .f32 x] w fun e w' => ∃ r, e = .returned (.float .f32 r) ∧ Ab .f32 r (some 0) ∧ Below w.heap.size w w' := by
  have HA := fun b cap w' h1 => impl_areFinite 2 (by omega) (two x y) (two X Y) (fun i hi => by match i, hi with | 0, _ => exact hx | 1, _ => exact hy) b cap w' h1
  rw [fin] at HA
  clear fin
  go_enter Try.func19, Try.ntmps19
  go_wp2_with (first | (refine fl_arith rfl _ _ _ _ _ rfl rfl _ _ _ rfl rfl ?_; intro r n hr0; have hr := hr0 _ _ (by first | assumption | exact Ab.lit rfl (by decide)) (by first | assumption | exact Ab.lit rfl (by decide)); clear hr0) | (refine fl_cmp rfl _ _ _ _ _ rfl rfl _ _ _ rfl rfl ?_; intro b hb0; have hb := hb0 _ _ (by first | assumption | exact Ab.lit rfl (by decide)) (by first | assumption | exact Ab.lit rfl (by decide)); clear hb0; (try simp only [*] at hb); subst hb) | (refine fl_same rfl _ _ _ rfl _ _ rfl rfl rfl ?_) | (refine fl_wide rfl _ _ _ rfl _ rfl rfl rfl ?_; intro r n hr0; have hr := hr0 _ (by first | assumption | exact Ab.lit rfl (by decide)); clear hr0) | (refine fl_narrow rfl _ _ _ rfl _ rfl rfl rfl ?_; intro r n hl hr0; have hr := hr0 _ (by first | assumption | exact Ab.lit rfl (by decide)) (by assumption); clear hr0 hl) | (refine fl_neg rfl _ _ rfl _ _ rfl ?_; intro r hr0; have hr := hr0 _ (by first | assumption | exact Ab.lit rfl (by decide)); clear hr0) | (go_at_call 29; refine Calls.mono (HA _ _ _ ?_) ?_; (next => intro i hi; match i, hi with | 0, _ => simp [two, go_sem] | 1, _ => simp [two, go_sem]); rintro e w' ⟨rfl, m, rfl⟩))
  go_ret
  exact ⟨_, rfl, Ab.lit rfl (by decide), below_drewN ((Below.refl _ _).alloc (Nat.le_refl _) _) _⟩

theorem narrow_zero0 : narrowA (some 0) = some 0 := by decide +kernel

theorem impl_AngleTurns (y x : Nat) (Y X : Option Nat) (hy : Ab .f32 y Y) (hx : Ab .f32 x X) (w : World) :
    Calls Try.prog 19 #[.float .f32 y, .float .f32 x] w fun e w' => ∃ r, e = .returned (.float .f32 r) ∧ Ab .f32 r (angleA Y X) ∧ Below w.heap.size w w' := by
  have hF := fits_angle hy hx (cmpA .lss .f32 X (some 0)) (cmpA .lss .f32 Y (some 0))
  cases hfin : (finA .f32 Y && finA .f32 X)
  · have e : angleA Y X = none := by unfold angleA outA; rw [hfin]; rfl
    rw [e]
    exact impl_angle_nan y x Y X hy hx (by rw [all_two, Bool.and_comm]; exact hfin) w
  · have hall : allA (two X Y) 2 = true := by rw [all_two, Bool.and_comm]; exact hfin
    cases hz : (cmpA .eql .f32 X (some 0) && cmpA .eql .f32 Y (some 0))
    · have e : angleA Y X = narrowA (turnT (cmpA .gtr .f64 (absA (wideA Y)) (absA (wideA X))) (cmpA .lss .f32 X (some 0)) (cmpA .lss .f32 Y (some 0)) (rawT (if cmpA .gtr .f64 (absA (wideA Y)) (absA (wideA X)) = true then opA .quo .f64 (absA (wideA X)) (absA (wideA Y)) else opA .quo .f64 (absA (wideA Y)) (absA (wideA X))))) := by
        unfold angleA outA
        rw [hfin, hz]; rfl
      have hF' := hF
      unfold outA at hF'
      rw [hfin, hz] at hF'
      rw [e]
      exact impl_angle_main y x Y X hy hx _ _ _ _ _ hz hall rfl rfl rfl rfl rfl hF' w
    · have e : angleA Y X = some 0 := by unfold angleA outA; rw [hfin, hz]; exact narrow_zero0
      rw [e]
      simp only [Bool.and_eq_true] at hz
      exact impl_angle_zero y x Y X hy hx hall hz.1 hz.2 w


end Go.Proofs.Ytoimjjagkfgogaa
