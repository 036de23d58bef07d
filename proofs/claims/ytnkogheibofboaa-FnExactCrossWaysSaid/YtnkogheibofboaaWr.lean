/- Walks: roots. No conditions. -/
import Derived.Test.YtnkogheibofboaaWs
import Derived.Test.YtnkogheibofboaaFc
namespace Go.Proofs.Ytnkogheibofboaa
open Go.RowKit
set_option maxRecDepth 8000

def rootA (X : Option Nat) : Option Nat := narrowA (sqrtA (wideA X))

set_option maxHeartbeats 400000 in
theorem spec_l01Sqrt (x : Nat) (X : Option Nat) (hx : Ab .f32 x X) (w : World) :
    Calls Try.prog 77 #[.float .f32 x] w fun e w' => ∃ r n, e = .returned (.float .f32 r) ∧ Ab .f32 r (rootA X) ∧ w' = w.drewN n := by
  have hF := fits_root hx.ok
  go_enter Try.func77, Try.ntmps77
  go_wp2_with (first | (refine fl_arith rfl _ _ _ _ _ rfl rfl _ _ _ rfl rfl ?_; intro r n hr0; have hr := hr0 _ _ (by first | assumption | exact Ab.lit rfl (by decide)) (by first | assumption | exact Ab.lit rfl (by decide)); clear hr0) | (refine fl_cmp rfl _ _ _ _ _ rfl rfl _ _ _ rfl rfl ?_; intro b hb0; have hb := hb0 _ _ (by first | assumption | exact Ab.lit rfl (by decide)) (by first | assumption | exact Ab.lit rfl (by decide)); clear hb0; (try simp only [*] at hb); subst hb) | (refine fl_same rfl _ _ _ rfl _ _ rfl rfl rfl ?_) | (refine fl_wide rfl _ _ _ rfl _ rfl rfl rfl ?_; intro r n hr0; have hr := hr0 _ (by first | assumption | exact Ab.lit rfl (by decide)); clear hr0) | (refine fl_narrow rfl _ _ _ rfl _ rfl rfl rfl ?_; intro r n hl hr0; have hr := hr0 _ (by first | assumption | exact Ab.lit rfl (by decide)) (by assumption); clear hr0 hl) | (refine fl_neg rfl _ _ rfl _ _ rfl ?_; intro r hr0; have hr := hr0 _ (by first | assumption | exact Ab.lit rfl (by decide)); clear hr0) | (refine fl_sqrt rfl 101 _ _ rfl _ rfl ext_sqrt ?_; intro r n hr0; have hr := hr0 _ (by first | assumption | exact Ab.lit rfl (by decide)); clear hr0) | go_in)
  go_ret
  exact ⟨_, _, rfl, by assumption, rfl⟩

set_option maxHeartbeats 400000 in
theorem impl_RootNumber (x : Nat) (X : Option Nat) (hx : Ab .f32 x X) (w : World) :
    Calls Try.prog 33 #[.float .f32 x] w fun e w' => ∃ r n, e = .returned (.float .f32 r) ∧ Ab .f32 r (rootA X) ∧ w' = w.drewN n := by
  have hF := fits_root hx.ok
  go_enter Try.func33, Try.ntmps33
  go_wp2_with (first | (refine fl_arith rfl _ _ _ _ _ rfl rfl _ _ _ rfl rfl ?_; intro r n hr0; have hr := hr0 _ _ (by first | assumption | exact Ab.lit rfl (by decide)) (by first | assumption | exact Ab.lit rfl (by decide)); clear hr0) | (refine fl_cmp rfl _ _ _ _ _ rfl rfl _ _ _ rfl rfl ?_; intro b hb0; have hb := hb0 _ _ (by first | assumption | exact Ab.lit rfl (by decide)) (by first | assumption | exact Ab.lit rfl (by decide)); clear hb0; (try simp only [*] at hb); subst hb) | (refine fl_same rfl _ _ _ rfl _ _ rfl rfl rfl ?_) | (refine fl_wide rfl _ _ _ rfl _ rfl rfl rfl ?_; intro r n hr0; have hr := hr0 _ (by first | assumption | exact Ab.lit rfl (by decide)); clear hr0) | (refine fl_narrow rfl _ _ _ rfl _ rfl rfl rfl ?_; intro r n hl hr0; have hr := hr0 _ (by first | assumption | exact Ab.lit rfl (by decide)) (by assumption); clear hr0 hl) | (refine fl_neg rfl _ _ rfl _ _ rfl ?_; intro r hr0; have hr := hr0 _ (by first | assumption | exact Ab.lit rfl (by decide)); clear hr0) | (refine fl_sqrt rfl 101 _ _ rfl _ rfl ext_sqrt ?_; intro r n hr0; have hr := hr0 _ (by first | assumption | exact Ab.lit rfl (by decide)); clear hr0) | go_in)
  go_ret
  exact ⟨_, _, rfl, by assumption, rfl⟩

set_option maxHeartbeats 400000 in
theorem law_RootNumber (x : Nat) (wx : (Lit.float .f32 x).wf = true) (w : World) :
    Calls Try.prog 10 #[.float .f32 x] w fun e w' => e = .returned (.bool true) ∧ Below w.heap.size w w' := by
  have hx := Ab.of_wf wx
  generalize ab .f32 x = X at hx
  go_enter Try.func10, Try.ntmps10
  go_wp2_with (first | (refine fl_arith rfl _ _ _ _ _ rfl rfl _ _ _ rfl rfl ?_; intro r n hr0; have hr := hr0 _ _ (by first | assumption | exact Ab.lit rfl (by decide)) (by first | assumption | exact Ab.lit rfl (by decide)); clear hr0) | (refine fl_cmp rfl _ _ _ _ _ rfl rfl _ _ _ rfl rfl ?_; intro b hb0; have hb := hb0 _ _ (by first | assumption | exact Ab.lit rfl (by decide)) (by first | assumption | exact Ab.lit rfl (by decide)); clear hb0; (try simp only [*] at hb); subst hb) | (refine fl_same rfl _ _ _ rfl _ _ rfl rfl rfl ?_) | (refine fl_wide rfl _ _ _ rfl _ rfl rfl rfl ?_; intro r n hr0; have hr := hr0 _ (by first | assumption | exact Ab.lit rfl (by decide)); clear hr0) | (refine fl_narrow rfl _ _ _ rfl _ rfl rfl rfl ?_; intro r n hl hr0; have hr := hr0 _ (by first | assumption | exact Ab.lit rfl (by decide)) (by assumption); clear hr0 hl) | (refine fl_neg rfl _ _ rfl _ _ rfl ?_; intro r hr0; have hr := hr0 _ (by first | assumption | exact Ab.lit rfl (by decide)); clear hr0) | (go_at_call 77; refine (spec_l01Sqrt _ _ hx _).mono ?_; rintro e w' ⟨r, n, rfl, hr, rfl⟩) | (go_at_call 33; refine (impl_RootNumber _ _ hx _).mono ?_; rintro e w' ⟨r, n, rfl, hr, rfl⟩) | (go_at_call 17; refine (same_float _ _ _ (by assumption) (by assumption) _).mono ?_; rintro e w' ⟨rfl, n, rfl⟩) | go_in)
  go_ret
  exact ⟨rfl, below_drewN (Below.refl _ _) _⟩

end Go.Proofs.Ytnkogheibofboaa
