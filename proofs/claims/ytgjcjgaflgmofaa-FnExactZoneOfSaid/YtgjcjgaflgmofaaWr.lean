/- Walks: roots. No conditions. -/
import Derived.Test.YtgjcjgaflgmofaaWs
import Derived.Test.YtgjcjgaflgmofaaFc
namespace Go.Proofs.Ytgjcjgaflgmofaa
open Go.RowKit
set_option maxRecDepth 8000

def rootA (X : Option Nat) : Option Nat := narrowA (sqrtA (wideA X))

set_option maxHeartbeats 400000 in
theorem spec_l01Sqrt (x : Nat) (X : Option Nat) (hx : Ab .f32 x X) (w : World) :
    Calls Try.prog 81 #[.float .f32 x] w fun e w' => ∃ r n, e = .returned (.float .f32 r) ∧ Ab .f32 r (rootA X) ∧ w' = w.drewN n := by
  have hF := fits_root hx.ok
  go_enter Try.func81, Try.ntmps81
  go_wp2_with (first | (refine fl_arith rfl _ _ _ _ _ rfl rfl _ _ _ rfl rfl ?_; intro r n hr0; have hr := hr0 _ _ (by first | assumption | exact Ab.lit rfl (by decide)) (by first | assumption | exact Ab.lit rfl (by decide)); clear hr0) | (refine fl_cmp rfl _ _ _ _ _ rfl rfl _ _ _ rfl rfl ?_; intro b hb0; have hb := hb0 _ _ (by first | assumption | exact Ab.lit rfl (by decide)) (by first | assumption | exact Ab.lit rfl (by decide)); clear hb0; (try simp only [*] at hb); subst hb) | (refine fl_same rfl _ _ _ rfl _ _ rfl rfl rfl ?_) | (refine fl_wide rfl _ _ _ rfl _ rfl rfl rfl ?_; intro r n hr0; have hr := hr0 _ (by first | assumption | exact Ab.lit rfl (by decide)); clear hr0) | (refine fl_narrow rfl _ _ _ rfl _ rfl rfl rfl ?_; intro r n hl hr0; have hr := hr0 _ (by first | assumption | exact Ab.lit rfl (by decide)) (by assumption); clear hr0 hl) | (refine fl_neg rfl _ _ rfl _ _ rfl ?_; intro r hr0; have hr := hr0 _ (by first | assumption | exact Ab.lit rfl (by decide)); clear hr0) | (refine fl_sqrt rfl 99 _ _ rfl _ rfl ext_sqrt ?_; intro r n hr0; have hr := hr0 _ (by first | assumption | exact Ab.lit rfl (by decide)); clear hr0) | go_in)
  go_ret
  exact ⟨_, _, rfl, by assumption, rfl⟩

set_option maxHeartbeats 400000 in
theorem impl_RootNumber (x : Nat) (X : Option Nat) (hx : Ab .f32 x X) (w : World) :
    Calls Try.prog 86 #[.float .f32 x] w fun e w' => ∃ r n, e = .returned (.float .f32 r) ∧ Ab .f32 r (rootA X) ∧ w' = w.drewN n := by
  have hF := fits_root hx.ok
  go_enter Try.func86, Try.ntmps86
  go_wp2_with (first | (refine fl_arith rfl _ _ _ _ _ rfl rfl _ _ _ rfl rfl ?_; intro r n hr0; have hr := hr0 _ _ (by first | assumption | exact Ab.lit rfl (by decide)) (by first | assumption | exact Ab.lit rfl (by decide)); clear hr0) | (refine fl_cmp rfl _ _ _ _ _ rfl rfl _ _ _ rfl rfl ?_; intro b hb0; have hb := hb0 _ _ (by first | assumption | exact Ab.lit rfl (by decide)) (by first | assumption | exact Ab.lit rfl (by decide)); clear hb0; (try simp only [*] at hb); subst hb) | (refine fl_same rfl _ _ _ rfl _ _ rfl rfl rfl ?_) | (refine fl_wide rfl _ _ _ rfl _ rfl rfl rfl ?_; intro r n hr0; have hr := hr0 _ (by first | assumption | exact Ab.lit rfl (by decide)); clear hr0) | (refine fl_narrow rfl _ _ _ rfl _ rfl rfl rfl ?_; intro r n hl hr0; have hr := hr0 _ (by first | assumption | exact Ab.lit rfl (by decide)) (by assumption); clear hr0 hl) | (refine fl_neg rfl _ _ rfl _ _ rfl ?_; intro r hr0; have hr := hr0 _ (by first | assumption | exact Ab.lit rfl (by decide)); clear hr0) | (refine fl_sqrt rfl 99 _ _ rfl _ rfl ext_sqrt ?_; intro r n hr0; have hr := hr0 _ (by first | assumption | exact Ab.lit rfl (by decide)); clear hr0) | go_in)
  go_ret
  exact ⟨_, _, rfl, by assumption, rfl⟩


end Go.Proofs.Ytgjcjgaflgmofaa
