/- Walks: the bits of a number, absolute values, numbers near to 0. No conditions. -/
import Derived.Test.YtoimjjagkfgogaaWs
namespace Go.Proofs.Ytoimjjagkfgogaa
open Go.RowKit
set_option maxRecDepth 8000

set_option maxHeartbeats 400000 in
theorem spec_l01Bits (x : Nat) (X : Option Nat) (hx : Ab .f32 x X) (w : World) :
    Calls Try.prog 34 #[.float .f32 x] w fun e w' => e = .returned (.int .i64 (bitsA X)) ∧ w = w' := by
  have e := neq_self hx
  have hl := le32 hx
  cases X with
  | none =>
    have e' : cmpA .neq .f32 none none = true := by simpa using e
    clear e
    go_enter Try.func34, Try.ntmps34
    go_wp2_with (first | (refine fl_arith rfl _ _ _ _ _ rfl rfl _ _ _ rfl rfl ?_; intro r n hr0; have hr := hr0 _ _ (by first | assumption | exact Ab.lit rfl (by decide)) (by first | assumption | exact Ab.lit rfl (by decide)); clear hr0) | (refine fl_cmp rfl _ _ _ _ _ rfl rfl _ _ _ rfl rfl ?_; intro b hb0; have hb := hb0 _ _ (by first | assumption | exact Ab.lit rfl (by decide)) (by first | assumption | exact Ab.lit rfl (by decide)); clear hb0; (try simp only [*] at hb); subst hb) | (refine fl_same rfl _ _ _ rfl _ _ rfl rfl rfl ?_) | (refine fl_wide rfl _ _ _ rfl _ rfl rfl rfl ?_; intro r n hr0; have hr := hr0 _ (by first | assumption | exact Ab.lit rfl (by decide)); clear hr0) | (refine fl_narrow rfl _ _ _ rfl _ rfl rfl rfl ?_; intro r n hl hr0; have hr := hr0 _ (by first | assumption | exact Ab.lit rfl (by decide)) (by assumption); clear hr0 hl) | (refine fl_neg rfl _ _ rfl _ _ rfl ?_; intro r hr0; have hr := hr0 _ (by first | assumption | exact Ab.lit rfl (by decide)); clear hr0) | go_in)
    go_ret
    exact ⟨rfl, rfl⟩
  | some b =>
    obtain ⟨rfl, _⟩ := hx.of_some
    have e' : cmpA .neq .f32 (some x) (some x) = false := by simpa using e
    clear e
    go_enter Try.func34, Try.ntmps34
    go_wp2_with (first | (refine fl_arith rfl _ _ _ _ _ rfl rfl _ _ _ rfl rfl ?_; intro r n hr0; have hr := hr0 _ _ (by first | assumption | exact Ab.lit rfl (by decide)) (by first | assumption | exact Ab.lit rfl (by decide)); clear hr0) | (refine fl_cmp rfl _ _ _ _ _ rfl rfl _ _ _ rfl rfl ?_; intro b hb0; have hb := hb0 _ _ (by first | assumption | exact Ab.lit rfl (by decide)) (by first | assumption | exact Ab.lit rfl (by decide)); clear hb0; (try simp only [*] at hb); subst hb) | (refine fl_same rfl _ _ _ rfl _ _ rfl rfl rfl ?_) | (refine fl_wide rfl _ _ _ rfl _ rfl rfl rfl ?_; intro r n hr0; have hr := hr0 _ (by first | assumption | exact Ab.lit rfl (by decide)); clear hr0) | (refine fl_narrow rfl _ _ _ rfl _ rfl rfl rfl ?_; intro r n hl hr0; have hr := hr0 _ (by first | assumption | exact Ab.lit rfl (by decide)) (by assumption); clear hr0 hl) | (refine fl_neg rfl _ _ rfl _ _ rfl ?_; intro r hr0; have hr := hr0 _ (by first | assumption | exact Ab.lit rfl (by decide)); clear hr0) | go_in)
    go_ret
    exact ⟨rfl, rfl⟩

set_option maxHeartbeats 400000 in
theorem abs_any (x : Nat) (X : Option Nat) (hx : Ab .f64 x X) (w : World) :
    Calls Try.prog 16 #[.float .f64 x] w fun e w' => ∃ r, e = .returned (.float .f64 r) ∧ Ab .f64 r (absA X) ∧ w = w' := by
  go_enter Try.func16, Try.ntmps16
  go_wp2
  go_ret
  exact ⟨_, rfl, abs_ab hx, rfl⟩

def subA (X : Option Nat) : Bool := cmpA .neq .f32 X (some 0) && cmpA .lss .f64 (absA (wideA X)) (some 4039728865751334912)


end Go.Proofs.Ytoimjjagkfgogaa
