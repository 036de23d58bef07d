/- Walks: norths of a flattened ball. No conditions. -/
import Derived.Test.YtnkogheibofboaaWm
import Derived.Test.YtnkogheibofboaaWq
namespace Go.Proofs.Ytnkogheibofboaa
open Go.RowKit
set_option maxRecDepth 8000

def GivesIf (ok : Bool) (X : Option Nat) (w : World) (e : Ending) (w' : World) : Prop :=
  ∃ r m, e = .returned (.tuple #[.float .f32 r, .bool ok]) ∧ Ab .f32 r (if ok = true then X else some 0) ∧ w' = w.drewN m
def SaysIf (ok : Bool) (X : Option Nat) (w : World) (e : Ending) (w' : World) : Prop :=
  ∃ r, e = .returned (.tuple #[.float .f32 r, .bool ok]) ∧ Ab .f32 r (if ok = true then X else some 0) ∧ Below w.heap.size w w'

section
variable {x : Nat} {X : Option Nat} (hx : Ab .f32 x X) (w : World)
include hx in
set_option maxHeartbeats 400000 in
theorem spec_number : Calls Try.prog 65 #[.float .f32 x] w (GivesIf (finA .f32 X) X w) := by
  cases h1 : finA .f32 X
  · go_enter Try.func65, Try.ntmps65
    go_wp2_with (first | (refine fl_arith rfl _ _ _ _ _ rfl rfl _ _ _ rfl rfl ?_; intro r n hr0; have hr := hr0 _ _ (by first | assumption | exact Ab.lit rfl (by decide)) (by first | assumption | exact Ab.lit rfl (by decide)); clear hr0) | (refine fl_cmp rfl _ _ _ _ _ rfl rfl _ _ _ rfl rfl ?_; intro b hb0; have hb := hb0 _ _ (by first | assumption | exact Ab.lit rfl (by decide)) (by first | assumption | exact Ab.lit rfl (by decide)); clear hb0; (try simp only [*] at hb); subst hb) | (refine fl_same rfl _ _ _ rfl _ _ rfl rfl rfl ?_) | (refine fl_wide rfl _ _ _ rfl _ rfl rfl rfl ?_; intro r n hr0; have hr := hr0 _ (by first | assumption | exact Ab.lit rfl (by decide)); clear hr0) | (refine fl_narrow rfl _ _ _ rfl _ rfl rfl rfl ?_; intro r n hl hr0; have hr := hr0 _ (by first | assumption | exact Ab.lit rfl (by decide)) (by assumption); clear hr0 hl) | (refine fl_neg rfl _ _ rfl _ _ rfl ?_; intro r hr0; have hr := hr0 _ (by first | assumption | exact Ab.lit rfl (by decide)); clear hr0) | (go_at_call 58; (with_reducible_and_instances refine Calls.mono (spec_finite _ _ hx _) ?_); rintro e w' ⟨rfl, n1, rfl⟩))
    go_ret2
    exact ⟨0, _, rfl, Ab.lit rfl (by decide), rfl⟩
  · go_enter Try.func65, Try.ntmps65
    go_wp2_with (first | (refine fl_arith rfl _ _ _ _ _ rfl rfl _ _ _ rfl rfl ?_; intro r n hr0; have hr := hr0 _ _ (by first | assumption | exact Ab.lit rfl (by decide)) (by first | assumption | exact Ab.lit rfl (by decide)); clear hr0) | (refine fl_cmp rfl _ _ _ _ _ rfl rfl _ _ _ rfl rfl ?_; intro b hb0; have hb := hb0 _ _ (by first | assumption | exact Ab.lit rfl (by decide)) (by first | assumption | exact Ab.lit rfl (by decide)); clear hb0; (try simp only [*] at hb); subst hb) | (refine fl_same rfl _ _ _ rfl _ _ rfl rfl rfl ?_) | (refine fl_wide rfl _ _ _ rfl _ rfl rfl rfl ?_; intro r n hr0; have hr := hr0 _ (by first | assumption | exact Ab.lit rfl (by decide)); clear hr0) | (refine fl_narrow rfl _ _ _ rfl _ rfl rfl rfl ?_; intro r n hl hr0; have hr := hr0 _ (by first | assumption | exact Ab.lit rfl (by decide)) (by assumption); clear hr0 hl) | (refine fl_neg rfl _ _ rfl _ _ rfl ?_; intro r hr0; have hr := hr0 _ (by first | assumption | exact Ab.lit rfl (by decide)); clear hr0) | (go_at_call 58; (with_reducible_and_instances refine Calls.mono (spec_finite _ _ hx _) ?_); rintro e w' ⟨rfl, n1, rfl⟩))
    go_ret2
    exact ⟨x, _, rfl, hx, rfl⟩

include hx in
set_option maxHeartbeats 400000 in
theorem impl_number (ok : Bool) : Calls Try.prog 55 #[.float .f32 x, .bool ok] w (GivesIf (ok && finA .f32 X) X w) := by
  cases ok <;> cases h1 : finA .f32 X
  all_goals
    go_enter Try.func55, Try.ntmps55
    go_wp2_with (first | (refine fl_arith rfl _ _ _ _ _ rfl rfl _ _ _ rfl rfl ?_; intro r n hr0; have hr := hr0 _ _ (by first | assumption | exact Ab.lit rfl (by decide)) (by first | assumption | exact Ab.lit rfl (by decide)); clear hr0) | (refine fl_cmp rfl _ _ _ _ _ rfl rfl _ _ _ rfl rfl ?_; intro b hb0; have hb := hb0 _ _ (by first | assumption | exact Ab.lit rfl (by decide)) (by first | assumption | exact Ab.lit rfl (by decide)); clear hb0; (try simp only [*] at hb); subst hb) | (refine fl_same rfl _ _ _ rfl _ _ rfl rfl rfl ?_) | (refine fl_wide rfl _ _ _ rfl _ rfl rfl rfl ?_; intro r n hr0; have hr := hr0 _ (by first | assumption | exact Ab.lit rfl (by decide)); clear hr0) | (refine fl_narrow rfl _ _ _ rfl _ rfl rfl rfl ?_; intro r n hl hr0; have hr := hr0 _ (by first | assumption | exact Ab.lit rfl (by decide)) (by assumption); clear hr0 hl) | (refine fl_neg rfl _ _ rfl _ _ rfl ?_; intro r hr0; have hr := hr0 _ (by first | assumption | exact Ab.lit rfl (by decide)); clear hr0) | (go_at_call 52; (with_reducible_and_instances refine Calls.mono (impl_finite _ _ hx _) ?_); rintro e w' ⟨rfl, n1, rfl⟩))
    go_ret2
  · exact ⟨0, 0, rfl, Ab.lit rfl (by decide), rfl⟩
  · exact ⟨0, 0, rfl, Ab.lit rfl (by decide), rfl⟩
  · exact ⟨0, _, rfl, Ab.lit rfl (by decide), rfl⟩
  · exact ⟨x, _, rfl, hx, rfl⟩

end

def flatOk (N F : Option Nat) : Bool := cmpA .geq .f32 N (some 3196059648) && cmpA .leq .f32 N (some 1048576000) && cmpA .geq .f32 F (some 0) && cmpA .leq .f32 F (some 1056964608)
def heartA (F : Option Nat) : Option Nat := opA .mul .f32 (opA .sub .f32 (some 1065353216) F) (opA .sub .f32 (some 1065353216) F)












end Go.Proofs.Ytnkogheibofboaa
