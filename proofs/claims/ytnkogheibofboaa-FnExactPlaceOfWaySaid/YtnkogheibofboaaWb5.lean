/- Walks: places that are looked at before they are returned. No conditions. -/
import Derived.Test.YtnkogheibofboaaWb2
namespace Go.Proofs.Ytnkogheibofboaa.B
open Go.RowKit
set_option maxRecDepth 8000

section
variable {x y : Nat} {N E : Option Nat} (hx : Ab .f32 x N) (hy : Ab .f32 y E) (w : World)

set_option maxHeartbeats 1000000 in
include hx hy in
theorem impl_valid : Calls Try.prog 62 #[.agg #[.float .f32 x, .float .f32 y], .bool true] w (SaysPlace (validA N E) N E w) := by
  have HV := fun w' => impl_ValidPlace hx hy w'
  cases c : validA N E <;> rw [c] at HV
  all_goals
    go_enter Try.func62, Try.ntmps62
    go_wp2_with (first | (refine fl_arith rfl _ _ _ _ _ rfl rfl _ _ _ rfl rfl ?_; intro r n hr0; have hr := hr0 _ _ (by first | assumption | exact Ab.lit rfl (by decide)) (by first | assumption | exact Ab.lit rfl (by decide)); clear hr0) | (refine fl_cmp rfl _ _ _ _ _ rfl rfl _ _ _ rfl rfl ?_; intro b hb0; have hb := hb0 _ _ (by first | assumption | exact Ab.lit rfl (by decide)) (by first | assumption | exact Ab.lit rfl (by decide)); clear hb0; (try simp only [*] at hb); subst hb) | (refine fl_same rfl _ _ _ rfl _ _ rfl rfl rfl ?_) | (refine fl_wide rfl _ _ _ rfl _ rfl rfl rfl ?_; intro r n hr0; have hr := hr0 _ (by first | assumption | exact Ab.lit rfl (by decide)); clear hr0) | (refine fl_narrow rfl _ _ _ rfl _ rfl rfl rfl ?_; intro r n hl hr0; have hr := hr0 _ (by first | assumption | exact Ab.lit rfl (by decide)) (by assumption); clear hr0 hl) | (refine fl_neg rfl _ _ rfl _ _ rfl ?_; intro r hr0; have hr := hr0 _ (by first | assumption | exact Ab.lit rfl (by decide)); clear hr0) | (go_at_call 96; obtain ⟨W, hW, b1, o1, bel⟩ := box_own w 34 34 #[.float .f32 x, .float .f32 y] #[.float .f32 0, .float .f32 0]; rw [hW]; clear hW; (with_reducible_and_instances refine Calls.mono (HV W) ?_); rintro e w' ⟨rfl, B1⟩; have b2 := b1.kept B1 b1.lt; have o2 := o1.kept B1 o1.lt; have bel1 := bel.trans (B1.mono bel.size); clear b1 o1 bel) | (refine fl_box (n := 2) rfl _ _ rfl _ rfl _ (by first | assumption | exact Own.box (by assumption) | exact Box.alloc (by assumption) _ | exact Box.start _ _ _ _) (by rfl) _ Try.underlying34 rfl info_place ?_) | (refine fl_put (n := 2) rfl _ _ _ rfl _ rfl _ rfl _ (by assumption) (by rfl) (by rfl) info_place (by simp [Value.oneCell']) ?_; intro W3 o3 j3 k3))
  · exact bodyPost_ret (results_cell_slot Try.results62 _ _ _ _ _ _ rfl rfl o3 Try.underlying34 rfl info_place) rfl ⟨0, 0, rfl, Ab.lit rfl (by decide), Ab.lit rfl (by decide), k3 _ _ (Nat.le_succ _) bel1⟩
  · exact bodyPost_ret (results_cell_slot Try.results62 _ _ _ _ _ _ rfl rfl o3 Try.underlying34 rfl info_place) rfl ⟨x, y, rfl, hx, hy, k3 _ _ (Nat.le_succ _) bel1⟩

set_option maxHeartbeats 1000000 in
include hx hy in
theorem spec_give : Calls Try.prog 94 #[.agg #[.float .f32 x, .float .f32 y]] w (SaysPlace (validA N E) N E w) := by
  have HV := fun w' g hB => spec_Is hx hy w' g hB
  cases c : validA N E <;> rw [c] at HV
  all_goals
    go_enter Try.func94, Try.ntmps94
    go_wp2_with (first | (refine fl_arith rfl _ _ _ _ _ rfl rfl _ _ _ rfl rfl ?_; intro r n hr0; have hr := hr0 _ _ (by first | assumption | exact Ab.lit rfl (by decide)) (by first | assumption | exact Ab.lit rfl (by decide)); clear hr0) | (refine fl_cmp rfl _ _ _ _ _ rfl rfl _ _ _ rfl rfl ?_; intro b hb0; have hb := hb0 _ _ (by first | assumption | exact Ab.lit rfl (by decide)) (by first | assumption | exact Ab.lit rfl (by decide)); clear hb0; (try simp only [*] at hb); subst hb) | (refine fl_same rfl _ _ _ rfl _ _ rfl rfl rfl ?_) | (refine fl_wide rfl _ _ _ rfl _ rfl rfl rfl ?_; intro r n hr0; have hr := hr0 _ (by first | assumption | exact Ab.lit rfl (by decide)); clear hr0) | (refine fl_narrow rfl _ _ _ rfl _ rfl rfl rfl ?_; intro r n hl hr0; have hr := hr0 _ (by first | assumption | exact Ab.lit rfl (by decide)) (by assumption); clear hr0 hl) | (refine fl_neg rfl _ _ rfl _ _ rfl ?_; intro r hr0; have hr := hr0 _ (by first | assumption | exact Ab.lit rfl (by decide)); clear hr0) | (go_at_call 110; obtain ⟨W, hW, b1, o1, bel1⟩ := box_own w 34 34 #[.float .f32 x, .float .f32 y] #[.float .f32 0, .float .f32 0]; rw [hW]; clear hW; (with_reducible_and_instances refine Calls.mono (HV W _ b1) ?_); rintro e w' ⟨rfl, rfl⟩) | (refine fl_box (n := 2) rfl _ _ rfl _ rfl _ (by first | assumption | exact Own.box (by assumption) | exact Box.alloc (by assumption) _ | exact Box.start _ _ _ _) (by rfl) _ Try.underlying34 rfl info_place ?_) | (refine fl_put (n := 2) rfl _ _ _ rfl _ rfl _ rfl _ (by assumption) (by rfl) (by rfl) info_place (by simp [Value.oneCell']) ?_; intro W3 o3 j3 k3))
  · exact bodyPost_ret (results_cell_slot Try.results94 _ _ _ _ _ _ rfl rfl o3 Try.underlying34 rfl info_place) rfl ⟨0, 0, rfl, Ab.lit rfl (by decide), Ab.lit rfl (by decide), k3 _ _ (Nat.le_succ _) bel1⟩
  · exact bodyPost_ret (results_cell_slot Try.results94 _ _ _ _ _ _ rfl rfl o3 Try.underlying34 rfl info_place) rfl ⟨x, y, rfl, hx, hy, k3 _ _ (Nat.le_succ _) bel1⟩

end
end Go.Proofs.Ytnkogheibofboaa.B
