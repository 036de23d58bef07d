/- Walks: CrossWays, the reference's side; the law. No conditions. -/
import Derived.Test.YtnkogheibofboaaWc3
import Derived.Test.YtnkogheibofboaaWz
namespace Go.Proofs.Ytnkogheibofboaa.B
open Go.RowKit
set_option maxRecDepth 8000

section
variable {x y z x' y' z' : Nat} {X Y Z X' Y' Z' : Option Nat} (hx : Ab .f32 x X) (hy : Ab .f32 y Y) (hz : Ab .f32 z Z) (hx' : Ab .f32 x' X') (hy' : Ab .f32 y' Y') (hz' : Ab .f32 z' Z') (w : World)

include hx hy hz hx' hy' hz' in
set_option maxHeartbeats 4000000 in
theorem spec_CrossWays : Calls Try.prog 37 #[.agg #[.float .f32 x, .float .f32 y, .float .f32 z], .agg #[.float .f32 x', .float .f32 y', .float .f32 z']] w
    (SaysWayIf (finWay X Y Z && finWay X' Y' Z' && finWay (crossA Y Z Y' Z') (crossA Z X Z' X') (crossA X Y X' Y')) (crossA Y Z Y' Z') (crossA Z X Z' X') (crossA X Y X' Y') w) := by
  have HC := fun w' => spec_cross hx hy hz hx' hy' hz' w'
  have H1 := fun w' => spec_ways hx hy hz w'
  have H2 := fun w' => spec_ways hx' hy' hz' w'
  generalize crossA Y Z Y' Z' = CX at *
  generalize crossA Z X Z' X' = CY at *
  generalize crossA X Y X' Y' = CZ at *
  have H3 : ∀ a b c, Ab .f32 a CX → Ab .f32 b CY → Ab .f32 c CZ → ∀ w', Calls Try.prog 64 #[.agg #[.float .f32 a, .float .f32 b, .float .f32 c]] w' (Says (.bool (finWay CX CY CZ)) w') := fun a b c ha hb hc w' => spec_ways ha hb hc w'
  generalize finWay X' Y' Z' = f2 at *
  generalize finWay CX CY CZ = f3 at *
  generalize finWay X Y Z = f1 at *
  cases f1 <;> cases f2 <;> cases f3
  all_goals
    go_enter Try.func37, Try.ntmps37
    go_wp2_with (first | (refine fl_arith rfl _ _ _ _ _ rfl rfl _ _ _ rfl rfl ?_; intro r n hr0; have hr := hr0 _ _ (by first | assumption | exact Ab.lit rfl (by decide)) (by first | assumption | exact Ab.lit rfl (by decide)); clear hr0) | (refine fl_cmp rfl _ _ _ _ _ rfl rfl _ _ _ rfl rfl ?_; intro b hb0; have hb := hb0 _ _ (by first | assumption | exact Ab.lit rfl (by decide)) (by first | assumption | exact Ab.lit rfl (by decide)); clear hb0; (try simp only [*] at hb); subst hb) | (refine fl_same rfl _ _ _ rfl _ _ rfl rfl rfl ?_) | (refine fl_wide rfl _ _ _ rfl _ rfl rfl rfl ?_; intro r n hr0; have hr := hr0 _ (by first | assumption | exact Ab.lit rfl (by decide)); clear hr0) | (refine fl_narrow rfl _ _ _ rfl _ rfl rfl rfl ?_; intro r n hl hr0; have hr := hr0 _ (by first | assumption | exact Ab.lit rfl (by decide)) (by assumption); clear hr0 hl) | (refine fl_neg rfl _ _ rfl _ _ rfl ?_; intro r hr0; have hr := hr0 _ (by first | assumption | exact Ab.lit rfl (by decide)); clear hr0) | (refine fl_box (n := 3) rfl _ _ rfl _ rfl _ (by first | assumption | exact Box.alloc (by assumption) _ | exact Box.start _ _ _ _) (by rfl) _ Try.underlying37 rfl info_way ?_) | (go_at_call 80; obtain ⟨W, hW, b1, b2, o1, bel, hsz⟩ := three_boxes w 37 37 37 #[.float .f32 x, .float .f32 y, .float .f32 z] #[.float .f32 x', .float .f32 y', .float .f32 z'] #[.float .f32 0, .float .f32 0, .float .f32 0]; rw [hW]; clear hW; (with_reducible_and_instances refine Calls.mono (HC W) ?_); rintro e w1 ⟨r1, r2, r3, rfl, g1, g2, g3, B1⟩; have c1 := b1.kept B1 b1.lt; have c2 := b2.kept B1 b2.lt; have o2 := o1.kept B1 o1.lt; have bel1 := bel.trans (B1.mono bel.size); clear b1 b2 o1 bel hsz B1) | (go_at_call 64; obtain ⟨W2, hW2, p1, bel5⟩ := one_box w1 37 #[.float .f32 r1, .float .f32 r2, .float .f32 r3]; rw [hW2]; clear hW2; (with_reducible_and_instances refine Calls.mono (H1 W2) ?_); rintro e w2 ⟨rfl, B2⟩; have B2' := bel5.trans (B2.mono bel5.size); have d1 := c1.kept B2' c1.lt; have d2 := c2.kept B2' c2.lt; have o4 := o2.kept B2' o2.lt; have p2 := p1.kept B2 p1.lt; have bel2 := bel1.trans (B2'.mono bel1.size); clear c1 c2 o2 p1 bel5 bel1 B2 B2') | (go_at_call 64; (with_reducible_and_instances refine Calls.mono (H2 _) ?_); rintro e w' ⟨rfl, B3⟩; have o5 := o4.kept B3 o4.lt; have p3 := p2.kept B3 p2.lt; have bel3 := bel2.trans (B3.mono bel2.size); clear d1 d2 o4 p2 bel2 B3) | (go_at_call 64; (with_reducible_and_instances refine Calls.mono (H3 _ _ _ g1 g2 g3 _) ?_); rintro e w' ⟨rfl, B4⟩; have o6 := o5.kept B4 o5.lt; have p4 := p3.kept B4 p3.lt; have bel4 := bel3.trans (B4.mono bel3.size); clear o5 p3 bel3 B4) | (refine fl_putK (n := 3) rfl _ _ _ rfl _ rfl _ rfl _ (by assumption) (by rfl) (by rfl) info_way (by simp [Value.oneCell']) ?_; intro W3 o3 j3 k3))
  all_goals first
    | exact bodyPost_ret (results_cell_slotK Try.results37 _ _ _ _ _ _ rfl rfl o3 Try.underlying37 rfl info_way) rfl ⟨0, 0, 0, rfl, Ab.lit rfl (by decide), Ab.lit rfl (by decide), Ab.lit rfl (by decide), k3 _ _ (by omega) (by assumption)⟩
    | exact bodyPost_ret (results_cell_slotK Try.results37 _ _ _ _ _ _ rfl rfl o3 Try.underlying37 rfl info_way) rfl ⟨r1, r2, r3, rfl, g1, g2, g3, k3 _ _ (by omega) (by assumption)⟩

end
end Go.Proofs.Ytnkogheibofboaa.B
