/- Walks: PlaceOfWay. No conditions. -/
import Derived.Test.YtnkogheibofboaaWb5
namespace Go.Proofs.Ytnkogheibofboaa.B
open Go.RowKit
set_option maxRecDepth 8000

theorem ok_turn (o1 o2 o3 : Bool) {A : Option Nat} (oA : Ok .f64 A) : Ok .f64 (turnT o1 o2 o3 A) := by
  unfold turnT
  dsimp only
  have hB : Ok .f64 (if o1 = true then opA .sub .f64 (some 4598175219545276416) A else A) := by
    split
    · exact Ok.op
    · exact oA
  have hC : Ok .f64 (if o2 = true then opA .sub .f64 (some 4602678819172646912) (if o1 = true then opA .sub .f64 (some 4598175219545276416) A else A) else (if o1 = true then opA .sub .f64 (some 4598175219545276416) A else A)) := by
    split
    · exact Ok.op
    · exact hB
  split
  · exact hC.neg
  · exact hC
theorem ok_angle (Y X : Option Nat) : Ok .f32 (angleA Y X) := by
  unfold angleA
  refine Ok.narrow ?_
  unfold outA
  split
  · split
    · exact Ok.lit (by decide) (by decide)
    · exact ok_turn _ _ _ Ok.op
  · exact Ok.none _
theorem ok_wrap (X : Option Nat) : Ok .f32 (wrapA X) := by
  unfold wrapA
  split
  · exact Ok.lit (by decide) (by decide)
  · exact Ok.op

/-- How far north and east a way leads, before they are looked at. -/
def northA (X Y Z : Option Nat) : Option Nat := angleA Z (rootA (opA .add .f32 (opA .mul .f32 X X) (opA .mul .f32 Y Y)))
def eastA (X Y : Option Nat) : Option Nat := wrapA (angleA Y X)
def longOk (X Y Z : Option Nat) : Bool := finWay X Y Z && finA .f32 (rootA (dotWay X Y Z X Y Z)) && cmpA .gtr .f32 (rootA (dotWay X Y Z X Y Z)) (some 0)

section
variable {x y z : Nat} {X Y Z : Option Nat} (hx : Ab .f32 x X) (hy : Ab .f32 y Y) (hz : Ab .f32 z Z) (w : World)

include hx in
set_option maxHeartbeats 400000 in
theorem spec_above : Calls Try.prog 93 #[.float .f32 x] w (Draws (.bool (finA .f32 X && cmpA .gtr .f32 X (some 0))) w) := by
  have HF := fun w' => spec_finite x X hx w'
  cases h1 : finA .f32 X <;> rw [h1] at HF
  all_goals
    go_enter Try.func93, Try.ntmps93
    go_wp2_with (first | (refine fl_arith rfl _ _ _ _ _ rfl rfl _ _ _ rfl rfl ?_; intro r n hr0; have hr := hr0 _ _ (by first | assumption | exact Ab.lit rfl (by decide)) (by first | assumption | exact Ab.lit rfl (by decide)); clear hr0) | (refine fl_cmp rfl _ _ _ _ _ rfl rfl _ _ _ rfl rfl ?_; intro b hb0; have hb := hb0 _ _ (by first | assumption | exact Ab.lit rfl (by decide)) (by first | assumption | exact Ab.lit rfl (by decide)); clear hb0; (try simp only [*] at hb); subst hb) | (refine fl_same rfl _ _ _ rfl _ _ rfl rfl rfl ?_) | (refine fl_wide rfl _ _ _ rfl _ rfl rfl rfl ?_; intro r n hr0; have hr := hr0 _ (by first | assumption | exact Ab.lit rfl (by decide)); clear hr0) | (refine fl_narrow rfl _ _ _ rfl _ rfl rfl rfl ?_; intro r n hl hr0; have hr := hr0 _ (by first | assumption | exact Ab.lit rfl (by decide)) (by assumption); clear hr0 hl) | (refine fl_neg rfl _ _ rfl _ _ rfl ?_; intro r hr0; have hr := hr0 _ (by first | assumption | exact Ab.lit rfl (by decide)); clear hr0) | (go_at_call 58; (with_reducible_and_instances refine Calls.mono (HF _) ?_); rintro e w' ⟨rfl, n1, rfl⟩))
    go_ret
    exact ⟨rfl, _, rfl⟩

include hx hy hz in
set_option maxHeartbeats 4000000 in
theorem impl_PlaceOfWay : Calls Try.prog 24 #[.agg #[.float .f32 x, .float .f32 y, .float .f32 z]] w (SaysPlace (longOk X Y Z && validA (northA X Y Z) (eastA X Y)) (northA X Y Z) (eastA X Y) w) := by
  have HL := fun w' => impl_LongOfWay hx hy hz w'
  have HA1 : ∀ r, Ab .f32 r (rootA (opA .add .f32 (opA .mul .f32 X X) (opA .mul .f32 Y Y))) → ∀ w', Calls Try.prog 29 #[.float .f32 z, .float .f32 r] w' (SaysA (northA X Y Z) w') := fun r hr w' => impl_AngleTurns z r _ _ hz hr w'
  have HA2 : ∀ w', Calls Try.prog 29 #[.float .f32 y, .float .f32 x] w' (SaysA (angleA Y X) w') := fun w' => impl_AngleTurns y x _ _ hy hx w'
  have HRt : ∀ r, Ab .f32 r (opA .add .f32 (opA .mul .f32 X X) (opA .mul .f32 Y Y)) → ∀ w', Calls Try.prog 33 #[.float .f32 r] w' (Turns (rootA (opA .add .f32 (opA .mul .f32 X X) (opA .mul .f32 Y Y))) w') := fun r hr w' => impl_RootNumber r _ hr w'
  have HW : ∀ r, Ab .f32 r (angleA Y X) → ∀ w', Calls Try.prog 63 #[.float .f32 r] w' (Turns (eastA X Y) w') := fun r hr w' => impl_wrap r _ hr w'
  have HV : ∀ n e, Ab .f32 n (northA X Y Z) → Ab .f32 e (eastA X Y) → ∀ w', Calls Try.prog 62 #[.agg #[.float .f32 n, .float .f32 e], .bool true] w' (SaysPlace (validA (northA X Y Z) (eastA X Y)) (northA X Y Z) (eastA X Y) w') := fun n e hn he w' => impl_valid hn he w'
  have eN : ∃ r, Ab .f32 r (northA X Y Z) := ok_ex (ok_angle _ _)
  have eH : ∃ r, Ab .f32 r (rootA (opA .add .f32 (opA .mul .f32 X X) (opA .mul .f32 Y Y))) := ok_ex (Ok.narrow (Ok.sqrt _))
  have eX : ∃ r, Ab .f32 r (opA .mul .f32 X X) := ok_ex Ok.op
  have eY : ∃ r, Ab .f32 r (opA .mul .f32 Y Y) := ok_ex Ok.op
  have eS : ∃ r, Ab .f32 r (opA .add .f32 (opA .mul .f32 X X) (opA .mul .f32 Y Y)) := ok_ex Ok.op
  unfold longOk
  generalize rootA (dotWay X Y Z X Y Z) = R at *
  generalize rootA (opA .add .f32 (opA .mul .f32 X X) (opA .mul .f32 Y Y)) = H at *
  generalize northA X Y Z = NN at *
  generalize eastA X Y = EE at *
  generalize angleA Y X = AE at *
  generalize validA NN EE = vok at *
  cases h1 : (finWay X Y Z && finA .f32 R) <;> rw [h1] at HL
  · go_enter Try.func24, Try.ntmps24
    go_wp2_with (first | (refine fl_arith rfl _ _ _ _ _ rfl rfl _ _ _ rfl rfl ?_; intro r n hr0; have hr := hr0 _ _ (by first | assumption | exact Ab.lit rfl (by decide)) (by first | assumption | exact Ab.lit rfl (by decide)); clear hr0) | (refine fl_cmp rfl _ _ _ _ _ rfl rfl _ _ _ rfl rfl ?_; intro b hb0; have hb := hb0 _ _ (by first | assumption | exact Ab.lit rfl (by decide)) (by first | assumption | exact Ab.lit rfl (by decide)); clear hb0; (try simp only [*] at hb); subst hb) | (refine fl_same rfl _ _ _ rfl _ _ rfl rfl rfl ?_) | (refine fl_wide rfl _ _ _ rfl _ rfl rfl rfl ?_; intro r n hr0; have hr := hr0 _ (by first | assumption | exact Ab.lit rfl (by decide)); clear hr0) | (refine fl_narrow rfl _ _ _ rfl _ rfl rfl rfl ?_; intro r n hl hr0; have hr := hr0 _ (by first | assumption | exact Ab.lit rfl (by decide)) (by assumption); clear hr0 hl) | (refine fl_neg rfl _ _ rfl _ _ rfl ?_; intro r hr0; have hr := hr0 _ (by first | assumption | exact Ab.lit rfl (by decide)); clear hr0) | (go_at_call 27; obtain ⟨W, hW, b1, o1, bel⟩ := box_own w 37 34 #[.float .f32 x, .float .f32 y, .float .f32 z] #[.float .f32 0, .float .f32 0]; rw [hW]; clear hW; (with_reducible_and_instances refine Calls.mono (HL W) ?_); rintro e w1 ⟨r1, rfl, g1, B1⟩; have o2 := o1.kept B1 o1.lt; have bel1 := bel.trans (B1.mono bel.size); clear b1 o1 bel) | (refine fl_put (n := 2) rfl _ _ _ rfl _ rfl _ rfl _ (by assumption) (by rfl) (by rfl) info_place (by simp [Value.oneCell']) ?_; intro W3 o3 j3 k3))
    exact bodyPost_ret (results_cell_slot Try.results24 _ _ _ _ _ _ rfl rfl o3 Try.underlying34 rfl info_place) rfl ⟨0, 0, rfl, Ab.lit rfl (by decide), Ab.lit rfl (by decide), k3 _ _ (Nat.le_succ _) bel1⟩
  · cases h2 : cmpA .gtr .f32 R (some 0)
    · go_enter Try.func24, Try.ntmps24
      go_wp2_with (first | (refine fl_arith rfl _ _ _ _ _ rfl rfl _ _ _ rfl rfl ?_; intro r n hr0; have hr := hr0 _ _ (by first | assumption | exact Ab.lit rfl (by decide)) (by first | assumption | exact Ab.lit rfl (by decide)); clear hr0) | (refine fl_cmp rfl _ _ _ _ _ rfl rfl _ _ _ rfl rfl ?_; intro b hb0; have hb := hb0 _ _ (by first | assumption | exact Ab.lit rfl (by decide)) (by first | assumption | exact Ab.lit rfl (by decide)); clear hb0; (try simp only [*] at hb); subst hb) | (refine fl_same rfl _ _ _ rfl _ _ rfl rfl rfl ?_) | (refine fl_wide rfl _ _ _ rfl _ rfl rfl rfl ?_; intro r n hr0; have hr := hr0 _ (by first | assumption | exact Ab.lit rfl (by decide)); clear hr0) | (refine fl_narrow rfl _ _ _ rfl _ rfl rfl rfl ?_; intro r n hl hr0; have hr := hr0 _ (by first | assumption | exact Ab.lit rfl (by decide)) (by assumption); clear hr0 hl) | (refine fl_neg rfl _ _ rfl _ _ rfl ?_; intro r hr0; have hr := hr0 _ (by first | assumption | exact Ab.lit rfl (by decide)); clear hr0) | (go_at_call 27; obtain ⟨W, hW, b1, o1, bel⟩ := box_own w 37 34 #[.float .f32 x, .float .f32 y, .float .f32 z] #[.float .f32 0, .float .f32 0]; rw [hW]; clear hW; (with_reducible_and_instances refine Calls.mono (HL W) ?_); rintro e w1 ⟨r1, rfl, g1, B1⟩; have g0 : Ab .f32 r1 R := g1; clear g1; have o2 := o1.kept B1 o1.lt; have bel1 := bel.trans (B1.mono bel.size); clear b1 o1 bel) | (refine fl_put (n := 2) rfl _ _ _ rfl _ rfl _ rfl _ (by assumption) (by rfl) (by rfl) info_place (by simp [Value.oneCell']) ?_; intro W3 o3 j3 k3))
      exact bodyPost_ret (results_cell_slot Try.results24 _ _ _ _ _ _ rfl rfl o3 Try.underlying34 rfl info_place) rfl ⟨0, 0, rfl, Ab.lit rfl (by decide), Ab.lit rfl (by decide), k3 _ _ (Nat.le_succ _) bel1⟩
    · go_enter Try.func24, Try.ntmps24
      go_wp2_with (first | (refine fl_arith rfl _ _ _ _ _ rfl rfl _ _ _ rfl rfl ?_; intro r n hr0; have hr := hr0 _ _ (by first | assumption | exact Ab.lit rfl (by decide)) (by first | assumption | exact Ab.lit rfl (by decide)); clear hr0) | (refine fl_cmp rfl _ _ _ _ _ rfl rfl _ _ _ rfl rfl ?_; intro b hb0; have hb := hb0 _ _ (by first | assumption | exact Ab.lit rfl (by decide)) (by first | assumption | exact Ab.lit rfl (by decide)); clear hb0; (try simp only [*] at hb); subst hb) | (refine fl_same rfl _ _ _ rfl _ _ rfl rfl rfl ?_) | (refine fl_wide rfl _ _ _ rfl _ rfl rfl rfl ?_; intro r n hr0; have hr := hr0 _ (by first | assumption | exact Ab.lit rfl (by decide)); clear hr0) | (refine fl_narrow rfl _ _ _ rfl _ rfl rfl rfl ?_; intro r n hl hr0; have hr := hr0 _ (by first | assumption | exact Ab.lit rfl (by decide)) (by assumption); clear hr0 hl) | (refine fl_neg rfl _ _ rfl _ _ rfl ?_; intro r hr0; have hr := hr0 _ (by first | assumption | exact Ab.lit rfl (by decide)); clear hr0) | (go_at_call 27; obtain ⟨W, hW, b1, o1, bel⟩ := box_own w 37 34 #[.float .f32 x, .float .f32 y, .float .f32 z] #[.float .f32 0, .float .f32 0]; rw [hW]; clear hW; (with_reducible_and_instances refine Calls.mono (HL W) ?_); rintro e w1 ⟨r1, rfl, g1, B1⟩; have g0 : Ab .f32 r1 R := g1; clear g1; have b2 := b1.kept B1 b1.lt; have o2 := o1.kept B1 o1.lt; have bel1 := bel.trans (B1.mono bel.size); clear b1 o1 bel B1))
      refine Rg.region (fun w' => Below w1.heap.size w1 w') (Rg.pick [Rg.one (.pointer (some ⟨w.heap.size, 2, none⟩)), Rg.one (.float .f32 z), Rg.one (.pointer (some ⟨w.heap.size, 0, none⟩)), Rg.one (.float .f32 x), Rg.one (.pointer (some ⟨w.heap.size, 0, none⟩)), Rg.one (.float .f32 x), Rg.fl .f32 (opA .mul .f32 X X),
        Rg.one (.pointer (some ⟨w.heap.size, 1, none⟩)), Rg.one (.float .f32 y), Rg.one (.pointer (some ⟨w.heap.size, 1, none⟩)), Rg.one (.float .f32 y), Rg.fl .f32 (opA .mul .f32 Y Y), Rg.fl .f32 (opA .add .f32 (opA .mul .f32 X X) (opA .mul .f32 Y Y)), Rg.fl .f32 H, Rg.fl .f32 NN, Rg.fl .f32 NN]) (by kernel_rfl) (by kernel_rfl) (Below.refl _ _).drew
        (Rg.pick_ne (by intro T hT; simp only [List.mem_cons, List.not_mem_nil, or_false] at hT; rcases hT with rfl | rfl | rfl | rfl | rfl | rfl | rfl | rfl | rfl | rfl | rfl | rfl | rfl | rfl | rfl | rfl <;> first | exact Rg.one_ne _ | exact Rg.fl_ne eX | exact Rg.fl_ne eY | exact Rg.fl_ne eS | exact Rg.fl_ne eH | exact Rg.fl_ne eN)) ?_
      (refine Rg.line_step rfl rfl (Rg.good_one fun w' hw' => (by go_simp)) ?_; rintro _ rfl; go_simp)
      (refine Rg.line_step rfl rfl (Rg.good_one fun w' hw' => (by have q := Box.cell (j := 2) (b2.kept hw' b2.lt) rfl; go_simp)) ?_; rintro _ rfl; go_simp)
      (refine Rg.line_step rfl rfl (Rg.good_one fun w' hw' => (by go_simp)) ?_; rintro _ rfl; go_simp)
      (refine Rg.line_step rfl rfl (Rg.good_one fun w' hw' => (by have q := Box.cell (j := 0) (b2.kept hw' b2.lt) rfl; go_simp)) ?_; rintro _ rfl; go_simp)
      (refine Rg.line_step rfl rfl (Rg.good_one fun w' hw' => (by go_simp)) ?_; rintro _ rfl; go_simp)
      (refine Rg.line_step rfl rfl (Rg.good_one fun w' hw' => (by have q := Box.cell (j := 0) (b2.kept hw' b2.lt) rfl; go_simp)) ?_; rintro _ rfl; go_simp)
      (refine Rg.line_step rfl rfl (Rg.good_arith (Rg.below_class _) _ _ _ _ _ rfl rfl _ _ _ rfl rfl hx hx) ?_; rintro _ ⟨xx, rfl, hxx⟩; go_simp)
      (refine Rg.line_step rfl rfl (Rg.good_one fun w' hw' => (by go_simp)) ?_; rintro _ rfl; go_simp)
      (refine Rg.line_step rfl rfl (Rg.good_one fun w' hw' => (by have q := Box.cell (j := 1) (b2.kept hw' b2.lt) rfl; go_simp)) ?_; rintro _ rfl; go_simp)
      (refine Rg.line_step rfl rfl (Rg.good_one fun w' hw' => (by go_simp)) ?_; rintro _ rfl; go_simp)
      (refine Rg.line_step rfl rfl (Rg.good_one fun w' hw' => (by have q := Box.cell (j := 1) (b2.kept hw' b2.lt) rfl; go_simp)) ?_; rintro _ rfl; go_simp)
      (refine Rg.line_step rfl rfl (Rg.good_arith (Rg.below_class _) _ _ _ _ _ rfl rfl _ _ _ rfl rfl hy hy) ?_; rintro _ ⟨yy, rfl, hyy⟩; go_simp)
      (refine Rg.line_step rfl rfl (Rg.good_arith (Rg.below_class _) _ _ _ _ _ rfl rfl _ _ _ rfl rfl hxx hyy) ?_; rintro _ ⟨ss, rfl, hss⟩; go_simp)
      (refine Rg.line_step rfl rfl (Rg.good_turns (fun w' => by go_simp) fun w' => HRt _ hss w') ?_; rintro _ ⟨r2, rfl, g2⟩; go_simp)
      (refine Rg.line_step rfl rfl (Rg.good_saysA (fun w' => by go_simp) fun w' => HA1 _ g2 w') ?_; rintro _ ⟨r3, rfl, g3⟩; go_simp)
      (refine Rg.line_step rfl rfl (Rg.good_val ⟨_, rfl, g3⟩ fun w' hw' => (by go_simp)) ?_; rintro _ ⟨r4, rfl, hr4⟩; go_simp)
      intro w2 hw2
      have b3 := b2.kept hw2 b2.lt
      have o3 := o2.kept hw2 o2.lt
      have bel2 := bel1.trans (hw2.mono bel1.size)
      have q0 := Box.cell (j := 0) b3 rfl
      have q1 := Box.cell (j := 1) b3 rfl
      clear b2 o2 bel1
      go_wp2_with (first | (refine fl_arith rfl _ _ _ _ _ rfl rfl _ _ _ rfl rfl ?_; intro r n hr0; have hr := hr0 _ _ (by first | assumption | exact Ab.lit rfl (by decide)) (by first | assumption | exact Ab.lit rfl (by decide)); clear hr0) | (refine fl_cmp rfl _ _ _ _ _ rfl rfl _ _ _ rfl rfl ?_; intro b hb0; have hb := hb0 _ _ (by first | assumption | exact Ab.lit rfl (by decide)) (by first | assumption | exact Ab.lit rfl (by decide)); clear hb0; (try simp only [*] at hb); subst hb) | (refine fl_same rfl _ _ _ rfl _ _ rfl rfl rfl ?_) | (refine fl_wide rfl _ _ _ rfl _ rfl rfl rfl ?_; intro r n hr0; have hr := hr0 _ (by first | assumption | exact Ab.lit rfl (by decide)); clear hr0) | (refine fl_narrow rfl _ _ _ rfl _ rfl rfl rfl ?_; intro r n hl hr0; have hr := hr0 _ (by first | assumption | exact Ab.lit rfl (by decide)) (by assumption); clear hr0 hl) | (refine fl_neg rfl _ _ rfl _ _ rfl ?_; intro r hr0; have hr := hr0 _ (by first | assumption | exact Ab.lit rfl (by decide)); clear hr0) | (go_at_call 29; (with_reducible_and_instances refine Calls.mono (HA2 _) ?_); rintro e w' ⟨r5, rfl, g5, B5⟩; have o4 := o3.kept B5 o3.lt; have bel3 := bel2.trans (B5.mono bel2.size); clear o3 bel2) | (go_at_call 63; (with_reducible_and_instances refine Calls.mono (HW _ g5 _) ?_); rintro e w' ⟨r6, m6, rfl, g6, rfl⟩; have o5 := o4.drewN m6; have bel4 := below_drewN bel3 m6; clear o4 bel3) | (go_at_call 62; (with_reducible_and_instances refine Calls.mono (HV _ _ hr4 g6 _) ?_); rintro e w' ⟨n7, e7, rfl, g7, g8, B7⟩; have o6 := o5.kept B7 o5.lt; have bel5 := bel4.trans (B7.mono bel4.size); clear o5 bel4) | (refine fl_put (n := 2) rfl _ _ _ rfl _ rfl _ rfl _ (by assumption) (by rfl) (by rfl) info_place (by simp [Value.oneCell']) ?_; intro W3 o3 j3 k3))
      exact bodyPost_ret (results_cell_slot Try.results24 _ _ _ _ _ _ rfl rfl o3 Try.underlying34 rfl info_place) rfl ⟨n7, e7, rfl, g7, g8, k3 _ _ (Nat.le_succ _) bel5⟩

end
end Go.Proofs.Ytnkogheibofboaa.B
