/- Walks: PlaceOfWay, the reference's side; the law. No conditions. -/
import Derived.Test.YtnkogheibofboaaWb3
namespace Go.Proofs.Ytnkogheibofboaa.B
open Go.RowKit
set_option maxRecDepth 8000

section
variable {x y z : Nat} {X Y Z : Option Nat} (hx : Ab .f32 x X) (hy : Ab .f32 y Y) (hz : Ab .f32 z Z) (w : World)

include hx hy hz in
set_option maxHeartbeats 4000000 in
theorem spec_From : Calls Try.prog 61 #[.agg #[.float .f32 x, .float .f32 y, .float .f32 z]] w (SaysPlace (longOk X Y Z && validA (northA X Y Z) (eastA X Y)) (northA X Y Z) (eastA X Y) w) := by
  have HL := fun w' => spec_long hx hy hz w'
  have H1 := fun w' => spec_ways hx hy hz w'
  have HAb := fun r (hr : Ab .f32 r (rootA (dotWay X Y Z X Y Z))) w' => spec_above hr w'
  have eok : longOk X Y Z = (finWay X Y Z && (finA .f32 (rootA (dotWay X Y Z X Y Z)) && cmpA .gtr .f32 (rootA (dotWay X Y Z X Y Z)) (some 0))) := Bool.and_assoc _ _ _
  have HA1 : ∀ r, Ab .f32 r (rootA (opA .add .f32 (opA .mul .f32 X X) (opA .mul .f32 Y Y))) → ∀ w', Calls Try.prog 70 #[.float .f32 z, .float .f32 r] w' (Turns (northA X Y Z) w') := fun r hr w' => spec_angle z r _ _ hz hr w'
  have HA2 : ∀ w', Calls Try.prog 70 #[.float .f32 y, .float .f32 x] w' (Turns (angleA Y X) w') := fun w' => spec_angle y x _ _ hy hx w'
  have HRt : ∀ r, Ab .f32 r (opA .add .f32 (opA .mul .f32 X X) (opA .mul .f32 Y Y)) → ∀ w', Calls Try.prog 77 #[.float .f32 r] w' (Turns (rootA (opA .add .f32 (opA .mul .f32 X X) (opA .mul .f32 Y Y))) w') := fun r hr w' => spec_l01Sqrt r _ hr w'
  have HW : ∀ r, Ab .f32 r (angleA Y X) → ∀ w', Calls Try.prog 95 #[.float .f32 r] w' (Turns (eastA X Y) w') := fun r hr w' => spec_wrap r _ hr w'
  have HV : ∀ n e, Ab .f32 n (northA X Y Z) → Ab .f32 e (eastA X Y) → ∀ w', Calls Try.prog 94 #[.agg #[.float .f32 n, .float .f32 e]] w' (SaysPlace (validA (northA X Y Z) (eastA X Y)) (northA X Y Z) (eastA X Y) w') := fun n e hn he w' => spec_give hn he w'
  have eN : ∃ r, Ab .f32 r (northA X Y Z) := ok_ex (ok_angle _ _)
  have eH : ∃ r, Ab .f32 r (rootA (opA .add .f32 (opA .mul .f32 X X) (opA .mul .f32 Y Y))) := ok_ex (Ok.narrow (Ok.sqrt _))
  have eX : ∃ r, Ab .f32 r (opA .mul .f32 X X) := ok_ex Ok.op
  have eY : ∃ r, Ab .f32 r (opA .mul .f32 Y Y) := ok_ex Ok.op
  have eS : ∃ r, Ab .f32 r (opA .add .f32 (opA .mul .f32 X X) (opA .mul .f32 Y Y)) := ok_ex Ok.op
  rw [eok]
  clear eok
  generalize rootA (dotWay X Y Z X Y Z) = R at *
  generalize rootA (opA .add .f32 (opA .mul .f32 X X) (opA .mul .f32 Y Y)) = H at *
  generalize northA X Y Z = NN at *
  generalize eastA X Y = EE at *
  generalize angleA Y X = AE at *
  generalize validA NN EE = vok at *
  generalize (finA .f32 R && cmpA .gtr .f32 R (some 0)) = f2 at *
  cases h1 : finWay X Y Z <;> rw [h1] at H1
  · go_enter Try.func61, Try.ntmps61
    go_wp2_with (first | (refine fl_arith rfl _ _ _ _ _ rfl rfl _ _ _ rfl rfl ?_; intro r n hr0; have hr := hr0 _ _ (by first | assumption | exact Ab.lit rfl (by decide)) (by first | assumption | exact Ab.lit rfl (by decide)); clear hr0) | (refine fl_cmp rfl _ _ _ _ _ rfl rfl _ _ _ rfl rfl ?_; intro b hb0; have hb := hb0 _ _ (by first | assumption | exact Ab.lit rfl (by decide)) (by first | assumption | exact Ab.lit rfl (by decide)); clear hb0; (try simp only [*] at hb); subst hb) | (refine fl_same rfl _ _ _ rfl _ _ rfl rfl rfl ?_) | (refine fl_wide rfl _ _ _ rfl _ rfl rfl rfl ?_; intro r n hr0; have hr := hr0 _ (by first | assumption | exact Ab.lit rfl (by decide)); clear hr0) | (refine fl_narrow rfl _ _ _ rfl _ rfl rfl rfl ?_; intro r n hl hr0; have hr := hr0 _ (by first | assumption | exact Ab.lit rfl (by decide)) (by assumption); clear hr0 hl) | (refine fl_neg rfl _ _ rfl _ _ rfl ?_; intro r hr0; have hr := hr0 _ (by first | assumption | exact Ab.lit rfl (by decide)); clear hr0) | (refine fl_box (n := 3) rfl _ _ rfl _ rfl _ (by first | assumption | exact Box.alloc (by assumption) _ | exact Box.start _ _ _ _) (by rfl) _ Try.underlying37 rfl info_way ?_) | (go_at_call 66; obtain ⟨W, hW, b1, o1, bel⟩ := box_own w 37 34 #[.float .f32 x, .float .f32 y, .float .f32 z] #[.float .f32 0, .float .f32 0]; rw [hW]; clear hW; (with_reducible_and_instances refine Calls.mono (HL W) ?_); rintro e w1 ⟨r1, rfl, g1, B1⟩; have b2 := b1.kept B1 b1.lt; have o2 := o1.kept B1 o1.lt; have bel1 := bel.trans (B1.mono bel.size); clear b1 o1 bel B1) | (go_at_call 64; (with_reducible_and_instances refine Calls.mono (H1 _) ?_); rintro e w' ⟨rfl, B2⟩; have b4 := b2.kept B2 b2.lt; have o4 := o2.kept B2 o2.lt; have bel3 := bel1.trans (B2.mono bel1.size); clear b2 o2 bel1 B2) | (refine fl_put (n := 2) rfl _ _ _ rfl _ rfl _ rfl _ (by assumption) (by rfl) (by rfl) info_place (by simp [Value.oneCell']) ?_; intro W3 o3 j3 k3))
    exact bodyPost_ret (results_cell_slot Try.results61 _ _ _ _ _ _ rfl rfl o3 Try.underlying34 rfl info_place) rfl ⟨0, 0, rfl, Ab.lit rfl (by decide), Ab.lit rfl (by decide), k3 _ _ (Nat.le_succ _) bel3⟩
  · cases f2
    · go_enter Try.func61, Try.ntmps61
      go_wp2_with (first | (refine fl_arith rfl _ _ _ _ _ rfl rfl _ _ _ rfl rfl ?_; intro r n hr0; have hr := hr0 _ _ (by first | assumption | exact Ab.lit rfl (by decide)) (by first | assumption | exact Ab.lit rfl (by decide)); clear hr0) | (refine fl_cmp rfl _ _ _ _ _ rfl rfl _ _ _ rfl rfl ?_; intro b hb0; have hb := hb0 _ _ (by first | assumption | exact Ab.lit rfl (by decide)) (by first | assumption | exact Ab.lit rfl (by decide)); clear hb0; (try simp only [*] at hb); subst hb) | (refine fl_same rfl _ _ _ rfl _ _ rfl rfl rfl ?_) | (refine fl_wide rfl _ _ _ rfl _ rfl rfl rfl ?_; intro r n hr0; have hr := hr0 _ (by first | assumption | exact Ab.lit rfl (by decide)); clear hr0) | (refine fl_narrow rfl _ _ _ rfl _ rfl rfl rfl ?_; intro r n hl hr0; have hr := hr0 _ (by first | assumption | exact Ab.lit rfl (by decide)) (by assumption); clear hr0 hl) | (refine fl_neg rfl _ _ rfl _ _ rfl ?_; intro r hr0; have hr := hr0 _ (by first | assumption | exact Ab.lit rfl (by decide)); clear hr0) | (refine fl_box (n := 3) rfl _ _ rfl _ rfl _ (by first | assumption | exact Box.alloc (by assumption) _ | exact Box.start _ _ _ _) (by rfl) _ Try.underlying37 rfl info_way ?_) | (go_at_call 66; obtain ⟨W, hW, b1, o1, bel⟩ := box_own w 37 34 #[.float .f32 x, .float .f32 y, .float .f32 z] #[.float .f32 0, .float .f32 0]; rw [hW]; clear hW; (with_reducible_and_instances refine Calls.mono (HL W) ?_); rintro e w1 ⟨r1, rfl, g1, B1⟩; have b2 := b1.kept B1 b1.lt; have o2 := o1.kept B1 o1.lt; have bel1 := bel.trans (B1.mono bel.size); clear b1 o1 bel B1) | (go_at_call 64; (with_reducible_and_instances refine Calls.mono (H1 _) ?_); rintro e w' ⟨rfl, B2⟩; have b4 := b2.kept B2 b2.lt; have o4 := o2.kept B2 o2.lt; have bel3 := bel1.trans (B2.mono bel1.size); clear b2 o2 bel1 B2) | (go_at_call 93; (with_reducible_and_instances refine Calls.mono (HAb _ g1 _) ?_); rintro e w' ⟨rfl, mA, rfl⟩; have b5 := b4.drewN mA; have o5 := o4.drewN mA; have bel4 := below_drewN bel3 mA; clear b4 o4 bel3) | (refine fl_put (n := 2) rfl _ _ _ rfl _ rfl _ rfl _ (by assumption) (by rfl) (by rfl) info_place (by simp [Value.oneCell']) ?_; intro W3 o3 j3 k3))
      exact bodyPost_ret (results_cell_slot Try.results61 _ _ _ _ _ _ rfl rfl o3 Try.underlying34 rfl info_place) rfl ⟨0, 0, rfl, Ab.lit rfl (by decide), Ab.lit rfl (by decide), k3 _ _ (Nat.le_succ _) bel4⟩
    · go_enter Try.func61, Try.ntmps61
      go_wp2_with (first | (refine fl_arith rfl _ _ _ _ _ rfl rfl _ _ _ rfl rfl ?_; intro r n hr0; have hr := hr0 _ _ (by first | assumption | exact Ab.lit rfl (by decide)) (by first | assumption | exact Ab.lit rfl (by decide)); clear hr0) | (refine fl_cmp rfl _ _ _ _ _ rfl rfl _ _ _ rfl rfl ?_; intro b hb0; have hb := hb0 _ _ (by first | assumption | exact Ab.lit rfl (by decide)) (by first | assumption | exact Ab.lit rfl (by decide)); clear hb0; (try simp only [*] at hb); subst hb) | (refine fl_same rfl _ _ _ rfl _ _ rfl rfl rfl ?_) | (refine fl_wide rfl _ _ _ rfl _ rfl rfl rfl ?_; intro r n hr0; have hr := hr0 _ (by first | assumption | exact Ab.lit rfl (by decide)); clear hr0) | (refine fl_narrow rfl _ _ _ rfl _ rfl rfl rfl ?_; intro r n hl hr0; have hr := hr0 _ (by first | assumption | exact Ab.lit rfl (by decide)) (by assumption); clear hr0 hl) | (refine fl_neg rfl _ _ rfl _ _ rfl ?_; intro r hr0; have hr := hr0 _ (by first | assumption | exact Ab.lit rfl (by decide)); clear hr0) | (refine fl_box (n := 3) rfl _ _ rfl _ rfl _ (by first | assumption | exact Box.alloc (by assumption) _ | exact Box.start _ _ _ _) (by rfl) _ Try.underlying37 rfl info_way ?_) | (go_at_call 66; obtain ⟨W, hW, b1, o1, bel⟩ := box_own w 37 34 #[.float .f32 x, .float .f32 y, .float .f32 z] #[.float .f32 0, .float .f32 0]; rw [hW]; clear hW; (with_reducible_and_instances refine Calls.mono (HL W) ?_); rintro e w1 ⟨r1, rfl, g1, B1⟩; have b2 := b1.kept B1 b1.lt; have o2 := o1.kept B1 o1.lt; have bel1 := bel.trans (B1.mono bel.size); clear b1 o1 bel B1) | (go_at_call 64; (with_reducible_and_instances refine Calls.mono (H1 _) ?_); rintro e w' ⟨rfl, B2⟩; have b4 := b2.kept B2 b2.lt; have o4 := o2.kept B2 o2.lt; have bel3 := bel1.trans (B2.mono bel1.size); clear b2 o2 bel1 B2) | (go_at_call 93; (with_reducible_and_instances refine Calls.mono (HAb _ g1 _) ?_); rintro e w' ⟨rfl, mA, rfl⟩; have b5 := b4.drewN mA; have o5 := o4.drewN mA; have bel4 := below_drewN bel3 mA; clear b4 o4 bel3))
      obtain ⟨W1, hW1⟩ : ∃ W1, W1 = w'.drewN mA := ⟨_, rfl⟩
      rw [← hW1] at b5 o5 bel4 ⊢
      clear hW1
      refine Rg.region (fun w' => Below W1.heap.size W1 w') (Rg.pick [Rg.one (.pointer (some ⟨w.heap.size, 2, none⟩)), Rg.one (.float .f32 z), Rg.one (.pointer (some ⟨w.heap.size, 0, none⟩)), Rg.one (.float .f32 x), Rg.one (.pointer (some ⟨w.heap.size, 0, none⟩)), Rg.one (.float .f32 x), Rg.fl .f32 (opA .mul .f32 X X),
        Rg.one (.pointer (some ⟨w.heap.size, 1, none⟩)), Rg.one (.float .f32 y), Rg.one (.pointer (some ⟨w.heap.size, 1, none⟩)), Rg.one (.float .f32 y), Rg.fl .f32 (opA .mul .f32 Y Y), Rg.fl .f32 (opA .add .f32 (opA .mul .f32 X X) (opA .mul .f32 Y Y)), Rg.fl .f32 H, Rg.fl .f32 NN, Rg.fl .f32 NN]) (by kernel_rfl) (by kernel_rfl) (Below.refl _ _).drew
        (Rg.pick_ne (by intro T hT; simp only [List.mem_cons, List.not_mem_nil, or_false] at hT; rcases hT with rfl | rfl | rfl | rfl | rfl | rfl | rfl | rfl | rfl | rfl | rfl | rfl | rfl | rfl | rfl | rfl <;> first | exact Rg.one_ne _ | exact Rg.fl_ne eX | exact Rg.fl_ne eY | exact Rg.fl_ne eS | exact Rg.fl_ne eH | exact Rg.fl_ne eN)) ?_
      (refine Rg.line_step rfl rfl (Rg.good_one fun w' hw' => (by go_simp)) ?_; rintro _ rfl; go_simp)
      (refine Rg.line_step rfl rfl (Rg.good_one fun w' hw' => (by have q := Box.cell (j := 2) (b5.kept hw' b5.lt) rfl; go_simp)) ?_; rintro _ rfl; go_simp)
      (refine Rg.line_step rfl rfl (Rg.good_one fun w' hw' => (by go_simp)) ?_; rintro _ rfl; go_simp)
      (refine Rg.line_step rfl rfl (Rg.good_one fun w' hw' => (by have q := Box.cell (j := 0) (b5.kept hw' b5.lt) rfl; go_simp)) ?_; rintro _ rfl; go_simp)
      (refine Rg.line_step rfl rfl (Rg.good_one fun w' hw' => (by go_simp)) ?_; rintro _ rfl; go_simp)
      (refine Rg.line_step rfl rfl (Rg.good_one fun w' hw' => (by have q := Box.cell (j := 0) (b5.kept hw' b5.lt) rfl; go_simp)) ?_; rintro _ rfl; go_simp)
      (refine Rg.line_step rfl rfl (Rg.good_arith (Rg.below_class _) _ _ _ _ _ rfl rfl _ _ _ rfl rfl hx hx) ?_; rintro _ ⟨xx, rfl, hxx⟩; go_simp)
      (refine Rg.line_step rfl rfl (Rg.good_one fun w' hw' => (by go_simp)) ?_; rintro _ rfl; go_simp)
      (refine Rg.line_step rfl rfl (Rg.good_one fun w' hw' => (by have q := Box.cell (j := 1) (b5.kept hw' b5.lt) rfl; go_simp)) ?_; rintro _ rfl; go_simp)
      (refine Rg.line_step rfl rfl (Rg.good_one fun w' hw' => (by go_simp)) ?_; rintro _ rfl; go_simp)
      (refine Rg.line_step rfl rfl (Rg.good_one fun w' hw' => (by have q := Box.cell (j := 1) (b5.kept hw' b5.lt) rfl; go_simp)) ?_; rintro _ rfl; go_simp)
      (refine Rg.line_step rfl rfl (Rg.good_arith (Rg.below_class _) _ _ _ _ _ rfl rfl _ _ _ rfl rfl hy hy) ?_; rintro _ ⟨yy, rfl, hyy⟩; go_simp)
      (refine Rg.line_step rfl rfl (Rg.good_arith (Rg.below_class _) _ _ _ _ _ rfl rfl _ _ _ rfl rfl hxx hyy) ?_; rintro _ ⟨ss, rfl, hss⟩; go_simp)
      (refine Rg.line_step rfl rfl (Rg.good_turns (fun w' => by go_simp) fun w' => HRt _ hss w') ?_; rintro _ ⟨r2, rfl, g2⟩; go_simp)
      (refine Rg.line_step rfl rfl (Rg.good_turns (fun w' => by go_simp) fun w' => HA1 _ g2 w') ?_; rintro _ ⟨r3, rfl, g3⟩; go_simp)
      (refine Rg.line_step rfl rfl (Rg.good_val ⟨_, rfl, g3⟩ fun w' hw' => (by go_simp)) ?_; rintro _ ⟨r4, rfl, hr4⟩; go_simp)
      intro w2 hw2
      have b3 := b5.kept hw2 b5.lt
      have o3 := o5.kept hw2 o5.lt
      have bel2 := bel4.trans (hw2.mono bel4.size)
      have q0 := Box.cell (j := 0) b3 rfl
      have q1 := Box.cell (j := 1) b3 rfl
      clear b5 o5 bel4
      go_wp2_with (first | (refine fl_arith rfl _ _ _ _ _ rfl rfl _ _ _ rfl rfl ?_; intro r n hr0; have hr := hr0 _ _ (by first | assumption | exact Ab.lit rfl (by decide)) (by first | assumption | exact Ab.lit rfl (by decide)); clear hr0) | (refine fl_cmp rfl _ _ _ _ _ rfl rfl _ _ _ rfl rfl ?_; intro b hb0; have hb := hb0 _ _ (by first | assumption | exact Ab.lit rfl (by decide)) (by first | assumption | exact Ab.lit rfl (by decide)); clear hb0; (try simp only [*] at hb); subst hb) | (refine fl_same rfl _ _ _ rfl _ _ rfl rfl rfl ?_) | (refine fl_wide rfl _ _ _ rfl _ rfl rfl rfl ?_; intro r n hr0; have hr := hr0 _ (by first | assumption | exact Ab.lit rfl (by decide)); clear hr0) | (refine fl_narrow rfl _ _ _ rfl _ rfl rfl rfl ?_; intro r n hl hr0; have hr := hr0 _ (by first | assumption | exact Ab.lit rfl (by decide)) (by assumption); clear hr0 hl) | (refine fl_neg rfl _ _ rfl _ _ rfl ?_; intro r hr0; have hr := hr0 _ (by first | assumption | exact Ab.lit rfl (by decide)); clear hr0) | (go_at_call 70; (with_reducible_and_instances refine Calls.mono (HA2 _) ?_); rintro e w' ⟨r5, m5, rfl, g5, rfl⟩) | (go_at_call 95; (with_reducible_and_instances refine Calls.mono (HW _ g5 _) ?_); rintro e w' ⟨r6, m6, rfl, g6, rfl⟩) | (go_at_call 94; (with_reducible_and_instances refine Calls.mono (HV _ _ hr4 g6 _) ?_); rintro e w' ⟨n7, e7, rfl, g7, g8, B7⟩; have o8 := (o3.drewN _).kept B7 (o3.drewN _).lt; have bel7 := (below_drewN bel2 _).trans (B7.mono (below_drewN bel2 _).size); clear o3) | (refine fl_put (n := 2) rfl _ _ _ rfl _ rfl _ rfl _ (by assumption) (by rfl) (by rfl) info_place (by simp [Value.oneCell']) ?_; intro W3 o3 j3 k3))
      exact bodyPost_ret (results_cell_slot Try.results61 _ _ _ _ _ _ rfl rfl o3 Try.underlying34 rfl info_place) rfl ⟨n7, e7, rfl, g7, g8, k3 _ _ (Nat.le_succ _) bel7⟩

include hx hy hz in
set_option maxHeartbeats 2000000 in
theorem spec_PlaceOfWay : Calls Try.prog 22 #[.agg #[.float .f32 x, .float .f32 y, .float .f32 z]] w (SaysPlace (longOk X Y Z && validA (northA X Y Z) (eastA X Y)) (northA X Y Z) (eastA X Y) w) := by
  have HF := fun w' => spec_From hx hy hz w'
  generalize (longOk X Y Z && validA (northA X Y Z) (eastA X Y)) = ok at *
  go_enter Try.func22, Try.ntmps22
  go_wp2_with (first | (refine fl_arith rfl _ _ _ _ _ rfl rfl _ _ _ rfl rfl ?_; intro r n hr0; have hr := hr0 _ _ (by first | assumption | exact Ab.lit rfl (by decide)) (by first | assumption | exact Ab.lit rfl (by decide)); clear hr0) | (refine fl_cmp rfl _ _ _ _ _ rfl rfl _ _ _ rfl rfl ?_; intro b hb0; have hb := hb0 _ _ (by first | assumption | exact Ab.lit rfl (by decide)) (by first | assumption | exact Ab.lit rfl (by decide)); clear hb0; (try simp only [*] at hb); subst hb) | (refine fl_same rfl _ _ _ rfl _ _ rfl rfl rfl ?_) | (refine fl_wide rfl _ _ _ rfl _ rfl rfl rfl ?_; intro r n hr0; have hr := hr0 _ (by first | assumption | exact Ab.lit rfl (by decide)); clear hr0) | (refine fl_narrow rfl _ _ _ rfl _ rfl rfl rfl ?_; intro r n hl hr0; have hr := hr0 _ (by first | assumption | exact Ab.lit rfl (by decide)) (by assumption); clear hr0 hl) | (refine fl_neg rfl _ _ rfl _ _ rfl ?_; intro r hr0; have hr := hr0 _ (by first | assumption | exact Ab.lit rfl (by decide)); clear hr0) | (go_at_call 61; obtain ⟨W, hW, b1, o1, bel⟩ := box_own w 37 34 #[.float .f32 x, .float .f32 y, .float .f32 z] #[.float .f32 0, .float .f32 0]; rw [hW]; clear hW; (with_reducible_and_instances refine Calls.mono (HF W) ?_); rintro e w1 ⟨n1, e1, rfl, g1, g2, B1⟩; have o2 := o1.kept B1 o1.lt; have bel1 := bel.trans (B1.mono bel.size); clear b1 o1 bel) | (refine fl_put (n := 2) rfl _ _ _ rfl _ rfl _ rfl _ (by assumption) (by rfl) (by rfl) info_place (by simp [Value.oneCell']) ?_; intro W3 o3 j3 k3))
  exact bodyPost_ret (results_cell_slot Try.results22 _ _ _ _ _ _ rfl rfl o3 Try.underlying34 rfl info_place) rfl ⟨n1, e1, rfl, g1, g2, k3 _ _ (Nat.le_succ _) bel1⟩

end

set_option maxHeartbeats 400000 in
theorem eq_place (x y x' y' : Nat) (A B : Option Nat) (hx : Ab .f32 x A) (hy : Ab .f32 y B) (hx' : Ab .f32 x' A) (hy' : Ab .f32 y' B) (w : World) :
    Calls Try.prog 25 #[.agg #[.float .f32 x, .float .f32 y], .agg #[.float .f32 x', .float .f32 y']] w (Told w) := by
  go_enter Try.func25, Try.ntmps25
  go_wp2_with (first | (refine fl_arith rfl _ _ _ _ _ rfl rfl _ _ _ rfl rfl ?_; intro r n hr0; have hr := hr0 _ _ (by first | assumption | exact Ab.lit rfl (by decide)) (by first | assumption | exact Ab.lit rfl (by decide)); clear hr0) | (refine fl_cmp rfl _ _ _ _ _ rfl rfl _ _ _ rfl rfl ?_; intro b hb0; have hb := hb0 _ _ (by first | assumption | exact Ab.lit rfl (by decide)) (by first | assumption | exact Ab.lit rfl (by decide)); clear hb0; (try simp only [*] at hb); subst hb) | (refine fl_same rfl _ _ _ rfl _ _ rfl rfl rfl ?_) | (refine fl_wide rfl _ _ _ rfl _ rfl rfl rfl ?_; intro r n hr0; have hr := hr0 _ (by first | assumption | exact Ab.lit rfl (by decide)); clear hr0) | (refine fl_narrow rfl _ _ _ rfl _ rfl rfl rfl ?_; intro r n hl hr0; have hr := hr0 _ (by first | assumption | exact Ab.lit rfl (by decide)) (by assumption); clear hr0 hl) | (refine fl_neg rfl _ _ rfl _ _ rfl ?_; intro r hr0; have hr := hr0 _ (by first | assumption | exact Ab.lit rfl (by decide)); clear hr0) | (go_at_call 17; refine (same_float _ _ _ (by assumption) (by assumption) _).mono ?_; rintro e w' ⟨rfl, n, rfl⟩))
  go_ret
  exact ⟨rfl, below_drewN (((Below.refl _ _).alloc (Nat.le_refl _) _).alloc (by simp) _) _⟩

set_option maxHeartbeats 2000000 in
theorem law_PlaceOfWay (x y z : Nat) (wx : (Lit.float .f32 x).wf = true) (wy : (Lit.float .f32 y).wf = true) (wz : (Lit.float .f32 z).wf = true) (w : World) :
    Calls Try.prog 6 #[.agg #[.float .f32 x, .float .f32 y, .float .f32 z]] w (Told w) := by
  have hx := Ab.of_wf wx
  have hy := Ab.of_wf wy
  have hz := Ab.of_wf wz
  have HS := fun w' => spec_PlaceOfWay hx hy hz w'
  have HI := fun w' => impl_PlaceOfWay hx hy hz w'
  clear wx wy wz hx hy hz
  generalize northA (ab .f32 x) (ab .f32 y) (ab .f32 z) = NN at *
  generalize eastA (ab .f32 x) (ab .f32 y) = EE at *
  generalize (longOk (ab .f32 x) (ab .f32 y) (ab .f32 z) && validA NN EE) = ok at *
  have eok : (ok != ok) = false := same_bool ok
  have HT := fun w' => to_way (x := x) (y := y) (z := z) w'
  go_enter Try.func6, Try.ntmps6
  go_wp2_with (first | (refine fl_arith rfl _ _ _ _ _ rfl rfl _ _ _ rfl rfl ?_; intro r n hr0; have hr := hr0 _ _ (by first | assumption | exact Ab.lit rfl (by decide)) (by first | assumption | exact Ab.lit rfl (by decide)); clear hr0) | (refine fl_cmp rfl _ _ _ _ _ rfl rfl _ _ _ rfl rfl ?_; intro b hb0; have hb := hb0 _ _ (by first | assumption | exact Ab.lit rfl (by decide)) (by first | assumption | exact Ab.lit rfl (by decide)); clear hb0; (try simp only [*] at hb); subst hb) | (refine fl_same rfl _ _ _ rfl _ _ rfl rfl rfl ?_) | (refine fl_wide rfl _ _ _ rfl _ rfl rfl rfl ?_; intro r n hr0; have hr := hr0 _ (by first | assumption | exact Ab.lit rfl (by decide)); clear hr0) | (refine fl_narrow rfl _ _ _ rfl _ rfl rfl rfl ?_; intro r n hl hr0; have hr := hr0 _ (by first | assumption | exact Ab.lit rfl (by decide)) (by assumption); clear hr0 hl) | (refine fl_neg rfl _ _ rfl _ _ rfl ?_; intro r hr0; have hr := hr0 _ (by first | assumption | exact Ab.lit rfl (by decide)); clear hr0) | (refine fl_box (n := 3) rfl _ _ rfl _ rfl _ (by first | assumption | exact Box.alloc (by assumption) _ | exact Box.start _ _ _ _) (by rfl) _ Try.underlying32 rfl info_lway ?_) | (go_at_call 23; obtain ⟨W, hW, b1, bel⟩ := one_box w 32 #[.float .f32 x, .float .f32 y, .float .f32 z]; rw [hW]; clear hW; (with_reducible_and_instances refine Calls.mono (HT W) ?_); rintro e w' ⟨rfl, B1⟩; have c1 := b1.kept B1 b1.lt; have bel1 := bel.trans (B1.mono bel.size); clear b1 bel) | (go_at_call 22; (with_reducible_and_instances refine Calls.mono (HS _) ?_); rintro e w' ⟨n1, e1, rfl, g1, g2, B2⟩; have d1 := c1.kept B2 c1.lt; have bel2 := bel1.trans (B2.mono bel1.size); clear c1 bel1) | (go_at_call 23; obtain ⟨W2, hW2, p1, bel5⟩ := one_box w' 34 #[.float .f32 n1, .float .f32 e1]; rw [hW2]; clear hW2; (with_reducible_and_instances refine Calls.mono (HT W2) ?_); rintro e w3 ⟨rfl, B3⟩; have p2 := p1.kept B3 p1.lt; have bel6 := (bel2.trans (bel5.mono bel2.size)).trans (B3.mono (bel2.trans (bel5.mono bel2.size)).size); clear p1 bel5) | (go_at_call 24; (with_reducible_and_instances refine Calls.mono (HI _) ?_); rintro e w' ⟨n2, e2, rfl, g3, g4, B4⟩; have p3 := p2.kept B4 p2.lt; have bel7 := bel6.trans (B4.mono bel6.size); clear p2 bel6) | (refine fl_box (n := 2) rfl _ _ rfl _ rfl _ (by first | assumption | exact Own.box (by assumption) | exact Box.alloc (by assumption) _ | exact Box.start _ _ _ _) (by rfl) _ Try.underlying34 rfl info_place ?_) | (go_at_call 25; (with_reducible_and_instances refine Calls.mono (eq_place n2 e2 n1 e1 _ _ g3 g4 g1 g2 _) ?_); rintro e w' ⟨rfl, B5⟩))
  go_ret
  exact ⟨rfl, ((bel7.alloc bel7.size _).trans (B5.mono (bel7.alloc bel7.size _).size))⟩

end Go.Proofs.Ytnkogheibofboaa.B
