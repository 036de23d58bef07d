/- Walks: DotWays. No conditions. -/
import Derived.Test.YtgdhjfdmgjidkaaWx
namespace Go.Proofs.Ytgdhjfdmgjidkaa
open Go.RowKit

section
variable {x y z x' y' z' : Nat} {X Y Z X' Y' Z' : Option Nat} (hx : Ab .f32 x X) (hy : Ab .f32 y Y) (hz : Ab .f32 z Z) (hx' : Ab .f32 x' X') (hy' : Ab .f32 y' Y') (hz' : Ab .f32 z' Z') (w : World)

include hx hy hz hx' hy' hz' in
set_option maxHeartbeats 1000000 in
theorem spec_DotWays : Calls Try.prog 25 #[.agg #[.float .f32 x, .float .f32 y, .float .f32 z], .agg #[.float .f32 x', .float .f32 y', .float .f32 z']] w (SaysIf (finWay X Y Z && finWay X' Y' Z' && finA .f32 (dotWay X Y Z X' Y' Z')) (dotWay X Y Z X' Y' Z') w) := by
  have HD := fun w' => spec_dotWay hx hy hz hx' hy' hz' w'
  have H1 := fun w' => spec_ways hx hy hz w'
  have H2 := fun w' => spec_ways hx' hy' hz' w'
  generalize dotWay X Y Z X' Y' Z' = D at *
  generalize finWay X Y Z = f1 at *
  generalize finWay X' Y' Z' = f2 at *
  cases f1 <;> cases f2
  all_goals
    go_enter Try.func25, Try.ntmps25
    go_wp2_with (first | (refine fl_box rfl _ _ rfl _ rfl _ (by assumption) rfl _ Try.underlying39 rfl info_way ?_) | (go_at_call 55; obtain ⟨W, hW, b1, b2, bel⟩ := two_boxes w 39 39 #[.float .f32 x, .float .f32 y, .float .f32 z] #[.float .f32 x', .float .f32 y', .float .f32 z']; rw [hW]; clear hW; (with_reducible_and_instances refine Calls.mono (H1 W) ?_); rintro e w' ⟨rfl, B1⟩; have c1 := b1.kept B1 b1.lt; have c2 := b2.kept B1 b2.lt; have bel1 := bel.trans (B1.mono bel.size); clear b1 b2 bel; have qc10 := Box.cell (j := 0) c1 rfl; have qc11 := Box.cell (j := 1) c1 rfl; have qc12 := Box.cell (j := 2) c1 rfl; have qc20 := Box.cell (j := 0) c2 rfl; have qc21 := Box.cell (j := 1) c2 rfl; have qc22 := Box.cell (j := 2) c2 rfl) | (go_at_call 55; (with_reducible_and_instances refine Calls.mono (H2 _) ?_); rintro e w' ⟨rfl, B2⟩; have d1 := c1.kept B2 c1.lt; have d2 := c2.kept B2 c2.lt; have bel2 := bel1.trans (B2.mono bel1.size); clear c1 c2 qc10 qc11 qc12 qc20 qc21 qc22; have qd10 := Box.cell (j := 0) d1 rfl; have qd11 := Box.cell (j := 1) d1 rfl; have qd12 := Box.cell (j := 2) d1 rfl; have qd20 := Box.cell (j := 0) d2 rfl; have qd21 := Box.cell (j := 1) d2 rfl; have qd22 := Box.cell (j := 2) d2 rfl) | (go_at_call 57; (with_reducible_and_instances refine Calls.mono (HD _) ?_); rintro e w' ⟨r1, rfl, g1, B3⟩; have bel3 := bel2.trans (B3.mono bel2.size)) | (go_at_call 56; (with_reducible_and_instances refine Calls.mono (spec_number g1 _) ?_); rintro e w' ⟨r2, m, rfl, g2, rfl⟩))
    go_ret2
  · exact ⟨0, rfl, Ab.lit rfl (by decide), bel1⟩
  · exact ⟨0, rfl, Ab.lit rfl (by decide), bel1⟩
  · exact ⟨0, rfl, Ab.lit rfl (by decide), bel2⟩
  · exact ⟨r2, rfl, g2, below_drewN bel3 _⟩

set_option maxHeartbeats 4000000 in
theorem law_DotWays (x y z x' y' z' : Nat) (wx : (Lit.float .f32 x).wf = true) (wy : (Lit.float .f32 y).wf = true) (wz : (Lit.float .f32 z).wf = true) (wx' : (Lit.float .f32 x').wf = true) (wy' : (Lit.float .f32 y').wf = true) (wz' : (Lit.float .f32 z').wf = true) (w : World) :
    Calls Try.prog 7 #[.agg #[.float .f32 x, .float .f32 y, .float .f32 z], .agg #[.float .f32 x', .float .f32 y', .float .f32 z']] w (Told w) := by
  have hx := Ab.of_wf wx
  have hy := Ab.of_wf wy
  have hz := Ab.of_wf wz
  have hx' := Ab.of_wf wx'
  have hy' := Ab.of_wf wy'
  have hz' := Ab.of_wf wz'
  have hD := dot_ex hx hy hz hx' hy' hz' w
  have HS := fun w' => spec_DotWays hx hy hz hx' hy' hz' w'
  have HI := fun w' => impl_DotWays hx hy hz hx' hy' hz' w'
  clear wx wy wz wx' wy' wz'
  generalize dotWay (ab .f32 x) (ab .f32 y) (ab .f32 z) (ab .f32 x') (ab .f32 y') (ab .f32 z') = D at *
  generalize (finWay (ab .f32 x) (ab .f32 y) (ab .f32 z) && finWay (ab .f32 x') (ab .f32 y') (ab .f32 z') && finA .f32 D) = ok at *
  have eok : (ok != ok) = false := same_bool ok
  have HT1 := fun w' => to_way (x := x) (y := y) (z := z) w'
  have HT2 := fun w' => to_way (x := x') (y := y') (z := z') w'
  go_enter Try.func7, Try.ntmps7
  go_wp2
  obtain ⟨W, hW, b1, b2, bel⟩ := two_boxes w 37 37 #[.float .f32 x, .float .f32 y, .float .f32 z] #[.float .f32 x', .float .f32 y', .float .f32 z']
  rw [hW]
  clear hW
  refine Rg.region (fun w' => Below W.heap.size W w') (Rg.pick [Rg.one (.agg #[.float .f32 x, .float .f32 y, .float .f32 z]), Rg.one (.agg #[.float .f32 x, .float .f32 y, .float .f32 z]), Rg.one (.agg #[.float .f32 x', .float .f32 y', .float .f32 z']), Rg.one (.agg #[.float .f32 x', .float .f32 y', .float .f32 z']), Rg.pairIf ok D, Rg.pairIf ok D,
    Rg.fl .f32 (if ok = true then D else some 0), Rg.one (.bool ok), Rg.fl .f32 (if ok = true then D else some 0), Rg.one (.bool ok)]) (by kernel_rfl) (by kernel_rfl) (Below.refl _ _).drew
    (Rg.pick_ne (by intro T hT; simp only [List.mem_cons, List.not_mem_nil, or_false] at hT; rcases hT with rfl | rfl | rfl | rfl | rfl | rfl | rfl | rfl | rfl | rfl <;> first | exact Rg.one_ne _ | exact Rg.fl_ne (Rg.ab_if _ hD) | exact Rg.pairIf_ne _ hD)) ?_
  (refine Rg.line_step rfl rfl (Rg.good_box _ _ rfl _ rfl _ (fun w' hw' => b1.kept hw' b1.lt) rfl _ Try.underlying37 rfl info_lway) ?_; rintro _ rfl; go_simp)
  (refine Rg.line_step rfl rfl (Rg.good_says (fun w' => by go_simp) fun w' => HT1 w') ?_; rintro _ rfl; go_simp)
  (refine Rg.line_step rfl rfl (Rg.good_box _ _ rfl _ rfl _ (fun w' hw' => b2.kept hw' b2.lt) rfl _ Try.underlying37 rfl info_lway) ?_; rintro _ rfl; go_simp)
  (refine Rg.line_step rfl rfl (Rg.good_says (fun w' => by go_simp) fun w' => HT2 w') ?_; rintro _ rfl; go_simp)
  (refine Rg.line_step rfl rfl (Rg.good_saysIf (fun w' => by go_simp) fun w' => HS w') ?_; rintro _ ⟨s0, rfl, hs0⟩; go_simp)
  (refine Rg.line_step rfl rfl (Rg.good_val ⟨_, rfl, hs0⟩ fun w' hw' => (by go_simp)) ?_; rintro _ ⟨s0a, rfl, hs0a⟩; go_simp)
  (refine Rg.line_step rfl rfl (Rg.good_val ⟨_, rfl, hs0a⟩ fun w' hw' => (by go_simp)) ?_; rintro _ ⟨s0b, rfl, hs0b⟩; go_simp)
  (refine Rg.line_step rfl rfl (Rg.good_one fun w' hw' => (by go_simp)) ?_; rintro _ rfl; go_simp)
  (refine Rg.line_step rfl rfl (Rg.good_val ⟨_, rfl, hs0b⟩ fun w' hw' => (by go_simp)) ?_; rintro _ ⟨s0c, rfl, hs0c⟩; go_simp)
  (refine Rg.line_step rfl rfl (Rg.good_one fun w' hw' => (by go_simp)) ?_; rintro _ rfl; go_simp)
  intro W2 hW2
  have c1 := b1.kept hW2 b1.lt
  have c2 := b2.kept hW2 b2.lt
  have bel1 := bel.trans (hW2.mono bel.size)
  clear b1 b2 bel hW2
  go_wp2
  refine Rg.region (fun w' => Below W2.heap.size W2 w') (Rg.pick [Rg.one (.agg #[.float .f32 x, .float .f32 y, .float .f32 z]), Rg.one (.agg #[.float .f32 x, .float .f32 y, .float .f32 z]), Rg.one (.agg #[.float .f32 x', .float .f32 y', .float .f32 z']), Rg.one (.agg #[.float .f32 x', .float .f32 y', .float .f32 z']), Rg.pairIf ok D, Rg.pairIf ok D,
    Rg.fl .f32 (if ok = true then D else some 0), Rg.one (.bool ok), Rg.fl .f32 (if ok = true then D else some 0), Rg.one (.bool ok)]) (by kernel_rfl) (by kernel_rfl) (Below.refl _ _).drew
    (Rg.pick_ne (by intro T hT; simp only [List.mem_cons, List.not_mem_nil, or_false] at hT; rcases hT with rfl | rfl | rfl | rfl | rfl | rfl | rfl | rfl | rfl | rfl <;> first | exact Rg.one_ne _ | exact Rg.fl_ne (Rg.ab_if _ hD) | exact Rg.pairIf_ne _ hD)) ?_
  (refine Rg.line_step rfl rfl (Rg.good_box _ _ rfl _ rfl _ (fun w' hw' => c1.kept hw' c1.lt) rfl _ Try.underlying37 rfl info_lway) ?_; rintro _ rfl; go_simp)
  (refine Rg.line_step rfl rfl (Rg.good_says (fun w' => by go_simp) fun w' => HT1 w') ?_; rintro _ rfl; go_simp)
  (refine Rg.line_step rfl rfl (Rg.good_box _ _ rfl _ rfl _ (fun w' hw' => c2.kept hw' c2.lt) rfl _ Try.underlying37 rfl info_lway) ?_; rintro _ rfl; go_simp)
  (refine Rg.line_step rfl rfl (Rg.good_says (fun w' => by go_simp) fun w' => HT2 w') ?_; rintro _ rfl; go_simp)
  (refine Rg.line_step rfl rfl (Rg.good_saysIf (fun w' => by go_simp) fun w' => HI w') ?_; rintro _ ⟨s1, rfl, hs1⟩; go_simp)
  (refine Rg.line_step rfl rfl (Rg.good_val ⟨_, rfl, hs1⟩ fun w' hw' => (by go_simp)) ?_; rintro _ ⟨s1a, rfl, hs1a⟩; go_simp)
  (refine Rg.line_step rfl rfl (Rg.good_val ⟨_, rfl, hs1a⟩ fun w' hw' => (by go_simp)) ?_; rintro _ ⟨s1b, rfl, hs1b⟩; go_simp)
  (refine Rg.line_step rfl rfl (Rg.good_one fun w' hw' => (by go_simp)) ?_; rintro _ rfl; go_simp)
  (refine Rg.line_step rfl rfl (Rg.good_val ⟨_, rfl, hs1b⟩ fun w' hw' => (by go_simp)) ?_; rintro _ ⟨s1c, rfl, hs1c⟩; go_simp)
  (refine Rg.line_step rfl rfl (Rg.good_one fun w' hw' => (by go_simp)) ?_; rintro _ rfl; go_simp)
  intro W3 hW3
  have bel2 := bel1.trans (hW3.mono bel1.size)
  clear c1 c2 bel1 hW3
  go_wp2_with (first | (refine fl_arith rfl _ _ _ _ _ rfl rfl _ _ _ rfl rfl ?_; intro r n hr0; have hr := hr0 _ _ (by first | assumption | exact Ab.lit rfl (by decide)) (by first | assumption | exact Ab.lit rfl (by decide)); clear hr0) | (refine fl_cmp rfl _ _ _ _ _ rfl rfl _ _ _ rfl rfl ?_; intro b hb0; have hb := hb0 _ _ (by first | assumption | exact Ab.lit rfl (by decide)) (by first | assumption | exact Ab.lit rfl (by decide)); clear hb0; (try simp only [*] at hb); subst hb) | (refine fl_same rfl _ _ _ rfl _ _ rfl rfl rfl ?_) | (refine fl_wide rfl _ _ _ rfl _ rfl rfl rfl ?_; intro r n hr0; have hr := hr0 _ (by first | assumption | exact Ab.lit rfl (by decide)); clear hr0) | (refine fl_narrow rfl _ _ _ rfl _ rfl rfl rfl ?_; intro r n hl hr0; have hr := hr0 _ (by first | assumption | exact Ab.lit rfl (by decide)) (by assumption); clear hr0 hl) | (refine fl_neg rfl _ _ rfl _ _ rfl ?_; intro r hr0; have hr := hr0 _ (by first | assumption | exact Ab.lit rfl (by decide)); clear hr0) | (go_at_call 17; refine (same_float _ _ _ (by assumption) (by assumption) _).mono ?_; rintro e w' ⟨rfl, m3, rfl⟩))
  go_ret
  exact ⟨rfl, below_drewN bel2 _⟩

end
end Go.Proofs.Ytgdhjfdmgjidkaa
