/- Walks: the law of CrossWays. No conditions. -/
import Derived.Test.YtnkogheibofboaaWc4
namespace Go.Proofs.Ytnkogheibofboaa.B
open Go.RowKit
set_option maxRecDepth 8000

set_option maxHeartbeats 1000000 in
theorem eq_way (x y z x' y' z' : Nat) (A B C : Option Nat) (hx : Ab .f32 x A) (hy : Ab .f32 y B) (hz : Ab .f32 z C) (hx' : Ab .f32 x' A) (hy' : Ab .f32 y' B) (hz' : Ab .f32 z' C) (w : World) :
    Calls Try.prog 39 #[.agg #[.float .f32 x, .float .f32 y, .float .f32 z], .agg #[.float .f32 x', .float .f32 y', .float .f32 z']] w (Told w) := by
  go_enter Try.func39, Try.ntmps39
  go_wp2_with (first | (refine fl_arith rfl _ _ _ _ _ rfl rfl _ _ _ rfl rfl ?_; intro r n hr0; have hr := hr0 _ _ (by first | assumption | exact Ab.lit rfl (by decide)) (by first | assumption | exact Ab.lit rfl (by decide)); clear hr0) | (refine fl_cmp rfl _ _ _ _ _ rfl rfl _ _ _ rfl rfl ?_; intro b hb0; have hb := hb0 _ _ (by first | assumption | exact Ab.lit rfl (by decide)) (by first | assumption | exact Ab.lit rfl (by decide)); clear hb0; (try simp only [*] at hb); subst hb) | (refine fl_same rfl _ _ _ rfl _ _ rfl rfl rfl ?_) | (refine fl_wide rfl _ _ _ rfl _ rfl rfl rfl ?_; intro r n hr0; have hr := hr0 _ (by first | assumption | exact Ab.lit rfl (by decide)); clear hr0) | (refine fl_narrow rfl _ _ _ rfl _ rfl rfl rfl ?_; intro r n hl hr0; have hr := hr0 _ (by first | assumption | exact Ab.lit rfl (by decide)) (by assumption); clear hr0 hl) | (refine fl_neg rfl _ _ rfl _ _ rfl ?_; intro r hr0; have hr := hr0 _ (by first | assumption | exact Ab.lit rfl (by decide)); clear hr0) | (go_at_call 17; refine (same_float _ _ _ (by assumption) (by assumption) _).mono ?_; rintro e w' ⟨rfl, n, rfl⟩))
  go_ret
  exact ⟨rfl, below_drewN (((Below.refl _ _).alloc (Nat.le_refl _) _).alloc (by simp) _) _⟩

theorem make_way (o : Oper) (a : Act) (w : World) (ho : o.op = .alloc 37) : (execOp a.eval o).run Try.prog w = .ok (.value (.pointer (some ⟨w.heap.size, 0, none⟩))) (w.alloc (.cells #[.float .f32 0, .float .f32 0, .float .f32 0] 37)) := by
  unfold execOp
  rw [ho]
  go_simp

set_option maxHeartbeats 8000000 in
theorem law_CrossWays (x y z x' y' z' : Nat) (wx : (Lit.float .f32 x).wf = true) (wy : (Lit.float .f32 y).wf = true) (wz : (Lit.float .f32 z).wf = true) (wx' : (Lit.float .f32 x').wf = true) (wy' : (Lit.float .f32 y').wf = true) (wz' : (Lit.float .f32 z').wf = true) (w : World) :
    Calls Try.prog 12 #[.agg #[.float .f32 x, .float .f32 y, .float .f32 z], .agg #[.float .f32 x', .float .f32 y', .float .f32 z']] w (Told w) := by
  have hx := Ab.of_wf wx
  have hy := Ab.of_wf wy
  have hz := Ab.of_wf wz
  have hx' := Ab.of_wf wx'
  have hy' := Ab.of_wf wy'
  have hz' := Ab.of_wf wz'
  have hX := cross_ex hy hz hy' hz' w
  have hY := cross_ex hz hx hz' hx' w
  have hZ := cross_ex hx hy hx' hy' w
  have HS := fun w' => spec_CrossWays hx hy hz hx' hy' hz' w'
  have HI := fun w' => impl_CrossWays hx hy hz hx' hy' hz' w'
  clear wx wy wz wx' wy' wz' hx hy hz hx' hy' hz'
  generalize crossA (ab .f32 y) (ab .f32 z) (ab .f32 y') (ab .f32 z') = CX at *
  generalize crossA (ab .f32 z) (ab .f32 x) (ab .f32 z') (ab .f32 x') = CY at *
  generalize crossA (ab .f32 x) (ab .f32 y) (ab .f32 x') (ab .f32 y') = CZ at *
  generalize (finWay (ab .f32 x) (ab .f32 y) (ab .f32 z) && finWay (ab .f32 x') (ab .f32 y') (ab .f32 z') && finWay CX CY CZ) = ok at *
  have eok : (ok != ok) = false := same_bool ok
  have HT1 := fun w' => to_way (x := x) (y := y) (z := z) w'
  have HT2 := fun w' => to_way (x := x') (y := y') (z := z') w'
  go_enter Try.func12, Try.ntmps12
  go_wp2_with (first | (refine fl_arith rfl _ _ _ _ _ rfl rfl _ _ _ rfl rfl ?_; intro r n hr0; have hr := hr0 _ _ (by first | assumption | exact Ab.lit rfl (by decide)) (by first | assumption | exact Ab.lit rfl (by decide)); clear hr0) | (refine fl_cmp rfl _ _ _ _ _ rfl rfl _ _ _ rfl rfl ?_; intro b hb0; have hb := hb0 _ _ (by first | assumption | exact Ab.lit rfl (by decide)) (by first | assumption | exact Ab.lit rfl (by decide)); clear hb0; (try simp only [*] at hb); subst hb) | (refine fl_same rfl _ _ _ rfl _ _ rfl rfl rfl ?_) | (refine fl_wide rfl _ _ _ rfl _ rfl rfl rfl ?_; intro r n hr0; have hr := hr0 _ (by first | assumption | exact Ab.lit rfl (by decide)); clear hr0) | (refine fl_narrow rfl _ _ _ rfl _ rfl rfl rfl ?_; intro r n hl hr0; have hr := hr0 _ (by first | assumption | exact Ab.lit rfl (by decide)) (by assumption); clear hr0 hl) | (refine fl_neg rfl _ _ rfl _ _ rfl ?_; intro r hr0; have hr := hr0 _ (by first | assumption | exact Ab.lit rfl (by decide)); clear hr0) | go_in)
  obtain ⟨W, hW, b1, b2, bel⟩ := two_boxes w 32 32 #[.float .f32 x, .float .f32 y, .float .f32 z] #[.float .f32 x', .float .f32 y', .float .f32 z']
  rw [hW]
  clear hW
  refine Rk.region ⟨9, 6, 15, 5, some 8, 3, W.heap.size, W⟩ (Rg.pick [Rg.one (.agg #[.float .f32 x, .float .f32 y, .float .f32 z]), Rg.one (.agg #[.float .f32 x, .float .f32 y, .float .f32 z]), Rg.one (.agg #[.float .f32 x', .float .f32 y', .float .f32 z']), Rg.one (.agg #[.float .f32 x', .float .f32 y', .float .f32 z']),
    Rg.wayIf ok CX CY CZ, Rg.wayIf ok CX CY CZ, Rg.isWay (if ok = true then CX else some 0) (if ok = true then CY else some 0) (if ok = true then CZ else some 0), Rg.one (.bool ok), fun v => ∃ g, W.heap.size ≤ g ∧ v = .pointer (some ⟨g, 0, none⟩), Rg.one undef, Rg.one (.bool ok)]) (by kernel_rfl)
    (Rk.fit_of (ty := 37) (by kernel_rfl) (Nat.le_refl _) info_way rfl (fun i hi => by cases hi; exact ⟨fun g hg => ⟨g, hg, rfl⟩, _, rfl, make_way⟩)) (by kernel_rfl) (by simp) (by simp) rfl (fun h => by cases h)
    (Rg.pick_ne (by intro T hT; simp only [List.mem_cons, List.not_mem_nil, or_false] at hT; rcases hT with rfl | rfl | rfl | rfl | rfl | rfl | rfl | rfl | rfl | rfl | rfl <;> first | exact Rg.one_ne _ | exact Rg.wayIf_ne _ hX hY hZ | exact Rg.isWay_ne (Rg.ab_if _ hX) (Rg.ab_if _ hY) (Rg.ab_if _ hZ) | exact ⟨_, _, Nat.le_refl _, rfl⟩)) ?_
  (refine Rk.line_step rfl rfl rfl rfl (Rk.good_box (n := 3) _ _ rfl _ rfl _ (fun w' hw' => b1.kept hw' b1.lt) (by rfl) _ Try.underlying32 rfl info_lway) ?_; rintro _ rfl; go_simp)
  (refine Rk.line_step rfl rfl rfl rfl (Rk.good_says (fun w' => by go_simp) fun w' => HT1 w') ?_; rintro _ rfl; go_simp)
  (refine Rk.line_step rfl rfl rfl rfl (Rk.good_box (n := 3) _ _ rfl _ rfl _ (fun w' hw' => b2.kept hw' b2.lt) (by rfl) _ Try.underlying32 rfl info_lway) ?_; rintro _ rfl; go_simp)
  (refine Rk.line_step rfl rfl rfl rfl (Rk.good_says (fun w' => by go_simp) fun w' => HT2 w') ?_; rintro _ rfl; go_simp)
  (refine Rk.line_step rfl rfl rfl rfl (Rk.good_saysWayIf (fun w' => by go_simp) fun w' => HS w') ?_; rintro _ ⟨s1, s2, s3, rfl, q1, q2, q3⟩; go_simp)
  (refine Rk.line_step rfl rfl rfl rfl (Rk.good_val ⟨_, _, _, rfl, q1, q2, q3⟩ fun w' hw' => (by go_simp)) ?_; rintro _ ⟨t1, t2, t3, rfl, q4, q5, q6⟩; go_simp)
  (refine Rk.line_step rfl rfl rfl rfl (Rk.good_val ⟨_, _, _, rfl, q4, q5, q6⟩ fun w' hw' => (by go_simp)) ?_; rintro _ ⟨u1, u2, u3, rfl, p1, p2, p3⟩; go_simp)
  (refine Rk.line_step rfl rfl rfl rfl (Rk.good_one fun w' hw' => (by go_simp)) ?_; rintro _ rfl; go_simp)
  (refine Rk.line_make rfl rfl rfl rfl ?_; intro g1 hg1; go_simp)
  (refine Rk.line_store rfl rfl rfl _ rfl rfl (by simp [Value.oneCell']) ?_; go_simp)
  (refine Rk.line_step rfl rfl rfl rfl (Rk.good_one fun w' hw' => (by go_simp)) ?_; rintro _ rfl; go_simp)
  intro w1 g cs hb hg he ho hy2
  have he' : Value.pointer (some ⟨g1, 0, none⟩) = .pointer (some ⟨g, 0, none⟩) := he
  have hy3 : Value.agg #[.float .f32 u1, .float .f32 u2, .float .f32 u3] = .agg cs := hy2
  cases he'
  cases hy3
  clear he hy2 hg
  have c1 := b1.kept hb b1.lt
  have c2 := b2.kept hb b2.lt
  have bel1 : Below w.heap.size w w1 := bel.trans (hb.mono bel.size)
  clear b1 b2 bel hb hg1
  go_wp2
  refine Rk.region ⟨9, 6, 23, 7, some 8, 3, w1.heap.size, w1⟩ (Rg.pick [Rg.one (.agg #[.float .f32 x, .float .f32 y, .float .f32 z]), Rg.one (.agg #[.float .f32 x, .float .f32 y, .float .f32 z]), Rg.one (.agg #[.float .f32 x', .float .f32 y', .float .f32 z']), Rg.one (.agg #[.float .f32 x', .float .f32 y', .float .f32 z']),
    Rg.wayIf ok CX CY CZ, Rg.wayIf ok CX CY CZ, Rg.isWay (if ok = true then CX else some 0) (if ok = true then CY else some 0) (if ok = true then CZ else some 0), Rg.one (.bool ok), fun v => ∃ g, w1.heap.size ≤ g ∧ v = .pointer (some ⟨g, 0, none⟩), Rg.one undef, Rg.one (.bool ok)]) (by kernel_rfl)
    (Rk.fit_of (ty := 37) (by kernel_rfl) (Nat.le_refl _) info_way rfl (fun i hi => by cases hi; exact ⟨fun g hg => ⟨g, hg, rfl⟩, _, rfl, make_way⟩)) (by kernel_rfl) (by simp) (by simp) rfl (fun h => by cases h)
    (Rg.pick_ne (by intro T hT; simp only [List.mem_cons, List.not_mem_nil, or_false] at hT; rcases hT with rfl | rfl | rfl | rfl | rfl | rfl | rfl | rfl | rfl | rfl | rfl <;> first | exact Rg.one_ne _ | exact Rg.wayIf_ne _ hX hY hZ | exact Rg.isWay_ne (Rg.ab_if _ hX) (Rg.ab_if _ hY) (Rg.ab_if _ hZ) | exact ⟨_, _, Nat.le_refl _, rfl⟩)) ?_
  (refine Rk.line_step rfl rfl rfl rfl (Rk.good_box (n := 3) _ _ rfl _ rfl _ (fun w' hw' => c1.kept hw' c1.lt) (by rfl) _ Try.underlying32 rfl info_lway) ?_; rintro _ rfl; go_simp)
  (refine Rk.line_step rfl rfl rfl rfl (Rk.good_says (fun w' => by go_simp) fun w' => HT1 w') ?_; rintro _ rfl; go_simp)
  (refine Rk.line_step rfl rfl rfl rfl (Rk.good_box (n := 3) _ _ rfl _ rfl _ (fun w' hw' => c2.kept hw' c2.lt) (by rfl) _ Try.underlying32 rfl info_lway) ?_; rintro _ rfl; go_simp)
  (refine Rk.line_step rfl rfl rfl rfl (Rk.good_says (fun w' => by go_simp) fun w' => HT2 w') ?_; rintro _ rfl; go_simp)
  (refine Rk.line_step rfl rfl rfl rfl (Rk.good_saysWayIf (fun w' => by go_simp) fun w' => HI w') ?_; rintro _ ⟨s4, s5, s6, rfl, q1', q2', q3'⟩; go_simp)
  (refine Rk.line_step rfl rfl rfl rfl (Rk.good_val ⟨_, _, _, rfl, q1', q2', q3'⟩ fun w' hw' => (by go_simp)) ?_; rintro _ ⟨t4, t5, t6, rfl, q4', q5', q6'⟩; go_simp)
  (refine Rk.line_step rfl rfl rfl rfl (Rk.good_val ⟨_, _, _, rfl, q4', q5', q6'⟩ fun w' hw' => (by go_simp)) ?_; rintro _ ⟨v1, v2, v3, rfl, p4, p5, p6⟩; go_simp)
  (refine Rk.line_step rfl rfl rfl rfl (Rk.good_one fun w' hw' => (by go_simp)) ?_; rintro _ rfl; go_simp)
  (refine Rk.line_make rfl rfl rfl rfl ?_; intro g2 hg2; go_simp)
  (refine Rk.line_store rfl rfl rfl _ rfl rfl (by simp [Value.oneCell']) ?_; go_simp)
  (refine Rk.line_step rfl rfl rfl rfl (Rk.good_one fun w' hw' => (by go_simp)) ?_; rintro _ rfl; go_simp)
  intro w2 g cs hb hg he ho2 hy2
  have he' : Value.pointer (some ⟨g2, 0, none⟩) = .pointer (some ⟨g, 0, none⟩) := he
  have hy3 : Value.agg #[.float .f32 v1, .float .f32 v2, .float .f32 v3] = .agg cs := hy2
  cases he'
  cases hy3
  clear he hy2 hg
  have o1 := Own.boxK (Rk.Own.kept ho hb ho.lt)
  have o2 := Own.boxK ho2
  have bel2 : Below w.heap.size w w2 := bel1.trans (hb.mono bel1.size)
  clear c1 c2 bel1 hb hg2 ho ho2
  have HQ := fun w' => eq_way v1 v2 v3 u1 u2 u3 _ _ _ p4 p5 p6 p1 p2 p3 w'
  go_wp2_with (first | (refine fl_arith rfl _ _ _ _ _ rfl rfl _ _ _ rfl rfl ?_; intro r n hr0; have hr := hr0 _ _ (by first | assumption | exact Ab.lit rfl (by decide)) (by first | assumption | exact Ab.lit rfl (by decide)); clear hr0) | (refine fl_cmp rfl _ _ _ _ _ rfl rfl _ _ _ rfl rfl ?_; intro b hb0; have hb := hb0 _ _ (by first | assumption | exact Ab.lit rfl (by decide)) (by first | assumption | exact Ab.lit rfl (by decide)); clear hb0; (try simp only [*] at hb); subst hb) | (refine fl_same rfl _ _ _ rfl _ _ rfl rfl rfl ?_) | (refine fl_wide rfl _ _ _ rfl _ rfl rfl rfl ?_; intro r n hr0; have hr := hr0 _ (by first | assumption | exact Ab.lit rfl (by decide)); clear hr0) | (refine fl_narrow rfl _ _ _ rfl _ rfl rfl rfl ?_; intro r n hl hr0; have hr := hr0 _ (by first | assumption | exact Ab.lit rfl (by decide)) (by assumption); clear hr0 hl) | (refine fl_neg rfl _ _ rfl _ _ rfl ?_; intro r hr0; have hr := hr0 _ (by first | assumption | exact Ab.lit rfl (by decide)); clear hr0) | (refine fl_box (n := 3) rfl _ _ rfl _ rfl _ (by first | assumption | exact Box.alloc (by assumption) _ | exact Box.start _ _ _ _) (by rfl) _ Try.underlying37 rfl info_way ?_) | (go_at_call 39; (with_reducible_and_instances refine Calls.mono (HQ _) ?_); rintro e w' ⟨rfl, B5⟩))
  go_ret
  exact ⟨rfl, bel2.trans (B5.mono bel2.size)⟩

end Go.Proofs.Ytnkogheibofboaa.B
