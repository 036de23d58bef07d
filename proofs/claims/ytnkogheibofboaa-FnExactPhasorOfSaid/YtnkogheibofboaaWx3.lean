/- Walks: the law of PhasorOf. No conditions. -/
import Derived.Test.YtnkogheibofboaaWx2
namespace Go.Proofs.Ytnkogheibofboaa
open Go.RowKit
set_option maxRecDepth 8000

theorem ab_nan32 : Ab .f32 2143289344 none := Ab.nan (by decide) (by decide)
theorem ab_one32 : Ab .f32 1065353216 (some 1065353216) := Ab.lit (by decide) (by decide)
theorem ab_zero32 : Ab .f32 0 (some 0) := Ab.lit (by decide) (by decide)

set_option maxHeartbeats 1000000 in
theorem phasor_nan (x : Nat) (X : Option Nat) (hx : Ab .f64 x X) (hf : finA .f64 X = false) (w : World) : Calls Try.prog 78 #[.float .f64 x] w (Phased none none w) ∧ Calls Try.prog 35 #[.float .f64 x] w (Phased none none w) := by
  have e1 : cmpA .neq .f64 (opA .sub .f64 X X) (some 0) = true := by rw [neq_fin64, hf]; rfl
  have e2 : cmpA .eql .f64 (opA .sub .f64 X X) (some 0) = false := hf
  have hnan := ab_nan
  have hfn := fits_none
  constructor
  · go_enter Try.func78, Try.ntmps78
    go_wp2_with (first | (refine fl_arith rfl _ _ _ _ _ rfl rfl _ _ _ rfl rfl ?_; intro r n hr0; have hr := hr0 _ _ (by first | assumption | exact Ab.lit rfl (by decide)) (by first | assumption | exact Ab.lit rfl (by decide)); clear hr0) | (refine fl_cmp rfl _ _ _ _ _ rfl rfl _ _ _ rfl rfl ?_; intro b hb0; have hb := hb0 _ _ (by first | assumption | exact Ab.lit rfl (by decide)) (by first | assumption | exact Ab.lit rfl (by decide)); clear hb0; (try simp only [*] at hb); subst hb) | (refine fl_same rfl _ _ _ rfl _ _ rfl rfl rfl ?_) | (refine fl_wide rfl _ _ _ rfl _ rfl rfl rfl ?_; intro r n hr0; have hr := hr0 _ (by first | assumption | exact Ab.lit rfl (by decide)); clear hr0) | (refine fl_narrow rfl _ _ _ rfl _ rfl rfl rfl ?_; intro r n hl hr0; have hr := hr0 _ (by first | assumption | exact Ab.lit rfl (by decide)) (by assumption); clear hr0 hl) | (refine fl_neg rfl _ _ rfl _ _ rfl ?_; intro r hr0; have hr := hr0 _ (by first | assumption | exact Ab.lit rfl (by decide)); clear hr0) | go_in)
    go_ret
    exact ⟨_, _, _, rfl, ab_nan32, ab_nan32, rfl⟩
  · go_enter Try.func35, Try.ntmps35
    go_wp2_with (first | (refine fl_arith rfl _ _ _ _ _ rfl rfl _ _ _ rfl rfl ?_; intro r n hr0; have hr := hr0 _ _ (by first | assumption | exact Ab.lit rfl (by decide)) (by first | assumption | exact Ab.lit rfl (by decide)); clear hr0) | (refine fl_cmp rfl _ _ _ _ _ rfl rfl _ _ _ rfl rfl ?_; intro b hb0; have hb := hb0 _ _ (by first | assumption | exact Ab.lit rfl (by decide)) (by first | assumption | exact Ab.lit rfl (by decide)); clear hb0; (try simp only [*] at hb); subst hb) | (refine fl_same rfl _ _ _ rfl _ _ rfl rfl rfl ?_) | (refine fl_wide rfl _ _ _ rfl _ rfl rfl rfl ?_; intro r n hr0; have hr := hr0 _ (by first | assumption | exact Ab.lit rfl (by decide)); clear hr0) | (refine fl_narrow rfl _ _ _ rfl _ rfl rfl rfl ?_; intro r n hl hr0; have hr := hr0 _ (by first | assumption | exact Ab.lit rfl (by decide)) (by assumption); clear hr0 hl) | (refine fl_neg rfl _ _ rfl _ _ rfl ?_; intro r hr0; have hr := hr0 _ (by first | assumption | exact Ab.lit rfl (by decide)); clear hr0) | go_in)
    go_ret
    exact ⟨_, _, _, rfl, hr, hr, rfl⟩

set_option maxHeartbeats 1000000 in
theorem phasor_far (x : Nat) (X : Option Nat) (hx : Ab .f64 x X) (hf : finA .f64 X = true) (h : (cmpA .geq .f64 X (some 4841369599423283200) || cmpA .leq .f64 X (some 14064741636278059008)) = true) (h2 : cmpA .geq .f64 (absA X) (some 4841369599423283200) = true) (w : World) :
    Calls Try.prog 78 #[.float .f64 x] w (Phased (some 1065353216) (some 0) w) ∧ Calls Try.prog 35 #[.float .f64 x] w (Phased (some 1065353216) (some 0) w) := by
  have e1 : cmpA .neq .f64 (opA .sub .f64 X X) (some 0) = false := by rw [neq_fin64, hf]; rfl
  have e2 : cmpA .eql .f64 (opA .sub .f64 X X) (some 0) = true := hf
  constructor
  · cases c : cmpA .geq .f64 X (some 4841369599423283200)
    · rw [c, Bool.false_or] at h
      go_enter Try.func78, Try.ntmps78
      go_wp2_with (first | (refine fl_arith rfl _ _ _ _ _ rfl rfl _ _ _ rfl rfl ?_; intro r n hr0; have hr := hr0 _ _ (by first | assumption | exact Ab.lit rfl (by decide)) (by first | assumption | exact Ab.lit rfl (by decide)); clear hr0) | (refine fl_cmp rfl _ _ _ _ _ rfl rfl _ _ _ rfl rfl ?_; intro b hb0; have hb := hb0 _ _ (by first | assumption | exact Ab.lit rfl (by decide)) (by first | assumption | exact Ab.lit rfl (by decide)); clear hb0; (try simp only [*] at hb); subst hb) | (refine fl_same rfl _ _ _ rfl _ _ rfl rfl rfl ?_) | (refine fl_wide rfl _ _ _ rfl _ rfl rfl rfl ?_; intro r n hr0; have hr := hr0 _ (by first | assumption | exact Ab.lit rfl (by decide)); clear hr0) | (refine fl_narrow rfl _ _ _ rfl _ rfl rfl rfl ?_; intro r n hl hr0; have hr := hr0 _ (by first | assumption | exact Ab.lit rfl (by decide)) (by assumption); clear hr0 hl) | (refine fl_neg rfl _ _ rfl _ _ rfl ?_; intro r hr0; have hr := hr0 _ (by first | assumption | exact Ab.lit rfl (by decide)); clear hr0) | go_in)
      go_ret
      exact ⟨_, _, _, rfl, ab_one32, ab_zero32, rfl⟩
    · clear h
      go_enter Try.func78, Try.ntmps78
      go_wp2_with (first | (refine fl_arith rfl _ _ _ _ _ rfl rfl _ _ _ rfl rfl ?_; intro r n hr0; have hr := hr0 _ _ (by first | assumption | exact Ab.lit rfl (by decide)) (by first | assumption | exact Ab.lit rfl (by decide)); clear hr0) | (refine fl_cmp rfl _ _ _ _ _ rfl rfl _ _ _ rfl rfl ?_; intro b hb0; have hb := hb0 _ _ (by first | assumption | exact Ab.lit rfl (by decide)) (by first | assumption | exact Ab.lit rfl (by decide)); clear hb0; (try simp only [*] at hb); subst hb) | (refine fl_same rfl _ _ _ rfl _ _ rfl rfl rfl ?_) | (refine fl_wide rfl _ _ _ rfl _ rfl rfl rfl ?_; intro r n hr0; have hr := hr0 _ (by first | assumption | exact Ab.lit rfl (by decide)); clear hr0) | (refine fl_narrow rfl _ _ _ rfl _ rfl rfl rfl ?_; intro r n hl hr0; have hr := hr0 _ (by first | assumption | exact Ab.lit rfl (by decide)) (by assumption); clear hr0 hl) | (refine fl_neg rfl _ _ rfl _ _ rfl ?_; intro r hr0; have hr := hr0 _ (by first | assumption | exact Ab.lit rfl (by decide)); clear hr0) | go_in)
      go_ret
      exact ⟨_, _, _, rfl, ab_one32, ab_zero32, rfl⟩
  · clear h
    go_enter Try.func35, Try.ntmps35
    go_wp2_with (first | (refine fl_arith rfl _ _ _ _ _ rfl rfl _ _ _ rfl rfl ?_; intro r n hr0; have hr := hr0 _ _ (by first | assumption | exact Ab.lit rfl (by decide)) (by first | assumption | exact Ab.lit rfl (by decide)); clear hr0) | (refine fl_cmp rfl _ _ _ _ _ rfl rfl _ _ _ rfl rfl ?_; intro b hb0; have hb := hb0 _ _ (by first | assumption | exact Ab.lit rfl (by decide)) (by first | assumption | exact Ab.lit rfl (by decide)); clear hb0; (try simp only [*] at hb); subst hb) | (refine fl_same rfl _ _ _ rfl _ _ rfl rfl rfl ?_) | (refine fl_wide rfl _ _ _ rfl _ rfl rfl rfl ?_; intro r n hr0; have hr := hr0 _ (by first | assumption | exact Ab.lit rfl (by decide)); clear hr0) | (refine fl_narrow rfl _ _ _ rfl _ rfl rfl rfl ?_; intro r n hl hr0; have hr := hr0 _ (by first | assumption | exact Ab.lit rfl (by decide)) (by assumption); clear hr0 hl) | (refine fl_neg rfl _ _ rfl _ _ rfl ?_; intro r hr0; have hr := hr0 _ (by first | assumption | exact Ab.lit rfl (by decide)); clear hr0) | (go_at_call 72; refine (abs_any _ _ (by assumption) _).mono ?_; rintro e w' ⟨ra, rfl, hra, rfl⟩) | go_in)
    go_ret
    exact ⟨_, _, _, rfl, ab_one32, ab_zero32, rfl⟩

/-- Both sides return the same. -/
theorem phasor_both (x : Nat) (X : Option Nat) (hx : Ab .f64 x X) : ∃ A B, ∀ w, Calls Try.prog 78 #[.float .f64 x] w (Phased A B w) ∧ Calls Try.prog 35 #[.float .f64 x] w (Phased A B w) := by
  cases hf : finA .f64 X
  · exact ⟨none, none, fun w => phasor_nan x X hx hf w⟩
  · cases X with
    | none => cases hf
    | some b =>
      obtain ⟨rfl, hn⟩ := hx.of_some
      have hfw : finW .f64 x = true := by rw [← finA_some hn]; exact hf
      obtain ⟨q1, q2⟩ := far_same hfw
      cases h3 : cmpA .geq .f64 (absA (some x)) (some 4841369599423283200)
      · rw [h3] at q1
        simp only [Bool.or_eq_false_iff] at q1
        have hs := q2 h3
        obtain ⟨nn, hw⟩ := whole_of hfw hs
        have fn := whole_fin hw hfw hs
        obtain ⟨n1, n2⟩ := num_frac hfw fn (encode_lt .f64 (.number (nn < 0) nn.natAbs 0)) hw
        have oF : Ok .f64 (fracA (cmpA .lss .f64 (opA .sub .f64 (some x) (some (floatOfInt .f64 nn))) (some 0)) (opA .sub .f64 (some x) (some (floatOfInt .f64 nn)))) := ok_if Ok.op Ok.op
        obtain ⟨F, hF⟩ : ∃ F, fracA (cmpA .lss .f64 (opA .sub .f64 (some x) (some (floatOfInt .f64 nn))) (some 0)) (opA .sub .f64 (some x) (some (floatOfInt .f64 nn))) = F := ⟨_, rfl⟩
        rw [hF] at n1 n2 oF
        obtain ⟨K, hK, k1, k2⟩ := subs_stop n1 n2
        have nS := (num_subs n1 K (by omega)).mono (show 1 + (K : Int) ≤ 5 by omega)
        have nC : Num 6 (opA .sub .f64 (some 4598175219545276416) (subs F K)) := ((num_quart.mono (show (0 : Int) ≤ 5 by omega)).sub (ok_subs oF K) nS (by omega) (by omega)).mono (by omega)
        obtain ⟨C, c1, c2, c3, c4⟩ := wide_all Ok.op nC (by omega)
        obtain ⟨S, s1, s2, s3, s4⟩ := wide_all (ok_subs oF K) nS (by omega)
        have e1 : cmpA .neq .f64 (opA .sub .f64 (some x) (some x)) (some 0) = false := by rw [neq_fin64, hf]; rfl
        exact ⟨_, _, fun w => ⟨spec_phasor_main x nn hw hx F K C S hF hK k1 k2 e1 q1.1 q1.2 c3 s3 (fits95 c1) (fits95 s1) (fits96 c2 c1) (fits96 s2 s1) w, impl_phasor_main x nn hw hx F K C S hF hK k1 k2 hf h3 c4 s4 (fits95 c1) (fits95 s1) (fits96 c2 c1) (fits96 s2 s1) w⟩⟩
      · rw [h3] at q1
        exact ⟨_, _, fun w => phasor_far x (some x) hx hf q1 h3 w⟩

set_option maxHeartbeats 1000000 in
theorem same_complex (a b c d : Nat) (X Y : Option Nat) (ha : Ab .f64 a X) (hb' : Ab .f64 b Y) (hc : Ab .f64 c X) (hd : Ab .f64 d Y) (w : World) :
    Calls Try.prog 36 #[.complex .f64 a b, .complex .f64 c d] w fun e w' => e = .returned (.bool true) ∧ ∃ n, w' = w.drewN n := by
  have H1 := fun w' => same_float a c X ha hc w'
  have H2 := fun w' => same_float b d Y hb' hd w'
  clear ha hb' hc hd
  go_enter Try.func36, Try.ntmps36
  go_wp2_with (first | (refine fl_arith rfl _ _ _ _ _ rfl rfl _ _ _ rfl rfl ?_; intro r n hr0; have hr := hr0 _ _ (by first | assumption | exact Ab.lit rfl (by decide)) (by first | assumption | exact Ab.lit rfl (by decide)); clear hr0) | (refine fl_cmp rfl _ _ _ _ _ rfl rfl _ _ _ rfl rfl ?_; intro b hb0; have hb := hb0 _ _ (by first | assumption | exact Ab.lit rfl (by decide)) (by first | assumption | exact Ab.lit rfl (by decide)); clear hb0; (try simp only [*] at hb); subst hb) | (refine fl_same rfl _ _ _ rfl _ _ rfl rfl rfl ?_) | (refine fl_wide rfl _ _ _ rfl _ rfl rfl rfl ?_; intro r n hr0; have hr := hr0 _ (by first | assumption | exact Ab.lit rfl (by decide)); clear hr0) | (refine fl_narrow rfl _ _ _ rfl _ rfl rfl rfl ?_; intro r n hl hr0; have hr := hr0 _ (by first | assumption | exact Ab.lit rfl (by decide)) (by assumption); clear hr0 hl) | (refine fl_neg rfl _ _ rfl _ _ rfl ?_; intro r hr0; have hr := hr0 _ (by first | assumption | exact Ab.lit rfl (by decide)); clear hr0) | (go_at_call 17; (with_reducible_and_instances refine Calls.mono (H1 _) ?_); rintro e w' ⟨rfl, m3, rfl⟩) | (go_at_call 17; (with_reducible_and_instances refine Calls.mono (H2 _) ?_); rintro e w' ⟨rfl, m4, rfl⟩))
  go_ret
  exact ⟨rfl, _, rfl⟩

set_option maxHeartbeats 1000000 in
theorem law_PhasorOf (x : Nat) (wx : (Lit.float .f64 x).wf = true) (w : World) : Calls Try.prog 11 #[.float .f64 x] w (Told w) := by
  obtain ⟨A, B, H⟩ := phasor_both x _ (Ab.of_wf wx)
  have HS := fun w' => (H w').1
  have HI := fun w' => (H w').2
  clear H
  have HC := fun a b c d w' ha hb hc hd => same_complex a b c d (wideA A) (wideA B) ha hb hc hd w'
  go_enter Try.func11, Try.ntmps11
  go_wp2_with (first | (refine fl_arith rfl _ _ _ _ _ rfl rfl _ _ _ rfl rfl ?_; intro r n hr0; have hr := hr0 _ _ (by first | assumption | exact Ab.lit rfl (by decide)) (by first | assumption | exact Ab.lit rfl (by decide)); clear hr0) | (refine fl_cmp rfl _ _ _ _ _ rfl rfl _ _ _ rfl rfl ?_; intro b hb0; have hb := hb0 _ _ (by first | assumption | exact Ab.lit rfl (by decide)) (by first | assumption | exact Ab.lit rfl (by decide)); clear hb0; (try simp only [*] at hb); subst hb) | (refine fl_same rfl _ _ _ rfl _ _ rfl rfl rfl ?_) | (refine fl_wide rfl _ _ _ rfl _ rfl rfl rfl ?_; intro r n hr0; have hr := hr0 _ (by first | assumption | exact Ab.lit rfl (by decide)); clear hr0) | (refine fl_narrow rfl _ _ _ rfl _ rfl rfl rfl ?_; intro r n hl hr0; have hr := hr0 _ (by first | assumption | exact Ab.lit rfl (by decide)) (by assumption); clear hr0 hl) | (refine fl_neg rfl _ _ rfl _ _ rfl ?_; intro r hr0; have hr := hr0 _ (by first | assumption | exact Ab.lit rfl (by decide)); clear hr0) | (go_at_call 78; (with_reducible_and_instances refine Calls.mono (HS _) ?_); rintro e w' ⟨a1, b1, m1, rfl, ha1, hb1, rfl⟩) | (go_at_call 35; (with_reducible_and_instances refine Calls.mono (HI _) ?_); rintro e w' ⟨a2, b2, m2, rfl, ha2, hb2, rfl⟩) | (refine fl_cwide rfl _ _ _ rfl _ _ rfl rfl rfl ?_; intro r s n hr0 hs0; have hr1 := hr0 _ (by assumption); have hs1 := hs0 _ (by assumption); clear hr0 hs0) | (go_at_call 36; (with_reducible_and_instances refine Calls.mono (HC _ _ _ _ _ ?_ ?_ ?_ ?_) ?_); (next => assumption); (next => assumption); (next => assumption); (next => assumption); rintro e w' ⟨rfl, m3, rfl⟩) | go_in)
  go_ret
  exact ⟨rfl, below_drewN (Below.refl _ _) _⟩

end Go.Proofs.Ytnkogheibofboaa
