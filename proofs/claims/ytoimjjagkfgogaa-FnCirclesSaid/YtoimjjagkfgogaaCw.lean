/- Walks: the law of FnCircles. No conditions. -/
import Derived.Test.YtoimjjagkfgogaaCq
import Derived.Test.YtoimjjagkfgogaaCs
import Derived.ChangeSlices
import Derived.ChangeOld
import Derived.Laws.Cover2
namespace Go.Proofs.Ytoimjjagkfgogaa.cir
open Go.RowKit
open fast (entry)
set_option maxRecDepth 8000

theorem ab_quarter : Ab .f32 1048576000 (some 1048576000) := Ab.lit (by decide) (by decide)
theorem ab_nought : Ab .f32 0 (some 0) := Ab.lit (by decide) (by decide)
theorem ab_one : Ab .f32 1065353216 (some 1065353216) := Ab.lit (by decide) (by decide)
set_option maxHeartbeats 1000000 in
theorem not_same (w : World) : Calls Try.prog 13 #[.float .f32 1048576000, .float .f32 0] w fun e w' => e = .returned (.bool false) ∧ w = w' := by
  have H1 := fun w' => spec_l01Bits 1048576000 _ ab_quarter w'
  have H2 := fun w' => spec_l01Bits 0 _ ab_nought w'
  rw [show bitsA (some 1048576000) = 1048576000 from rfl] at H1
  rw [show bitsA (some 0) = 0 from rfl] at H2
  go_enter Try.func13, Try.ntmps13
  go_wp2_with (first | (go_at_call 34; (with_reducible_and_instances refine Calls.mono (H1 _) ?_); rintro e w' ⟨rfl, rfl⟩) | (go_at_call 34; (with_reducible_and_instances refine Calls.mono (H2 _) ?_); rintro e w' ⟨rfl, rfl⟩) | go_in)
  go_ret
  exact ⟨rfl, rfl⟩

theorem entry_small : ∀ i, i < 200 → (entry i).2.2 ≤ 2000 := by decide +kernel

/-- What the law calls and tests, by what the bytes choose. -/
structure Facts (ka kb : Nat) (pa pb qa qb ra rb ang wh : Nat) : Prop where
  p : ∀ r, Ab .f64 r (opA .quo .f64 (some (floatOfInt .f64 ((ka : Int) - 128))) (some 4634204016564240384)) → ∀ w, Calls Try.prog 6 #[.float .f64 r] w (Cx (some pa) (some pb) w)
  q : ∀ r, Ab .f64 r (opA .quo .f64 (some (floatOfInt .f64 ((kb : Int) - 128))) (some 4634204016564240384)) → ∀ w, Calls Try.prog 6 #[.float .f64 r] w (Cx (some qa) (some qb) w)
  r : ∀ r, Ab .f64 r (opA .quo .f64 (some (floatOfInt .f64 ((ka : Int) - 128 + ((kb : Int) - 128)))) (some 4634204016564240384)) → ∀ w, Calls Try.prog 6 #[.float .f64 r] w (Cx (some ra) (some rb) w)
  angle : angleA (some pb) (some pa) = some ang
  whole : ∀ r, Ab .f64 r (opA .add .f64 (opA .sub .f64 (opA .mul .f64 (wideA (some ang)) (some 4634204016564240384)) (some (floatOfInt .f64 ((ka : Int) - 128)))) (some 4666723447345250304)) → floatToIntVal .f64 r .i64 = some (wh : Int)
  gapT : cmpA .gtr .f64 (gapA (opA .sub .f64 (opA .mul .f64 (wideA (some ang)) (some 4634204016564240384)) (some (floatOfInt .f64 ((ka : Int) - 128)))) (some (floatOfInt .f64 ((wh : Int) - 10000)))) (some 4562254508917369340) = false
  rem : Int.tmod ((wh : Int) - 10000) 64 = 0
  small : wh < 20000
  fitP : Fits (powA (some pa) (some pb))
  gapP : cmpA .gtr .f64 (gapA (wideA (narrowA (powA (some pa) (some pb)))) (some 4607182418800017408)) (some 4547007122018943789) = false
  fitR : Fits (mulRe (some pa) (some pb) (some qa) (some qb))
  fitI : Fits (mulIm (some pa) (some pb) (some qa) (some qb))
  nearR : cmpA .leq .f64 (gapA (wideA (narrowA (mulRe (some pa) (some pb) (some qa) (some qb)))) (wideA (some ra))) (some 4547007122018943789) = true
  nearI : cmpA .leq .f64 (gapA (wideA (narrowA (mulIm (some pa) (some pb) (some qa) (some qb)))) (wideA (some rb))) (some 4547007122018943789) = true
  real : Int.tmod ((ka : Int) - 128) 16 = 0 → (cmpA .neq .f64 (gapA (wideA (some pa)) (some 0)) (some 0) && cmpA .neq .f64 (gapA (wideA (some pa)) (some 0)) (some 4607182418800017408)) = false

theorem facts (ka kb : Nat) (ha : ka < 256) (hb : kb < 256) : ∃ pa pb qa qb ra rb ang wh, Facts ka kb pa pb qa qb ra rb ang wh := by
  have e1 : ((ka + 128 : Nat) : Int) - 256 = (ka : Int) - 128 := by omega
  have e2 : ((kb + 128 : Nat) : Int) - 256 = (kb : Int) - 128 := by omega
  have e3 : ((ka + kb : Nat) : Int) - 256 = (ka : Int) - 128 + ((kb : Int) - 128) := by omega
  have m1 : (ka + 128) % 64 = ka % 64 := by omega
  have m2 : (kb + 128) % 64 = kb % 64 := by omega
  have m3 : (ka + kb) % 64 = (ka % 64 + kb % 64) % 64 := by omega
  have P := phasor_of (ka + 128) (by omega)
  have Q := phasor_of (kb + 128) (by omega)
  have R := phasor_of (ka + kb) (by omega)
  rw [e1, m1] at P
  rw [e2, m2] at Q
  rw [e3, m3] at R
  have j1 : ka % 64 < 64 := Nat.mod_lt _ (by decide)
  have j2 : kb % 64 < 64 := Nat.mod_lt _ (by decide)
  obtain ⟨x1, x2, x3, x4⟩ := prod_spec (ka % 64) (kb % 64) j1 j2
  have hp := pow_all (ka % 64) j1
  simp only [powOk, Bool.and_eq_true, Bool.not_eq_true'] at hp
  have ht := turn_all ka ha
  simp only [turnOk, Bool.and_eq_true, Bool.not_eq_true', decide_eq_true_eq] at ht
  obtain ⟨⟨⟨t1, t2⟩, t3⟩, t4⟩ := ht
  unfold turnA at t1 t2
  refine ⟨_, _, _, _, _, _, angw (ka % 64), whw ka, P, Q, R, a_all _ j1, fun r hr => ?_, t2, t3, t4, fitsB_spec hp.1, hp.2, x1, x2, x3, x4, fun h => ?_⟩
  · unfold wholeIs at t1
    split at t1
    · rename_i v hv
      rw [hv] at hr
      have e := hr.of_some.1
      subst e
      exact eq_of_beq t1
    · cases t1
  · have h16 : ka % 64 = 16 * (ka % 64 / 16) := by
      have h2 := Int.tmod_add_mul_tdiv ((ka : Int) - 128) 16
      rw [h] at h2
      omega
    have := real_all (ka % 64 / 16) (by omega)
    rw [← h16] at this
    unfold realOk at this
    simpa only [Bool.not_eq_true'] using this

set_option maxRecDepth 100000 in
set_option maxHeartbeats 16000000 in
theorem circles_at (a b : Option Addr) (n cap n2 cap2 : Nat) (w : World) (hA : Bytes w a n) (hB : Bytes w b n2) (h1 : ¬ 1048576 < n) (h2 : ¬ 1048576 < n2) :
    Calls Try.prog 3 #[.slice a n cap, .slice b n2 cap2] w fun e w' => e = .returned (.bool true) ∧ Below w.heap.size w w' := by
  have HL := fun w' => long_any a b n n2 cap cap2 w'
  rw [show (decide (1048576 < n) || decide (1048576 < n2)) = false by simp [h1, h2]] at HL
  obtain ⟨ka, hka, HA0'⟩ := at_any 256 0 (.inl rfl) (.inl rfl) a n cap w hA
  obtain ⟨kb, hkb, HA1'⟩ := at_any 256 1 (.inl rfl) (.inr rfl) a n cap w hA
  obtain ⟨i, hi, HB0'⟩ := at_any 200 0 (.inr rfl) (.inl rfl) b n2 cap2 w hB
  obtain ⟨j, hj, HB1'⟩ := at_any 200 1 (.inr rfl) (.inr rfl) b n2 cap2 w hB
  have HA0 : Calls Try.prog 5 #[.slice a n cap, .int .i64 0, .int .i64 256] w fun e w'' => e = .returned (.int .i64 (ka : Int)) ∧ w = w'' := HA0' w (Below.refl _ _)
  have HA1 : Calls Try.prog 5 #[.slice a n cap, .int .i64 1, .int .i64 256] w fun e w'' => e = .returned (.int .i64 (kb : Int)) ∧ w = w'' := HA1' w (Below.refl _ _)
  have HB0 : ∀ w', Below w.heap.size w w' → Calls Try.prog 5 #[.slice b n2 cap2, .int .i64 0, .int .i64 200] w' fun e w'' => e = .returned (.int .i64 (i : Int)) ∧ w' = w'' := HB0'
  have HB1 : ∀ w', Below w.heap.size w w' → Calls Try.prog 5 #[.slice b n2 cap2, .int .i64 1, .int .i64 200] w' fun e w'' => e = .returned (.int .i64 (j : Int)) ∧ w' = w'' := HB1'
  clear HA0' HA1' HB0' HB1' hA hB h1 h2
  obtain ⟨pa, pb, qa, qb, ra, rb, ang, wh, F⟩ := facts ka kb hka hkb
  have HP := F.p
  have HQ := F.q
  have HR := F.r
  have HW := F.whole
  have g1 := F.gapT
  have g2 := F.rem
  have g3 := F.small
  have g4 := F.gapP
  have g5 := F.real
  have HAng : ∀ x y w', Ab .f32 x (some pa) → Ab .f32 y (some pb) → Calls Try.prog 7 #[.complex .f32 x y] w' fun e w'' => ∃ r, e = .returned (.float .f32 r) ∧ Ab .f32 r (some ang) ∧ Below w'.heap.size w' w'' := fun x y w' hx hy => by
    have := angleOf_any x y (some pa) (some pb) hx hy w'
    rw [F.angle] at this
    exact this
  have HAng1 : ∀ w', Calls Try.prog 7 #[.complex .f32 0 1065353216] w' fun e w'' => e = .returned (.float .f32 1048576000) ∧ Below w'.heap.size w' w'' := fun w' => by
    have := angleOf_any 0 1065353216 (some 0) (some 1065353216) ab_nought ab_one w'
    rw [one_all] at this
    refine this.mono ?_
    rintro e w'' ⟨r, rfl, hr, hB⟩
    have e := hr.of_some.1
    subst e
    exact ⟨rfl, hB⟩
  have HPow := fun x y w' hx hy => powerOf_any x y (some pa) (some pb) hx hy F.fitP w'
  have HMul := fun x y z u w' hx hy hz hu => mulComplex_any x y z u (some pa) (some pb) (some qa) (some qb) hx hy hz hu F.fitR F.fitI w'
  have HN := fun x y z u w' hx hy hz hu => near_any x y z u 4547007122018943789 _ _ (some ra) (some rb) hx hy hz hu (Ab.lit (by decide) (by decide)) F.nearR F.nearI w'
  clear F
  have HG := fun x y X Y w' hx hy => gap_any x y X Y hx hy w'
  obtain ⟨o1, _, o2⟩ := fast.one_spec i hi
  obtain ⟨o3, _, o4⟩ := fast.one_spec j hj
  obtain ⟨pp, oo, o5, o6, o7, o8⟩ := fast.pair_spec i j hi hj
  have l1 := entry_small i hi
  have l2 := entry_small j hj
  generalize (entry i).2.1 = xi at *
  generalize (entry j).2.1 = xj at *
  generalize (entry i).2.2 = mi at *
  generalize (entry j).2.2 = mj at *
  have HT1 : ∀ r, Ab .f32 r (opA .quo .f32 (some (floatOfInt .f32 (1 + (i : Int)))) (some 1090519040)) → ∀ w', Calls Try.prog 12 #[.float .f32 r] w' fun e w'' => e = .returned (.tuple #[.int .i64 ((mi : Int) - 1000), .bool true]) ∧ ∃ m, w'' = w'.drewN m := fun r hr w' => by
    rw [o1] at hr
    have e := hr.of_some.1
    subst e
    exact tenths_at _ _ o2 w'
  have HT2 : ∀ r, Ab .f32 r (opA .quo .f32 (some (floatOfInt .f32 (1 + (j : Int)))) (some 1090519040)) → ∀ w', Calls Try.prog 12 #[.float .f32 r] w' fun e w'' => e = .returned (.tuple #[.int .i64 ((mj : Int) - 1000), .bool true]) ∧ ∃ m, w'' = w'.drewN m := fun r hr w' => by
    rw [o3] at hr
    have e := hr.of_some.1
    subst e
    exact tenths_at _ _ o4 w'
  have HT3 : ∀ r, Ab .f32 r (opA .mul .f32 (opA .quo .f32 (some (floatOfInt .f32 (1 + (i : Int)))) (some 1090519040)) (opA .quo .f32 (some (floatOfInt .f32 (1 + (j : Int)))) (some 1090519040))) → ∀ w', Calls Try.prog 12 #[.float .f32 r] w' fun e w'' => e = .returned (.tuple #[.int .i64 ((oo : Int) - 1000), .bool true]) ∧ ∃ m, w'' = w'.drewN m := fun r hr w' => by
    rw [o1, o3, o5] at hr
    have e := hr.of_some.1
    subst e
    exact tenths_at _ _ o6 w'
  have HT4 : ∀ w', Calls Try.prog 12 #[.float .f32 1065353216] w' fun e w'' => e = .returned (.tuple #[.int .i64 0, .bool true]) ∧ ∃ m, w'' = w'.drewN m := fun w' => tenths_at _ 1000 fast.tenths_one w'
  have HS := not_same
  have hk1 := Ab.ofInt .f64 ((ka : Int) - 128)
  have hk2 := Ab.ofInt .f64 ((kb : Int) - 128)
  have hk3 := Ab.ofInt .f64 ((ka : Int) - 128 + ((kb : Int) - 128))
  have hk4 := Ab.ofInt .f64 ((wh : Int) - 10000)
  have hk5 := Ab.ofInt .f32 (1 + (i : Int))
  have hk6 := Ab.ofInt .f32 (1 + (j : Int))
  have s1 : (mi : Int) - 1000 + ((mj : Int) - 1000) - ((oo : Int) - 1000) ≤ 1 := by omega
  have s2 : (oo : Int) - 1000 - ((mi : Int) - 1000) - ((mj : Int) - 1000) ≤ 1 := by omega
  have s3 : (oo : Int) ≤ 4000 := by omega
  clear o1 o2 o3 o4 o5 o6 o7 o8
  have hcase : (Int.tmod ((ka : Int) - 128) 16 = 0 ∧ cmpA .neq .f64 (gapA (wideA (some pa)) (some 0)) (some 0) = false) ∨ (Int.tmod ((ka : Int) - 128) 16 = 0 ∧ cmpA .neq .f64 (gapA (wideA (some pa)) (some 0)) (some 0) = true ∧ cmpA .neq .f64 (gapA (wideA (some pa)) (some 0)) (some 4607182418800017408) = false) ∨ ¬ Int.tmod ((ka : Int) - 128) 16 = 0 := by
    by_cases h : Int.tmod ((ka : Int) - 128) 16 = 0
    · have g := g5 h
      cases c : cmpA .neq .f64 (gapA (wideA (some pa)) (some 0)) (some 0) with
      | false => exact .inl ⟨h, rfl⟩
      | true => rw [c, Bool.true_and] at g; exact .inr (.inl ⟨h, rfl, g⟩)
    · exact .inr (.inr h)
  clear g5
  rcases hcase with ⟨c1, c2⟩ | ⟨c1, c2, c3⟩ | c1
  all_goals
    go_enter Try.func3, Try.ntmps3
    go_wp2_with (first | (refine fl_arith rfl _ _ _ _ _ rfl rfl _ _ _ rfl rfl ?_; intro r n hr0; have hr := hr0 _ _ (by first | assumption | exact Ab.lit rfl (by decide)) (by first | assumption | exact Ab.lit rfl (by decide)); clear hr0) | (refine fl_cmp rfl _ _ _ _ _ rfl rfl _ _ _ rfl rfl ?_; intro b hb0; have hb := hb0 _ _ (by first | assumption | exact Ab.lit rfl (by decide)) (by first | assumption | exact Ab.lit rfl (by decide)); clear hb0; (try simp only [*] at hb); subst hb) | (refine fl_same rfl _ _ _ rfl _ _ rfl rfl rfl ?_) | (refine fl_wide rfl _ _ _ rfl _ rfl rfl rfl ?_; intro r n hr0; have hr := hr0 _ (by first | assumption | exact Ab.lit rfl (by decide)); clear hr0) | (refine fl_narrow rfl _ _ _ rfl _ rfl rfl rfl ?_; intro r n hl hr0; have hr := hr0 _ (by first | assumption | exact Ab.lit rfl (by decide)) (by assumption); clear hr0 hl) | (refine fl_neg rfl _ _ rfl _ _ rfl ?_; intro r hr0; have hr := hr0 _ (by first | assumption | exact Ab.lit rfl (by decide)); clear hr0) | (go_at_call 4; (with_reducible_and_instances refine Calls.mono (HL _) ?_); rintro e w' ⟨rfl, rfl⟩) | (go_at_call 5; (with_reducible_and_instances refine Calls.mono (HA0) ?_); rintro e w' ⟨rfl, rfl⟩) | (go_at_call 5; (with_reducible_and_instances refine Calls.mono (HA1) ?_); rintro e w' ⟨rfl, rfl⟩) | (go_at_call 6; (with_reducible_and_instances refine Calls.mono (HP _ ?_ _) ?_); (next => assumption); rintro e w' ⟨x1, y1, m1, rfl, hx1, hy1, rfl⟩) | (go_at_call 6; (with_reducible_and_instances refine Calls.mono (HQ _ ?_ _) ?_); (next => assumption); rintro e w' ⟨x2, y2, m2, rfl, hx2, hy2, rfl⟩) | (go_at_call 6; (with_reducible_and_instances refine Calls.mono (HR _ ?_ _) ?_); (next => assumption); rintro e w' ⟨x3, y3, m3, rfl, hx3, hy3, rfl⟩) | (go_at_call 7; (with_reducible_and_instances refine Calls.mono (HAng _ _ _ (by assumption) (by assumption)) ?_); rintro e w1 ⟨r4, rfl, hr4, B1⟩; have bel1 := (below_drewN (Below.refl w.heap.size w) _).trans B1; clear B1) | (refine fl_toint rfl _ _ _ rfl _ _ rfl rfl _ rfl _ (HW _ (by assumption)) ?_) | (go_at_call 9; (with_reducible_and_instances refine Calls.mono (HPow _ _ _ (by assumption) (by assumption)) ?_); rintro e w' ⟨r5, m5, rfl, hr5, rfl⟩) | (go_at_call 8; (with_reducible_and_instances refine Calls.mono (HG _ _ _ _ _ (by first | assumption | exact Ab.lit rfl (by decide)) (by first | assumption | exact Ab.lit rfl (by decide))) ?_); rintro e w' ⟨r6, m6, rfl, hr6, rfl⟩) | (go_at_call 11; (with_reducible_and_instances refine Calls.mono (HMul _ _ _ _ _ (by assumption) (by assumption) (by assumption) (by assumption)) ?_); rintro e w' ⟨x7, y7, m7, rfl, hx7, hy7, rfl⟩) | (go_at_call 10; (with_reducible_and_instances refine Calls.mono (HN _ _ _ _ _ (by assumption) (by assumption) (by assumption) (by assumption)) ?_); rintro e w' ⟨rfl, m8, rfl⟩) | (go_at_call 5; (with_reducible_and_instances refine Calls.mono (HB0 _ ?_) ?_); (next => first | exact bel1 | exact below_drewN bel1 _); rintro e w' ⟨rfl, rfl⟩) | (go_at_call 5; (with_reducible_and_instances refine Calls.mono (HB1 _ ?_) ?_); (next => first | exact bel1 | exact below_drewN bel1 _); rintro e w' ⟨rfl, rfl⟩) | (go_at_call 12; (with_reducible_and_instances refine Calls.mono (HT1 _ ?_ _) ?_); (next => assumption); rintro e w' ⟨rfl, m9, rfl⟩) | (go_at_call 12; (with_reducible_and_instances refine Calls.mono (HT2 _ ?_ _) ?_); (next => assumption); rintro e w' ⟨rfl, m9, rfl⟩) | (go_at_call 12; (with_reducible_and_instances refine Calls.mono (HT3 _ ?_ _) ?_); (next => assumption); rintro e w' ⟨rfl, m9, rfl⟩) | (go_at_call 12; (with_reducible_and_instances refine Calls.mono (HT4 _) ?_); rintro e w' ⟨rfl, m9, rfl⟩) | (go_at_call 7; (with_reducible_and_instances refine Calls.mono (HAng1 _) ?_); rintro e w' ⟨rfl, B2⟩) | (go_at_call 13; (with_reducible_and_instances refine Calls.mono (HS _) ?_); rintro e w' ⟨rfl, rfl⟩))
    go_ret
    exact ⟨rfl, (below_drewN bel1 _).trans (B2.mono (below_drewN bel1 _).size)⟩

theorem law_FnCircles (a : Option Addr) (n cap : Nat) (b : Option Addr) (n2 cap2 : Nat) (w : World) (hA : Bytes w a n) (hB : Bytes w b n2) : Calls Try.prog 3 #[.slice a n cap, .slice b n2 cap2] w fun e w' => e = .returned (.bool true) ∧ Below w.heap.size w w' := by
  by_cases h : 1048576 < n ∨ 1048576 < n2
  · have HL := fun w' => long_any a b n n2 cap cap2 w'
    rw [show (decide (1048576 < n) || decide (1048576 < n2)) = true by simpa using h] at HL
    go_enter Try.func3, Try.ntmps3
    go_wp2_with (first | (refine fl_arith rfl _ _ _ _ _ rfl rfl _ _ _ rfl rfl ?_; intro r n hr0; have hr := hr0 _ _ (by first | assumption | exact Ab.lit rfl (by decide)) (by first | assumption | exact Ab.lit rfl (by decide)); clear hr0) | (refine fl_cmp rfl _ _ _ _ _ rfl rfl _ _ _ rfl rfl ?_; intro b hb0; have hb := hb0 _ _ (by first | assumption | exact Ab.lit rfl (by decide)) (by first | assumption | exact Ab.lit rfl (by decide)); clear hb0; (try simp only [*] at hb); subst hb) | (refine fl_same rfl _ _ _ rfl _ _ rfl rfl rfl ?_) | (refine fl_wide rfl _ _ _ rfl _ rfl rfl rfl ?_; intro r n hr0; have hr := hr0 _ (by first | assumption | exact Ab.lit rfl (by decide)); clear hr0) | (refine fl_narrow rfl _ _ _ rfl _ rfl rfl rfl ?_; intro r n hl hr0; have hr := hr0 _ (by first | assumption | exact Ab.lit rfl (by decide)) (by assumption); clear hr0 hl) | (refine fl_neg rfl _ _ rfl _ _ rfl ?_; intro r hr0; have hr := hr0 _ (by first | assumption | exact Ab.lit rfl (by decide)); clear hr0) | (go_at_call 4; (with_reducible_and_instances refine Calls.mono (HL _) ?_); rintro e w' ⟨rfl, rfl⟩))
    go_ret
    exact ⟨rfl, Below.refl _ _⟩
  · exact circles_at a b n cap n2 cap2 w hA hB (fun h1 => h (.inl h1)) (fun h2 => h (.inr h2))

section
open Go.ChangeShapes
/-- How lists of bytes that came in are opened. -/
theorem bytes_of_trod {H : Type} {enc : TypeId × Value → H} {P : Program} {w : World} {base : Nat} {held : Bool} {t e : TypeId} {a : Option Addr} {n cap : Nat} {d : DataW H} {p : List MemPlace} (ht : P.underlying t = some (.slice e)) (he : P.underlying e = some (.int .u8)) (hc : P.cellsOf e = 1)
    (h : DataW.Trod enc P w base (fun _ => true) held t (.slice a n cap) d p) : Bytes w a n := by
  obtain ⟨fuel, hf⟩ := h
  rcases open_ints ht he hc hf with ⟨hcs, _⟩ | ⟨b, len, c, zs, hcs, _, hl, _, hz, _, hcell, hwf⟩
  · simp [Value.cells] at hcs
    exact .inl hcs.2.1
  · simp [Value.cells] at hcs
    obtain ⟨rfl, rfl, rfl⟩ := hcs
    rw [if_pos rfl] at hz
    refine .inr ⟨b, fun i => zs.getD i 0, rfl, fun i hi => ?_⟩
    have hi' : i < zs.length := by omega
    have hm : zs.getD i 0 ∈ zs := by
      rw [List.getD_eq_getElem?_getD, List.getElem?_eq_getElem hi']
      exact List.getElem_mem hi'
    have hw := hwf _ hm
    have m1 : IntKind.u8.min = 0 := by decide
    have m2 : IntKind.u8.max = 255 := by decide
    simp only [Lit.wf, Bool.and_eq_true, decide_eq_true_eq, m1, m2] at hw
    show 0 ≤ zs.getD i 0 ∧ zs.getD i 0 < 256 ∧ _
    exact ⟨hw.1, by omega, hcell i hi'⟩
end
end Go.Proofs.Ytoimjjagkfgogaa.cir
