/- Walks: the angle of a point. No conditions. -/
import Derived.Test.YtecdnpmafmfobaaWn
import Derived.Test.YtecdnpmafmfobaaWu
import Derived.Test.YtecdnpmafmfobaaFt
namespace Go.Proofs.Ytecdnpmafmfobaa
open Go.RowKit
set_option maxRecDepth 8000

/-- The angle in 64 bits, out of what the comparisons say. -/
def outA (fy fx zx zy o nx ny : Bool) (Y X : Option Nat) : Option Nat :=
  if (fy && fx) = true then (if (zx && zy) = true then some 0 else turnT o nx ny (rawT (if o = true then opA .quo .f64 (absA X) (absA Y) else opA .quo .f64 (absA Y) (absA X)))) else none

theorem ab_nan : Ab .f64 9221120237041090561 none := Ab.nan (by decide) (by decide)

set_option maxHeartbeats 4000000 in
theorem spec_angle_main (y x : Nat) (Y X : Option Nat) (hy : Ab .f64 y Y) (hx : Ab .f64 x X) (zx zy o nx ny : Bool) (hz : (zx && zy) = false) (e1 : cmpA .neq .f64 (opA .sub .f64 Y Y) (some 0) = false) (e2 : cmpA .neq .f64 (opA .sub .f64 X X) (some 0) = false)
    (e3 : cmpA .eql .f64 X (some 0) = zx) (e4 : cmpA .eql .f64 Y (some 0) = zy) (e5 : cmpA .gtr .f64 (absA Y) (absA X) = o) (e6 : cmpA .lss .f64 X (some 0) = nx) (e7 : cmpA .lss .f64 Y (some 0) = ny) (w : World) :
    Calls Try.prog 44 #[.float .f64 y, .float .f64 x] w fun e w' => ∃ r n, e = .returned (.float .f64 r) ∧ Ab .f64 r (turnT o nx ny (rawT (if o = true then opA .quo .f64 (absA X) (absA Y) else opA .quo .f64 (absA Y) (absA X)))) ∧ w' = w.drewN n := by
  cases o
  · generalize hT : (if false = true then opA .quo .f64 (absA X) (absA Y) else opA .quo .f64 (absA Y) (absA X)) = T
    have hT' : opA .quo .f64 (absA Y) (absA X) = T := by rw [← hT]; rfl
    have HT := Lib.hid hT'
    clear hT hT'
    cases zx
    · clear hz e4
      go_enter Try.func44, Try.ntmps44
      go_wp2_with (first | (refine fl_arith rfl _ _ _ _ _ rfl rfl _ _ _ rfl rfl ?_; intro r n hr0; have hr := hr0 _ _ (by first | assumption | exact Ab.lit rfl (by decide)) (by first | assumption | exact Ab.lit rfl (by decide)); clear hr0) | (refine fl_cmp rfl _ _ _ _ _ rfl rfl _ _ _ rfl rfl ?_; intro b hb0; have hb := hb0 _ _ (by first | assumption | exact Ab.lit rfl (by decide)) (by first | assumption | exact Ab.lit rfl (by decide)); clear hb0; (try simp only [*] at hb); subst hb) | (refine fl_same rfl _ _ _ rfl _ _ rfl rfl rfl ?_) | (refine fl_wide rfl _ _ _ rfl _ rfl rfl rfl ?_; intro r n hr0; have hr := hr0 _ (by first | assumption | exact Ab.lit rfl (by decide)); clear hr0) | (refine fl_narrow rfl _ _ _ rfl _ rfl rfl rfl ?_; intro r n hl hr0; have hr := hr0 _ (by first | assumption | exact Ab.lit rfl (by decide)) (by assumption); clear hr0 hl) | (refine fl_neg rfl _ _ rfl _ _ rfl ?_; intro r hr0; have hr := hr0 _ (by first | assumption | exact Ab.lit rfl (by decide)); clear hr0) | (go_at_call 31; (with_reducible_and_instances refine Calls.mono (abs_any _ _ hy _) ?_); rintro e w' ⟨ra, rfl, hra, rfl⟩) | (go_at_call 31; (with_reducible_and_instances refine Calls.mono (abs_any _ _ hx _) ?_); rintro e w' ⟨rb, rfl, hrb, rfl⟩))
      rw [HT.out] at hr
      go_loopw [8, 9] (fun t i wr => ∃ k m r : Nat, k ≤ 3 ∧ t = .float .f64 r ∧ i = .int .i64 k ∧ Ab .f64 r (iterT T k) ∧ wr = w.drewN m) (fun _ i _ => 3 - (intOf i).toNat)
      case atStart => exact ⟨0, _, _, Nat.zero_le _, rfl, rfl, hr, rfl⟩
      case round =>
        clear hr
        obtain ⟨k, m, r0, hk, rfl, rfl, hs, rfl⟩ := hrel
        by_cases hl : k < 3
        · go_wp2_with (first | (refine fl_arith rfl _ _ _ _ _ rfl rfl _ _ _ rfl rfl ?_; intro r n hr0; have hr := hr0 _ _ (by first | assumption | exact Ab.lit rfl (by decide)) (by first | assumption | exact Ab.lit rfl (by decide)); clear hr0) | (refine fl_cmp rfl _ _ _ _ _ rfl rfl _ _ _ rfl rfl ?_; intro b hb0; have hb := hb0 _ _ (by first | assumption | exact Ab.lit rfl (by decide)) (by first | assumption | exact Ab.lit rfl (by decide)); clear hb0; (try simp only [*] at hb); subst hb) | (refine fl_same rfl _ _ _ rfl _ _ rfl rfl rfl ?_) | (refine fl_wide rfl _ _ _ rfl _ rfl rfl rfl ?_; intro r n hr0; have hr := hr0 _ (by first | assumption | exact Ab.lit rfl (by decide)); clear hr0) | (refine fl_narrow rfl _ _ _ rfl _ rfl rfl rfl ?_; intro r n hl hr0; have hr := hr0 _ (by first | assumption | exact Ab.lit rfl (by decide)) (by assumption); clear hr0 hl) | (refine fl_neg rfl _ _ rfl _ _ rfl ?_; intro r hr0; have hr := hr0 _ (by first | assumption | exact Ab.lit rfl (by decide)); clear hr0) | (refine fl_sqrt rfl 47 _ _ rfl _ rfl ext_sqrt ?_; intro r n hr0; have hr := hr0 _ (by first | assumption | exact Ab.lit rfl (by decide)); clear hr0) | go_in)
          go_roundw
          case rel => exact ⟨k + 1, _, _, by omega, rfl, by go_num, hr, rfl⟩
          case measure => simp [intOf]; omega
        · have : k = 3 := by omega
          subst this
          go_wp2_with (first | (refine fl_arith rfl _ _ _ _ _ rfl rfl _ _ _ rfl rfl ?_; intro r n hr0; have hr := hr0 _ _ (by first | assumption | exact Ab.lit rfl (by decide)) (by first | assumption | exact Ab.lit rfl (by decide)); clear hr0) | (refine fl_cmp rfl _ _ _ _ _ rfl rfl _ _ _ rfl rfl ?_; intro b hb0; have hb := hb0 _ _ (by first | assumption | exact Ab.lit rfl (by decide)) (by first | assumption | exact Ab.lit rfl (by decide)); clear hb0; (try simp only [*] at hb); subst hb) | (refine fl_same rfl _ _ _ rfl _ _ rfl rfl rfl ?_) | (refine fl_wide rfl _ _ _ rfl _ rfl rfl rfl ?_; intro r n hr0; have hr := hr0 _ (by first | assumption | exact Ab.lit rfl (by decide)); clear hr0) | (refine fl_narrow rfl _ _ _ rfl _ rfl rfl rfl ?_; intro r n hl hr0; have hr := hr0 _ (by first | assumption | exact Ab.lit rfl (by decide)) (by assumption); clear hr0 hl) | (refine fl_neg rfl _ _ rfl _ _ rfl ?_; intro r hr0; have hr := hr0 _ (by first | assumption | exact Ab.lit rfl (by decide)); clear hr0) | go_in)
          have hu := Lib.hid hr
          rename_i ru nu
          clear hr
          go_loopw [11, 12] (fun p i wr => ∃ j m r : Nat, j ≤ 8 ∧ p = .float .f64 r ∧ i = .int .i64 (15 - 2 * (j : Int)) ∧ Ab .f64 r (polyT (opA .mul .f64 (iterT T 3) (iterT T 3)) j) ∧ wr = w.drewN m) (fun _ i _ => (intOf i + 1).toNat)
          case atStart => exact ⟨0, _, _, Nat.zero_le _, rfl, rfl, Ab.lit rfl (by decide), rfl⟩
          case round =>
            obtain ⟨j, m2, p0, hj, rfl, rfl, hp, rfl⟩ := hrel
            have hur := hu.out
            by_cases hl2 : j < 8
            · have hkf := Ab.ofInt .f64 (15 - 2 * (j : Int))
              go_wp2_with (first | (refine fl_arith rfl _ _ _ _ _ rfl rfl _ _ _ rfl rfl ?_; intro r n hr0; have hr := hr0 _ _ (by first | assumption | exact Ab.lit rfl (by decide)) (by first | assumption | exact Ab.lit rfl (by decide)); clear hr0) | (refine fl_cmp rfl _ _ _ _ _ rfl rfl _ _ _ rfl rfl ?_; intro b hb0; have hb := hb0 _ _ (by first | assumption | exact Ab.lit rfl (by decide)) (by first | assumption | exact Ab.lit rfl (by decide)); clear hb0; (try simp only [*] at hb); subst hb) | (refine fl_same rfl _ _ _ rfl _ _ rfl rfl rfl ?_) | (refine fl_wide rfl _ _ _ rfl _ rfl rfl rfl ?_; intro r n hr0; have hr := hr0 _ (by first | assumption | exact Ab.lit rfl (by decide)); clear hr0) | (refine fl_narrow rfl _ _ _ rfl _ rfl rfl rfl ?_; intro r n hl hr0; have hr := hr0 _ (by first | assumption | exact Ab.lit rfl (by decide)) (by assumption); clear hr0 hl) | (refine fl_neg rfl _ _ rfl _ _ rfl ?_; intro r hr0; have hr := hr0 _ (by first | assumption | exact Ab.lit rfl (by decide)); clear hr0) | go_in)
              go_roundw
              case rel => exact ⟨j + 1, _, _, by omega, rfl, by go_num, hr, rfl⟩
              case measure => simp [intOf]; omega
            · have : j = 8 := by omega
              subst this
              cases nx <;> cases ny
              all_goals
                go_wp2_with (first | (refine fl_arith rfl _ _ _ _ _ rfl rfl _ _ _ rfl rfl ?_; intro r n hr0; have hr := hr0 _ _ (by first | assumption | exact Ab.lit rfl (by decide)) (by first | assumption | exact Ab.lit rfl (by decide)); clear hr0) | (refine fl_cmp rfl _ _ _ _ _ rfl rfl _ _ _ rfl rfl ?_; intro b hb0; have hb := hb0 _ _ (by first | assumption | exact Ab.lit rfl (by decide)) (by first | assumption | exact Ab.lit rfl (by decide)); clear hb0; (try simp only [*] at hb); subst hb) | (refine fl_same rfl _ _ _ rfl _ _ rfl rfl rfl ?_) | (refine fl_wide rfl _ _ _ rfl _ rfl rfl rfl ?_; intro r n hr0; have hr := hr0 _ (by first | assumption | exact Ab.lit rfl (by decide)); clear hr0) | (refine fl_narrow rfl _ _ _ rfl _ rfl rfl rfl ?_; intro r n hl hr0; have hr := hr0 _ (by first | assumption | exact Ab.lit rfl (by decide)) (by assumption); clear hr0 hl) | (refine fl_neg rfl _ _ rfl _ _ rfl ?_; intro r hr0; have hr := hr0 _ (by first | assumption | exact Ab.lit rfl (by decide)); clear hr0) | go_in)
                go_ret
                exact ⟨_, _, rfl, by assumption, rfl⟩
    · obtain rfl : zy = false := by simpa using hz
      go_enter Try.func44, Try.ntmps44
      go_wp2_with (first | (refine fl_arith rfl _ _ _ _ _ rfl rfl _ _ _ rfl rfl ?_; intro r n hr0; have hr := hr0 _ _ (by first | assumption | exact Ab.lit rfl (by decide)) (by first | assumption | exact Ab.lit rfl (by decide)); clear hr0) | (refine fl_cmp rfl _ _ _ _ _ rfl rfl _ _ _ rfl rfl ?_; intro b hb0; have hb := hb0 _ _ (by first | assumption | exact Ab.lit rfl (by decide)) (by first | assumption | exact Ab.lit rfl (by decide)); clear hb0; (try simp only [*] at hb); subst hb) | (refine fl_same rfl _ _ _ rfl _ _ rfl rfl rfl ?_) | (refine fl_wide rfl _ _ _ rfl _ rfl rfl rfl ?_; intro r n hr0; have hr := hr0 _ (by first | assumption | exact Ab.lit rfl (by decide)); clear hr0) | (refine fl_narrow rfl _ _ _ rfl _ rfl rfl rfl ?_; intro r n hl hr0; have hr := hr0 _ (by first | assumption | exact Ab.lit rfl (by decide)) (by assumption); clear hr0 hl) | (refine fl_neg rfl _ _ rfl _ _ rfl ?_; intro r hr0; have hr := hr0 _ (by first | assumption | exact Ab.lit rfl (by decide)); clear hr0) | (go_at_call 31; (with_reducible_and_instances refine Calls.mono (abs_any _ _ hy _) ?_); rintro e w' ⟨ra, rfl, hra, rfl⟩) | (go_at_call 31; (with_reducible_and_instances refine Calls.mono (abs_any _ _ hx _) ?_); rintro e w' ⟨rb, rfl, hrb, rfl⟩))
      rw [HT.out] at hr
      go_loopw [8, 9] (fun t i wr => ∃ k m r : Nat, k ≤ 3 ∧ t = .float .f64 r ∧ i = .int .i64 k ∧ Ab .f64 r (iterT T k) ∧ wr = w.drewN m) (fun _ i _ => 3 - (intOf i).toNat)
      case atStart => exact ⟨0, _, _, Nat.zero_le _, rfl, rfl, hr, rfl⟩
      case round =>
        clear hr
        obtain ⟨k, m, r0, hk, rfl, rfl, hs, rfl⟩ := hrel
        by_cases hl : k < 3
        · go_wp2_with (first | (refine fl_arith rfl _ _ _ _ _ rfl rfl _ _ _ rfl rfl ?_; intro r n hr0; have hr := hr0 _ _ (by first | assumption | exact Ab.lit rfl (by decide)) (by first | assumption | exact Ab.lit rfl (by decide)); clear hr0) | (refine fl_cmp rfl _ _ _ _ _ rfl rfl _ _ _ rfl rfl ?_; intro b hb0; have hb := hb0 _ _ (by first | assumption | exact Ab.lit rfl (by decide)) (by first | assumption | exact Ab.lit rfl (by decide)); clear hb0; (try simp only [*] at hb); subst hb) | (refine fl_same rfl _ _ _ rfl _ _ rfl rfl rfl ?_) | (refine fl_wide rfl _ _ _ rfl _ rfl rfl rfl ?_; intro r n hr0; have hr := hr0 _ (by first | assumption | exact Ab.lit rfl (by decide)); clear hr0) | (refine fl_narrow rfl _ _ _ rfl _ rfl rfl rfl ?_; intro r n hl hr0; have hr := hr0 _ (by first | assumption | exact Ab.lit rfl (by decide)) (by assumption); clear hr0 hl) | (refine fl_neg rfl _ _ rfl _ _ rfl ?_; intro r hr0; have hr := hr0 _ (by first | assumption | exact Ab.lit rfl (by decide)); clear hr0) | (refine fl_sqrt rfl 47 _ _ rfl _ rfl ext_sqrt ?_; intro r n hr0; have hr := hr0 _ (by first | assumption | exact Ab.lit rfl (by decide)); clear hr0) | go_in)
          go_roundw
          case rel => exact ⟨k + 1, _, _, by omega, rfl, by go_num, hr, rfl⟩
          case measure => simp [intOf]; omega
        · have : k = 3 := by omega
          subst this
          go_wp2_with (first | (refine fl_arith rfl _ _ _ _ _ rfl rfl _ _ _ rfl rfl ?_; intro r n hr0; have hr := hr0 _ _ (by first | assumption | exact Ab.lit rfl (by decide)) (by first | assumption | exact Ab.lit rfl (by decide)); clear hr0) | (refine fl_cmp rfl _ _ _ _ _ rfl rfl _ _ _ rfl rfl ?_; intro b hb0; have hb := hb0 _ _ (by first | assumption | exact Ab.lit rfl (by decide)) (by first | assumption | exact Ab.lit rfl (by decide)); clear hb0; (try simp only [*] at hb); subst hb) | (refine fl_same rfl _ _ _ rfl _ _ rfl rfl rfl ?_) | (refine fl_wide rfl _ _ _ rfl _ rfl rfl rfl ?_; intro r n hr0; have hr := hr0 _ (by first | assumption | exact Ab.lit rfl (by decide)); clear hr0) | (refine fl_narrow rfl _ _ _ rfl _ rfl rfl rfl ?_; intro r n hl hr0; have hr := hr0 _ (by first | assumption | exact Ab.lit rfl (by decide)) (by assumption); clear hr0 hl) | (refine fl_neg rfl _ _ rfl _ _ rfl ?_; intro r hr0; have hr := hr0 _ (by first | assumption | exact Ab.lit rfl (by decide)); clear hr0) | go_in)
          have hu := Lib.hid hr
          rename_i ru nu
          clear hr
          go_loopw [11, 12] (fun p i wr => ∃ j m r : Nat, j ≤ 8 ∧ p = .float .f64 r ∧ i = .int .i64 (15 - 2 * (j : Int)) ∧ Ab .f64 r (polyT (opA .mul .f64 (iterT T 3) (iterT T 3)) j) ∧ wr = w.drewN m) (fun _ i _ => (intOf i + 1).toNat)
          case atStart => exact ⟨0, _, _, Nat.zero_le _, rfl, rfl, Ab.lit rfl (by decide), rfl⟩
          case round =>
            obtain ⟨j, m2, p0, hj, rfl, rfl, hp, rfl⟩ := hrel
            have hur := hu.out
            by_cases hl2 : j < 8
            · have hkf := Ab.ofInt .f64 (15 - 2 * (j : Int))
              go_wp2_with (first | (refine fl_arith rfl _ _ _ _ _ rfl rfl _ _ _ rfl rfl ?_; intro r n hr0; have hr := hr0 _ _ (by first | assumption | exact Ab.lit rfl (by decide)) (by first | assumption | exact Ab.lit rfl (by decide)); clear hr0) | (refine fl_cmp rfl _ _ _ _ _ rfl rfl _ _ _ rfl rfl ?_; intro b hb0; have hb := hb0 _ _ (by first | assumption | exact Ab.lit rfl (by decide)) (by first | assumption | exact Ab.lit rfl (by decide)); clear hb0; (try simp only [*] at hb); subst hb) | (refine fl_same rfl _ _ _ rfl _ _ rfl rfl rfl ?_) | (refine fl_wide rfl _ _ _ rfl _ rfl rfl rfl ?_; intro r n hr0; have hr := hr0 _ (by first | assumption | exact Ab.lit rfl (by decide)); clear hr0) | (refine fl_narrow rfl _ _ _ rfl _ rfl rfl rfl ?_; intro r n hl hr0; have hr := hr0 _ (by first | assumption | exact Ab.lit rfl (by decide)) (by assumption); clear hr0 hl) | (refine fl_neg rfl _ _ rfl _ _ rfl ?_; intro r hr0; have hr := hr0 _ (by first | assumption | exact Ab.lit rfl (by decide)); clear hr0) | go_in)
              go_roundw
              case rel => exact ⟨j + 1, _, _, by omega, rfl, by go_num, hr, rfl⟩
              case measure => simp [intOf]; omega
            · have : j = 8 := by omega
              subst this
              cases nx <;> cases ny
              all_goals
                go_wp2_with (first | (refine fl_arith rfl _ _ _ _ _ rfl rfl _ _ _ rfl rfl ?_; intro r n hr0; have hr := hr0 _ _ (by first | assumption | exact Ab.lit rfl (by decide)) (by first | assumption | exact Ab.lit rfl (by decide)); clear hr0) | (refine fl_cmp rfl _ _ _ _ _ rfl rfl _ _ _ rfl rfl ?_; intro b hb0; have hb := hb0 _ _ (by first | assumption | exact Ab.lit rfl (by decide)) (by first | assumption | exact Ab.lit rfl (by decide)); clear hb0; (try simp only [*] at hb); subst hb) | (refine fl_same rfl _ _ _ rfl _ _ rfl rfl rfl ?_) | (refine fl_wide rfl _ _ _ rfl _ rfl rfl rfl ?_; intro r n hr0; have hr := hr0 _ (by first | assumption | exact Ab.lit rfl (by decide)); clear hr0) | (refine fl_narrow rfl _ _ _ rfl _ rfl rfl rfl ?_; intro r n hl hr0; have hr := hr0 _ (by first | assumption | exact Ab.lit rfl (by decide)) (by assumption); clear hr0 hl) | (refine fl_neg rfl _ _ rfl _ _ rfl ?_; intro r hr0; have hr := hr0 _ (by first | assumption | exact Ab.lit rfl (by decide)); clear hr0) | go_in)
                go_ret
                exact ⟨_, _, rfl, by assumption, rfl⟩
  · generalize hT : (if true = true then opA .quo .f64 (absA X) (absA Y) else opA .quo .f64 (absA Y) (absA X)) = T
    have hT' : opA .quo .f64 (absA X) (absA Y) = T := by rw [← hT]; rfl
    have HT := Lib.hid hT'
    clear hT hT'
    cases zx
    · clear hz e4
      go_enter Try.func44, Try.ntmps44
      go_wp2_with (first | (refine fl_arith rfl _ _ _ _ _ rfl rfl _ _ _ rfl rfl ?_; intro r n hr0; have hr := hr0 _ _ (by first | assumption | exact Ab.lit rfl (by decide)) (by first | assumption | exact Ab.lit rfl (by decide)); clear hr0) | (refine fl_cmp rfl _ _ _ _ _ rfl rfl _ _ _ rfl rfl ?_; intro b hb0; have hb := hb0 _ _ (by first | assumption | exact Ab.lit rfl (by decide)) (by first | assumption | exact Ab.lit rfl (by decide)); clear hb0; (try simp only [*] at hb); subst hb) | (refine fl_same rfl _ _ _ rfl _ _ rfl rfl rfl ?_) | (refine fl_wide rfl _ _ _ rfl _ rfl rfl rfl ?_; intro r n hr0; have hr := hr0 _ (by first | assumption | exact Ab.lit rfl (by decide)); clear hr0) | (refine fl_narrow rfl _ _ _ rfl _ rfl rfl rfl ?_; intro r n hl hr0; have hr := hr0 _ (by first | assumption | exact Ab.lit rfl (by decide)) (by assumption); clear hr0 hl) | (refine fl_neg rfl _ _ rfl _ _ rfl ?_; intro r hr0; have hr := hr0 _ (by first | assumption | exact Ab.lit rfl (by decide)); clear hr0) | (go_at_call 31; (with_reducible_and_instances refine Calls.mono (abs_any _ _ hy _) ?_); rintro e w' ⟨ra, rfl, hra, rfl⟩) | (go_at_call 31; (with_reducible_and_instances refine Calls.mono (abs_any _ _ hx _) ?_); rintro e w' ⟨rb, rfl, hrb, rfl⟩))
      rw [HT.out] at hr
      go_loopw [8, 9] (fun t i wr => ∃ k m r : Nat, k ≤ 3 ∧ t = .float .f64 r ∧ i = .int .i64 k ∧ Ab .f64 r (iterT T k) ∧ wr = w.drewN m) (fun _ i _ => 3 - (intOf i).toNat)
      case atStart => exact ⟨0, _, _, Nat.zero_le _, rfl, rfl, hr, rfl⟩
      case round =>
        clear hr
        obtain ⟨k, m, r0, hk, rfl, rfl, hs, rfl⟩ := hrel
        by_cases hl : k < 3
        · go_wp2_with (first | (refine fl_arith rfl _ _ _ _ _ rfl rfl _ _ _ rfl rfl ?_; intro r n hr0; have hr := hr0 _ _ (by first | assumption | exact Ab.lit rfl (by decide)) (by first | assumption | exact Ab.lit rfl (by decide)); clear hr0) | (refine fl_cmp rfl _ _ _ _ _ rfl rfl _ _ _ rfl rfl ?_; intro b hb0; have hb := hb0 _ _ (by first | assumption | exact Ab.lit rfl (by decide)) (by first | assumption | exact Ab.lit rfl (by decide)); clear hb0; (try simp only [*] at hb); subst hb) | (refine fl_same rfl _ _ _ rfl _ _ rfl rfl rfl ?_) | (refine fl_wide rfl _ _ _ rfl _ rfl rfl rfl ?_; intro r n hr0; have hr := hr0 _ (by first | assumption | exact Ab.lit rfl (by decide)); clear hr0) | (refine fl_narrow rfl _ _ _ rfl _ rfl rfl rfl ?_; intro r n hl hr0; have hr := hr0 _ (by first | assumption | exact Ab.lit rfl (by decide)) (by assumption); clear hr0 hl) | (refine fl_neg rfl _ _ rfl _ _ rfl ?_; intro r hr0; have hr := hr0 _ (by first | assumption | exact Ab.lit rfl (by decide)); clear hr0) | (refine fl_sqrt rfl 47 _ _ rfl _ rfl ext_sqrt ?_; intro r n hr0; have hr := hr0 _ (by first | assumption | exact Ab.lit rfl (by decide)); clear hr0) | go_in)
          go_roundw
          case rel => exact ⟨k + 1, _, _, by omega, rfl, by go_num, hr, rfl⟩
          case measure => simp [intOf]; omega
        · have : k = 3 := by omega
          subst this
          go_wp2_with (first | (refine fl_arith rfl _ _ _ _ _ rfl rfl _ _ _ rfl rfl ?_; intro r n hr0; have hr := hr0 _ _ (by first | assumption | exact Ab.lit rfl (by decide)) (by first | assumption | exact Ab.lit rfl (by decide)); clear hr0) | (refine fl_cmp rfl _ _ _ _ _ rfl rfl _ _ _ rfl rfl ?_; intro b hb0; have hb := hb0 _ _ (by first | assumption | exact Ab.lit rfl (by decide)) (by first | assumption | exact Ab.lit rfl (by decide)); clear hb0; (try simp only [*] at hb); subst hb) | (refine fl_same rfl _ _ _ rfl _ _ rfl rfl rfl ?_) | (refine fl_wide rfl _ _ _ rfl _ rfl rfl rfl ?_; intro r n hr0; have hr := hr0 _ (by first | assumption | exact Ab.lit rfl (by decide)); clear hr0) | (refine fl_narrow rfl _ _ _ rfl _ rfl rfl rfl ?_; intro r n hl hr0; have hr := hr0 _ (by first | assumption | exact Ab.lit rfl (by decide)) (by assumption); clear hr0 hl) | (refine fl_neg rfl _ _ rfl _ _ rfl ?_; intro r hr0; have hr := hr0 _ (by first | assumption | exact Ab.lit rfl (by decide)); clear hr0) | go_in)
          have hu := Lib.hid hr
          rename_i ru nu
          clear hr
          go_loopw [11, 12] (fun p i wr => ∃ j m r : Nat, j ≤ 8 ∧ p = .float .f64 r ∧ i = .int .i64 (15 - 2 * (j : Int)) ∧ Ab .f64 r (polyT (opA .mul .f64 (iterT T 3) (iterT T 3)) j) ∧ wr = w.drewN m) (fun _ i _ => (intOf i + 1).toNat)
          case atStart => exact ⟨0, _, _, Nat.zero_le _, rfl, rfl, Ab.lit rfl (by decide), rfl⟩
          case round =>
            obtain ⟨j, m2, p0, hj, rfl, rfl, hp, rfl⟩ := hrel
            have hur := hu.out
            by_cases hl2 : j < 8
            · have hkf := Ab.ofInt .f64 (15 - 2 * (j : Int))
              go_wp2_with (first | (refine fl_arith rfl _ _ _ _ _ rfl rfl _ _ _ rfl rfl ?_; intro r n hr0; have hr := hr0 _ _ (by first | assumption | exact Ab.lit rfl (by decide)) (by first | assumption | exact Ab.lit rfl (by decide)); clear hr0) | (refine fl_cmp rfl _ _ _ _ _ rfl rfl _ _ _ rfl rfl ?_; intro b hb0; have hb := hb0 _ _ (by first | assumption | exact Ab.lit rfl (by decide)) (by first | assumption | exact Ab.lit rfl (by decide)); clear hb0; (try simp only [*] at hb); subst hb) | (refine fl_same rfl _ _ _ rfl _ _ rfl rfl rfl ?_) | (refine fl_wide rfl _ _ _ rfl _ rfl rfl rfl ?_; intro r n hr0; have hr := hr0 _ (by first | assumption | exact Ab.lit rfl (by decide)); clear hr0) | (refine fl_narrow rfl _ _ _ rfl _ rfl rfl rfl ?_; intro r n hl hr0; have hr := hr0 _ (by first | assumption | exact Ab.lit rfl (by decide)) (by assumption); clear hr0 hl) | (refine fl_neg rfl _ _ rfl _ _ rfl ?_; intro r hr0; have hr := hr0 _ (by first | assumption | exact Ab.lit rfl (by decide)); clear hr0) | go_in)
              go_roundw
              case rel => exact ⟨j + 1, _, _, by omega, rfl, by go_num, hr, rfl⟩
              case measure => simp [intOf]; omega
            · have : j = 8 := by omega
              subst this
              cases nx <;> cases ny
              all_goals
                go_wp2_with (first | (refine fl_arith rfl _ _ _ _ _ rfl rfl _ _ _ rfl rfl ?_; intro r n hr0; have hr := hr0 _ _ (by first | assumption | exact Ab.lit rfl (by decide)) (by first | assumption | exact Ab.lit rfl (by decide)); clear hr0) | (refine fl_cmp rfl _ _ _ _ _ rfl rfl _ _ _ rfl rfl ?_; intro b hb0; have hb := hb0 _ _ (by first | assumption | exact Ab.lit rfl (by decide)) (by first | assumption | exact Ab.lit rfl (by decide)); clear hb0; (try simp only [*] at hb); subst hb) | (refine fl_same rfl _ _ _ rfl _ _ rfl rfl rfl ?_) | (refine fl_wide rfl _ _ _ rfl _ rfl rfl rfl ?_; intro r n hr0; have hr := hr0 _ (by first | assumption | exact Ab.lit rfl (by decide)); clear hr0) | (refine fl_narrow rfl _ _ _ rfl _ rfl rfl rfl ?_; intro r n hl hr0; have hr := hr0 _ (by first | assumption | exact Ab.lit rfl (by decide)) (by assumption); clear hr0 hl) | (refine fl_neg rfl _ _ rfl _ _ rfl ?_; intro r hr0; have hr := hr0 _ (by first | assumption | exact Ab.lit rfl (by decide)); clear hr0) | go_in)
                go_ret
                exact ⟨_, _, rfl, by assumption, rfl⟩
    · obtain rfl : zy = false := by simpa using hz
      go_enter Try.func44, Try.ntmps44
      go_wp2_with (first | (refine fl_arith rfl _ _ _ _ _ rfl rfl _ _ _ rfl rfl ?_; intro r n hr0; have hr := hr0 _ _ (by first | assumption | exact Ab.lit rfl (by decide)) (by first | assumption | exact Ab.lit rfl (by decide)); clear hr0) | (refine fl_cmp rfl _ _ _ _ _ rfl rfl _ _ _ rfl rfl ?_; intro b hb0; have hb := hb0 _ _ (by first | assumption | exact Ab.lit rfl (by decide)) (by first | assumption | exact Ab.lit rfl (by decide)); clear hb0; (try simp only [*] at hb); subst hb) | (refine fl_same rfl _ _ _ rfl _ _ rfl rfl rfl ?_) | (refine fl_wide rfl _ _ _ rfl _ rfl rfl rfl ?_; intro r n hr0; have hr := hr0 _ (by first | assumption | exact Ab.lit rfl (by decide)); clear hr0) | (refine fl_narrow rfl _ _ _ rfl _ rfl rfl rfl ?_; intro r n hl hr0; have hr := hr0 _ (by first | assumption | exact Ab.lit rfl (by decide)) (by assumption); clear hr0 hl) | (refine fl_neg rfl _ _ rfl _ _ rfl ?_; intro r hr0; have hr := hr0 _ (by first | assumption | exact Ab.lit rfl (by decide)); clear hr0) | (go_at_call 31; (with_reducible_and_instances refine Calls.mono (abs_any _ _ hy _) ?_); rintro e w' ⟨ra, rfl, hra, rfl⟩) | (go_at_call 31; (with_reducible_and_instances refine Calls.mono (abs_any _ _ hx _) ?_); rintro e w' ⟨rb, rfl, hrb, rfl⟩))
      rw [HT.out] at hr
      go_loopw [8, 9] (fun t i wr => ∃ k m r : Nat, k ≤ 3 ∧ t = .float .f64 r ∧ i = .int .i64 k ∧ Ab .f64 r (iterT T k) ∧ wr = w.drewN m) (fun _ i _ => 3 - (intOf i).toNat)
      case atStart => exact ⟨0, _, _, Nat.zero_le _, rfl, rfl, hr, rfl⟩
      case round =>
        clear hr
        obtain ⟨k, m, r0, hk, rfl, rfl, hs, rfl⟩ := hrel
        by_cases hl : k < 3
        · go_wp2_with (first | (refine fl_arith rfl _ _ _ _ _ rfl rfl _ _ _ rfl rfl ?_; intro r n hr0; have hr := hr0 _ _ (by first | assumption | exact Ab.lit rfl (by decide)) (by first | assumption | exact Ab.lit rfl (by decide)); clear hr0) | (refine fl_cmp rfl _ _ _ _ _ rfl rfl _ _ _ rfl rfl ?_; intro b hb0; have hb := hb0 _ _ (by first | assumption | exact Ab.lit rfl (by decide)) (by first | assumption | exact Ab.lit rfl (by decide)); clear hb0; (try simp only [*] at hb); subst hb) | (refine fl_same rfl _ _ _ rfl _ _ rfl rfl rfl ?_) | (refine fl_wide rfl _ _ _ rfl _ rfl rfl rfl ?_; intro r n hr0; have hr := hr0 _ (by first | assumption | exact Ab.lit rfl (by decide)); clear hr0) | (refine fl_narrow rfl _ _ _ rfl _ rfl rfl rfl ?_; intro r n hl hr0; have hr := hr0 _ (by first | assumption | exact Ab.lit rfl (by decide)) (by assumption); clear hr0 hl) | (refine fl_neg rfl _ _ rfl _ _ rfl ?_; intro r hr0; have hr := hr0 _ (by first | assumption | exact Ab.lit rfl (by decide)); clear hr0) | (refine fl_sqrt rfl 47 _ _ rfl _ rfl ext_sqrt ?_; intro r n hr0; have hr := hr0 _ (by first | assumption | exact Ab.lit rfl (by decide)); clear hr0) | go_in)
          go_roundw
          case rel => exact ⟨k + 1, _, _, by omega, rfl, by go_num, hr, rfl⟩
          case measure => simp [intOf]; omega
        · have : k = 3 := by omega
          subst this
          go_wp2_with (first | (refine fl_arith rfl _ _ _ _ _ rfl rfl _ _ _ rfl rfl ?_; intro r n hr0; have hr := hr0 _ _ (by first | assumption | exact Ab.lit rfl (by decide)) (by first | assumption | exact Ab.lit rfl (by decide)); clear hr0) | (refine fl_cmp rfl _ _ _ _ _ rfl rfl _ _ _ rfl rfl ?_; intro b hb0; have hb := hb0 _ _ (by first | assumption | exact Ab.lit rfl (by decide)) (by first | assumption | exact Ab.lit rfl (by decide)); clear hb0; (try simp only [*] at hb); subst hb) | (refine fl_same rfl _ _ _ rfl _ _ rfl rfl rfl ?_) | (refine fl_wide rfl _ _ _ rfl _ rfl rfl rfl ?_; intro r n hr0; have hr := hr0 _ (by first | assumption | exact Ab.lit rfl (by decide)); clear hr0) | (refine fl_narrow rfl _ _ _ rfl _ rfl rfl rfl ?_; intro r n hl hr0; have hr := hr0 _ (by first | assumption | exact Ab.lit rfl (by decide)) (by assumption); clear hr0 hl) | (refine fl_neg rfl _ _ rfl _ _ rfl ?_; intro r hr0; have hr := hr0 _ (by first | assumption | exact Ab.lit rfl (by decide)); clear hr0) | go_in)
          have hu := Lib.hid hr
          rename_i ru nu
          clear hr
          go_loopw [11, 12] (fun p i wr => ∃ j m r : Nat, j ≤ 8 ∧ p = .float .f64 r ∧ i = .int .i64 (15 - 2 * (j : Int)) ∧ Ab .f64 r (polyT (opA .mul .f64 (iterT T 3) (iterT T 3)) j) ∧ wr = w.drewN m) (fun _ i _ => (intOf i + 1).toNat)
          case atStart => exact ⟨0, _, _, Nat.zero_le _, rfl, rfl, Ab.lit rfl (by decide), rfl⟩
          case round =>
            obtain ⟨j, m2, p0, hj, rfl, rfl, hp, rfl⟩ := hrel
            have hur := hu.out
            by_cases hl2 : j < 8
            · have hkf := Ab.ofInt .f64 (15 - 2 * (j : Int))
              go_wp2_with (first | (refine fl_arith rfl _ _ _ _ _ rfl rfl _ _ _ rfl rfl ?_; intro r n hr0; have hr := hr0 _ _ (by first | assumption | exact Ab.lit rfl (by decide)) (by first | assumption | exact Ab.lit rfl (by decide)); clear hr0) | (refine fl_cmp rfl _ _ _ _ _ rfl rfl _ _ _ rfl rfl ?_; intro b hb0; have hb := hb0 _ _ (by first | assumption | exact Ab.lit rfl (by decide)) (by first | assumption | exact Ab.lit rfl (by decide)); clear hb0; (try simp only [*] at hb); subst hb) | (refine fl_same rfl _ _ _ rfl _ _ rfl rfl rfl ?_) | (refine fl_wide rfl _ _ _ rfl _ rfl rfl rfl ?_; intro r n hr0; have hr := hr0 _ (by first | assumption | exact Ab.lit rfl (by decide)); clear hr0) | (refine fl_narrow rfl _ _ _ rfl _ rfl rfl rfl ?_; intro r n hl hr0; have hr := hr0 _ (by first | assumption | exact Ab.lit rfl (by decide)) (by assumption); clear hr0 hl) | (refine fl_neg rfl _ _ rfl _ _ rfl ?_; intro r hr0; have hr := hr0 _ (by first | assumption | exact Ab.lit rfl (by decide)); clear hr0) | go_in)
              go_roundw
              case rel => exact ⟨j + 1, _, _, by omega, rfl, by go_num, hr, rfl⟩
              case measure => simp [intOf]; omega
            · have : j = 8 := by omega
              subst this
              cases nx <;> cases ny
              all_goals
                go_wp2_with (first | (refine fl_arith rfl _ _ _ _ _ rfl rfl _ _ _ rfl rfl ?_; intro r n hr0; have hr := hr0 _ _ (by first | assumption | exact Ab.lit rfl (by decide)) (by first | assumption | exact Ab.lit rfl (by decide)); clear hr0) | (refine fl_cmp rfl _ _ _ _ _ rfl rfl _ _ _ rfl rfl ?_; intro b hb0; have hb := hb0 _ _ (by first | assumption | exact Ab.lit rfl (by decide)) (by first | assumption | exact Ab.lit rfl (by decide)); clear hb0; (try simp only [*] at hb); subst hb) | (refine fl_same rfl _ _ _ rfl _ _ rfl rfl rfl ?_) | (refine fl_wide rfl _ _ _ rfl _ rfl rfl rfl ?_; intro r n hr0; have hr := hr0 _ (by first | assumption | exact Ab.lit rfl (by decide)); clear hr0) | (refine fl_narrow rfl _ _ _ rfl _ rfl rfl rfl ?_; intro r n hl hr0; have hr := hr0 _ (by first | assumption | exact Ab.lit rfl (by decide)) (by assumption); clear hr0 hl) | (refine fl_neg rfl _ _ rfl _ _ rfl ?_; intro r hr0; have hr := hr0 _ (by first | assumption | exact Ab.lit rfl (by decide)); clear hr0) | go_in)
                go_ret
                exact ⟨_, _, rfl, by assumption, rfl⟩

set_option maxHeartbeats 1000000 in
theorem spec_angle_wide (y x : Nat) (Y X : Option Nat) (hy : Ab .f64 y Y) (hx : Ab .f64 x X) (fy fx zx zy o nx ny : Bool) (e1 : cmpA .neq .f64 (opA .sub .f64 Y Y) (some 0) = !fy) (e2 : cmpA .neq .f64 (opA .sub .f64 X X) (some 0) = !fx)
    (e3 : cmpA .eql .f64 X (some 0) = zx) (e4 : cmpA .eql .f64 Y (some 0) = zy) (e5 : cmpA .gtr .f64 (absA Y) (absA X) = o) (e6 : cmpA .lss .f64 X (some 0) = nx) (e7 : cmpA .lss .f64 Y (some 0) = ny) (w : World) :
    Calls Try.prog 44 #[.float .f64 y, .float .f64 x] w fun e w' => ∃ r n, e = .returned (.float .f64 r) ∧ Ab .f64 r (outA fy fx zx zy o nx ny Y X) ∧ w' = w.drewN n := by
  cases fy
  · go_enter Try.func44, Try.ntmps44
    have hnan := ab_nan
    go_wp2_with (first | (refine fl_arith rfl _ _ _ _ _ rfl rfl _ _ _ rfl rfl ?_; intro r n hr0; have hr := hr0 _ _ (by first | assumption | exact Ab.lit rfl (by decide)) (by first | assumption | exact Ab.lit rfl (by decide)); clear hr0) | (refine fl_cmp rfl _ _ _ _ _ rfl rfl _ _ _ rfl rfl ?_; intro b hb0; have hb := hb0 _ _ (by first | assumption | exact Ab.lit rfl (by decide)) (by first | assumption | exact Ab.lit rfl (by decide)); clear hb0; (try simp only [*] at hb); subst hb) | (refine fl_same rfl _ _ _ rfl _ _ rfl rfl rfl ?_) | (refine fl_wide rfl _ _ _ rfl _ rfl rfl rfl ?_; intro r n hr0; have hr := hr0 _ (by first | assumption | exact Ab.lit rfl (by decide)); clear hr0) | (refine fl_narrow rfl _ _ _ rfl _ rfl rfl rfl ?_; intro r n hl hr0; have hr := hr0 _ (by first | assumption | exact Ab.lit rfl (by decide)) (by assumption); clear hr0 hl) | (refine fl_neg rfl _ _ rfl _ _ rfl ?_; intro r hr0; have hr := hr0 _ (by first | assumption | exact Ab.lit rfl (by decide)); clear hr0) | go_in)
    go_ret
    exact ⟨_, _, rfl, hnan, rfl⟩
  · cases fx
    · go_enter Try.func44, Try.ntmps44
      have hnan := ab_nan
      go_wp2_with (first | (refine fl_arith rfl _ _ _ _ _ rfl rfl _ _ _ rfl rfl ?_; intro r n hr0; have hr := hr0 _ _ (by first | assumption | exact Ab.lit rfl (by decide)) (by first | assumption | exact Ab.lit rfl (by decide)); clear hr0) | (refine fl_cmp rfl _ _ _ _ _ rfl rfl _ _ _ rfl rfl ?_; intro b hb0; have hb := hb0 _ _ (by first | assumption | exact Ab.lit rfl (by decide)) (by first | assumption | exact Ab.lit rfl (by decide)); clear hb0; (try simp only [*] at hb); subst hb) | (refine fl_same rfl _ _ _ rfl _ _ rfl rfl rfl ?_) | (refine fl_wide rfl _ _ _ rfl _ rfl rfl rfl ?_; intro r n hr0; have hr := hr0 _ (by first | assumption | exact Ab.lit rfl (by decide)); clear hr0) | (refine fl_narrow rfl _ _ _ rfl _ rfl rfl rfl ?_; intro r n hl hr0; have hr := hr0 _ (by first | assumption | exact Ab.lit rfl (by decide)) (by assumption); clear hr0 hl) | (refine fl_neg rfl _ _ rfl _ _ rfl ?_; intro r hr0; have hr := hr0 _ (by first | assumption | exact Ab.lit rfl (by decide)); clear hr0) | go_in)
      go_ret
      exact ⟨_, _, rfl, hnan, rfl⟩
    · cases hz : (zx && zy)
      · refine (spec_angle_main y x Y X hy hx zx zy o nx ny hz e1 e2 e3 e4 e5 e6 e7 w).mono fun e w' h => ?_
        obtain ⟨r, n, he, hr, hw⟩ := h
        refine ⟨r, n, he, ?_, hw⟩
        unfold outA
        rw [hz]
        exact hr
      · simp only [Bool.and_eq_true] at hz
        obtain ⟨rfl, rfl⟩ := hz
        go_enter Try.func44, Try.ntmps44
        go_wp2_with (first | (refine fl_arith rfl _ _ _ _ _ rfl rfl _ _ _ rfl rfl ?_; intro r n hr0; have hr := hr0 _ _ (by first | assumption | exact Ab.lit rfl (by decide)) (by first | assumption | exact Ab.lit rfl (by decide)); clear hr0) | (refine fl_cmp rfl _ _ _ _ _ rfl rfl _ _ _ rfl rfl ?_; intro b hb0; have hb := hb0 _ _ (by first | assumption | exact Ab.lit rfl (by decide)) (by first | assumption | exact Ab.lit rfl (by decide)); clear hb0; (try simp only [*] at hb); subst hb) | (refine fl_same rfl _ _ _ rfl _ _ rfl rfl rfl ?_) | (refine fl_wide rfl _ _ _ rfl _ rfl rfl rfl ?_; intro r n hr0; have hr := hr0 _ (by first | assumption | exact Ab.lit rfl (by decide)); clear hr0) | (refine fl_narrow rfl _ _ _ rfl _ rfl rfl rfl ?_; intro r n hl hr0; have hr := hr0 _ (by first | assumption | exact Ab.lit rfl (by decide)) (by assumption); clear hr0 hl) | (refine fl_neg rfl _ _ rfl _ _ rfl ?_; intro r hr0; have hr := hr0 _ (by first | assumption | exact Ab.lit rfl (by decide)); clear hr0) | go_in)
        go_ret
        exact ⟨_, _, rfl, Ab.lit rfl (by decide), rfl⟩

/-- The angle of a point. -/
def angleA (Y X : Option Nat) : Option Nat :=
  narrowA (outA (finA .f32 Y) (finA .f32 X) (cmpA .eql .f32 X (some 0)) (cmpA .eql .f32 Y (some 0)) (cmpA .gtr .f64 (absA (wideA Y)) (absA (wideA X))) (cmpA .lss .f32 X (some 0)) (cmpA .lss .f32 Y (some 0)) (wideA Y) (wideA X))

theorem fits_none : Fits none := fun b h => by cases h
theorem fits_zero : Fits (some 0) := fun b h => by cases h; decide +kernel

theorem fits_angle {y x : Nat} {Y X : Option Nat} (hy : Ab .f32 y Y) (hx : Ab .f32 x X) (o1 o2 : Bool) :
    Fits (outA (finA .f32 Y) (finA .f32 X) (cmpA .eql .f32 X (some 0)) (cmpA .eql .f32 Y (some 0)) (cmpA .gtr .f64 (absA (wideA Y)) (absA (wideA X))) o1 o2 (wideA Y) (wideA X)) := by
  unfold outA
  cases fy : finA .f32 Y
  · exact fits_none
  cases fx : finA .f32 X
  · exact fits_none
  cases hz : (cmpA .eql .f32 X (some 0) && cmpA .eql .f32 Y (some 0))
  · exact fits_turn _ _ _ (ratio_top hy hx fy fx hz)
  · exact fits_zero

theorem neq_fin {x : Nat} {X : Option Nat} (h : Ab .f32 x X) : cmpA .neq .f64 (opA .sub .f64 (wideA X) (wideA X)) (some 0) = !finA .f32 X := by
  rw [← finA_wide h]
  show (ordA .f64 _ _ != some .eq) = !(ordA .f64 _ _ == some .eq)
  rfl

set_option maxHeartbeats 1000000 in
theorem spec_angle (y x : Nat) (Y X : Option Nat) (hy : Ab .f32 y Y) (hx : Ab .f32 x X) (w : World) :
    Calls Try.prog 28 #[.float .f32 y, .float .f32 x] w fun e w' => ∃ r n, e = .returned (.float .f32 r) ∧ Ab .f32 r (angleA Y X) ∧ w' = w.drewN n := by
  have hF := fits_angle hy hx (cmpA .lss .f32 X (some 0)) (cmpA .lss .f32 Y (some 0))
  have HW := fun y' x' hy' hx' w' => spec_angle_wide y' x' (wideA Y) (wideA X) hy' hx' _ _ _ _ _ _ _ (neq_fin hy) (neq_fin hx) (cmp_wide rfl hx) (cmp_wide rfl hy) rfl (cmp_wide rfl hx) (cmp_wide rfl hy) w'
  unfold angleA
  generalize outA (finA .f32 Y) (finA .f32 X) (cmpA .eql .f32 X (some 0)) (cmpA .eql .f32 Y (some 0)) (cmpA .gtr .f64 (absA (wideA Y)) (absA (wideA X))) (cmpA .lss .f32 X (some 0)) (cmpA .lss .f32 Y (some 0)) (wideA Y) (wideA X) = R at *
  go_enter Try.func28, Try.ntmps28
  go_wp2_with (first | (refine fl_arith rfl _ _ _ _ _ rfl rfl _ _ _ rfl rfl ?_; intro r n hr0; have hr := hr0 _ _ (by first | assumption | exact Ab.lit rfl (by decide)) (by first | assumption | exact Ab.lit rfl (by decide)); clear hr0) | (refine fl_cmp rfl _ _ _ _ _ rfl rfl _ _ _ rfl rfl ?_; intro b hb0; have hb := hb0 _ _ (by first | assumption | exact Ab.lit rfl (by decide)) (by first | assumption | exact Ab.lit rfl (by decide)); clear hb0; (try simp only [*] at hb); subst hb) | (refine fl_same rfl _ _ _ rfl _ _ rfl rfl rfl ?_) | (refine fl_wide rfl _ _ _ rfl _ rfl rfl rfl ?_; intro r n hr0; have hr := hr0 _ (by first | assumption | exact Ab.lit rfl (by decide)); clear hr0) | (refine fl_narrow rfl _ _ _ rfl _ rfl rfl rfl ?_; intro r n hl hr0; have hr := hr0 _ (by first | assumption | exact Ab.lit rfl (by decide)) (by assumption); clear hr0 hl) | (refine fl_neg rfl _ _ rfl _ _ rfl ?_; intro r hr0; have hr := hr0 _ (by first | assumption | exact Ab.lit rfl (by decide)); clear hr0) | (go_at_call 44; refine (HW _ _ (by assumption) (by assumption) _).mono ?_; rintro e w' ⟨r2, m2, rfl, h2, rfl⟩) | go_in)
  go_ret
  exact ⟨_, _, rfl, hr, rfl⟩

set_option maxHeartbeats 1000000 in
theorem spec_AngleTurns (y x : Nat) (Y X : Option Nat) (hy : Ab .f32 y Y) (hx : Ab .f32 x X) (w : World) :
    Calls Try.prog 9 #[.float .f32 y, .float .f32 x] w fun e w' => ∃ r n, e = .returned (.float .f32 r) ∧ Ab .f32 r (angleA Y X) ∧ w' = w.drewN n := by
  go_enter Try.func9, Try.ntmps9
  go_wp2_with ((go_at_call 28; (with_reducible_and_instances refine Calls.mono (spec_angle y x Y X hy hx _) ?_); rintro e w' ⟨r2, m2, rfl, h2, rfl⟩))
  go_ret
  exact ⟨_, _, rfl, h2, rfl⟩

end Go.Proofs.Ytecdnpmafmfobaa
