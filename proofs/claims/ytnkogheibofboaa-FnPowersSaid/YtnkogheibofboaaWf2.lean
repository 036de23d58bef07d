/- Walks: the law of FnPowers. No conditions. -/
import Derived.Test.YtnkogheibofboaaWe2
namespace Go.Proofs.Ytnkogheibofboaa
open Go.RowKit
set_option maxRecDepth 8000

set_option maxHeartbeats 8000000 in
theorem powers_at (a b : Option Addr) (n cap n2 cap2 : Nat) (w : World) (hA : Bytes w a n) (hB : Bytes w b n2) (h1 : ¬ 1048576 < n) (h2 : ¬ 1048576 < n2) :
    Calls Try.prog 13 #[.slice a n cap, .slice b n2 cap2] w (Told w) := by
  have HL := fun w' => long_any a b n n2 cap cap2 w'
  rw [show (decide (1048576 < n) || decide (1048576 < n2)) = false by simp [h1, h2]] at HL
  obtain ⟨k, hk, HA⟩ := at65 a n cap w hA
  obtain ⟨l, hl, HB⟩ := at65 b n2 cap2 w hB
  have HA0 : Calls Try.prog 41 #[.slice a n cap, .int .i64 0, .int .i64 65] w fun e w' => e = .returned (.int .i64 (k : Int)) ∧ w = w' := HA 0
  have e1 : opA .quo .f32 (some (floatOfInt .f32 ((k : Int) - 32))) (some 1090519040) = some (xw (k + 32)) := eq_of_beq (arg_all k hk)
  have e2 : opA .quo .f32 (some (floatOfInt .f32 ((l : Int) - 32))) (some 1090519040) = some (xw (l + 32)) := eq_of_beq (arg_all l hl)
  have e3 : opA .add .f32 (some (xw (k + 32))) (some (xw (l + 32))) = some (xw (k + l)) := eq_of_beq (sum_all k hk l hl)
  have HE1 : ∀ r, Ab .f32 r (opA .quo .f32 (some (floatOfInt .f32 ((k : Int) - 32))) (some 1090519040)) → ∀ w', Calls Try.prog 42 #[.float .f32 r] w' (Turns (some (ew (k + 32))) w') := fun r hr w' => exp_at (k + 32) (by omega) r (by rw [← e1]; exact hr) w'
  have HE2 : ∀ r, Ab .f32 r (opA .quo .f32 (some (floatOfInt .f32 ((l : Int) - 32))) (some 1090519040)) → ∀ w', Calls Try.prog 42 #[.float .f32 r] w' (Turns (some (ew (l + 32))) w') := fun r hr w' => exp_at (l + 32) (by omega) r (by rw [← e2]; exact hr) w'
  have HE3 : ∀ r, Ab .f32 r (opA .add .f32 (opA .quo .f32 (some (floatOfInt .f32 ((k : Int) - 32))) (some 1090519040)) (opA .quo .f32 (some (floatOfInt .f32 ((l : Int) - 32))) (some 1090519040))) → ∀ w', Calls Try.prog 42 #[.float .f32 r] w' (Turns (some (ew (k + l))) w') := fun r hr w' => exp_at (k + l) (by omega) r (by rw [← e3, ← e1, ← e2]; exact hr) w'
  have HE0 : ∀ w', Calls Try.prog 42 #[.float .f32 0] w' (Turns (some 1065353216) w') := fun w' => exp_at 64 (by omega) 0 (Ab.lit (by decide) (by decide)) w'
  have HL1 : ∀ r, Ab .f32 r (some (ew (k + 32))) → ∀ w', Calls Try.prog 16 #[.float .f32 r] w' (Turns (some (lw k)) w') := fun r hr w' => log_at k hk r hr w'
  have HL0 : ∀ w', Calls Try.prog 16 #[.float .f32 1065353216] w' (Turns (some (lw 32)) w') := fun w' => log_at 32 (by omega) 1065353216 (Ab.lit (by decide) (by decide)) w'
  have HG := fun x y X Y w' hx hy => gap_any x y X Y hx hy w'
  have f1 : cmpA .lss .f64 (gapA (wideA (some (lw k))) (wideA (opA .quo .f32 (some (floatOfInt .f32 ((k : Int) - 32))) (some 1090519040)))) (some 4562254508917369340) = true := by rw [e1]; exact gap1_all k hk
  have f2 : cmpA .lss .f64 (gapA (opA .mul .f64 (wideA (some (ew (k + 32)))) (wideA (some (ew (l + 32))))) (wideA (some (ew (k + l))))) (opA .mul .f64 (some 4562254508917369340) (wideA (some (ew (k + l))))) = true := gap2_all k l hk hl
  have f3 : cmpA .gtr .f32 (some (ew (k + 32))) (some 0) = true := by
    have := log_all k hk
    simp only [logOk, Bool.and_eq_true] at this
    exact this.1.1.1.2
  have f4 : cmpA .eql .f32 (some 1065353216) (some 1065353216) = true := by decide +kernel
  have f5 : cmpA .eql .f32 (some (lw 32)) (some 0) = true := by decide +kernel
  have hk1 := Ab.ofInt .f32 ((k : Int) - 32)
  have hl1 := Ab.ofInt .f32 ((l : Int) - 32)
  generalize ew (k + 32) = ea at *
  generalize ew (l + 32) = eb at *
  generalize ew (k + l) = ec at *
  generalize lw k = la at *
  generalize lw 32 = l0 at *
  clear e1 e2 e3 hA hB HA
  go_enter Try.func13, Try.ntmps13
  go_wp2_with (first | (refine fl_arith rfl _ _ _ _ _ rfl rfl _ _ _ rfl rfl ?_; intro r n hr0; have hr := hr0 _ _ (by first | assumption | exact Ab.lit rfl (by decide)) (by first | assumption | exact Ab.lit rfl (by decide)); clear hr0) | (refine fl_cmp rfl _ _ _ _ _ rfl rfl _ _ _ rfl rfl ?_; intro b hb0; have hb := hb0 _ _ (by first | assumption | exact Ab.lit rfl (by decide)) (by first | assumption | exact Ab.lit rfl (by decide)); clear hb0; (try simp only [*] at hb); subst hb) | (refine fl_same rfl _ _ _ rfl _ _ rfl rfl rfl ?_) | (refine fl_wide rfl _ _ _ rfl _ rfl rfl rfl ?_; intro r n hr0; have hr := hr0 _ (by first | assumption | exact Ab.lit rfl (by decide)); clear hr0) | (refine fl_narrow rfl _ _ _ rfl _ rfl rfl rfl ?_; intro r n hl hr0; have hr := hr0 _ (by first | assumption | exact Ab.lit rfl (by decide)) (by assumption); clear hr0 hl) | (refine fl_neg rfl _ _ rfl _ _ rfl ?_; intro r hr0; have hr := hr0 _ (by first | assumption | exact Ab.lit rfl (by decide)); clear hr0) | (go_at_call 40; (with_reducible_and_instances refine Calls.mono (HL _) ?_); rintro e w' ⟨rfl, rfl⟩) | (go_at_call 41; (with_reducible_and_instances refine Calls.mono (HA0) ?_); rintro e w' ⟨rfl, rfl⟩) | (go_at_call 41; (with_reducible_and_instances refine Calls.mono (HB _) ?_); rintro e w' ⟨rfl, rfl⟩) | (go_at_call 42; (with_reducible_and_instances refine Calls.mono (HE0 _) ?_); rintro e w' ⟨r0, m0, rfl, g0, rfl⟩) | (go_at_call 42; (with_reducible_and_instances refine Calls.mono (HE1 _ ?_ _) ?_); (next => assumption); rintro e w' ⟨r1, m1, rfl, g1, rfl⟩) | (go_at_call 42; (with_reducible_and_instances refine Calls.mono (HE2 _ ?_ _) ?_); (next => assumption); rintro e w' ⟨r2, m2, rfl, g2, rfl⟩) | (go_at_call 42; (with_reducible_and_instances refine Calls.mono (HE3 _ ?_ _) ?_); (next => assumption); rintro e w' ⟨r3, m3, rfl, g3, rfl⟩) | (go_at_call 16; (with_reducible_and_instances refine Calls.mono (HL0 _) ?_); rintro e w' ⟨r5, m5, rfl, g5, rfl⟩) | (go_at_call 16; (with_reducible_and_instances refine Calls.mono (HL1 _ ?_ _) ?_); (next => assumption); rintro e w' ⟨r4, m4, rfl, g4, rfl⟩) | (go_at_call 43; (with_reducible_and_instances refine Calls.mono (HG _ _ _ _ _ (by assumption) (by assumption)) ?_); rintro e w' ⟨r6, m6, rfl, g6, rfl⟩))
  go_ret
  exact ⟨rfl, below_drewN (Below.refl _ _) _⟩

theorem law_FnPowers (a : Option Addr) (n cap : Nat) (b : Option Addr) (n2 cap2 : Nat) (w : World) (hA : Bytes w a n) (hB : Bytes w b n2) : Calls Try.prog 13 #[.slice a n cap, .slice b n2 cap2] w (Told w) := by
  by_cases h : 1048576 < n ∨ 1048576 < n2
  · have HL := fun w' => long_any a b n n2 cap cap2 w'
    rw [show (decide (1048576 < n) || decide (1048576 < n2)) = true by simpa using h] at HL
    go_enter Try.func13, Try.ntmps13
    go_wp2_with (first | (refine fl_arith rfl _ _ _ _ _ rfl rfl _ _ _ rfl rfl ?_; intro r n hr0; have hr := hr0 _ _ (by first | assumption | exact Ab.lit rfl (by decide)) (by first | assumption | exact Ab.lit rfl (by decide)); clear hr0) | (refine fl_cmp rfl _ _ _ _ _ rfl rfl _ _ _ rfl rfl ?_; intro b hb0; have hb := hb0 _ _ (by first | assumption | exact Ab.lit rfl (by decide)) (by first | assumption | exact Ab.lit rfl (by decide)); clear hb0; (try simp only [*] at hb); subst hb) | (refine fl_same rfl _ _ _ rfl _ _ rfl rfl rfl ?_) | (refine fl_wide rfl _ _ _ rfl _ rfl rfl rfl ?_; intro r n hr0; have hr := hr0 _ (by first | assumption | exact Ab.lit rfl (by decide)); clear hr0) | (refine fl_narrow rfl _ _ _ rfl _ rfl rfl rfl ?_; intro r n hl hr0; have hr := hr0 _ (by first | assumption | exact Ab.lit rfl (by decide)) (by assumption); clear hr0 hl) | (refine fl_neg rfl _ _ rfl _ _ rfl ?_; intro r hr0; have hr := hr0 _ (by first | assumption | exact Ab.lit rfl (by decide)); clear hr0) | (go_at_call 40; (with_reducible_and_instances refine Calls.mono (HL _) ?_); rintro e w' ⟨rfl, rfl⟩))
    go_ret
    exact ⟨rfl, Below.refl _ _⟩
  · exact powers_at a b n cap n2 cap2 w hA hB (fun h1 => h (.inl h1)) (fun h2 => h (.inr h2))

end Go.Proofs.Ytnkogheibofboaa
