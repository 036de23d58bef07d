/- Walks: how long the way to a north is. No conditions. -/
import Derived.Test.YtgjcjgaflgmofaaWo
import Derived.Test.YtgjcjgaflgmofaaWr
namespace Go.Proofs.Ytgjcjgaflgmofaa
open Go.RowKit
set_option maxRecDepth 8000

noncomputable def sineOf (X : Option Nat) : Option Nat := (sine_fun X).choose
theorem sineOf_spec (X : Option Nat) (x : Nat) (w : World) (hx : Ab .f32 x X) : Calls Try.prog 59 #[.float .f32 x] w (Turns (sineOf X) w) := ((sine_fun X).choose_spec x hx w).1
theorem sineOf_impl (X : Option Nat) (x : Nat) (w : World) (hx : Ab .f32 x X) : Calls Try.prog 21 #[.float .f32 x] w (Turns (sineOf X) w) := ((sine_fun X).choose_spec x hx w).2

def curveA (K S : Option Nat) : Option Nat := opA .sub .f32 (some 1065353216) (opA .mul .f32 (opA .mul .f32 K S) S)
noncomputable def partS (H : Option Nat) (k : Nat) : Option Nat := sineOf (opA .mul .f32 (opA .add .f32 (some (floatOfInt .f32 (k : Int))) (some 1056964608)) H)
noncomputable def sumM (E H : Option Nat) : Nat → Option Nat
  | 0 => some 0
  | k + 1 => opA .add .f32 (sumM E H k) (opA .quo .f32 E (opA .mul .f32 (curveA (opA .sub .f32 (some 1065353216) E) (partS H k)) (rootA (curveA (opA .sub .f32 (some 1065353216) E) (partS H k)))))
noncomputable def longM (N F : Option Nat) (p : Nat) : Option Nat :=
  opA .mul .f32 (opA .mul .f32 (sumM (heartA F) (opA .quo .f32 N (some (floatOfInt .f32 (p : Int)))) p) (opA .quo .f32 N (some (floatOfInt .f32 (p : Int))))) (some 1086918619)

theorem spec_in (a : Int) (b : Bool) (hb : b = decide (1 ≤ a ∧ a ≤ 64)) (w : World) : Calls Try.prog 71 #[.int .i64 a, .int .i64 1, .int .i64 64] w (Draws (.bool b) w) := by
  by_cases h1 : 1 ≤ a
  · by_cases h2 : a ≤ 64
    · have e : b = true := by rw [hb]; simp [h1, h2]
      rw [e]
      clear hb e
      go_enter Try.func71, Try.ntmps71
      go_wp2
      go_ret
      exact ⟨by simp <;> omega, 0, rfl⟩
    · have e : b = false := by rw [hb]; simp [h2]
      rw [e]
      clear hb e
      go_enter Try.func71, Try.ntmps71
      go_wp2
      go_ret
      exact ⟨by simp <;> omega, 0, rfl⟩
  · have e : b = false := by rw [hb]; simp [h1]
    rw [e]
    clear hb e
    go_enter Try.func71, Try.ntmps71
    go_wp2
    go_ret
    exact ⟨by first | rfl | (simp <;> omega), 0, rfl⟩

theorem impl_in (a : Int) (b : Bool) (hb : b = decide (1 ≤ a ∧ a ≤ 64)) (w : World) : Calls Try.prog 84 #[.int .i64 a, .int .i64 1, .int .i64 64] w (Draws (.bool b) w) := by
  by_cases h1 : 1 ≤ a
  · by_cases h2 : a ≤ 64
    · have e : b = true := by rw [hb]; simp [h1, h2]
      rw [e]
      clear hb e
      go_enter Try.func84, Try.ntmps84
      go_wp2
      go_ret
      exact ⟨by simp <;> omega, 0, rfl⟩
    · have e : b = false := by rw [hb]; simp [h2]
      rw [e]
      clear hb e
      go_enter Try.func84, Try.ntmps84
      go_wp2
      go_ret
      exact ⟨by simp <;> omega, 0, rfl⟩
  · have e : b = false := by rw [hb]; simp [h1]
    rw [e]
    clear hb e
    go_enter Try.func84, Try.ntmps84
    go_wp2
    go_ret
    exact ⟨by first | rfl | (simp <;> omega), 0, rfl⟩

set_option maxHeartbeats 4000000 in
theorem spec_MeridianLong_in (n f p : Nat) (N F : Option Nat) (hn : Ab .f32 n N) (hf : Ab .f32 f F) (hp1 : 1 ≤ p) (hp2 : p ≤ 64) (c : flatOk N F = true) (w : World) :
    Calls Try.prog 39 #[.float .f32 n, .float .f32 f, .int .i64 p] w (GivesIf (finA .f32 (longM N F p)) (longM N F p) w) := by
  have HFL := fun w' => spec_flat n f N F hn hf w'
  rw [c] at HFL
  clear c
  have hpf := Ab.ofInt .f32 (p : Int)
  have HIN := fun w' => spec_in (p : Int) true (by simp; omega) w'
  unfold longM
  go_enter Try.func39, Try.ntmps39
  go_wp2_with (first | (refine fl_arith rfl _ _ _ _ _ rfl rfl _ _ _ rfl rfl ?_; intro r n hr0; have hr := hr0 _ _ (by first | assumption | exact Ab.lit rfl (by decide)) (by first | assumption | exact Ab.lit rfl (by decide)); clear hr0) | (refine fl_cmp rfl _ _ _ _ _ rfl rfl _ _ _ rfl rfl ?_; intro b hb0; have hb := hb0 _ _ (by first | assumption | exact Ab.lit rfl (by decide)) (by first | assumption | exact Ab.lit rfl (by decide)); clear hb0; (try simp only [*] at hb); subst hb) | (refine fl_same rfl _ _ _ rfl _ _ rfl rfl rfl ?_) | (refine fl_wide rfl _ _ _ rfl _ rfl rfl rfl ?_; intro r n hr0; have hr := hr0 _ (by first | assumption | exact Ab.lit rfl (by decide)); clear hr0) | (refine fl_narrow rfl _ _ _ rfl _ rfl rfl rfl ?_; intro r n hl hr0; have hr := hr0 _ (by first | assumption | exact Ab.lit rfl (by decide)) (by assumption); clear hr0 hl) | (refine fl_neg rfl _ _ rfl _ _ rfl ?_; intro r hr0; have hr := hr0 _ (by first | assumption | exact Ab.lit rfl (by decide)); clear hr0) | (go_at_call 79; (with_reducible_and_instances refine Calls.mono (HFL _) ?_); rintro e w' ⟨rfl, m0, rfl⟩) | (go_at_call 71; (with_reducible_and_instances refine Calls.mono (HIN _) ?_); rintro e w' ⟨rfl, m9, rfl⟩) | go_in)
  go_loopw [11, 12, 13, 14] (fun s i _ _ wr => ∃ k m r : Nat, k ≤ p ∧ s = .float .f32 r ∧ i = .int .i64 k ∧ Ab .f32 r (sumM (heartA F) (opA .quo .f32 N (some (floatOfInt .f32 (p : Int)))) k) ∧ wr = w.drewN m) (fun _ i _ _ _ => p - (intOf i).toNat)
  case atStart => exact ⟨0, _, 0, Nat.zero_le _, rfl, rfl, Ab.lit rfl (by decide), rfl⟩
  case round =>
    obtain ⟨k, m, r0, hk, rfl, rfl, hs, rfl⟩ := hrel
    by_cases hl : k < p
    · have hkf := Ab.ofInt .f32 (k : Int)
      go_wp2_with (first | (refine fl_arith rfl _ _ _ _ _ rfl rfl _ _ _ rfl rfl ?_; intro r n hr0; have hr := hr0 _ _ (by first | assumption | exact Ab.lit rfl (by decide)) (by first | assumption | exact Ab.lit rfl (by decide)); clear hr0) | (refine fl_cmp rfl _ _ _ _ _ rfl rfl _ _ _ rfl rfl ?_; intro b hb0; have hb := hb0 _ _ (by first | assumption | exact Ab.lit rfl (by decide)) (by first | assumption | exact Ab.lit rfl (by decide)); clear hb0; (try simp only [*] at hb); subst hb) | (refine fl_same rfl _ _ _ rfl _ _ rfl rfl rfl ?_) | (refine fl_wide rfl _ _ _ rfl _ rfl rfl rfl ?_; intro r n hr0; have hr := hr0 _ (by first | assumption | exact Ab.lit rfl (by decide)); clear hr0) | (refine fl_narrow rfl _ _ _ rfl _ rfl rfl rfl ?_; intro r n hl hr0; have hr := hr0 _ (by first | assumption | exact Ab.lit rfl (by decide)) (by assumption); clear hr0 hl) | (refine fl_neg rfl _ _ rfl _ _ rfl ?_; intro r hr0; have hr := hr0 _ (by first | assumption | exact Ab.lit rfl (by decide)); clear hr0) | (go_at_call 59; refine Calls.mono (sineOf_spec _ _ _ (by assumption)) ?_; rintro e w' ⟨s1, m1, rfl, h1, rfl⟩) | (go_at_call 81; refine Calls.mono (spec_l01Sqrt _ _ (by assumption) _) ?_; rintro e w' ⟨r2, m2, rfl, h2, rfl⟩))
      go_roundw
      case rel => exact ⟨k + 1, _, _, by omega, rfl, by go_num, hr, rfl⟩
      case measure => simp [intOf]; omega
    · have : k = p := by omega
      subst this
      go_wp2_with (first | (refine fl_arith rfl _ _ _ _ _ rfl rfl _ _ _ rfl rfl ?_; intro r n hr0; have hr := hr0 _ _ (by first | assumption | exact Ab.lit rfl (by decide)) (by first | assumption | exact Ab.lit rfl (by decide)); clear hr0) | (refine fl_cmp rfl _ _ _ _ _ rfl rfl _ _ _ rfl rfl ?_; intro b hb0; have hb := hb0 _ _ (by first | assumption | exact Ab.lit rfl (by decide)) (by first | assumption | exact Ab.lit rfl (by decide)); clear hb0; (try simp only [*] at hb); subst hb) | (refine fl_same rfl _ _ _ rfl _ _ rfl rfl rfl ?_) | (refine fl_wide rfl _ _ _ rfl _ rfl rfl rfl ?_; intro r n hr0; have hr := hr0 _ (by first | assumption | exact Ab.lit rfl (by decide)); clear hr0) | (refine fl_narrow rfl _ _ _ rfl _ rfl rfl rfl ?_; intro r n hl hr0; have hr := hr0 _ (by first | assumption | exact Ab.lit rfl (by decide)) (by assumption); clear hr0 hl) | (refine fl_neg rfl _ _ rfl _ _ rfl ?_; intro r hr0; have hr := hr0 _ (by first | assumption | exact Ab.lit rfl (by decide)); clear hr0) | (go_at_call 82; (with_reducible_and_instances refine Calls.mono (spec_number hr _) ?_); rintro e w' ⟨r4, m4, rfl, h4, rfl⟩))
      go_ret2
      exact ⟨_, _, rfl, h4, rfl⟩

set_option maxHeartbeats 1000000 in
theorem spec_MeridianLong_out (n f : Nat) (a : Int) (N F : Option Nat) (hn : Ab .f32 n N) (hf : Ab .f32 f F) (h : flatOk N F = false ∨ ¬ (1 ≤ a ∧ a ≤ 64)) (w : World) :
    Calls Try.prog 39 #[.float .f32 n, .float .f32 f, .int .i64 a] w (GivesIf false none w) := by
  have HFL := fun w' => spec_flat n f N F hn hf w'
  cases c : flatOk N F
  · rw [c] at HFL
    clear h
    go_enter Try.func39, Try.ntmps39
    go_wp2_with (first | (refine fl_arith rfl _ _ _ _ _ rfl rfl _ _ _ rfl rfl ?_; intro r n hr0; have hr := hr0 _ _ (by first | assumption | exact Ab.lit rfl (by decide)) (by first | assumption | exact Ab.lit rfl (by decide)); clear hr0) | (refine fl_cmp rfl _ _ _ _ _ rfl rfl _ _ _ rfl rfl ?_; intro b hb0; have hb := hb0 _ _ (by first | assumption | exact Ab.lit rfl (by decide)) (by first | assumption | exact Ab.lit rfl (by decide)); clear hb0; (try simp only [*] at hb); subst hb) | (refine fl_same rfl _ _ _ rfl _ _ rfl rfl rfl ?_) | (refine fl_wide rfl _ _ _ rfl _ rfl rfl rfl ?_; intro r n hr0; have hr := hr0 _ (by first | assumption | exact Ab.lit rfl (by decide)); clear hr0) | (refine fl_narrow rfl _ _ _ rfl _ rfl rfl rfl ?_; intro r n hl hr0; have hr := hr0 _ (by first | assumption | exact Ab.lit rfl (by decide)) (by assumption); clear hr0 hl) | (refine fl_neg rfl _ _ rfl _ _ rfl ?_; intro r hr0; have hr := hr0 _ (by first | assumption | exact Ab.lit rfl (by decide)); clear hr0) | (go_at_call 79; (with_reducible_and_instances refine Calls.mono (HFL _) ?_); rintro e w' ⟨rfl, m0, rfl⟩))
    go_ret2
    exact ⟨0, _, rfl, Ab.lit rfl (by decide), rfl⟩
  · rw [c] at HFL
    have h' : ¬ (1 ≤ a ∧ a ≤ 64) := by
      rcases h with h | h
      · rw [c] at h; cases h
      · exact h
    clear h c
    have HIN := fun w' => spec_in a false (by simpa using h') w'
    clear h'
    go_enter Try.func39, Try.ntmps39
    go_wp2_with (first | (refine fl_arith rfl _ _ _ _ _ rfl rfl _ _ _ rfl rfl ?_; intro r n hr0; have hr := hr0 _ _ (by first | assumption | exact Ab.lit rfl (by decide)) (by first | assumption | exact Ab.lit rfl (by decide)); clear hr0) | (refine fl_cmp rfl _ _ _ _ _ rfl rfl _ _ _ rfl rfl ?_; intro b hb0; have hb := hb0 _ _ (by first | assumption | exact Ab.lit rfl (by decide)) (by first | assumption | exact Ab.lit rfl (by decide)); clear hb0; (try simp only [*] at hb); subst hb) | (refine fl_same rfl _ _ _ rfl _ _ rfl rfl rfl ?_) | (refine fl_wide rfl _ _ _ rfl _ rfl rfl rfl ?_; intro r n hr0; have hr := hr0 _ (by first | assumption | exact Ab.lit rfl (by decide)); clear hr0) | (refine fl_narrow rfl _ _ _ rfl _ rfl rfl rfl ?_; intro r n hl hr0; have hr := hr0 _ (by first | assumption | exact Ab.lit rfl (by decide)) (by assumption); clear hr0 hl) | (refine fl_neg rfl _ _ rfl _ _ rfl ?_; intro r hr0; have hr := hr0 _ (by first | assumption | exact Ab.lit rfl (by decide)); clear hr0) | (go_at_call 79; (with_reducible_and_instances refine Calls.mono (HFL _) ?_); rintro e w' ⟨rfl, m0, rfl⟩) | (go_at_call 71; (with_reducible_and_instances refine Calls.mono (HIN _) ?_); rintro e w' ⟨rfl, m9, rfl⟩))
    go_ret2
    exact ⟨0, _, rfl, Ab.lit rfl (by decide), rfl⟩

set_option maxHeartbeats 4000000 in
theorem impl_MeridianLong_in (n f p : Nat) (N F : Option Nat) (hn : Ab .f32 n N) (hf : Ab .f32 f F) (hp1 : 1 ≤ p) (hp2 : p ≤ 64) (c : flatOk N F = true) (w : World) :
    Calls Try.prog 40 #[.float .f32 n, .float .f32 f, .int .i64 p] w (GivesIf (finA .f32 (longM N F p)) (longM N F p) w) := by
  have HFL := fun w' => impl_flat n f N F hn hf w'
  rw [c] at HFL
  clear c
  have hpf := Ab.ofInt .f32 (p : Int)
  have HIN := fun w' => impl_in (p : Int) true (by simp; omega) w'
  unfold longM
  go_enter Try.func40, Try.ntmps40
  go_wp2_with (first | (refine fl_arith rfl _ _ _ _ _ rfl rfl _ _ _ rfl rfl ?_; intro r n hr0; have hr := hr0 _ _ (by first | assumption | exact Ab.lit rfl (by decide)) (by first | assumption | exact Ab.lit rfl (by decide)); clear hr0) | (refine fl_cmp rfl _ _ _ _ _ rfl rfl _ _ _ rfl rfl ?_; intro b hb0; have hb := hb0 _ _ (by first | assumption | exact Ab.lit rfl (by decide)) (by first | assumption | exact Ab.lit rfl (by decide)); clear hb0; (try simp only [*] at hb); subst hb) | (refine fl_same rfl _ _ _ rfl _ _ rfl rfl rfl ?_) | (refine fl_wide rfl _ _ _ rfl _ rfl rfl rfl ?_; intro r n hr0; have hr := hr0 _ (by first | assumption | exact Ab.lit rfl (by decide)); clear hr0) | (refine fl_narrow rfl _ _ _ rfl _ rfl rfl rfl ?_; intro r n hl hr0; have hr := hr0 _ (by first | assumption | exact Ab.lit rfl (by decide)) (by assumption); clear hr0 hl) | (refine fl_neg rfl _ _ rfl _ _ rfl ?_; intro r hr0; have hr := hr0 _ (by first | assumption | exact Ab.lit rfl (by decide)); clear hr0) | (go_at_call 83; (with_reducible_and_instances refine Calls.mono (HFL _) ?_); rintro e w' ⟨rfl, m0, rfl⟩) | (go_at_call 84; (with_reducible_and_instances refine Calls.mono (HIN _) ?_); rintro e w' ⟨rfl, m9, rfl⟩) | go_in)
  go_loopw [11, 12, 13, 14, 33] (fun s _ _ _ i wr => ∃ k m r : Nat, k ≤ p ∧ s = .float .f32 r ∧ i = .int .i64 k ∧ Ab .f32 r (sumM (heartA F) (opA .quo .f32 N (some (floatOfInt .f32 (p : Int)))) k) ∧ wr = w.drewN m) (fun _ _ _ _ i _ => p - (intOf i).toNat)
  case atStart => exact ⟨0, _, 0, Nat.zero_le _, rfl, rfl, Ab.lit rfl (by decide), rfl⟩
  case round =>
    obtain ⟨k, m, r0, hk, rfl, rfl, hs, rfl⟩ := hrel
    by_cases hl : k < p
    · have hkf := Ab.ofInt .f32 (k : Int)
      go_wp2_with (first | (refine fl_arith rfl _ _ _ _ _ rfl rfl _ _ _ rfl rfl ?_; intro r n hr0; have hr := hr0 _ _ (by first | assumption | exact Ab.lit rfl (by decide)) (by first | assumption | exact Ab.lit rfl (by decide)); clear hr0) | (refine fl_cmp rfl _ _ _ _ _ rfl rfl _ _ _ rfl rfl ?_; intro b hb0; have hb := hb0 _ _ (by first | assumption | exact Ab.lit rfl (by decide)) (by first | assumption | exact Ab.lit rfl (by decide)); clear hb0; (try simp only [*] at hb); subst hb) | (refine fl_same rfl _ _ _ rfl _ _ rfl rfl rfl ?_) | (refine fl_wide rfl _ _ _ rfl _ rfl rfl rfl ?_; intro r n hr0; have hr := hr0 _ (by first | assumption | exact Ab.lit rfl (by decide)); clear hr0) | (refine fl_narrow rfl _ _ _ rfl _ rfl rfl rfl ?_; intro r n hl hr0; have hr := hr0 _ (by first | assumption | exact Ab.lit rfl (by decide)) (by assumption); clear hr0 hl) | (refine fl_neg rfl _ _ rfl _ _ rfl ?_; intro r hr0; have hr := hr0 _ (by first | assumption | exact Ab.lit rfl (by decide)); clear hr0) | (go_at_call 21; refine Calls.mono (sineOf_impl _ _ _ (by assumption)) ?_; rintro e w' ⟨s1, m1, rfl, h1, rfl⟩) | (go_at_call 86; refine Calls.mono (impl_RootNumber _ _ (by assumption) _) ?_; rintro e w' ⟨r2, m2, rfl, h2, rfl⟩))
      go_roundw
      case rel => exact ⟨k + 1, _, _, by omega, rfl, by go_num, hr, rfl⟩
      case measure => simp [intOf]; omega
    · have : k = p := by omega
      subst this
      go_wp2_with (first | (refine fl_arith rfl _ _ _ _ _ rfl rfl _ _ _ rfl rfl ?_; intro r n hr0; have hr := hr0 _ _ (by first | assumption | exact Ab.lit rfl (by decide)) (by first | assumption | exact Ab.lit rfl (by decide)); clear hr0) | (refine fl_cmp rfl _ _ _ _ _ rfl rfl _ _ _ rfl rfl ?_; intro b hb0; have hb := hb0 _ _ (by first | assumption | exact Ab.lit rfl (by decide)) (by first | assumption | exact Ab.lit rfl (by decide)); clear hb0; (try simp only [*] at hb); subst hb) | (refine fl_same rfl _ _ _ rfl _ _ rfl rfl rfl ?_) | (refine fl_wide rfl _ _ _ rfl _ rfl rfl rfl ?_; intro r n hr0; have hr := hr0 _ (by first | assumption | exact Ab.lit rfl (by decide)); clear hr0) | (refine fl_narrow rfl _ _ _ rfl _ rfl rfl rfl ?_; intro r n hl hr0; have hr := hr0 _ (by first | assumption | exact Ab.lit rfl (by decide)) (by assumption); clear hr0 hl) | (refine fl_neg rfl _ _ rfl _ _ rfl ?_; intro r hr0; have hr := hr0 _ (by first | assumption | exact Ab.lit rfl (by decide)); clear hr0) | (go_at_call 68; (with_reducible_and_instances refine Calls.mono (impl_number hr _ _) ?_); rintro e w' ⟨r4, m4, rfl, h4, rfl⟩))
      go_ret2
      exact ⟨_, _, rfl, h4, rfl⟩

set_option maxHeartbeats 1000000 in
theorem impl_MeridianLong_out (n f : Nat) (a : Int) (N F : Option Nat) (hn : Ab .f32 n N) (hf : Ab .f32 f F) (h : flatOk N F = false ∨ ¬ (1 ≤ a ∧ a ≤ 64)) (w : World) :
    Calls Try.prog 40 #[.float .f32 n, .float .f32 f, .int .i64 a] w (GivesIf false none w) := by
  have HFL := fun w' => impl_flat n f N F hn hf w'
  cases c : flatOk N F
  · rw [c] at HFL
    clear h
    go_enter Try.func40, Try.ntmps40
    go_wp2_with (first | (refine fl_arith rfl _ _ _ _ _ rfl rfl _ _ _ rfl rfl ?_; intro r n hr0; have hr := hr0 _ _ (by first | assumption | exact Ab.lit rfl (by decide)) (by first | assumption | exact Ab.lit rfl (by decide)); clear hr0) | (refine fl_cmp rfl _ _ _ _ _ rfl rfl _ _ _ rfl rfl ?_; intro b hb0; have hb := hb0 _ _ (by first | assumption | exact Ab.lit rfl (by decide)) (by first | assumption | exact Ab.lit rfl (by decide)); clear hb0; (try simp only [*] at hb); subst hb) | (refine fl_same rfl _ _ _ rfl _ _ rfl rfl rfl ?_) | (refine fl_wide rfl _ _ _ rfl _ rfl rfl rfl ?_; intro r n hr0; have hr := hr0 _ (by first | assumption | exact Ab.lit rfl (by decide)); clear hr0) | (refine fl_narrow rfl _ _ _ rfl _ rfl rfl rfl ?_; intro r n hl hr0; have hr := hr0 _ (by first | assumption | exact Ab.lit rfl (by decide)) (by assumption); clear hr0 hl) | (refine fl_neg rfl _ _ rfl _ _ rfl ?_; intro r hr0; have hr := hr0 _ (by first | assumption | exact Ab.lit rfl (by decide)); clear hr0) | (go_at_call 83; (with_reducible_and_instances refine Calls.mono (HFL _) ?_); rintro e w' ⟨rfl, m0, rfl⟩))
    go_ret2
    exact ⟨0, _, rfl, Ab.lit rfl (by decide), rfl⟩
  · rw [c] at HFL
    have h' : ¬ (1 ≤ a ∧ a ≤ 64) := by
      rcases h with h | h
      · rw [c] at h; cases h
      · exact h
    clear h c
    have HIN := fun w' => impl_in a false (by simpa using h') w'
    clear h'
    go_enter Try.func40, Try.ntmps40
    go_wp2_with (first | (refine fl_arith rfl _ _ _ _ _ rfl rfl _ _ _ rfl rfl ?_; intro r n hr0; have hr := hr0 _ _ (by first | assumption | exact Ab.lit rfl (by decide)) (by first | assumption | exact Ab.lit rfl (by decide)); clear hr0) | (refine fl_cmp rfl _ _ _ _ _ rfl rfl _ _ _ rfl rfl ?_; intro b hb0; have hb := hb0 _ _ (by first | assumption | exact Ab.lit rfl (by decide)) (by first | assumption | exact Ab.lit rfl (by decide)); clear hb0; (try simp only [*] at hb); subst hb) | (refine fl_same rfl _ _ _ rfl _ _ rfl rfl rfl ?_) | (refine fl_wide rfl _ _ _ rfl _ rfl rfl rfl ?_; intro r n hr0; have hr := hr0 _ (by first | assumption | exact Ab.lit rfl (by decide)); clear hr0) | (refine fl_narrow rfl _ _ _ rfl _ rfl rfl rfl ?_; intro r n hl hr0; have hr := hr0 _ (by first | assumption | exact Ab.lit rfl (by decide)) (by assumption); clear hr0 hl) | (refine fl_neg rfl _ _ rfl _ _ rfl ?_; intro r hr0; have hr := hr0 _ (by first | assumption | exact Ab.lit rfl (by decide)); clear hr0) | (go_at_call 83; (with_reducible_and_instances refine Calls.mono (HFL _) ?_); rintro e w' ⟨rfl, m0, rfl⟩) | (go_at_call 84; (with_reducible_and_instances refine Calls.mono (HIN _) ?_); rintro e w' ⟨rfl, m9, rfl⟩))
    go_ret2
    exact ⟨0, _, rfl, Ab.lit rfl (by decide), rfl⟩

set_option maxHeartbeats 2000000 in
theorem law_MeridianLong (n f : Nat) (a : Int) (wn : (Lit.float .f32 n).wf = true) (wf : (Lit.float .f32 f).wf = true) (_wa : (Lit.int .i64 a).wf = true) (w : World) : Calls Try.prog 11 #[.float .f32 n, .float .f32 f, .int .i64 a] w (Told w) := by
  have H : ∃ ok D, ∀ w', Calls Try.prog 39 #[.float .f32 n, .float .f32 f, .int .i64 a] w' (GivesIf ok D w') ∧ Calls Try.prog 40 #[.float .f32 n, .float .f32 f, .int .i64 a] w' (GivesIf ok D w') := by
    by_cases h : flatOk (ab .f32 n) (ab .f32 f) = true ∧ 1 ≤ a ∧ a ≤ 64
    · obtain ⟨c, g1, g2⟩ := h
      obtain ⟨p, rfl⟩ : ∃ p : Nat, a = p := ⟨a.toNat, by omega⟩
      refine ⟨_, longM (ab .f32 n) (ab .f32 f) p, fun w' => ⟨spec_MeridianLong_in n f p _ _ (Ab.of_wf wn) (Ab.of_wf wf) (by omega) (by omega) c w', ?_⟩⟩
      exact impl_MeridianLong_in n f p _ _ (Ab.of_wf wn) (Ab.of_wf wf) (by omega) (by omega) c w'
    · have h' : flatOk (ab .f32 n) (ab .f32 f) = false ∨ ¬ (1 ≤ a ∧ a ≤ 64) := by
        cases c : flatOk (ab .f32 n) (ab .f32 f)
        · exact .inl rfl
        · exact .inr fun g => h ⟨c, g⟩
      exact ⟨false, none, fun w' => ⟨spec_MeridianLong_out n f a _ _ (Ab.of_wf wn) (Ab.of_wf wf) h' w', impl_MeridianLong_out n f a _ _ (Ab.of_wf wn) (Ab.of_wf wf) h' w'⟩⟩
  obtain ⟨ok, D, H⟩ := H
  have HS := fun w' => (H w').1
  have HI := fun w' => (H w').2
  clear H
  have eok : (ok != ok) = false := same_bool ok
  go_enter Try.func11, Try.ntmps11
  go_wp2_with (first | (refine fl_arith rfl _ _ _ _ _ rfl rfl _ _ _ rfl rfl ?_; intro r n hr0; have hr := hr0 _ _ (by first | assumption | exact Ab.lit rfl (by decide)) (by first | assumption | exact Ab.lit rfl (by decide)); clear hr0) | (refine fl_cmp rfl _ _ _ _ _ rfl rfl _ _ _ rfl rfl ?_; intro b hb0; have hb := hb0 _ _ (by first | assumption | exact Ab.lit rfl (by decide)) (by first | assumption | exact Ab.lit rfl (by decide)); clear hb0; (try simp only [*] at hb); subst hb) | (refine fl_same rfl _ _ _ rfl _ _ rfl rfl rfl ?_) | (refine fl_wide rfl _ _ _ rfl _ rfl rfl rfl ?_; intro r n hr0; have hr := hr0 _ (by first | assumption | exact Ab.lit rfl (by decide)); clear hr0) | (refine fl_narrow rfl _ _ _ rfl _ rfl rfl rfl ?_; intro r n hl hr0; have hr := hr0 _ (by first | assumption | exact Ab.lit rfl (by decide)) (by assumption); clear hr0 hl) | (refine fl_neg rfl _ _ rfl _ _ rfl ?_; intro r hr0; have hr := hr0 _ (by first | assumption | exact Ab.lit rfl (by decide)); clear hr0) | (go_at_call 39; (with_reducible_and_instances refine Calls.mono (HS _) ?_); rintro e w' ⟨r1, m1, rfl, h1, rfl⟩) | (go_at_call 40; (with_reducible_and_instances refine Calls.mono (HI _) ?_); rintro e w' ⟨r2, m2, rfl, h2, rfl⟩) | (go_at_call 19; refine (same_float _ _ _ (by assumption) (by assumption) _).mono ?_; rintro e w' ⟨rfl, m3, rfl⟩))
  go_ret
  exact ⟨rfl, below_drewN (Below.refl _ _) _⟩

end Go.Proofs.Ytgjcjgaflgmofaa
