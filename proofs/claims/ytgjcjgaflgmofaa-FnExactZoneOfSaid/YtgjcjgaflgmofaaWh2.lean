/- Walks: zones; the law of ZoneOf. No conditions. -/
import Derived.Test.YtgjcjgaflgmofaaFk
namespace Go.Proofs.Ytgjcjgaflgmofaa
open Go.RowKit
set_option maxRecDepth 8000

theorem spec_in60 (a : Int) (b : Bool) (hb : b = decide (1 ≤ a ∧ a ≤ 60)) (w : World) : Calls Try.prog 71 #[.int .i64 a, .int .i64 1, .int .i64 60] w (Draws (.bool b) w) := by
  by_cases h1 : 1 ≤ a
  · by_cases h2 : a ≤ 60
    · have e : b = true := by rw [hb]; simp [h1, h2]
      rw [e]
      clear hb e
      go_enter Try.func71, Try.ntmps71
      go_wp2
      go_ret
      exact ⟨by simp <;> omega, 0, rfl⟩
    · have e : b = false := by rw [hb]; simp [h2]
      rw [e]
      clear hb e
      go_enter Try.func71, Try.ntmps71
      go_wp2
      go_ret
      exact ⟨by simp <;> omega, 0, rfl⟩
  · have e : b = false := by rw [hb]; simp [h1]
    rw [e]
    clear hb e
    go_enter Try.func71, Try.ntmps71
    go_wp2
    go_ret
    exact ⟨by first | rfl | (simp <;> omega), 0, rfl⟩

theorem impl_in60 (a : Int) (b : Bool) (hb : b = decide (1 ≤ a ∧ a ≤ 60)) (w : World) : Calls Try.prog 84 #[.int .i64 a, .int .i64 1, .int .i64 60] w (Draws (.bool b) w) := by
  by_cases h1 : 1 ≤ a
  · by_cases h2 : a ≤ 60
    · have e : b = true := by rw [hb]; simp [h1, h2]
      rw [e]
      clear hb e
      go_enter Try.func84, Try.ntmps84
      go_wp2
      go_ret
      exact ⟨by simp <;> omega, 0, rfl⟩
    · have e : b = false := by rw [hb]; simp [h2]
      rw [e]
      clear hb e
      go_enter Try.func84, Try.ntmps84
      go_wp2
      go_ret
      exact ⟨by simp <;> omega, 0, rfl⟩
  · have e : b = false := by rw [hb]; simp [h1]
    rw [e]
    clear hb e
    go_enter Try.func84, Try.ntmps84
    go_wp2
    go_ret
    exact ⟨by first | rfl | (simp <;> omega), 0, rfl⟩

def Zoned (ok : Bool) (n : Int) (M : Option Nat) (w : World) (e : Ending) (w' : World) : Prop :=
  ∃ r m, e = .returned (.tuple #[.int .i64 n, .float .f32 r, .bool ok]) ∧ Ab .f32 r M ∧ w' = w.drewN m
def middleA (n z : Int) : Option Nat := opA .sub .f32 (opA .quo .f32 (opA .add .f32 (some (floatOfInt .f32 n)) (some 1056964608)) (some (floatOfInt .f32 z))) (some 1056964608)

set_option maxHeartbeats 2000000 in
theorem spec_ZoneOf_out (x : Nat) (z : Int) (X : Option Nat) (hx : Ab .f32 x X) (h : nearA X = false ∨ ¬ (1 ≤ z ∧ z ≤ 60)) (w : World) : Calls Try.prog 35 #[.float .f32 x, .int .i64 z] w (Zoned false 0 (some 0) w) := by
  have HE := fun w' => spec_WrapEast x X hx w'
  cases c : nearA X
  · rw [c] at HE
    clear h
    go_enter Try.func35, Try.ntmps35
    go_wp2_with (first | (refine fl_arith rfl _ _ _ _ _ rfl rfl _ _ _ rfl rfl ?_; intro r n hr0; have hr := hr0 _ _ (by first | assumption | exact Ab.lit rfl (by decide)) (by first | assumption | exact Ab.lit rfl (by decide)); clear hr0) | (refine fl_cmp rfl _ _ _ _ _ rfl rfl _ _ _ rfl rfl ?_; intro b hb0; have hb := hb0 _ _ (by first | assumption | exact Ab.lit rfl (by decide)) (by first | assumption | exact Ab.lit rfl (by decide)); clear hb0; (try simp only [*] at hb); subst hb) | (refine fl_same rfl _ _ _ rfl _ _ rfl rfl rfl ?_) | (refine fl_wide rfl _ _ _ rfl _ rfl rfl rfl ?_; intro r n hr0; have hr := hr0 _ (by first | assumption | exact Ab.lit rfl (by decide)); clear hr0) | (refine fl_narrow rfl _ _ _ rfl _ rfl rfl rfl ?_; intro r n hl hr0; have hr := hr0 _ (by first | assumption | exact Ab.lit rfl (by decide)) (by assumption); clear hr0 hl) | (refine fl_neg rfl _ _ rfl _ _ rfl ?_; intro r hr0; have hr := hr0 _ (by first | assumption | exact Ab.lit rfl (by decide)); clear hr0) | (go_at_call 33; (with_reducible_and_instances refine Calls.mono (HE _) ?_); rintro e w' ⟨r1, m1, rfl, h1, rfl⟩))
    exact bodyPost_ret (v := .tuple #[.int .i64 0, .float .f32 0, .bool false]) (by simp [results, Try.results35, go_sem]) rfl ⟨0, _, rfl, Ab.lit rfl (by decide), rfl⟩
  · rw [c] at HE
    have h' : ¬ (1 ≤ z ∧ z ≤ 60) := by
      rcases h with h | h
      · rw [c] at h; cases h
      · exact h
    clear h c
    have HIN := fun w' => spec_in60 z false (by simpa using h') w'
    clear h'
    go_enter Try.func35, Try.ntmps35
    go_wp2_with (first | (refine fl_arith rfl _ _ _ _ _ rfl rfl _ _ _ rfl rfl ?_; intro r n hr0; have hr := hr0 _ _ (by first | assumption | exact Ab.lit rfl (by decide)) (by first | assumption | exact Ab.lit rfl (by decide)); clear hr0) | (refine fl_cmp rfl _ _ _ _ _ rfl rfl _ _ _ rfl rfl ?_; intro b hb0; have hb := hb0 _ _ (by first | assumption | exact Ab.lit rfl (by decide)) (by first | assumption | exact Ab.lit rfl (by decide)); clear hb0; (try simp only [*] at hb); subst hb) | (refine fl_same rfl _ _ _ rfl _ _ rfl rfl rfl ?_) | (refine fl_wide rfl _ _ _ rfl _ rfl rfl rfl ?_; intro r n hr0; have hr := hr0 _ (by first | assumption | exact Ab.lit rfl (by decide)); clear hr0) | (refine fl_narrow rfl _ _ _ rfl _ rfl rfl rfl ?_; intro r n hl hr0; have hr := hr0 _ (by first | assumption | exact Ab.lit rfl (by decide)) (by assumption); clear hr0 hl) | (refine fl_neg rfl _ _ rfl _ _ rfl ?_; intro r hr0; have hr := hr0 _ (by first | assumption | exact Ab.lit rfl (by decide)); clear hr0) | (go_at_call 33; (with_reducible_and_instances refine Calls.mono (HE _) ?_); rintro e w' ⟨r1, m1, rfl, h1, rfl⟩) | (go_at_call 71; (with_reducible_and_instances refine Calls.mono (HIN _) ?_); rintro e w' ⟨rfl, m9, rfl⟩) | go_in)
    exact bodyPost_ret (v := .tuple #[.int .i64 0, .float .f32 0, .bool false]) (by simp [results, Try.results35, go_sem]) rfl ⟨0, _, rfl, Ab.lit rfl (by decide), rfl⟩

set_option maxHeartbeats 4000000 in
theorem spec_ZoneOf_in (x : Nat) (z q : Int) (X : Option Nat) (V : Nat) (hx : Ab .f32 x X) (c : nearA X = true) (h1 : 1 ≤ z) (h2 : z ≤ 60) (hV : integralA .down (wideA (shareA (wrapA X) z)) = some V) (i64 : floatToIntVal .f64 V .i64 = some q)
    (_i32 : floatToIntVal .f32 (FloatKind.f32.encode (FloatKind.f64.decode V)) .i64 = some q) (hF : Fits (some V)) (_hn : -2097152 ≤ q ∧ q ≤ 2097152) (w : World) :
    Calls Try.prog 35 #[.float .f32 x, .int .i64 z] w (Zoned true (if z - 1 < q then z - 1 else q) (middleA (if z - 1 < q then z - 1 else q) z) w) := by
  have HE := fun w' => spec_WrapEast x X hx w'
  rw [c] at HE
  have HIN := fun w' => spec_in60 z true (by simp; omega) w'
  have hF' : Fits (integralA .down (wideA (opA .mul .f32 (opA .add .f32 (wrapA X) (some 1056964608)) (some (floatOfInt .f32 z))))) := by
    have : integralA .down (wideA (opA .mul .f32 (opA .add .f32 (wrapA X) (some 1056964608)) (some (floatOfInt .f32 z)))) = some V := hV
    rw [this]; exact hF
  have HT : ∀ r, Ab .f64 r (integralA .down (wideA (opA .mul .f32 (opA .add .f32 (wrapA X) (some 1056964608)) (some (floatOfInt .f32 z))))) → floatToIntVal .f64 r .i64 = some q := fun r hr => by
    have e : integralA .down (wideA (opA .mul .f32 (opA .add .f32 (wrapA X) (some 1056964608)) (some (floatOfInt .f32 z)))) = some V := hV
    rw [e] at hr
    rw [hr.of_some.1]; exact i64
  have hz := Ab.ofInt .f32 z
  clear hV i64 _i32 hF c
  unfold middleA
  by_cases hg : z - 1 < q
  · rw [if_pos hg]
    have hn1 := Ab.ofInt .f32 (z - 1)
    go_enter Try.func35, Try.ntmps35
    go_wp2_with (first | (refine fl_arith rfl _ _ _ _ _ rfl rfl _ _ _ rfl rfl ?_; intro r n hr0; have hr := hr0 _ _ (by first | assumption | exact Ab.lit rfl (by decide)) (by first | assumption | exact Ab.lit rfl (by decide)); clear hr0) | (refine fl_cmp rfl _ _ _ _ _ rfl rfl _ _ _ rfl rfl ?_; intro b hb0; have hb := hb0 _ _ (by first | assumption | exact Ab.lit rfl (by decide)) (by first | assumption | exact Ab.lit rfl (by decide)); clear hb0; (try simp only [*] at hb); subst hb) | (refine fl_same rfl _ _ _ rfl _ _ rfl rfl rfl ?_) | (refine fl_wide rfl _ _ _ rfl _ rfl rfl rfl ?_; intro r n hr0; have hr := hr0 _ (by first | assumption | exact Ab.lit rfl (by decide)); clear hr0) | (refine fl_narrow rfl _ _ _ rfl _ rfl rfl rfl ?_; intro r n hl hr0; have hr := hr0 _ (by first | assumption | exact Ab.lit rfl (by decide)) (by assumption); clear hr0 hl) | (refine fl_neg rfl _ _ rfl _ _ rfl ?_; intro r hr0; have hr := hr0 _ (by first | assumption | exact Ab.lit rfl (by decide)); clear hr0) | (go_at_call 33; (with_reducible_and_instances refine Calls.mono (HE _) ?_); rintro e w' ⟨r1, m1, rfl, g1, rfl⟩) | (go_at_call 71; (with_reducible_and_instances refine Calls.mono (HIN _) ?_); rintro e w' ⟨rfl, m9, rfl⟩) | (refine fl_toint rfl _ _ _ rfl _ _ rfl rfl _ rfl _ (HT _ (by assumption)) ?_) | (refine fl_integral rfl 93 _ _ rfl _ rfl _ _ ext_floor ?_; intro r n hr0; have hr := hr0 _ (by first | assumption | exact Ab.lit rfl (by decide)); clear hr0) | go_in)
    exact bodyPost_ret (v := .tuple #[.int .i64 (z - 1), .float .f32 r, .bool true]) (by simp [results, Try.results35, go_sem]) rfl ⟨r, _, rfl, hr, rfl⟩
  · rw [if_neg hg]
    have hn1 := Ab.ofInt .f32 q
    go_enter Try.func35, Try.ntmps35
    go_wp2_with (first | (refine fl_arith rfl _ _ _ _ _ rfl rfl _ _ _ rfl rfl ?_; intro r n hr0; have hr := hr0 _ _ (by first | assumption | exact Ab.lit rfl (by decide)) (by first | assumption | exact Ab.lit rfl (by decide)); clear hr0) | (refine fl_cmp rfl _ _ _ _ _ rfl rfl _ _ _ rfl rfl ?_; intro b hb0; have hb := hb0 _ _ (by first | assumption | exact Ab.lit rfl (by decide)) (by first | assumption | exact Ab.lit rfl (by decide)); clear hb0; (try simp only [*] at hb); subst hb) | (refine fl_same rfl _ _ _ rfl _ _ rfl rfl rfl ?_) | (refine fl_wide rfl _ _ _ rfl _ rfl rfl rfl ?_; intro r n hr0; have hr := hr0 _ (by first | assumption | exact Ab.lit rfl (by decide)); clear hr0) | (refine fl_narrow rfl _ _ _ rfl _ rfl rfl rfl ?_; intro r n hl hr0; have hr := hr0 _ (by first | assumption | exact Ab.lit rfl (by decide)) (by assumption); clear hr0 hl) | (refine fl_neg rfl _ _ rfl _ _ rfl ?_; intro r hr0; have hr := hr0 _ (by first | assumption | exact Ab.lit rfl (by decide)); clear hr0) | (go_at_call 33; (with_reducible_and_instances refine Calls.mono (HE _) ?_); rintro e w' ⟨r1, m1, rfl, g1, rfl⟩) | (go_at_call 71; (with_reducible_and_instances refine Calls.mono (HIN _) ?_); rintro e w' ⟨rfl, m9, rfl⟩) | (refine fl_toint rfl _ _ _ rfl _ _ rfl rfl _ rfl _ (HT _ (by assumption)) ?_) | (refine fl_integral rfl 93 _ _ rfl _ rfl _ _ ext_floor ?_; intro r n hr0; have hr := hr0 _ (by first | assumption | exact Ab.lit rfl (by decide)); clear hr0) | go_in)
    exact bodyPost_ret (v := .tuple #[.int .i64 q, .float .f32 r, .bool true]) (by simp [results, Try.results35, go_sem]) rfl ⟨r, _, rfl, hr, rfl⟩

set_option maxHeartbeats 2000000 in
theorem impl_ZoneOf_out (x : Nat) (z : Int) (X : Option Nat) (hx : Ab .f32 x X) (h : nearA X = false ∨ ¬ (1 ≤ z ∧ z ≤ 60)) (w : World) : Calls Try.prog 36 #[.float .f32 x, .int .i64 z] w (Zoned false 0 (some 0) w) := by
  have HE := fun w' => impl_WrapEast x X hx w'
  cases c : nearA X
  · rw [c] at HE
    clear h
    go_enter Try.func36, Try.ntmps36
    go_wp2_with (first | (refine fl_arith rfl _ _ _ _ _ rfl rfl _ _ _ rfl rfl ?_; intro r n hr0; have hr := hr0 _ _ (by first | assumption | exact Ab.lit rfl (by decide)) (by first | assumption | exact Ab.lit rfl (by decide)); clear hr0) | (refine fl_cmp rfl _ _ _ _ _ rfl rfl _ _ _ rfl rfl ?_; intro b hb0; have hb := hb0 _ _ (by first | assumption | exact Ab.lit rfl (by decide)) (by first | assumption | exact Ab.lit rfl (by decide)); clear hb0; (try simp only [*] at hb); subst hb) | (refine fl_same rfl _ _ _ rfl _ _ rfl rfl rfl ?_) | (refine fl_wide rfl _ _ _ rfl _ rfl rfl rfl ?_; intro r n hr0; have hr := hr0 _ (by first | assumption | exact Ab.lit rfl (by decide)); clear hr0) | (refine fl_narrow rfl _ _ _ rfl _ rfl rfl rfl ?_; intro r n hl hr0; have hr := hr0 _ (by first | assumption | exact Ab.lit rfl (by decide)) (by assumption); clear hr0 hl) | (refine fl_neg rfl _ _ rfl _ _ rfl ?_; intro r hr0; have hr := hr0 _ (by first | assumption | exact Ab.lit rfl (by decide)); clear hr0) | (go_at_call 34; (with_reducible_and_instances refine Calls.mono (HE _) ?_); rintro e w' ⟨r1, m1, rfl, h1, rfl⟩))
    exact bodyPost_ret (v := .tuple #[.int .i64 0, .float .f32 0, .bool false]) (by simp [results, Try.results36, go_sem]) rfl ⟨0, _, rfl, Ab.lit rfl (by decide), rfl⟩
  · rw [c] at HE
    have h' : ¬ (1 ≤ z ∧ z ≤ 60) := by
      rcases h with h | h
      · rw [c] at h; cases h
      · exact h
    clear h c
    have HIN := fun w' => impl_in60 z false (by simpa using h') w'
    clear h'
    go_enter Try.func36, Try.ntmps36
    go_wp2_with (first | (refine fl_arith rfl _ _ _ _ _ rfl rfl _ _ _ rfl rfl ?_; intro r n hr0; have hr := hr0 _ _ (by first | assumption | exact Ab.lit rfl (by decide)) (by first | assumption | exact Ab.lit rfl (by decide)); clear hr0) | (refine fl_cmp rfl _ _ _ _ _ rfl rfl _ _ _ rfl rfl ?_; intro b hb0; have hb := hb0 _ _ (by first | assumption | exact Ab.lit rfl (by decide)) (by first | assumption | exact Ab.lit rfl (by decide)); clear hb0; (try simp only [*] at hb); subst hb) | (refine fl_same rfl _ _ _ rfl _ _ rfl rfl rfl ?_) | (refine fl_wide rfl _ _ _ rfl _ rfl rfl rfl ?_; intro r n hr0; have hr := hr0 _ (by first | assumption | exact Ab.lit rfl (by decide)); clear hr0) | (refine fl_narrow rfl _ _ _ rfl _ rfl rfl rfl ?_; intro r n hl hr0; have hr := hr0 _ (by first | assumption | exact Ab.lit rfl (by decide)) (by assumption); clear hr0 hl) | (refine fl_neg rfl _ _ rfl _ _ rfl ?_; intro r hr0; have hr := hr0 _ (by first | assumption | exact Ab.lit rfl (by decide)); clear hr0) | (go_at_call 34; (with_reducible_and_instances refine Calls.mono (HE _) ?_); rintro e w' ⟨r1, m1, rfl, h1, rfl⟩) | (go_at_call 84; (with_reducible_and_instances refine Calls.mono (HIN _) ?_); rintro e w' ⟨rfl, m9, rfl⟩) | go_in)
    exact bodyPost_ret (v := .tuple #[.int .i64 0, .float .f32 0, .bool false]) (by simp [results, Try.results36, go_sem]) rfl ⟨0, _, rfl, Ab.lit rfl (by decide), rfl⟩

set_option maxHeartbeats 4000000 in
theorem impl_ZoneOf_in (x : Nat) (z q : Int) (X : Option Nat) (V : Nat) (hx : Ab .f32 x X) (c : nearA X = true) (h1 : 1 ≤ z) (h2 : z ≤ 60) (hV : integralA .down (wideA (shareA (wrapA X) z)) = some V) (_i64 : floatToIntVal .f64 V .i64 = some q)
    (i32 : floatToIntVal .f32 (FloatKind.f32.encode (FloatKind.f64.decode V)) .i64 = some q) (hF : Fits (some V)) (_hn : -2097152 ≤ q ∧ q ≤ 2097152) (w : World) :
    Calls Try.prog 36 #[.float .f32 x, .int .i64 z] w (Zoned true (if z - 1 < q then z - 1 else q) (middleA (if z - 1 < q then z - 1 else q) z) w) := by
  have HE := fun w' => impl_WrapEast x X hx w'
  rw [c] at HE
  have HIN := fun w' => impl_in60 z true (by simp; omega) w'
  have hF' : Fits (integralA .down (wideA (opA .mul .f32 (opA .add .f32 (wrapA X) (some 1056964608)) (some (floatOfInt .f32 z))))) := by
    have : integralA .down (wideA (opA .mul .f32 (opA .add .f32 (wrapA X) (some 1056964608)) (some (floatOfInt .f32 z)))) = some V := hV
    rw [this]; exact hF
  have HT : ∀ r, Ab .f32 r (narrowA (integralA .down (wideA (opA .mul .f32 (opA .add .f32 (wrapA X) (some 1056964608)) (some (floatOfInt .f32 z)))))) → floatToIntVal .f32 r .i64 = some q := fun r hr => by
    have e : integralA .down (wideA (opA .mul .f32 (opA .add .f32 (wrapA X) (some 1056964608)) (some (floatOfInt .f32 z)))) = some V := hV
    rw [e] at hr
    have hr' : Ab .f32 r (some (FloatKind.f32.encode (FloatKind.f64.decode V))) := hr
    rw [hr'.of_some.1]; exact i32
  have hz := Ab.ofInt .f32 z
  clear hV _i64 i32 hF c
  unfold middleA
  by_cases hg : z - 1 < q
  · rw [if_pos hg]
    have hn1 := Ab.ofInt .f32 (z - 1)
    go_enter Try.func36, Try.ntmps36
    go_wp2_with (first | (refine fl_arith rfl _ _ _ _ _ rfl rfl _ _ _ rfl rfl ?_; intro r n hr0; have hr := hr0 _ _ (by first | assumption | exact Ab.lit rfl (by decide)) (by first | assumption | exact Ab.lit rfl (by decide)); clear hr0) | (refine fl_cmp rfl _ _ _ _ _ rfl rfl _ _ _ rfl rfl ?_; intro b hb0; have hb := hb0 _ _ (by first | assumption | exact Ab.lit rfl (by decide)) (by first | assumption | exact Ab.lit rfl (by decide)); clear hb0; (try simp only [*] at hb); subst hb) | (refine fl_same rfl _ _ _ rfl _ _ rfl rfl rfl ?_) | (refine fl_wide rfl _ _ _ rfl _ rfl rfl rfl ?_; intro r n hr0; have hr := hr0 _ (by first | assumption | exact Ab.lit rfl (by decide)); clear hr0) | (refine fl_narrow rfl _ _ _ rfl _ rfl rfl rfl ?_; intro r n hl hr0; have hr := hr0 _ (by first | assumption | exact Ab.lit rfl (by decide)) (by assumption); clear hr0 hl) | (refine fl_neg rfl _ _ rfl _ _ rfl ?_; intro r hr0; have hr := hr0 _ (by first | assumption | exact Ab.lit rfl (by decide)); clear hr0) | (go_at_call 34; (with_reducible_and_instances refine Calls.mono (HE _) ?_); rintro e w' ⟨r1, m1, rfl, g1, rfl⟩) | (go_at_call 84; (with_reducible_and_instances refine Calls.mono (HIN _) ?_); rintro e w' ⟨rfl, m9, rfl⟩) | (refine fl_toint rfl _ _ _ rfl _ _ rfl rfl _ rfl _ (HT _ (by assumption)) ?_) | (refine fl_integral rfl 93 _ _ rfl _ rfl _ _ ext_floor ?_; intro r n hr0; have hr := hr0 _ (by first | assumption | exact Ab.lit rfl (by decide)); clear hr0) | go_in)
    exact bodyPost_ret (v := .tuple #[.int .i64 (z - 1), .float .f32 r, .bool true]) (by simp [results, Try.results36, go_sem]) rfl ⟨r, _, rfl, hr, rfl⟩
  · rw [if_neg hg]
    have hn1 := Ab.ofInt .f32 q
    go_enter Try.func36, Try.ntmps36
    go_wp2_with (first | (refine fl_arith rfl _ _ _ _ _ rfl rfl _ _ _ rfl rfl ?_; intro r n hr0; have hr := hr0 _ _ (by first | assumption | exact Ab.lit rfl (by decide)) (by first | assumption | exact Ab.lit rfl (by decide)); clear hr0) | (refine fl_cmp rfl _ _ _ _ _ rfl rfl _ _ _ rfl rfl ?_; intro b hb0; have hb := hb0 _ _ (by first | assumption | exact Ab.lit rfl (by decide)) (by first | assumption | exact Ab.lit rfl (by decide)); clear hb0; (try simp only [*] at hb); subst hb) | (refine fl_same rfl _ _ _ rfl _ _ rfl rfl rfl ?_) | (refine fl_wide rfl _ _ _ rfl _ rfl rfl rfl ?_; intro r n hr0; have hr := hr0 _ (by first | assumption | exact Ab.lit rfl (by decide)); clear hr0) | (refine fl_narrow rfl _ _ _ rfl _ rfl rfl rfl ?_; intro r n hl hr0; have hr := hr0 _ (by first | assumption | exact Ab.lit rfl (by decide)) (by assumption); clear hr0 hl) | (refine fl_neg rfl _ _ rfl _ _ rfl ?_; intro r hr0; have hr := hr0 _ (by first | assumption | exact Ab.lit rfl (by decide)); clear hr0) | (go_at_call 34; (with_reducible_and_instances refine Calls.mono (HE _) ?_); rintro e w' ⟨r1, m1, rfl, g1, rfl⟩) | (go_at_call 84; (with_reducible_and_instances refine Calls.mono (HIN _) ?_); rintro e w' ⟨rfl, m9, rfl⟩) | (refine fl_toint rfl _ _ _ rfl _ _ rfl rfl _ rfl _ (HT _ (by assumption)) ?_) | (refine fl_integral rfl 93 _ _ rfl _ rfl _ _ ext_floor ?_; intro r n hr0; have hr := hr0 _ (by first | assumption | exact Ab.lit rfl (by decide)); clear hr0) | go_in)
    exact bodyPost_ret (v := .tuple #[.int .i64 q, .float .f32 r, .bool true]) (by simp [results, Try.results36, go_sem]) rfl ⟨r, _, rfl, hr, rfl⟩

set_option maxHeartbeats 2000000 in
theorem law_ZoneOf (x : Nat) (z : Int) (wx : (Lit.float .f32 x).wf = true) (_wz : (Lit.int .i64 z).wf = true) (w : World) : Calls Try.prog 9 #[.float .f32 x, .int .i64 z] w (Told w) := by
  have hx := Ab.of_wf wx
  have H : ∃ ok q M, ∀ w', Calls Try.prog 35 #[.float .f32 x, .int .i64 z] w' (Zoned ok q M w') ∧ Calls Try.prog 36 #[.float .f32 x, .int .i64 z] w' (Zoned ok q M w') := by
    by_cases h : nearA (ab .f32 x) = true ∧ 1 ≤ z ∧ z ≤ 60
    · obtain ⟨c, g1, g2⟩ := h
      have c' := c
      unfold nearA at c'
      simp only [Bool.and_eq_true] at c'
      obtain ⟨r, k1, k2, k3⟩ := wrap_small hx c'.1 c'.2
      obtain ⟨V, q, a1, a2, a3, a4, _, a6, a7⟩ := share_int k1 k2 k3 z g1 g2
      exact ⟨_, _, _, fun w' => ⟨spec_ZoneOf_in x z q _ V hx c g1 g2 a1 a2 a3 a4 ⟨a6, a7⟩ w', impl_ZoneOf_in x z q _ V hx c g1 g2 a1 a2 a3 a4 ⟨a6, a7⟩ w'⟩⟩
    · have h' : nearA (ab .f32 x) = false ∨ ¬ (1 ≤ z ∧ z ≤ 60) := by
        cases c : nearA (ab .f32 x)
        · exact .inl rfl
        · exact .inr fun g => h ⟨c, g⟩
      exact ⟨_, _, _, fun w' => ⟨spec_ZoneOf_out x z _ hx h' w', impl_ZoneOf_out x z _ hx h' w'⟩⟩
  obtain ⟨ok, q, M, H⟩ := H
  have HS := fun w' => (H w').1
  have HI := fun w' => (H w').2
  clear H hx
  have eok : (ok != ok) = false := same_bool ok
  have eq2 : (q != q) = false := same_int q
  go_enter Try.func9, Try.ntmps9
  go_wp2_with (first | (refine fl_arith rfl _ _ _ _ _ rfl rfl _ _ _ rfl rfl ?_; intro r n hr0; have hr := hr0 _ _ (by first | assumption | exact Ab.lit rfl (by decide)) (by first | assumption | exact Ab.lit rfl (by decide)); clear hr0) | (refine fl_cmp rfl _ _ _ _ _ rfl rfl _ _ _ rfl rfl ?_; intro b hb0; have hb := hb0 _ _ (by first | assumption | exact Ab.lit rfl (by decide)) (by first | assumption | exact Ab.lit rfl (by decide)); clear hb0; (try simp only [*] at hb); subst hb) | (refine fl_same rfl _ _ _ rfl _ _ rfl rfl rfl ?_) | (refine fl_wide rfl _ _ _ rfl _ rfl rfl rfl ?_; intro r n hr0; have hr := hr0 _ (by first | assumption | exact Ab.lit rfl (by decide)); clear hr0) | (refine fl_narrow rfl _ _ _ rfl _ rfl rfl rfl ?_; intro r n hl hr0; have hr := hr0 _ (by first | assumption | exact Ab.lit rfl (by decide)) (by assumption); clear hr0 hl) | (refine fl_neg rfl _ _ rfl _ _ rfl ?_; intro r hr0; have hr := hr0 _ (by first | assumption | exact Ab.lit rfl (by decide)); clear hr0) | (go_at_call 35; (with_reducible_and_instances refine Calls.mono (HS _) ?_); rintro e w' ⟨r1, m1, rfl, h1, rfl⟩) | (go_at_call 36; (with_reducible_and_instances refine Calls.mono (HI _) ?_); rintro e w' ⟨r2, m2, rfl, h2, rfl⟩) | (go_at_call 19; refine (same_float _ _ _ (by assumption) (by assumption) _).mono ?_; rintro e w' ⟨rfl, m3, rfl⟩))
  go_ret
  exact ⟨rfl, below_drewN (Below.refl _ _) _⟩

end Go.Proofs.Ytgjcjgaflgmofaa
