/- Walks: tenths of decibels; phasors whose steps are known. No conditions. -/
import Derived.Test.YtoimjjagkfgogaaWg2
import Derived.Test.YtoimjjagkfgogaaFp
import Derived.Test.YtoimjjagkfgogaaWm
import Derived.Test.YtoimjjagkfgogaaWx2
import Derived.Test.YtoimjjagkfgogaaFg3
import Derived.Test.YtoimjjagkfgogaaCa
namespace Go.Proofs.Ytoimjjagkfgogaa.cir
open Go.RowKit
open fast (Tenths)
set_option maxRecDepth 8000

set_option maxHeartbeats 1000000 in
theorem tenths_at (x n : Nat) (h : Tenths x n) (w : World) : Calls Try.prog 12 #[.float .f32 x] w fun e w' => e = .returned (.tuple #[.int .i64 ((n : Int) - 1000), .bool true]) ∧ ∃ m, w' = w.drewN m := by
  obtain ⟨hx, hf, c, a, b, W, hS, hW, hq⟩ := h
  have hfa : finA .f32 (some x) = true := by rw [finA_some hx.of_some.2]; exact hf
  have HI := fun w' => impl_log_main x (some x) _ hx rfl a b hS w'
  have hL : ∃ L, logA (dbls (halfs (some (wideW x)) a) b) ((a : Int) - b) = L := ⟨_, rfl⟩
  obtain ⟨L, hL⟩ := hL
  rw [show wideA (some x) = some (wideW x) from rfl, hL] at HI
  rw [hL] at hW
  clear hS hL
  have HT : ∀ r, Ab .f64 r (integralA .down (opA .add .f64 (opA .mul .f64 L (some 4631308968768463603)) (some 4602678819172646912))) → floatToIntVal .f64 r .i64 = some ((n : Int) - 1000) := fun r hr => by
    have hr' : Ab .f64 r (some W) := by rw [← hW]; exact hr
    have e := hr'.of_some.1
    subst e
    exact hq
  have HFI := fun w' => impl_finite x (some x) hx w'
  rw [hfa] at HFI
  clear hW hq hf
  generalize ((n : Int) - 1000) = q at *
  go_enter Try.func12, Try.ntmps12
  go_wp2_with (first | (refine fl_arith rfl _ _ _ _ _ rfl rfl _ _ _ rfl rfl ?_; intro r n hr0; have hr := hr0 _ _ (by first | assumption | exact Ab.lit rfl (by decide)) (by first | assumption | exact Ab.lit rfl (by decide)); clear hr0) | (refine fl_cmp rfl _ _ _ _ _ rfl rfl _ _ _ rfl rfl ?_; intro b hb0; have hb := hb0 _ _ (by first | assumption | exact Ab.lit rfl (by decide)) (by first | assumption | exact Ab.lit rfl (by decide)); clear hb0; (try simp only [*] at hb); subst hb) | (refine fl_same rfl _ _ _ rfl _ _ rfl rfl rfl ?_) | (refine fl_wide rfl _ _ _ rfl _ rfl rfl rfl ?_; intro r n hr0; have hr := hr0 _ (by first | assumption | exact Ab.lit rfl (by decide)); clear hr0) | (refine fl_narrow rfl _ _ _ rfl _ rfl rfl rfl ?_; intro r n hl hr0; have hr := hr0 _ (by first | assumption | exact Ab.lit rfl (by decide)) (by assumption); clear hr0 hl) | (refine fl_neg rfl _ _ rfl _ _ rfl ?_; intro r hr0; have hr := hr0 _ (by first | assumption | exact Ab.lit rfl (by decide)); clear hr0) | (go_at_call 22; (with_reducible_and_instances refine Calls.mono (HFI _) ?_); rintro e w' ⟨rfl, n1, rfl⟩) | (go_at_call 24; (with_reducible_and_instances refine Calls.mono (HI _) ?_); rintro e w' ⟨rs, ms, rfl, hs, rfl⟩) | (refine fl_toint rfl _ _ _ rfl _ _ rfl rfl _ rfl _ (HT _ (by assumption)) ?_) | (refine fl_integral rfl 32 _ _ rfl _ rfl _ _ ext_floor ?_; intro r n hr0; have hr := hr0 _ (by first | assumption | exact Ab.lit rfl (by decide)); clear hr0) | go_in)
  exact bodyPost_ret (v := .tuple #[.int .i64 q, .bool true]) (by simp [results, Try.results12, go_sem]) rfl ⟨rfl, _, rfl⟩

/-- A number below 2^52 whose whole part is known. -/
def wholeOk (t : Nat) (nn : Int) : Bool := finW .f64 t && !nanW .f64 t && decide (t < 18446744073709551616) && !cmpA .geq .f64 (absA (some t)) (some 4841369599423283200) && (floatToIntVal .f64 t .i64 == some nn)
theorem wholeOk_spec {t : Nat} {nn : Int} (h : wholeOk t nn = true) : finW .f64 t = true ∧ Ab .f64 t (some t) ∧ cmpA .geq .f64 (absA (some t)) (some 4841369599423283200) = false ∧ Whole t nn := by
  simp only [wholeOk, Bool.and_eq_true, Bool.not_eq_true', decide_eq_true_eq, beq_iff_eq] at h
  obtain ⟨⟨⟨⟨h1, h2⟩, h3⟩, h4⟩, h5⟩ := h
  obtain ⟨n', hw⟩ := whole_of h1 ((far_same h1).2 h4)
  have e := hw.int
  rw [h5] at e
  cases e
  exact ⟨h1, Ab.lit h2 h3, h4, hw⟩
def sineOk (t c : Nat) : Bool := wholeOk t 0 && (sineD (opA .sub .f64 (some t) (some (floatOfInt .f64 0))) == some c)
theorem sine_at {t c : Nat} (h : sineOk t c = true) : ∀ x, Ab .f64 x (some t) → ∀ w, Calls Try.prog 18 #[.float .f64 x] w (Turns64 (some c) w) := by
  simp only [sineOk, Bool.and_eq_true, beq_iff_eq] at h
  obtain ⟨h1, h2⟩ := h
  obtain ⟨_, g2, _, g4⟩ := wholeOk_spec h1
  intro x hx w
  have e := hx.of_some.1
  subst e
  have := impl_sine x 0 g4 g2 w
  rw [h2] at this
  exact this
def fitsB (X : Option Nat) : Bool := match X with | some v => !tooGreat v | none => true
theorem fitsB_spec {X : Option Nat} (h : fitsB X = true) : Fits X := fun b hb => by
  subst hb
  simpa [fitsB] using h

/-- All steps of a phasor: x the number, nn its whole part, f its fraction, K the quarters, t1 t2 what the sines are taken of, c s the sines, re im the parts. -/
def phasorOk (x : Nat) (nn : Int) (f : Nat) : Bool := wholeOk x nn && (fracA (cmpA .lss .f64 (opA .sub .f64 (some x) (some (floatOfInt .f64 nn))) (some 0)) (opA .sub .f64 (some x) (some (floatOfInt .f64 nn))) == some f)
def quarterOk (f K t1 t2 : Nat) : Bool := decide (K ≤ 4) && (List.range K).all (fun j => cmpA .geq .f64 (subs (some f) j) (some 4598175219545276416)) && !cmpA .geq .f64 (subs (some f) K) (some 4598175219545276416) && (subs (some f) K == some t2) && (opA .sub .f64 (some 4598175219545276416) (some t2) == some t1)
def partsOk (K c s re im : Nat) : Bool := fitsB (some c) && fitsB (some s) && fitsB (opA .sub .f64 (some 0) (some c)) && fitsB (opA .sub .f64 (some 0) (some s)) && (phaseRe K (some c) (some s) == some re) && (phaseIm K (some c) (some s) == some im)
theorem phasor_at {x : Nat} {nn : Int} {f K t1 t2 c s re im : Nat} (h1 : phasorOk x nn f = true) (h2 : quarterOk f K t1 t2 = true) (h3 : sineOk t1 c = true) (h4 : sineOk t2 s = true) (h5 : partsOk K c s re im = true) (w : World) :
    Calls Try.prog 6 #[.float .f64 x] w (Cx (some re) (some im) w) := by
  simp only [phasorOk, Bool.and_eq_true, beq_iff_eq] at h1
  obtain ⟨a1, a2⟩ := h1
  obtain ⟨g1, g2, g3, g4⟩ := wholeOk_spec a1
  simp only [quarterOk, Bool.and_eq_true, decide_eq_true_eq, Bool.not_eq_true', List.all_eq_true, List.mem_range, beq_iff_eq] at h2
  obtain ⟨⟨⟨⟨b1, b2⟩, b3⟩, b4⟩, b5⟩ := h2
  simp only [partsOk, Bool.and_eq_true, beq_iff_eq] at h5
  obtain ⟨⟨⟨⟨⟨d1, d2⟩, d3⟩, d4⟩, d5⟩, d6⟩ := h5
  have hf : cmpA .eql .f64 (opA .sub .f64 (some x) (some x)) (some 0) = true := by
    have := finA_some g2.of_some.2
    rw [g1] at this
    exact this
  have HC : ∀ y, Ab .f64 y (opA .sub .f64 (some 4598175219545276416) (subs (some f) K)) → ∀ w, Calls Try.prog 18 #[.float .f64 y] w (Turns64 (some c) w) := fun y hy w => sine_at h3 y (by rw [← b5, ← b4]; exact hy) w
  have HS : ∀ y, Ab .f64 y (subs (some f) K) → ∀ w, Calls Try.prog 18 #[.float .f64 y] w (Turns64 (some s) w) := fun y hy w => sine_at h4 y (by rw [← b4]; exact hy) w
  have := impl_phasor_main x nn g4 g2 (some f) K (some c) (some s) a2 b1 b2 b3 hf g3 HC HS (fitsB_spec d1) (fitsB_spec d2) (fitsB_spec d3) (fitsB_spec d4) w
  rw [d5, d6] at this
  exact this
end Go.Proofs.Ytoimjjagkfgogaa.cir
