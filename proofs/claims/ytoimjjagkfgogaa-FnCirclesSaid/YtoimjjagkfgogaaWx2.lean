/- Walks: phasors; the law of PhasorOf. No conditions. -/
import Derived.Test.YtoimjjagkfgogaaWm
import Derived.Test.YtoimjjagkfgogaaFg
import Derived.Laws.ComplexArith
namespace Go.Proofs.Ytoimjjagkfgogaa
open Go.RowKit
set_option maxRecDepth 8000

/-! A complex number, widened. -/
theorem run_f2f {P : Program} (w : World) (x : Nat) : ∃ r n, (Conv.floatToFloat .f32 x .f64).run P w = .ok (.float .f64 r) (w.drewN n) ∧ ∀ X, Ab .f32 x X → Ab .f64 r (wideA X) := by
  cases hn : nanW .f32 x with
  | true =>
    obtain ⟨r, hr, hb⟩ := run_nanConv (P := P) w .f64 x
    refine ⟨r, 1, ?_, fun X hx => ?_⟩
    · have h2 : (FloatKind.f32.decode x).isNaN = true := by unfold FloatKind.decode; rw [isNaN_eq]; exact hn
      obtain ⟨s, t, e⟩ := isNaN_dest h2
      simp [Conv.floatToFloat, e, -run_choose, -run_choose_drew, hr]
    · have : X = none := by rw [← hx.eq]; exact ab_none.2 hn
      subst this; exact hb
  | false =>
    refine ⟨FloatKind.f64.encode (FloatKind.f32.decode x), 0, run_floatToFloat w ?_, fun X hx => ?_⟩
    · unfold floatToFloatBits
      rcases wide_nan hn with h | h
      · rcases decode_cases .f32 hn with ⟨s, e⟩ | ⟨s, m, e0, e⟩
        · simp [e]
        · rw [e] at h
          simp [e, h]
      · simp [decode_inf h]
    · have : X = some x := by rw [← hx.eq]; exact ab_some.2 ⟨hn, rfl⟩
      subst this
      refine ⟨ab_some.2 ⟨write_nan .f64 ?_, rfl⟩, encode_lt _ _⟩
      rcases decode_cases .f32 hn with ⟨s, e⟩ | ⟨s, m, e0, e⟩ <;> rw [e] <;> rfl

theorem run_cwide {P : Program} (w : World) (src dst : TypeId) (x y : Nat) (hs : (P.underlying src).isSome = true) (hd : P.underlying dst = some (.complex .f64)) :
    ∃ r s n, (convert src dst (.complex .f32 x y)).run P w = .ok (.complex .f64 r s) (w.drewN n) ∧ (∀ X, Ab .f32 x X → Ab .f64 r (wideA X)) ∧ (∀ Y, Ab .f32 y Y → Ab .f64 s (wideA Y)) := by
  obtain ⟨r, n, h1, hb1⟩ := run_f2f (P := P) w x
  obtain ⟨s, m, h2, hb2⟩ := run_f2f (P := P) (w.drewN n) y
  refine ⟨r, s, n + m, ?_, hb1, hb2⟩
  obtain ⟨u, hs'⟩ := Option.isSome_iff_exists.1 hs
  cases u <;> simp [convert, run_underlying hs', run_underlying hd, Conv.complexToComplex, h1, h2, World.drewN_drewN]

theorem fl_cwide {P : Program} {ops : Array Oper} {rest : List Oper} {o : Oper} {a : Act} {w : World} {Q : Exit → Act → World → Prop} (hg : Region.wanted o (yielded ops a.tmps) = true) (src dst : TypeId) (x : Operand) (ho : o.op = .convert src dst x) (u v : Nat) (hx : a.eval x = .complex .f32 u v)
    (hs : (P.underlying src).isSome = true) (hd : P.underlying dst = some (.complex .f64))
    (h : ∀ r s n, (∀ X, Ab .f32 u X → Ab .f64 r (wideA X)) → (∀ Y, Ab .f32 v Y → Ab .f64 s (wideA Y)) → wpList P ops Q rest (a.put o.dst (.complex .f64 r s)) (w.drewN n)) : wpList P ops Q (o :: rest) a w := by
  refine wpList_wanted hg fun K hK => ?_
  obtain ⟨r, s, n, hr, hb, hc⟩ := run_cwide (P := P) w src dst u v hs hd
  refine wp_value (v := .complex .f64 r s) (w' := w.drewN n) ?_ (hK _ _ (h r s n hb hc))
  simp [execOp, ho, hx, hr]

/-- What PhasorOf returns. -/
def Phased (A B : Option Nat) (w : World) (e : Ending) (w' : World) : Prop := ∃ a b n, e = .returned (.complex .f32 a b) ∧ Ab .f32 a A ∧ Ab .f32 b B ∧ w' = w.drewN n

theorem neq_fin64 (X : Option Nat) : cmpA .neq .f64 (opA .sub .f64 X X) (some 0) = !finA .f64 X := by
  show (ordA .f64 _ _ != some .eq) = !(ordA .f64 _ _ == some .eq)
  rfl



theorem fits95 {C : Option Nat} (h : Top .f64 95 C) : Fits C := (fits_top h (by omega) (by omega)).1
theorem fits96 {C : Option Nat} (o : Ok .f64 C) (h : Top .f64 95 C) : Fits (opA .sub .f64 (some 0) C) := by
  have m2 := em64
  have m3 := ex64
  exact (fits_top (top_sub o (top_zero 95) h (by omega) (by omega)) (by omega) (by omega)).1

def phaseRe (k : Nat) (C S : Option Nat) : Option Nat := narrowA (match k with | 1 => opA .sub .f64 (some 0) S | 2 => opA .sub .f64 (some 0) C | 3 => S | _ => C)
def phaseIm (k : Nat) (C S : Option Nat) : Option Nat := narrowA (match k with | 1 => C | 2 => opA .sub .f64 (some 0) S | 3 => opA .sub .f64 (some 0) C | _ => S)


set_option maxHeartbeats 8000000 in
theorem impl_phasor_main (x : Nat) (nn : Int) (hw : Whole x nn) (hx : Ab .f64 x (some x)) (F : Option Nat) (K : Nat) (C S : Option Nat)
    (hF : fracA (cmpA .lss .f64 (opA .sub .f64 (some x) (some (floatOfInt .f64 nn))) (some 0)) (opA .sub .f64 (some x) (some (floatOfInt .f64 nn))) = F) (hK : K ≤ 4)
    (hup : ∀ j, j < K → cmpA .geq .f64 (subs F j) (some 4598175219545276416) = true) (hend : cmpA .geq .f64 (subs F K) (some 4598175219545276416) = false)
    (e1 : cmpA .eql .f64 (opA .sub .f64 (some x) (some x)) (some 0) = true) (e2 : cmpA .geq .f64 (absA (some x)) (some 4841369599423283200) = false)
    (HC : ∀ x, Ab .f64 x (opA .sub .f64 (some 4598175219545276416) (subs F K)) → ∀ w, Calls Try.prog 18 #[.float .f64 x] w (Turns64 C w)) (HS : ∀ x, Ab .f64 x (subs F K) → ∀ w, Calls Try.prog 18 #[.float .f64 x] w (Turns64 S w))
    (fC : Fits C) (fS : Fits S) (fC0 : Fits (opA .sub .f64 (some 0) C)) (fS0 : Fits (opA .sub .f64 (some 0) S)) (w : World) :
    Calls Try.prog 6 #[.float .f64 x] w (Phased (phaseRe K C S) (phaseIm K C S) w) := by
  have HFr := fun w' => impl_fraction x nn hw hx w'
  rw [hF] at HFr
  clear hF hw
  have HU := Lib.hid hup
  have HE := Lib.hid hend
  clear hup hend
  go_enter Try.func6, Try.ntmps6
  go_wp2_with (first | (refine fl_arith rfl _ _ _ _ _ rfl rfl _ _ _ rfl rfl ?_; intro r n hr0; have hr := hr0 _ _ (by first | assumption | exact Ab.lit rfl (by decide)) (by first | assumption | exact Ab.lit rfl (by decide)); clear hr0) | (refine fl_cmp rfl _ _ _ _ _ rfl rfl _ _ _ rfl rfl ?_; intro b hb0; have hb := hb0 _ _ (by first | assumption | exact Ab.lit rfl (by decide)) (by first | assumption | exact Ab.lit rfl (by decide)); clear hb0; (try simp only [*] at hb); subst hb) | (refine fl_same rfl _ _ _ rfl _ _ rfl rfl rfl ?_) | (refine fl_wide rfl _ _ _ rfl _ rfl rfl rfl ?_; intro r n hr0; have hr := hr0 _ (by first | assumption | exact Ab.lit rfl (by decide)); clear hr0) | (refine fl_narrow rfl _ _ _ rfl _ rfl rfl rfl ?_; intro r n hl hr0; have hr := hr0 _ (by first | assumption | exact Ab.lit rfl (by decide)) (by assumption); clear hr0 hl) | (refine fl_neg rfl _ _ rfl _ _ rfl ?_; intro r hr0; have hr := hr0 _ (by first | assumption | exact Ab.lit rfl (by decide)); clear hr0) | (go_at_call 16; refine (abs_any _ _ (by assumption) _).mono ?_; rintro e w' ⟨ra, rfl, hra, rfl⟩) | (go_at_call 17; (with_reducible_and_instances refine Calls.mono (HFr _) ?_); rintro e w' ⟨rf, mf, rfl, hf, rfl⟩) | go_in)
  go_simp
  go_loopw [4, 5] (fun x i wr => ∃ j m r : Nat, j ≤ K ∧ x = .float .f64 r ∧ i = .int .i64 j ∧ Ab .f64 r (subs F j) ∧ wr = w.drewN m) (fun _ i _ => K - (intOf i).toNat)
  case atStart => exact ⟨0, _, _, Nat.zero_le _, rfl, rfl, by assumption, rfl⟩
  case round =>
    obtain ⟨j, m, r0, hj, rfl, rfl, hs, rfl⟩ := hrel
    by_cases hl : j < K
    · have c := HU.out j hl
      go_wp2_with (first | (refine fl_arith rfl _ _ _ _ _ rfl rfl _ _ _ rfl rfl ?_; intro r n hr0; have hr := hr0 _ _ (by first | assumption | exact Ab.lit rfl (by decide)) (by first | assumption | exact Ab.lit rfl (by decide)); clear hr0) | (refine fl_cmp rfl _ _ _ _ _ rfl rfl _ _ _ rfl rfl ?_; intro b hb0; have hb := hb0 _ _ (by first | assumption | exact Ab.lit rfl (by decide)) (by first | assumption | exact Ab.lit rfl (by decide)); clear hb0; (try simp only [*] at hb); subst hb) | (refine fl_same rfl _ _ _ rfl _ _ rfl rfl rfl ?_) | (refine fl_wide rfl _ _ _ rfl _ rfl rfl rfl ?_; intro r n hr0; have hr := hr0 _ (by first | assumption | exact Ab.lit rfl (by decide)); clear hr0) | (refine fl_narrow rfl _ _ _ rfl _ rfl rfl rfl ?_; intro r n hl hr0; have hr := hr0 _ (by first | assumption | exact Ab.lit rfl (by decide)) (by assumption); clear hr0 hl) | (refine fl_neg rfl _ _ rfl _ _ rfl ?_; intro r hr0; have hr := hr0 _ (by first | assumption | exact Ab.lit rfl (by decide)); clear hr0) | go_in)
      go_roundw
      case rel => exact ⟨j + 1, _, _, by omega, rfl, by go_num, hr, rfl⟩
      case measure => simp [intOf]; omega
    · have : j = K := by omega
      subst this
      have c := HE.out
      rcases (by omega : j = 0 ∨ j = 1 ∨ j = 2 ∨ j = 3 ∨ j = 4) with rfl | rfl | rfl | rfl | rfl
      all_goals
        go_wp2_with (first | (refine fl_arith rfl _ _ _ _ _ rfl rfl _ _ _ rfl rfl ?_; intro r n hr0; have hr := hr0 _ _ (by first | assumption | exact Ab.lit rfl (by decide)) (by first | assumption | exact Ab.lit rfl (by decide)); clear hr0) | (refine fl_cmp rfl _ _ _ _ _ rfl rfl _ _ _ rfl rfl ?_; intro b hb0; have hb := hb0 _ _ (by first | assumption | exact Ab.lit rfl (by decide)) (by first | assumption | exact Ab.lit rfl (by decide)); clear hb0; (try simp only [*] at hb); subst hb) | (refine fl_same rfl _ _ _ rfl _ _ rfl rfl rfl ?_) | (refine fl_wide rfl _ _ _ rfl _ rfl rfl rfl ?_; intro r n hr0; have hr := hr0 _ (by first | assumption | exact Ab.lit rfl (by decide)); clear hr0) | (refine fl_narrow rfl _ _ _ rfl _ rfl rfl rfl ?_; intro r n hl hr0; have hr := hr0 _ (by first | assumption | exact Ab.lit rfl (by decide)) (by assumption); clear hr0 hl) | (refine fl_neg rfl _ _ rfl _ _ rfl ?_; intro r hr0; have hr := hr0 _ (by first | assumption | exact Ab.lit rfl (by decide)); clear hr0) | (go_at_call 18; refine Calls.mono (HC _ (by assumption) _) ?_; rintro e w' ⟨rc, mc, rfl, hcc, rfl⟩) | (go_at_call 18; refine Calls.mono (HS _ (by assumption) _) ?_; rintro e w' ⟨rs, ms, rfl, hss, rfl⟩) | go_in)
        go_ret
        exact ⟨_, _, _, rfl, by assumption, by assumption, rfl⟩

end Go.Proofs.Ytoimjjagkfgogaa
