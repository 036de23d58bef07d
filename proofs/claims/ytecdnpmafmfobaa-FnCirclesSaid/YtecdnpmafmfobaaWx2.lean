/- Walks: phasors; the law of PhasorOf. No conditions. -/
import Derived.Test.YtecdnpmafmfobaaWm
import Derived.Test.YtecdnpmafmfobaaFg
import Derived.Laws.ComplexArith
namespace Go.Proofs.Ytecdnpmafmfobaa
open Go.RowKit
set_option maxRecDepth 8000

/-! A complex number, widened. -/
theorem run_f2f {P : Program} (w : World) (x : Nat) : ∃ r n, (Conv.floatToFloat .f32 x .f64).run P w = .ok (.float .f64 r) (w.drewN n) ∧ ∀ X, Ab .f32 x X → Ab .f64 r (wideA X) := by
  cases hn : nanW .f32 x with
  | true =>
    obtain ⟨r, hr, hb⟩ := run_nanConv (P := P) w .f64 x
    refine ⟨r, 1, ?_, fun X hx => ?_⟩
    · have h2 : (FloatKind.f32.decode x).isNaN = true := by unfold FloatKind.decode; rw [isNaN_eq]; exact hn
      obtain ⟨s, t, e⟩ := isNaN_dest h2
      simp [Conv.floatToFloat, e, -run_choose, -run_choose_drew, hr]
    · have : X = none := by rw [← hx.eq]; exact ab_none.2 hn
      subst this; exact hb
  | false =>
    refine ⟨FloatKind.f64.encode (FloatKind.f32.decode x), 0, run_floatToFloat w ?_, fun X hx => ?_⟩
    · unfold floatToFloatBits
      rcases wide_nan hn with h | h
      · rcases decode_cases .f32 hn with ⟨s, e⟩ | ⟨s, m, e0, e⟩
        · simp [e]
        · rw [e] at h
          simp [e, h]
      · simp [decode_inf h]
    · have : X = some x := by rw [← hx.eq]; exact ab_some.2 ⟨hn, rfl⟩
      subst this
      refine ⟨ab_some.2 ⟨write_nan .f64 ?_, rfl⟩, encode_lt _ _⟩
      rcases decode_cases .f32 hn with ⟨s, e⟩ | ⟨s, m, e0, e⟩ <;> rw [e] <;> rfl

theorem run_cwide {P : Program} (w : World) (src dst : TypeId) (x y : Nat) (hs : (P.underlying src).isSome = true) (hd : P.underlying dst = some (.complex .f64)) :
    ∃ r s n, (convert src dst (.complex .f32 x y)).run P w = .ok (.complex .f64 r s) (w.drewN n) ∧ (∀ X, Ab .f32 x X → Ab .f64 r (wideA X)) ∧ (∀ Y, Ab .f32 y Y → Ab .f64 s (wideA Y)) := by
  obtain ⟨r, n, h1, hb1⟩ := run_f2f (P := P) w x
  obtain ⟨s, m, h2, hb2⟩ := run_f2f (P := P) (w.drewN n) y
  refine ⟨r, s, n + m, ?_, hb1, hb2⟩
  obtain ⟨u, hs'⟩ := Option.isSome_iff_exists.1 hs
  cases u <;> simp [convert, run_underlying hs', run_underlying hd, Conv.complexToComplex, h1, h2, World.drewN_drewN]

theorem fl_cwide {P : Program} {ops : Array Oper} {rest : List Oper} {o : Oper} {a : Act} {w : World} {Q : Exit → Act → World → Prop} (hg : Region.wanted o (yielded ops a.tmps) = true) (src dst : TypeId) (x : Operand) (ho : o.op = .convert src dst x) (u v : Nat) (hx : a.eval x = .complex .f32 u v)
    (hs : (P.underlying src).isSome = true) (hd : P.underlying dst = some (.complex .f64))
    (h : ∀ r s n, (∀ X, Ab .f32 u X → Ab .f64 r (wideA X)) → (∀ Y, Ab .f32 v Y → Ab .f64 s (wideA Y)) → wpList P ops Q rest (a.put o.dst (.complex .f64 r s)) (w.drewN n)) : wpList P ops Q (o :: rest) a w := by
  refine wpList_wanted hg fun K hK => ?_
  obtain ⟨r, s, n, hr, hb, hc⟩ := run_cwide (P := P) w src dst u v hs hd
  refine wp_value (v := .complex .f64 r s) (w' := w.drewN n) ?_ (hK _ _ (h r s n hb hc))
  simp [execOp, ho, hx, hr]

/-- What PhasorOf returns. -/
def Phased (A B : Option Nat) (w : World) (e : Ending) (w' : World) : Prop := ∃ a b n, e = .returned (.complex .f32 a b) ∧ Ab .f32 a A ∧ Ab .f32 b B ∧ w' = w.drewN n

theorem neq_fin64 (X : Option Nat) : cmpA .neq .f64 (opA .sub .f64 X X) (some 0) = !finA .f64 X := by
  show (ordA .f64 _ _ != some .eq) = !(ordA .f64 _ _ == some .eq)
  rfl

/-- Both sides' sines of a small number in 64 bits. -/
theorem wide_both (x : Nat) (hx : Ab .f64 x (some x)) (hf : finW .f64 x = true) (hs : vl FloatKind.f64.format (rg FloatKind.f64.format x) < 2 ^ 52 * 2 ^ u64) :
    ∃ C, Top .f64 95 C ∧ Ok .f64 C ∧ (∀ w, Calls Try.prog 49 #[.float .f64 x] w (Turns64 C w)) ∧ (∀ w, Calls Try.prog 36 #[.float .f64 x] w (Turns64 C w)) := by
  obtain ⟨nn, hw⟩ := whole_of hf hs
  obtain ⟨e2, e3⟩ := far_not hf hs
  have e1 : cmpA .neq .f64 (opA .sub .f64 (some x) (some x)) (some 0) = false := by rw [neq_fin64, finA_some hx.of_some.2, hf]; rfl
  have m2 := em64
  have m3 := ex64
  refine ⟨sineD (opA .sub .f64 (some x) (some (floatOfInt .f64 nn))), ?_, ?_, fun w => spec_sine_main x nn hw hx e1 e2 e3 w, fun w => impl_sine x nn hw hx w⟩
  · refine top_sineF (ok_if Ok.op Ok.op) ?_
    unfold fracA
    split
    · exact (top_add hw.small top_one (by omega) (by omega)).mono (show (0 : Int) + 1 ≤ 1 by omega)
    · exact hw.small.mono (show (0 : Int) ≤ 1 by omega)
  · unfold sineD sineF negIf
    split
    · exact Ok.neg Ok.op
    · exact Ok.op

theorem wide_all {X : Option Nat} (oX : Ok .f64 X) {t : Int} (h : Num t X) (ht : t ≤ 51) :
    ∃ C, Top .f64 95 C ∧ Ok .f64 C ∧ (∀ x, Ab .f64 x X → ∀ w, Calls Try.prog 49 #[.float .f64 x] w (Turns64 C w)) ∧ (∀ x, Ab .f64 x X → ∀ w, Calls Try.prog 36 #[.float .f64 x] w (Turns64 C w)) := by
  obtain ⟨y, rfl⟩ := h.word
  obtain ⟨C, c1, c2, c3, c4⟩ := wide_both y (Ok.ab oX) (h.top y rfl).1 (small_near h.top ht)
  refine ⟨C, c1, c2, fun x hx w => ?_, fun x hx w => ?_⟩
  · have e := hx.of_some.1
    subst e
    exact c3 w
  · have e := hx.of_some.1
    subst e
    exact c4 w

theorem fits95 {C : Option Nat} (h : Top .f64 95 C) : Fits C := (fits_top h (by omega) (by omega)).1
theorem fits96 {C : Option Nat} (o : Ok .f64 C) (h : Top .f64 95 C) : Fits (opA .sub .f64 (some 0) C) := by
  have m2 := em64
  have m3 := ex64
  exact (fits_top (top_sub o (top_zero 95) h (by omega) (by omega)) (by omega) (by omega)).1

def phaseRe (k : Nat) (C S : Option Nat) : Option Nat := narrowA (match k with | 1 => opA .sub .f64 (some 0) S | 2 => opA .sub .f64 (some 0) C | 3 => S | _ => C)
def phaseIm (k : Nat) (C S : Option Nat) : Option Nat := narrowA (match k with | 1 => C | 2 => opA .sub .f64 (some 0) S | 3 => opA .sub .f64 (some 0) C | _ => S)

set_option maxHeartbeats 8000000 in
theorem spec_phasor_main (x : Nat) (nn : Int) (hw : Whole x nn) (hx : Ab .f64 x (some x)) (F : Option Nat) (K : Nat) (C S : Option Nat)
    (hF : fracA (cmpA .lss .f64 (opA .sub .f64 (some x) (some (floatOfInt .f64 nn))) (some 0)) (opA .sub .f64 (some x) (some (floatOfInt .f64 nn))) = F) (hK : K ≤ 4)
    (hup : ∀ j, j < K → cmpA .geq .f64 (subs F j) (some 4598175219545276416) = true) (hend : cmpA .geq .f64 (subs F K) (some 4598175219545276416) = false)
    (e1 : cmpA .neq .f64 (opA .sub .f64 (some x) (some x)) (some 0) = false) (e2 : cmpA .geq .f64 (some x) (some 4841369599423283200) = false) (e3 : cmpA .leq .f64 (some x) (some 14064741636278059008) = false)
    (HC : ∀ x, Ab .f64 x (opA .sub .f64 (some 4598175219545276416) (subs F K)) → ∀ w, Calls Try.prog 49 #[.float .f64 x] w (Turns64 C w)) (HS : ∀ x, Ab .f64 x (subs F K) → ∀ w, Calls Try.prog 49 #[.float .f64 x] w (Turns64 S w))
    (fC : Fits C) (fS : Fits S) (fC0 : Fits (opA .sub .f64 (some 0) C)) (fS0 : Fits (opA .sub .f64 (some 0) S)) (w : World) :
    Calls Try.prog 33 #[.float .f64 x] w (Phased (phaseRe K C S) (phaseIm K C S) w) := by
  have hc := hw.int
  clear hw
  have hnf := Ab.ofInt .f64 nn
  have HU := Lib.hid hup
  have HE := Lib.hid hend
  clear hup hend
  cases b1 : cmpA .lss .f64 (opA .sub .f64 (some x) (some (floatOfInt .f64 nn))) (some 0)
  all_goals
    rw [b1] at hF
    unfold fracA at hF
    first | rw [if_pos rfl] at hF | rw [if_neg (by decide)] at hF
    have HF := Lib.hid hF
    clear hF
    go_enter Try.func33, Try.ntmps33
    go_wp2_with (first | (refine fl_arith rfl _ _ _ _ _ rfl rfl _ _ _ rfl rfl ?_; intro r n hr0; have hr := hr0 _ _ (by first | assumption | exact Ab.lit rfl (by decide)) (by first | assumption | exact Ab.lit rfl (by decide)); clear hr0) | (refine fl_cmp rfl _ _ _ _ _ rfl rfl _ _ _ rfl rfl ?_; intro b hb0; have hb := hb0 _ _ (by first | assumption | exact Ab.lit rfl (by decide)) (by first | assumption | exact Ab.lit rfl (by decide)); clear hb0; (try simp only [*] at hb); subst hb) | (refine fl_same rfl _ _ _ rfl _ _ rfl rfl rfl ?_) | (refine fl_wide rfl _ _ _ rfl _ rfl rfl rfl ?_; intro r n hr0; have hr := hr0 _ (by first | assumption | exact Ab.lit rfl (by decide)); clear hr0) | (refine fl_narrow rfl _ _ _ rfl _ rfl rfl rfl ?_; intro r n hl hr0; have hr := hr0 _ (by first | assumption | exact Ab.lit rfl (by decide)) (by assumption); clear hr0 hl) | (refine fl_neg rfl _ _ rfl _ _ rfl ?_; intro r hr0; have hr := hr0 _ (by first | assumption | exact Ab.lit rfl (by decide)); clear hr0) | (refine fl_toint rfl _ _ _ rfl _ _ rfl rfl _ rfl _ (by assumption) ?_) | go_in)
    rw [HF.out] at hr
    go_simp
    go_loopw [3, 4] (fun x i wr => ∃ j m r : Nat, j ≤ K ∧ x = .float .f64 r ∧ i = .int .i64 j ∧ Ab .f64 r (subs F j) ∧ wr = w.drewN m) (fun _ i _ => K - (intOf i).toNat)
    case atStart => exact ⟨0, _, _, Nat.zero_le _, rfl, rfl, by assumption, rfl⟩
    case round =>
      obtain ⟨j, m, r0, hj, rfl, rfl, hs, rfl⟩ := hrel
      by_cases hl : j < K
      · have c := HU.out j hl
        go_wp2_with (first | (refine fl_arith rfl _ _ _ _ _ rfl rfl _ _ _ rfl rfl ?_; intro r n hr0; have hr := hr0 _ _ (by first | assumption | exact Ab.lit rfl (by decide)) (by first | assumption | exact Ab.lit rfl (by decide)); clear hr0) | (refine fl_cmp rfl _ _ _ _ _ rfl rfl _ _ _ rfl rfl ?_; intro b hb0; have hb := hb0 _ _ (by first | assumption | exact Ab.lit rfl (by decide)) (by first | assumption | exact Ab.lit rfl (by decide)); clear hb0; (try simp only [*] at hb); subst hb) | (refine fl_same rfl _ _ _ rfl _ _ rfl rfl rfl ?_) | (refine fl_wide rfl _ _ _ rfl _ rfl rfl rfl ?_; intro r n hr0; have hr := hr0 _ (by first | assumption | exact Ab.lit rfl (by decide)); clear hr0) | (refine fl_narrow rfl _ _ _ rfl _ rfl rfl rfl ?_; intro r n hl hr0; have hr := hr0 _ (by first | assumption | exact Ab.lit rfl (by decide)) (by assumption); clear hr0 hl) | (refine fl_neg rfl _ _ rfl _ _ rfl ?_; intro r hr0; have hr := hr0 _ (by first | assumption | exact Ab.lit rfl (by decide)); clear hr0) | go_in)
        go_roundw
        case rel => exact ⟨j + 1, _, _, by omega, rfl, by go_num, hr, rfl⟩
        case measure => simp [intOf]; omega
      · have : j = K := by omega
        subst this
        have c := HE.out
        rcases (by omega : j = 0 ∨ j = 1 ∨ j = 2 ∨ j = 3 ∨ j = 4) with rfl | rfl | rfl | rfl | rfl
        all_goals
          go_wp2_with (first | (refine fl_arith rfl _ _ _ _ _ rfl rfl _ _ _ rfl rfl ?_; intro r n hr0; have hr := hr0 _ _ (by first | assumption | exact Ab.lit rfl (by decide)) (by first | assumption | exact Ab.lit rfl (by decide)); clear hr0) | (refine fl_cmp rfl _ _ _ _ _ rfl rfl _ _ _ rfl rfl ?_; intro b hb0; have hb := hb0 _ _ (by first | assumption | exact Ab.lit rfl (by decide)) (by first | assumption | exact Ab.lit rfl (by decide)); clear hb0; (try simp only [*] at hb); subst hb) | (refine fl_same rfl _ _ _ rfl _ _ rfl rfl rfl ?_) | (refine fl_wide rfl _ _ _ rfl _ rfl rfl rfl ?_; intro r n hr0; have hr := hr0 _ (by first | assumption | exact Ab.lit rfl (by decide)); clear hr0) | (refine fl_narrow rfl _ _ _ rfl _ rfl rfl rfl ?_; intro r n hl hr0; have hr := hr0 _ (by first | assumption | exact Ab.lit rfl (by decide)) (by assumption); clear hr0 hl) | (refine fl_neg rfl _ _ rfl _ _ rfl ?_; intro r hr0; have hr := hr0 _ (by first | assumption | exact Ab.lit rfl (by decide)); clear hr0) | (go_at_call 49; refine Calls.mono (HC _ (by assumption) _) ?_; rintro e w' ⟨rc, mc, rfl, hcc, rfl⟩) | (go_at_call 49; refine Calls.mono (HS _ (by assumption) _) ?_; rintro e w' ⟨rs, ms, rfl, hss, rfl⟩) | go_in)
          go_ret
          exact ⟨_, _, _, rfl, by assumption, by assumption, rfl⟩

set_option maxHeartbeats 8000000 in
theorem impl_phasor_main (x : Nat) (nn : Int) (hw : Whole x nn) (hx : Ab .f64 x (some x)) (F : Option Nat) (K : Nat) (C S : Option Nat)
    (hF : fracA (cmpA .lss .f64 (opA .sub .f64 (some x) (some (floatOfInt .f64 nn))) (some 0)) (opA .sub .f64 (some x) (some (floatOfInt .f64 nn))) = F) (hK : K ≤ 4)
    (hup : ∀ j, j < K → cmpA .geq .f64 (subs F j) (some 4598175219545276416) = true) (hend : cmpA .geq .f64 (subs F K) (some 4598175219545276416) = false)
    (e1 : cmpA .eql .f64 (opA .sub .f64 (some x) (some x)) (some 0) = true) (e2 : cmpA .geq .f64 (absA (some x)) (some 4841369599423283200) = false)
    (HC : ∀ x, Ab .f64 x (opA .sub .f64 (some 4598175219545276416) (subs F K)) → ∀ w, Calls Try.prog 36 #[.float .f64 x] w (Turns64 C w)) (HS : ∀ x, Ab .f64 x (subs F K) → ∀ w, Calls Try.prog 36 #[.float .f64 x] w (Turns64 S w))
    (fC : Fits C) (fS : Fits S) (fC0 : Fits (opA .sub .f64 (some 0) C)) (fS0 : Fits (opA .sub .f64 (some 0) S)) (w : World) :
    Calls Try.prog 13 #[.float .f64 x] w (Phased (phaseRe K C S) (phaseIm K C S) w) := by
  have HFr := fun w' => impl_fraction x nn hw hx w'
  rw [hF] at HFr
  clear hF hw
  have HU := Lib.hid hup
  have HE := Lib.hid hend
  clear hup hend
  go_enter Try.func13, Try.ntmps13
  go_wp2_with (first | (refine fl_arith rfl _ _ _ _ _ rfl rfl _ _ _ rfl rfl ?_; intro r n hr0; have hr := hr0 _ _ (by first | assumption | exact Ab.lit rfl (by decide)) (by first | assumption | exact Ab.lit rfl (by decide)); clear hr0) | (refine fl_cmp rfl _ _ _ _ _ rfl rfl _ _ _ rfl rfl ?_; intro b hb0; have hb := hb0 _ _ (by first | assumption | exact Ab.lit rfl (by decide)) (by first | assumption | exact Ab.lit rfl (by decide)); clear hb0; (try simp only [*] at hb); subst hb) | (refine fl_same rfl _ _ _ rfl _ _ rfl rfl rfl ?_) | (refine fl_wide rfl _ _ _ rfl _ rfl rfl rfl ?_; intro r n hr0; have hr := hr0 _ (by first | assumption | exact Ab.lit rfl (by decide)); clear hr0) | (refine fl_narrow rfl _ _ _ rfl _ rfl rfl rfl ?_; intro r n hl hr0; have hr := hr0 _ (by first | assumption | exact Ab.lit rfl (by decide)) (by assumption); clear hr0 hl) | (refine fl_neg rfl _ _ rfl _ _ rfl ?_; intro r hr0; have hr := hr0 _ (by first | assumption | exact Ab.lit rfl (by decide)); clear hr0) | (go_at_call 31; refine (abs_any _ _ (by assumption) _).mono ?_; rintro e w' ⟨ra, rfl, hra, rfl⟩) | (go_at_call 35; (with_reducible_and_instances refine Calls.mono (HFr _) ?_); rintro e w' ⟨rf, mf, rfl, hf, rfl⟩) | go_in)
  go_simp
  go_loopw [4, 5] (fun x i wr => ∃ j m r : Nat, j ≤ K ∧ x = .float .f64 r ∧ i = .int .i64 j ∧ Ab .f64 r (subs F j) ∧ wr = w.drewN m) (fun _ i _ => K - (intOf i).toNat)
  case atStart => exact ⟨0, _, _, Nat.zero_le _, rfl, rfl, by assumption, rfl⟩
  case round =>
    obtain ⟨j, m, r0, hj, rfl, rfl, hs, rfl⟩ := hrel
    by_cases hl : j < K
    · have c := HU.out j hl
      go_wp2_with (first | (refine fl_arith rfl _ _ _ _ _ rfl rfl _ _ _ rfl rfl ?_; intro r n hr0; have hr := hr0 _ _ (by first | assumption | exact Ab.lit rfl (by decide)) (by first | assumption | exact Ab.lit rfl (by decide)); clear hr0) | (refine fl_cmp rfl _ _ _ _ _ rfl rfl _ _ _ rfl rfl ?_; intro b hb0; have hb := hb0 _ _ (by first | assumption | exact Ab.lit rfl (by decide)) (by first | assumption | exact Ab.lit rfl (by decide)); clear hb0; (try simp only [*] at hb); subst hb) | (refine fl_same rfl _ _ _ rfl _ _ rfl rfl rfl ?_) | (refine fl_wide rfl _ _ _ rfl _ rfl rfl rfl ?_; intro r n hr0; have hr := hr0 _ (by first | assumption | exact Ab.lit rfl (by decide)); clear hr0) | (refine fl_narrow rfl _ _ _ rfl _ rfl rfl rfl ?_; intro r n hl hr0; have hr := hr0 _ (by first | assumption | exact Ab.lit rfl (by decide)) (by assumption); clear hr0 hl) | (refine fl_neg rfl _ _ rfl _ _ rfl ?_; intro r hr0; have hr := hr0 _ (by first | assumption | exact Ab.lit rfl (by decide)); clear hr0) | go_in)
      go_roundw
      case rel => exact ⟨j + 1, _, _, by omega, rfl, by go_num, hr, rfl⟩
      case measure => simp [intOf]; omega
    · have : j = K := by omega
      subst this
      have c := HE.out
      rcases (by omega : j = 0 ∨ j = 1 ∨ j = 2 ∨ j = 3 ∨ j = 4) with rfl | rfl | rfl | rfl | rfl
      all_goals
        go_wp2_with (first | (refine fl_arith rfl _ _ _ _ _ rfl rfl _ _ _ rfl rfl ?_; intro r n hr0; have hr := hr0 _ _ (by first | assumption | exact Ab.lit rfl (by decide)) (by first | assumption | exact Ab.lit rfl (by decide)); clear hr0) | (refine fl_cmp rfl _ _ _ _ _ rfl rfl _ _ _ rfl rfl ?_; intro b hb0; have hb := hb0 _ _ (by first | assumption | exact Ab.lit rfl (by decide)) (by first | assumption | exact Ab.lit rfl (by decide)); clear hb0; (try simp only [*] at hb); subst hb) | (refine fl_same rfl _ _ _ rfl _ _ rfl rfl rfl ?_) | (refine fl_wide rfl _ _ _ rfl _ rfl rfl rfl ?_; intro r n hr0; have hr := hr0 _ (by first | assumption | exact Ab.lit rfl (by decide)); clear hr0) | (refine fl_narrow rfl _ _ _ rfl _ rfl rfl rfl ?_; intro r n hl hr0; have hr := hr0 _ (by first | assumption | exact Ab.lit rfl (by decide)) (by assumption); clear hr0 hl) | (refine fl_neg rfl _ _ rfl _ _ rfl ?_; intro r hr0; have hr := hr0 _ (by first | assumption | exact Ab.lit rfl (by decide)); clear hr0) | (go_at_call 36; refine Calls.mono (HC _ (by assumption) _) ?_; rintro e w' ⟨rc, mc, rfl, hcc, rfl⟩) | (go_at_call 36; refine Calls.mono (HS _ (by assumption) _) ?_; rintro e w' ⟨rs, ms, rfl, hss, rfl⟩) | go_in)
        go_ret
        exact ⟨_, _, _, rfl, by assumption, by assumption, rfl⟩

end Go.Proofs.Ytecdnpmafmfobaa
