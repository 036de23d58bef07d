/- Walks: powers; the bytes that choose them. No conditions. -/
import Derived.Test.YtnkogheibofboaaWk2
import Derived.Test.YtnkogheibofboaaFd
namespace Go.Proofs.Ytnkogheibofboaa
open Go.RowKit
set_option maxRecDepth 8000

set_option maxHeartbeats 4000000 in
theorem impl_Exp (x : Nat) (X : Option Nat) (hx : Ab .f32 x X) (c1 : cmpA .gtr .f32 X (some 1128792064) = false) (c2 : cmpA .lss .f32 X (some 3276275712) = false) (hF : Fits (preE X)) (w : World) :
    Calls Try.prog 42 #[.float .f32 x] w (Turns (narrowA (preE X)) w) := by
  have hF' : Fits (squares (polyE (opA .quo .f64 (wideA X) (some 4643211215818981376)) 12) 8) := hF
  clear hF
  unfold preE
  generalize hT : opA .quo .f64 (wideA X) (some 4643211215818981376) = T at hF' ⊢
  have HE := Lib.hid hT
  clear hT
  go_enter Try.func42, Try.ntmps42
  go_wp2_with (first | (refine fl_arith rfl _ _ _ _ _ rfl rfl _ _ _ rfl rfl ?_; intro r n hr0; have hr := hr0 _ _ (by first | assumption | exact Ab.lit rfl (by decide)) (by first | assumption | exact Ab.lit rfl (by decide)); clear hr0) | (refine fl_cmp rfl _ _ _ _ _ rfl rfl _ _ _ rfl rfl ?_; intro b hb0; have hb := hb0 _ _ (by first | assumption | exact Ab.lit rfl (by decide)) (by first | assumption | exact Ab.lit rfl (by decide)); clear hb0; (try simp only [*] at hb); subst hb) | (refine fl_same rfl _ _ _ rfl _ _ rfl rfl rfl ?_) | (refine fl_wide rfl _ _ _ rfl _ rfl rfl rfl ?_; intro r n hr0; have hr := hr0 _ (by first | assumption | exact Ab.lit rfl (by decide)); clear hr0) | (refine fl_narrow rfl _ _ _ rfl _ rfl rfl rfl ?_; intro r n hl hr0; have hr := hr0 _ (by first | assumption | exact Ab.lit rfl (by decide)) (by assumption); clear hr0 hl) | (refine fl_neg rfl _ _ rfl _ _ rfl ?_; intro r hr0; have hr := hr0 _ (by first | assumption | exact Ab.lit rfl (by decide)); clear hr0) | go_in)
  rw [HE.out] at hr
  have HT := Lib.hid hr
  clear hr
  go_simp
  go_loopw [4, 5] (fun p i wr => ∃ q m r : Nat, q ≤ 12 ∧ p = .float .f64 r ∧ i = .int .i64 (12 - (q : Int)) ∧ Ab .f64 r (polyE T q) ∧ wr = w.drewN m) (fun _ i _ => (intOf i).toNat)
  case atStart => exact ⟨0, _, _, Nat.zero_le _, rfl, rfl, Ab.lit rfl (by decide), rfl⟩
  case round =>
    obtain ⟨q, m, r0, hq, rfl, rfl, hp, rfl⟩ := hrel
    by_cases hl : q < 12
    · have ht := HT.out
      have hkf := Ab.ofInt .f64 (12 - (q : Int))
      go_wp2_with (first | (refine fl_arith rfl _ _ _ _ _ rfl rfl _ _ _ rfl rfl ?_; intro r n hr0; have hr := hr0 _ _ (by first | assumption | exact Ab.lit rfl (by decide)) (by first | assumption | exact Ab.lit rfl (by decide)); clear hr0) | (refine fl_cmp rfl _ _ _ _ _ rfl rfl _ _ _ rfl rfl ?_; intro b hb0; have hb := hb0 _ _ (by first | assumption | exact Ab.lit rfl (by decide)) (by first | assumption | exact Ab.lit rfl (by decide)); clear hb0; (try simp only [*] at hb); subst hb) | (refine fl_same rfl _ _ _ rfl _ _ rfl rfl rfl ?_) | (refine fl_wide rfl _ _ _ rfl _ rfl rfl rfl ?_; intro r n hr0; have hr := hr0 _ (by first | assumption | exact Ab.lit rfl (by decide)); clear hr0) | (refine fl_narrow rfl _ _ _ rfl _ rfl rfl rfl ?_; intro r n hl hr0; have hr := hr0 _ (by first | assumption | exact Ab.lit rfl (by decide)) (by assumption); clear hr0 hl) | (refine fl_neg rfl _ _ rfl _ _ rfl ?_; intro r hr0; have hr := hr0 _ (by first | assumption | exact Ab.lit rfl (by decide)); clear hr0) | go_in)
      go_roundw
      case rel => exact ⟨q + 1, _, _, by omega, rfl, by go_num, hr, rfl⟩
      case measure => simp [intOf]; omega
    · have : q = 12 := by omega
      subst this
      go_wp2_with (first | (refine fl_arith rfl _ _ _ _ _ rfl rfl _ _ _ rfl rfl ?_; intro r n hr0; have hr := hr0 _ _ (by first | assumption | exact Ab.lit rfl (by decide)) (by first | assumption | exact Ab.lit rfl (by decide)); clear hr0) | (refine fl_cmp rfl _ _ _ _ _ rfl rfl _ _ _ rfl rfl ?_; intro b hb0; have hb := hb0 _ _ (by first | assumption | exact Ab.lit rfl (by decide)) (by first | assumption | exact Ab.lit rfl (by decide)); clear hb0; (try simp only [*] at hb); subst hb) | (refine fl_same rfl _ _ _ rfl _ _ rfl rfl rfl ?_) | (refine fl_wide rfl _ _ _ rfl _ rfl rfl rfl ?_; intro r n hr0; have hr := hr0 _ (by first | assumption | exact Ab.lit rfl (by decide)); clear hr0) | (refine fl_narrow rfl _ _ _ rfl _ rfl rfl rfl ?_; intro r n hl hr0; have hr := hr0 _ (by first | assumption | exact Ab.lit rfl (by decide)) (by assumption); clear hr0 hl) | (refine fl_neg rfl _ _ rfl _ _ rfl ?_; intro r hr0; have hr := hr0 _ (by first | assumption | exact Ab.lit rfl (by decide)); clear hr0) | go_in)
      go_simp
      go_loopw [4, 28] (fun p i wr => ∃ q m r : Nat, q ≤ 8 ∧ p = .float .f64 r ∧ i = .int .i64 (q : Int) ∧ Ab .f64 r (squares (polyE T 12) q) ∧ wr = w.drewN m) (fun _ i _ => 8 - (intOf i).toNat)
      case atStart => exact ⟨0, _, _, Nat.zero_le _, rfl, rfl, hp, rfl⟩
      case round =>
        clear hp
        obtain ⟨q, m, r0, hq, rfl, rfl, hp, rfl⟩ := hrel
        by_cases hl : q < 8
        · go_wp2_with (first | (refine fl_arith rfl _ _ _ _ _ rfl rfl _ _ _ rfl rfl ?_; intro r n hr0; have hr := hr0 _ _ (by first | assumption | exact Ab.lit rfl (by decide)) (by first | assumption | exact Ab.lit rfl (by decide)); clear hr0) | (refine fl_cmp rfl _ _ _ _ _ rfl rfl _ _ _ rfl rfl ?_; intro b hb0; have hb := hb0 _ _ (by first | assumption | exact Ab.lit rfl (by decide)) (by first | assumption | exact Ab.lit rfl (by decide)); clear hb0; (try simp only [*] at hb); subst hb) | (refine fl_same rfl _ _ _ rfl _ _ rfl rfl rfl ?_) | (refine fl_wide rfl _ _ _ rfl _ rfl rfl rfl ?_; intro r n hr0; have hr := hr0 _ (by first | assumption | exact Ab.lit rfl (by decide)); clear hr0) | (refine fl_narrow rfl _ _ _ rfl _ rfl rfl rfl ?_; intro r n hl hr0; have hr := hr0 _ (by first | assumption | exact Ab.lit rfl (by decide)) (by assumption); clear hr0 hl) | (refine fl_neg rfl _ _ rfl _ _ rfl ?_; intro r hr0; have hr := hr0 _ (by first | assumption | exact Ab.lit rfl (by decide)); clear hr0) | go_in)
          go_roundw
          case rel => exact ⟨q + 1, _, _, by omega, rfl, by go_num, hr, rfl⟩
          case measure => simp [intOf]; omega
        · have : q = 8 := by omega
          subst this
          go_wp2_with (first | (refine fl_arith rfl _ _ _ _ _ rfl rfl _ _ _ rfl rfl ?_; intro r n hr0; have hr := hr0 _ _ (by first | assumption | exact Ab.lit rfl (by decide)) (by first | assumption | exact Ab.lit rfl (by decide)); clear hr0) | (refine fl_cmp rfl _ _ _ _ _ rfl rfl _ _ _ rfl rfl ?_; intro b hb0; have hb := hb0 _ _ (by first | assumption | exact Ab.lit rfl (by decide)) (by first | assumption | exact Ab.lit rfl (by decide)); clear hb0; (try simp only [*] at hb); subst hb) | (refine fl_same rfl _ _ _ rfl _ _ rfl rfl rfl ?_) | (refine fl_wide rfl _ _ _ rfl _ rfl rfl rfl ?_; intro r n hr0; have hr := hr0 _ (by first | assumption | exact Ab.lit rfl (by decide)); clear hr0) | (refine fl_narrow rfl _ _ _ rfl _ rfl rfl rfl ?_; intro r n hl hr0; have hr := hr0 _ (by first | assumption | exact Ab.lit rfl (by decide)) (by assumption); clear hr0 hl) | (refine fl_neg rfl _ _ rfl _ _ rfl ?_; intro r hr0; have hr := hr0 _ (by first | assumption | exact Ab.lit rfl (by decide)); clear hr0) | go_in)
          go_ret
          exact ⟨_, _, rfl, hr, rfl⟩

set_option maxHeartbeats 1000000 in
theorem gap_any (x y : Nat) (X Y : Option Nat) (hx : Ab .f64 x X) (hy : Ab .f64 y Y) (w : World) : Calls Try.prog 43 #[.float .f64 x, .float .f64 y] w (Turns64 (gapA X Y) w) := by
  unfold gapA
  cases c : cmpA .lss .f64 X Y
  all_goals
    go_enter Try.func43, Try.ntmps43
    go_wp2_with (first | (refine fl_arith rfl _ _ _ _ _ rfl rfl _ _ _ rfl rfl ?_; intro r n hr0; have hr := hr0 _ _ (by first | assumption | exact Ab.lit rfl (by decide)) (by first | assumption | exact Ab.lit rfl (by decide)); clear hr0) | (refine fl_cmp rfl _ _ _ _ _ rfl rfl _ _ _ rfl rfl ?_; intro b hb0; have hb := hb0 _ _ (by first | assumption | exact Ab.lit rfl (by decide)) (by first | assumption | exact Ab.lit rfl (by decide)); clear hb0; (try simp only [*] at hb); subst hb) | (refine fl_same rfl _ _ _ rfl _ _ rfl rfl rfl ?_) | (refine fl_wide rfl _ _ _ rfl _ rfl rfl rfl ?_; intro r n hr0; have hr := hr0 _ (by first | assumption | exact Ab.lit rfl (by decide)); clear hr0) | (refine fl_narrow rfl _ _ _ rfl _ rfl rfl rfl ?_; intro r n hl hr0; have hr := hr0 _ (by first | assumption | exact Ab.lit rfl (by decide)) (by assumption); clear hr0 hl) | (refine fl_neg rfl _ _ rfl _ _ rfl ?_; intro r hr0; have hr := hr0 _ (by first | assumption | exact Ab.lit rfl (by decide)); clear hr0) | go_in)
    go_ret
    exact ⟨_, _, rfl, hr, rfl⟩

/-- A list of bytes that came in. -/
def Bytes (w : World) (a : Option Addr) (n : Nat) : Prop := n = 0 ∨ ∃ (b : Addr) (zs : Nat → Int), a = some b ∧ ∀ i, i < n → 0 ≤ zs i ∧ zs i < 256 ∧ w.cell? (b.add i) = some (.int .u8 (zs i))

theorem Bytes.drewN {w : World} {a : Option Addr} {n : Nat} (h : Bytes w a n) (m : Nat) : Bytes (w.drewN m) a n := h

set_option maxHeartbeats 1000000 in
theorem long_any (a b : Option Addr) (n n2 cap cap2 : Nat) (w : World) : Calls Try.prog 40 #[.slice a n cap, .slice b n2 cap2] w fun e w' => e = .returned (.bool (decide (1048576 < n) || decide (1048576 < n2))) ∧ w = w' := by
  by_cases h1 : 1048576 < n
  · go_enter Try.func40, Try.ntmps40
    go_wp2
    go_ret
    exact ⟨by simp, rfl⟩
  · by_cases h2 : 1048576 < n2
    · go_enter Try.func40, Try.ntmps40
      go_wp2
      go_ret
      exact ⟨by simp [h1, h2]; omega, rfl⟩
    · go_enter Try.func40, Try.ntmps40
      go_wp2
      go_ret
      exact ⟨by simp [h1, h2]; omega, rfl⟩

set_option maxHeartbeats 1000000 in
/-- A choice by the first byte, or by none. -/
theorem at65 (a : Option Addr) (n cap : Nat) (w : World) (hB : Bytes w a n) : ∃ k : Nat, k < 65 ∧ ∀ m, Calls Try.prog 41 #[.slice a n cap, .int .i64 0, .int .i64 65] (w.drewN m) fun e w' => e = .returned (.int .i64 (k : Int)) ∧ w.drewN m = w' := by
  rcases hB with rfl | ⟨b, zs, rfl, hz⟩
  · refine ⟨11, by omega, fun m => ?_⟩
    go_enter Try.func41, Try.ntmps41
    go_wp2
    go_ret
    exact ⟨rfl, rfl⟩
  · by_cases h0 : 0 < n
    · obtain ⟨z1, z2, z3⟩ := hz 0 h0
      generalize zs 0 = z at *
      clear hz
      have e : b.add 0 = b := by simp [Addr.add]
      rw [e] at z3
      refine ⟨(z % 65).toNat, by omega, fun m => ?_⟩
      go_enter Try.func41, Try.ntmps41
      go_wp2
      go_ret
      have e1 : ((z % 65).toNat : Int) = z % 65 := by omega
      exact ⟨by rw [e1]; rfl, rfl⟩
    · have : n = 0 := by omega
      subst this
      refine ⟨11, by omega, fun m => ?_⟩
      go_enter Try.func41, Try.ntmps41
      go_wp2
      go_ret
      exact ⟨rfl, rfl⟩

/-- What the tables say of a choice. -/
theorem exp_spec (i : Nat) (h : i < 129) : Fits (preE (some (xw i))) ∧ narrowA (preE (some (xw i))) = some (ew i) ∧ cmpA .gtr .f32 (some (xw i)) (some 1128792064) = false ∧ cmpA .lss .f32 (some (xw i)) (some 3276275712) = false := by
  have := exp_all i h
  simp only [expOk, Bool.and_eq_true, Bool.not_eq_true'] at this
  obtain ⟨⟨h1, h2⟩, h3⟩ := this
  obtain ⟨f1, f2⟩ := narrowsTo_spec h1
  exact ⟨f1, f2, h2, h3⟩

theorem exp_at (i : Nat) (h : i < 129) (r : Nat) (hr : Ab .f32 r (some (xw i))) (w : World) : Calls Try.prog 42 #[.float .f32 r] w (Turns (some (ew i)) w) := by
  obtain ⟨h1, h2, h3, h4⟩ := exp_spec i h
  rw [← h2]
  exact impl_Exp r _ hr h3 h4 h1 w

/-- Where the loops of the logarithm stop is known. -/
theorem log_at (i : Nat) (h : i < 65) (r : Nat) (hr : Ab .f32 r (some (ew (i + 32)))) (w : World) : Calls Try.prog 16 #[.float .f32 r] w (Turns (some (lw i)) w) := by
  have hk := log_all i h
  simp only [logOk, Bool.and_eq_true, Bool.not_eq_true', List.all_eq_true, List.mem_range, decide_eq_true_eq] at hk
  obtain ⟨⟨⟨⟨⟨⟨⟨⟨k1, k2⟩, k3⟩, k4⟩, k5⟩, k6⟩, k7⟩, k8⟩, k9⟩ := hk
  obtain ⟨n1, n2⟩ := narrowsTo_spec k5
  have e := hr.of_some.1
  have hn := hr.of_some.2
  have hm : Mid (-149) 128 (some (wideW (ew (i + 32)))) := mid_of k7 k8 k9
  obtain ⟨a, b, hS⟩ := stops hm
  generalize aT.getD i 0 = a0 at *
  generalize bT.getD i 0 = b0 at *
  have ea : a = a0 := by
    rcases Nat.lt_trichotomy a a0 with hlt | heq | hgt
    · have := k1 a hlt
      rw [show halfs (wideA (some (ew (i + 32)))) a = halfs (some (wideW (ew (i + 32)))) a from rfl, hS.upEnd] at this
      cases this
    · exact heq
    · have := hS.up a0 hgt
      rw [show halfs (some (wideW (ew (i + 32)))) a0 = halfs (wideA (some (ew (i + 32)))) a0 from rfl, k2] at this
      cases this
  subst ea
  have eb : b = b0 := by
    rcases Nat.lt_trichotomy b b0 with hlt | heq | hgt
    · have := k3 b hlt
      rw [show dbls (halfs (wideA (some (ew (i + 32)))) a) b = dbls (halfs (some (wideW (ew (i + 32)))) a) b from rfl, hS.downEnd] at this
      cases this
    · exact heq
    · have := hS.down b0 hgt
      rw [show dbls (halfs (some (wideW (ew (i + 32)))) a) b0 = dbls (halfs (wideA (some (ew (i + 32)))) a) b0 from rfl, k4] at this
      cases this
  subst eb
  have hfa : finA .f32 (some (ew (i + 32))) = true := by rw [finA_some hn]; exact k7
  have c1 : cmpA .eql .f32 (some (ew (i + 32))) (some 0) = false := by
    have k : (FloatKind.f32.format.order (ew (i + 32)) 0 == some .gt) = true := k6
    show (FloatKind.f32.format.order (ew (i + 32)) 0 == some .eq) = false
    revert k
    cases FloatKind.f32.format.order (ew (i + 32)) 0 with
    | none => decide
    | some o => cases o <;> decide
  have c2 : cmpA .lss .f32 (some (ew (i + 32))) (some 0) = false := by
    have k : (FloatKind.f32.format.order (ew (i + 32)) 0 == some .gt) = true := k6
    show (FloatKind.f32.format.order (ew (i + 32)) 0 == some .lt) = false
    revert k
    cases FloatKind.f32.format.order (ew (i + 32)) 0 with
    | none => decide
    | some o => cases o <;> decide
  have e2 : cmpA .neq .f32 (some (ew (i + 32))) (some (ew (i + 32))) = false := by rw [neq_self hr]; rfl
  have HI : ∀ w', Calls Try.prog 53 #[.float .f32 r] w' (Turns64 (logA (dbls (halfs (some (wideW (ew (i + 32)))) a) b) ((a : Int) - b)) w') := fun w' => impl_log_main r (some (ew (i + 32))) _ hr rfl a b hS w'
  rw [← n2]
  have n1' : Fits (logA (dbls (halfs (some (wideW (ew (i + 32)))) a) b) ((a : Int) - b)) := n1
  show Calls _ _ _ _ (Turns (narrowA (logA (dbls (halfs (some (wideW (ew (i + 32)))) a) b) ((a : Int) - b))) w)
  generalize logA (dbls (halfs (some (wideW (ew (i + 32)))) a) b) ((a : Int) - b) = Lg at *
  clear k1 k2 k3 k4 k5 k6 k7 k8 k9 hS hm n1 n2 e
  generalize ew (i + 32) = x at *
  have HF := fun w' => impl_finite r (some x) hr w'
  rw [hfa] at HF
  go_enter Try.func16, Try.ntmps16
  go_wp2_with (first | (refine fl_arith rfl _ _ _ _ _ rfl rfl _ _ _ rfl rfl ?_; intro r n hr0; have hr := hr0 _ _ (by first | assumption | exact Ab.lit rfl (by decide)) (by first | assumption | exact Ab.lit rfl (by decide)); clear hr0) | (refine fl_cmp rfl _ _ _ _ _ rfl rfl _ _ _ rfl rfl ?_; intro b hb0; have hb := hb0 _ _ (by first | assumption | exact Ab.lit rfl (by decide)) (by first | assumption | exact Ab.lit rfl (by decide)); clear hb0; (try simp only [*] at hb); subst hb) | (refine fl_same rfl _ _ _ rfl _ _ rfl rfl rfl ?_) | (refine fl_wide rfl _ _ _ rfl _ rfl rfl rfl ?_; intro r n hr0; have hr := hr0 _ (by first | assumption | exact Ab.lit rfl (by decide)); clear hr0) | (refine fl_narrow rfl _ _ _ rfl _ rfl rfl rfl ?_; intro r n hl hr0; have hr := hr0 _ (by first | assumption | exact Ab.lit rfl (by decide)) (by assumption); clear hr0 hl) | (refine fl_neg rfl _ _ rfl _ _ rfl ?_; intro r hr0; have hr := hr0 _ (by first | assumption | exact Ab.lit rfl (by decide)); clear hr0) | (go_at_call 52; (with_reducible_and_instances refine Calls.mono (HF _) ?_); rintro e w' ⟨rfl, n1, rfl⟩) | (go_at_call 53; (with_reducible_and_instances refine Calls.mono (HI _) ?_); rintro e w' ⟨rs, ms, rfl, hs, rfl⟩) | go_in)
  go_ret
  exact ⟨_, _, rfl, by assumption, rfl⟩

end Go.Proofs.Ytnkogheibofboaa
