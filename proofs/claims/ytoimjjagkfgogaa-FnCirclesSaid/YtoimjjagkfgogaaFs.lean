/- Whole parts and fractions of 64-bit numbers. No conditions. -/
import Derived.Test.YtoimjjagkfgogaaFt
import Derived.Laws.FloatArith
namespace Go.Proofs.Ytoimjjagkfgogaa
open Go.RowKit
open Ieee (Toward Datum)

def u64 : Nat := 1074
theorem u64_eq : u64 = 1074 := rfl
theorem lpu : FloatKind.f64.format.leastPlace = -(u64 : Int) := by rw [lp64, u64_eq]; rfl

theorem cut_zero (s : Bool) (n d : Nat) : Toward.zero.cut s n d = n / 2 ^ d := by
  unfold Ieee.Toward.cut
  dsimp only
  rw [Nat.one_shiftLeft]
  show n / 2 ^ min d (n.log2 + 2) + 0 = _
  rw [Nat.add_zero]
  rcases Nat.lt_or_ge d (n.log2 + 2) with h | h
  · rw [Nat.min_eq_left (by omega)]
  · rw [Nat.min_eq_right h]
    have h1 : n < 2 ^ (n.log2 + 2) := Nat.lt_of_lt_of_le (Nat.lt_log2_self) (Nat.pow_le_pow_right (by omega) (by omega))
    rw [Nat.div_eq_of_lt h1, Nat.div_eq_of_lt (Nat.lt_of_lt_of_le h1 (Nat.pow_le_pow_right (by omega) h))]

/-- The whole part of a finite number. -/
theorem trunc_part {y : Nat} (h : finW .f64 y = true) : ∃ M, (FloatKind.f64.decode y).integral .zero = .number (ng FloatKind.f64.format y) M 0 ∧
    M * 2 ^ u64 ≤ vl FloatKind.f64.format (rg FloatKind.f64.format y) ∧ vl FloatKind.f64.format (rg FloatKind.f64.format y) < (M + 1) * 2 ^ u64 := by
  have hl := plR_ge FloatKind.f64.format (rg FloatKind.f64.format y)
  have hu := lpu
  refine ⟨_, by rw [decode_fin h]; rfl, ?_⟩
  rw [cut_zero]
  unfold vl
  generalize mgR FloatKind.f64.format (rg FloatKind.f64.format y) = m
  generalize plR FloatKind.f64.format (rg FloatKind.f64.format y) = e at *
  rw [hu] at hl ⊢
  have hp := two_pos u64
  rcases Int.le_total 0 e with he | he
  · have e1 : (-e).toNat = 0 := by omega
    have e2 : (e - -(u64 : Int)).toNat = e.toNat + u64 := by omega
    rw [e1, e2, Nat.shiftLeft_eq, Nat.pow_zero, Nat.div_one, Nat.pow_add, ← Nat.mul_assoc]
    exact ⟨Nat.le_refl _, Nat.mul_lt_mul_of_pos_right (by omega) hp⟩
  · have e1 : e.toNat = 0 := by omega
    rw [e1]
    obtain ⟨d, hd⟩ : ∃ d : Nat, d = (-e).toNat := ⟨_, rfl⟩
    rw [← hd]
    have e2 : (e - -(u64 : Int)).toNat = u64 - d := by omega
    have e3 : 2 ^ u64 = 2 ^ d * 2 ^ (u64 - d) := by rw [← Nat.pow_add]; congr 1; omega
    rw [e2, e3, Nat.shiftLeft_eq, Nat.pow_zero, Nat.mul_one, ← Nat.mul_assoc, ← Nat.mul_assoc]
    have hq := two_pos d
    refine ⟨Nat.mul_le_mul_right _ (Nat.div_mul_le_self m _), Nat.mul_lt_mul_of_pos_right ?_ (two_pos _)⟩
    have := Nat.lt_div_mul_add (a := m) hq
    rw [Nat.add_mul, Nat.one_mul]
    omega

/-- Whole numbers of 53 digits are read exactly. -/
theorem exact_word (s : Bool) {M : Nat} (h : M < 2 ^ 53) : vl FloatKind.f64.format (rg FloatKind.f64.format (FloatKind.f64.format.nearest s M 0)) = M * 2 ^ u64 ∧ finW .f64 (FloatKind.f64.format.nearest s M 0) = true := by
  have hu := lpu
  by_cases h0 : M = 0
  · subst h0
    have : rg FloatKind.f64.format (FloatKind.f64.format.nearest s 0 0) = 0 := by cases s <;> decide +kernel
    refine ⟨by rw [this, vl_zero, Nat.zero_mul], ?_⟩
    unfold finW
    rw [this]
    decide
  · have hL : M.log2 < 53 := (Nat.log2_lt h0).2 h
    have h1 := Nat.log2_self_le h0
    have h2 := Nat.lt_log2_self (n := M)
    have hfb : FloatKind.f64.format.fractionBits = 52 := by decide
    have hbin : FloatKind.f64.format.binade = 2 ^ 52 := by decide
    have hm : IsMag FloatKind.f64.format (M * 2 ^ (52 - M.log2)) ((M.log2 : Int) - 52) := by
      refine ⟨?_, by rw [lp64]; omega, .inl ?_⟩
      · rw [hfb, show 52 + 1 = (M.log2 + 1) + (52 - M.log2) by omega, Nat.pow_add]
        exact Nat.mul_lt_mul_of_pos_right h2 (two_pos _)
      · rw [hfb]
        calc 2 ^ 52 = 2 ^ M.log2 * 2 ^ (52 - M.log2) := by rw [← Nat.pow_add]; congr 1; omega
          _ ≤ M * 2 ^ (52 - M.log2) := Nat.mul_le_mul_right _ h1
    obtain ⟨g1, g2⟩ := mg_rungOf hm
    have hv : vl FloatKind.f64.format (rungOf FloatKind.f64.format (M * 2 ^ (52 - M.log2)) ((M.log2 : Int) - 52)) = M * 2 ^ u64 := by
      unfold vl
      rw [g1, g2, Nat.mul_assoc, ← Nat.pow_add]
      congr 2
      rw [hu, u64_eq]
      omega
    have hc : rungOf FloatKind.f64.format (M * 2 ^ (52 - M.log2)) ((M.log2 : Int) - 52) < FloatKind.f64.format.infRung := by
      have hl1 := hm.lt
      rw [hfb] at hl1
      unfold rungOf
      rw [hbin, show FloatKind.f64.format.infRung = 2047 * FloatKind.f64.format.binade from inf64, hbin]
      have : ((M.log2 : Int) - 52 - FloatKind.f64.format.leastPlace).toNat ≤ 1074 := by rw [lp64]; omega
      have := Nat.mul_le_mul_right (2 ^ 52) this
      omega
    have e0 : ((0 : Int) - FloatKind.f64.format.leastPlace).toNat = u64 := by rw [hu]; omega
    have hr : rg FloatKind.f64.format (FloatKind.f64.format.nearest s M 0) = rungOf FloatKind.f64.format (M * 2 ^ (52 - M.log2)) ((M.log2 : Int) - 52) := by
      refine Nat.le_antisymm (near_le .f64 s (by rw [lp64]; omega) ?_) (near_ge .f64 s (by rw [lp64]; omega) (Nat.le_of_lt hc) ?_)
      · rw [hv, e0]; exact Nat.le_refl _
      · rw [hv, e0]; exact Nat.le_refl _
    rw [hr]
    refine ⟨hv, ?_⟩
    unfold finW
    rw [hr]
    exact decide_eq_true hc

def wholeN (s : Bool) (M : Nat) : Int := if s = true then -(M : Int) else M

theorem floatOf_whole (s : Bool) {M : Nat} (h0 : M ≠ 0) : floatOfInt .f64 (wholeN s M) = FloatKind.f64.format.nearest s M 0 := by
  show FloatKind.f64.format.nearest (decide (wholeN s M < 0)) (wholeN s M).natAbs 0 = _
  unfold wholeN
  cases s
  · rw [if_neg (by simp), decide_eq_false (by omega), Int.natAbs_natCast]
  · rw [if_pos rfl, decide_eq_true (by omega), Int.natAbs_neg, Int.natAbs_natCast]

theorem V_whole (s : Bool) {M : Nat} (h : M < 2 ^ 53) : V .f64 (floatOfInt .f64 (wholeN s M)) = wholeN s M * (2 ^ u64 : Nat) ∧ finW .f64 (floatOfInt .f64 (wholeN s M)) = true := by
  by_cases h0 : M = 0
  · subst h0
    have e : wholeN s 0 = 0 := by cases s <;> rfl
    rw [e]
    have e2 : floatOfInt .f64 0 = 0 := by decide +kernel
    rw [e2, V_zero]
    exact ⟨by rw [Int.zero_mul], fin_zero .f64⟩
  · rw [floatOf_whole s h0]
    obtain ⟨h1, h2⟩ := exact_word s h
    refine ⟨?_, h2⟩
    unfold V
    rw [nearest_ng, h1]
    unfold wholeN
    cases s
    · rw [if_neg (by simp), if_neg (by simp)]; push_cast; rfl
    · rw [if_pos rfl, if_pos rfl, Int.neg_mul]; push_cast; rfl

/-- What the fraction rests on. -/
structure Whole (y : Nat) (n : Int) : Prop where
  int : floatToIntVal .f64 y .i64 = some n
  nought : cmpA .eql .f64 (integralA .zero (some y)) (some 0) = true → floatOfInt .f64 n = 0
  word : cmpA .eql .f64 (integralA .zero (some y)) (some 0) = false → integralA .zero (some y) = some (floatOfInt .f64 n)
  small : Top .f64 0 (opA .sub .f64 (some y) (some (floatOfInt .f64 n)))

theorem whole_of {y : Nat} (hf : finW .f64 y = true) (hs : vl FloatKind.f64.format (rg FloatKind.f64.format y) < 2 ^ 52 * 2 ^ u64) : ∃ n, Whole y n := by
  obtain ⟨M, h1, h2, h3⟩ := trunc_part hf
  have hp := two_pos u64
  have hM : M < 2 ^ 52 := Nat.lt_of_mul_lt_mul_right (Nat.lt_of_le_of_lt h2 hs)
  have hM3 : M < 2 ^ 53 := by omega
  obtain ⟨v1, v2⟩ := V_whole (ng FloatKind.f64.format y) hM3
  have hint : integralA .zero (some y) = some (FloatKind.f64.format.nearest (ng FloatKind.f64.format y) M 0) := by
    show some (FloatKind.f64.encode ((FloatKind.f64.decode y).integral .zero)) = _
    rw [h1]; rfl
  obtain ⟨x1, x2⟩ := exact_word (ng FloatKind.f64.format y) hM3
  have hVn : V .f64 (FloatKind.f64.format.nearest (ng FloatKind.f64.format y) M 0) = 0 ↔ M = 0 := by
    have ha := V_abs .f64 (FloatKind.f64.format.nearest (ng FloatKind.f64.format y) M 0)
    rw [x1] at ha
    constructor
    · intro h
      rw [h] at ha
      rcases Nat.eq_zero_or_pos M with h' | h'
      · exact h'
      · have := Nat.mul_pos h' hp
        simp at ha
        omega
    · intro h
      subst h
      rw [Nat.zero_mul] at ha
      omega
  have hcmp : cmpA .eql .f64 (integralA .zero (some y)) (some 0) = decide (M = 0) := by
    rw [hint]
    show (FloatKind.f64.format.order _ 0 == some .eq) = _
    rw [order_fin x2 (fin_zero .f64), V_zero]
    by_cases hm : M = 0
    · rw [hVn.2 hm]; simp [hm]
    · have hne : V .f64 (FloatKind.f64.format.nearest (ng FloatKind.f64.format y) M 0) ≠ 0 := fun h => hm (hVn.1 h)
      have : compare (V .f64 (FloatKind.f64.format.nearest (ng FloatKind.f64.format y) M 0)) 0 ≠ .eq := fun h => hne (Int.compare_eq_eq.1 h)
      simp [hm, this]
  refine ⟨wholeN (ng FloatKind.f64.format y) M, ?_, ?_, ?_, ?_⟩
  · unfold floatToIntVal
    have ht : (FloatKind.f64.decode y).toInt .zero = some (wholeN (ng FloatKind.f64.format y) M) := by
      unfold Ieee.Datum.toInt
      rw [h1]
      show some (Ieee.signed _ M 0) = _
      unfold Ieee.signed wholeN
      rw [Nat.shiftLeft_zero]
    rw [ht]
    have hb : IntKind.i64.min ≤ wholeN (ng FloatKind.f64.format y) M ∧ wholeN (ng FloatKind.f64.format y) M ≤ IntKind.i64.max := by
      have m1 : IntKind.i64.min = -9223372036854775808 := by decide
      have m2 : IntKind.i64.max = 9223372036854775807 := by decide
      rw [m1, m2]
      unfold wholeN
      split <;> omega
    dsimp only
    rw [if_pos hb]
  · intro h
    rw [hcmp] at h
    have hm : M = 0 := of_decide_eq_true h
    subst hm
    have e : wholeN (ng FloatKind.f64.format y) 0 = 0 := by unfold wholeN; split <;> rfl
    rw [e]
    decide +kernel
  · intro h
    rw [hcmp] at h
    have hm : M ≠ 0 := of_decide_eq_false h
    rw [hint, floatOf_whole _ hm]
  · intro r hr
    have hr' : floatBits .sub .f64 y (floatOfInt .f64 (wholeN (ng FloatKind.f64.format y) M)) = some r := hr
    obtain ⟨s, m, e, g1, g2, _⟩ := sub_word (k := .f64) (a := y) (b := floatOfInt .f64 (wholeN (ng FloatKind.f64.format y) M)) (encode_lt .f64 (.number (wholeN (ng FloatKind.f64.format y) M < 0) (wholeN (ng FloatKind.f64.format y) M).natAbs 0)) hf v2
    rw [g1] at hr'
    cases hr'
    refine top_of_rg (worth_le g2 ?_) (by rw [em64]; omega) (by rw [ex64]; omega)
    have e0 : ((0 : Int) - FloatKind.f64.format.leastPlace).toNat = u64 := by rw [lpu]; omega
    rw [p2_vl .f64 (by rw [show FloatKind.f64.format.leastPlace + FloatKind.f64.format.fractionBits = -1022 from em64]; omega), e0]
    have ha : V .f64 y = if ng FloatKind.f64.format y = true then -(vl FloatKind.f64.format (rg FloatKind.f64.format y) : Int) else (vl FloatKind.f64.format (rg FloatKind.f64.format y) : Int) := rfl
    rw [v1, ha]
    generalize vl FloatKind.f64.format (rg FloatKind.f64.format y) = v at *
    rw [Nat.add_mul, Nat.one_mul] at h3
    unfold wholeN
    generalize 2 ^ u64 = B at *
    have e3 : ((M * B : Nat) : Int) = (M : Int) * (B : Int) := by push_cast; rfl
    split
    · rw [Int.neg_mul, ← e3]; omega
    · rw [← e3]; omega

theorem geq_iff (x y : Int) : (some (compare x y) == some Ordering.gt || some (compare x y) == some Ordering.eq) = decide (y ≤ x) := by
  rcases Int.lt_trichotomy x y with h | h | h
  · rw [Int.compare_eq_lt.2 h, decide_eq_false (by omega)]; rfl
  · subst h; rw [Int.compare_eq_eq.2 rfl, decide_eq_true (by omega)]; rfl
  · rw [Int.compare_eq_gt.2 h, decide_eq_true (by omega)]; rfl
theorem leq_iff (x y : Int) : (some (compare x y) == some Ordering.lt || some (compare x y) == some Ordering.eq) = decide (x ≤ y) := by
  rcases Int.lt_trichotomy x y with h | h | h
  · rw [Int.compare_eq_lt.2 h, decide_eq_true (by omega)]; rfl
  · subst h; rw [Int.compare_eq_eq.2 rfl, decide_eq_true (by omega)]; rfl
  · rw [Int.compare_eq_gt.2 h, decide_eq_false (by omega)]; rfl

/-- Whether a number is too far for its turns. -/
theorem far_same {y : Nat} (hf : finW .f64 y = true) :
    (cmpA .geq .f64 (some y) (some 4841369599423283200) || cmpA .leq .f64 (some y) (some 14064741636278059008)) = cmpA .geq .f64 (absA (some y)) (some 4841369599423283200) ∧
    (cmpA .geq .f64 (absA (some y)) (some 4841369599423283200) = false → vl FloatKind.f64.format (rg FloatKind.f64.format y) < 2 ^ 52 * 2 ^ u64) := by
  have c1 : finW .f64 4841369599423283200 = true := by decide +kernel
  have c2 : finW .f64 14064741636278059008 = true := by decide +kernel
  have r1 : rg FloatKind.f64.format 4841369599423283200 = p2 .f64 52 := by decide +kernel
  have r2 : rg FloatKind.f64.format 14064741636278059008 = p2 .f64 52 := by decide +kernel
  have n1 : ng FloatKind.f64.format 4841369599423283200 = false := by decide +kernel
  have n2 : ng FloatKind.f64.format 14064741636278059008 = true := by decide +kernel
  have hv : vl FloatKind.f64.format (p2 .f64 52) = 2 ^ 52 * 2 ^ u64 := by
    rw [p2_vl .f64 (by rw [show FloatKind.f64.format.leastPlace + FloatKind.f64.format.fractionBits = -1022 from em64]; omega), lpu, ← Nat.pow_add]
    congr 1
  have v1 : V .f64 4841369599423283200 = ((2 ^ 52 * 2 ^ u64 : Nat) : Int) := by unfold V; rw [n1, r1, hv]; simp
  have v2 : V .f64 14064741636278059008 = -((2 ^ 52 * 2 ^ u64 : Nat) : Int) := by unfold V; rw [n2, r2, hv]; simp
  have fa : finW .f64 (y % Ieee.double.signWeight) = true := by unfold finW at hf ⊢; rw [show rg FloatKind.f64.format (y % Ieee.double.signWeight) = rg FloatKind.f64.format y from rg_abs _]; exact hf
  have k1 : cmpA .geq .f64 (some y) (some 4841369599423283200) = decide (((2 ^ 52 * 2 ^ u64 : Nat) : Int) ≤ V .f64 y) := by
    show (FloatKind.f64.format.order _ _ == some .gt || FloatKind.f64.format.order _ _ == some .eq) = _
    rw [order_fin hf c1, v1, geq_iff]
  have k2 : cmpA .leq .f64 (some y) (some 14064741636278059008) = decide (V .f64 y ≤ -((2 ^ 52 * 2 ^ u64 : Nat) : Int)) := by
    show (FloatKind.f64.format.order _ _ == some .lt || FloatKind.f64.format.order _ _ == some .eq) = _
    rw [order_fin hf c2, v2, leq_iff]
  have k3 : cmpA .geq .f64 (absA (some y)) (some 4841369599423283200) = decide (((2 ^ 52 * 2 ^ u64 : Nat) : Int) ≤ (vl FloatKind.f64.format (rg FloatKind.f64.format y) : Int)) := by
    show (FloatKind.f64.format.order (y % Ieee.double.signWeight) _ == some .gt || FloatKind.f64.format.order (y % Ieee.double.signWeight) _ == some .eq) = _
    rw [order_fin fa c1, v1, V_absW, geq_iff]
    rfl
  have ha := V_abs .f64 y
  rw [k1, k2, k3]
  generalize vl FloatKind.f64.format (rg FloatKind.f64.format y) = v at *
  have hp : 0 < 2 ^ 52 * 2 ^ u64 := Nat.mul_pos (by omega) (two_pos _)
  generalize 2 ^ 52 * 2 ^ u64 = B at *
  constructor
  · rw [← Bool.decide_or]
    exact decide_eq_decide.2 (by omega)
  · intro h
    have := of_decide_eq_false h
    omega

end Go.Proofs.Ytoimjjagkfgogaa
