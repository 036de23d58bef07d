/- Quarters of turns are taken off at most four times. No conditions. -/
import Derived.Test.YtoimjjagkfgogaaFp
import Derived.Test.YtoimjjagkfgogaaFq
namespace Go.Proofs.Ytoimjjagkfgogaa
open Go.RowKit

def subs (F : Option Nat) : Nat → Option Nat
  | 0 => F
  | k + 1 => opA .sub .f64 (subs F k) (some 4598175219545276416)

theorem num_quart : Num 0 (some 4598175219545276416) := num_lit (by decide +kernel) (by decide +kernel)
theorem ok_quart : Ok .f64 (some 4598175219545276416) := Ok.lit (by decide +kernel) (by decide +kernel)

theorem num_subs {F : Option Nat} (h : Num 1 F) : ∀ k : Nat, k ≤ 100 → Num (1 + (k : Int)) (subs F k)
  | 0, _ => h.mono (by omega)
  | k + 1, hk => ((num_subs h k (by omega)).sub ok_quart (num_quart.mono (by omega)) (by omega) (by omega)).mono (by omega)

theorem ok_subs {F : Option Nat} (h : Ok .f64 F) : ∀ k : Nat, Ok .f64 (subs F k)
  | 0 => h
  | _ + 1 => Ok.op

theorem geq_fin {x c : Nat} (hx : finW .f64 x = true) (hc : finW .f64 c = true) : cmpA .geq .f64 (some x) (some c) = decide (V .f64 c ≤ V .f64 x) := by
  show (FloatKind.f64.format.order _ _ == some .gt || FloatKind.f64.format.order _ _ == some .eq) = _
  rw [order_fin hx hc, geq_iff]
theorem leq_fin {x c : Nat} (hx : finW .f64 x = true) (hc : finW .f64 c = true) : cmpA .leq .f64 (some x) (some c) = decide (V .f64 x ≤ V .f64 c) := by
  show (FloatKind.f64.format.order _ _ == some .lt || FloatKind.f64.format.order _ _ == some .eq) = _
  rw [order_fin hx hc, leq_iff]

theorem V_le (k : FloatKind) (b : Nat) : V k b ≤ (vl k.format (rg k.format b) : Int) := by
  unfold V
  split <;> omega

/-- The words of 1, 0.75, 0.5, 0.25, 0. -/
def quart : Nat → Nat
  | 0 => 4607182418800017408
  | 1 => 4604930618986332160
  | 2 => 4602678819172646912
  | 3 => 4598175219545276416
  | _ => 0
theorem quart_step (k : Nat) (h : k < 4) : V .f64 (quart k) - V .f64 4598175219545276416 = (vl FloatKind.f64.format (rg FloatKind.f64.format (quart (k + 1))) : Int) ∧ V .f64 (quart (k + 1)) = (vl FloatKind.f64.format (rg FloatKind.f64.format (quart (k + 1))) : Int) := by
  rcases (by omega : k = 0 ∨ k = 1 ∨ k = 2 ∨ k = 3) with rfl | rfl | rfl | rfl <;> decide +kernel

theorem sub_le {x c : Nat} {r : Nat} (hx : finW .f64 x = true) (hv : V .f64 4598175219545276416 ≤ V .f64 x) (hle : V .f64 x - V .f64 4598175219545276416 ≤ (vl FloatKind.f64.format c : Int)) (h : opA .sub .f64 (some x) (some 4598175219545276416) = some r) : V .f64 r ≤ (vl FloatKind.f64.format c : Int) := by
  obtain ⟨s, m, e, q1, q2, _⟩ := sub_word (k := .f64) (a := x) (b := 4598175219545276416) (by decide +kernel) hx (by decide +kernel)
  have h' : floatBits .sub .f64 x 4598175219545276416 = some r := h
  rw [q1] at h'
  have hr : rg FloatKind.f64.format r ≤ c := by
    cases h'
    refine worth_le q2 ?_
    omega
  have := vl_mono FloatKind.f64.format hr
  have := V_le .f64 r
  omega

theorem subs_le {F : Option Nat} (hF : Num 1 F) (hle : ∀ x, F = some x → V .f64 x ≤ V .f64 4607182418800017408) : ∀ k : Nat, k ≤ 4 → (∀ j, j < k → cmpA .geq .f64 (subs F j) (some 4598175219545276416) = true) → ∀ x, subs F k = some x → V .f64 x ≤ V .f64 (quart k)
  | 0, _, _, x, hx => hle x hx
  | k + 1, hk, hg, x, hx => by
    have ih := subs_le hF hle k (by omega) fun j hj => hg j (by omega)
    obtain ⟨y, hy⟩ := (num_subs hF k (by omega)).word
    have fy := ((num_subs hF k (by omega)).top y hy).1
    have h1 := ih y hy
    have h2 := hg k (by omega)
    rw [hy, geq_fin fy (by decide +kernel)] at h2
    have h3 := of_decide_eq_true h2
    obtain ⟨e1, e2⟩ := quart_step k (by omega)
    rw [e2]
    have hx' : opA .sub .f64 (some y) (some 4598175219545276416) = some x := by rw [← hy]; exact hx
    exact sub_le fy h3 (by omega) hx'

/-- The loop ends. -/
theorem subs_stop {F : Option Nat} (hF : Num 1 F) (hle : ∀ x, F = some x → V .f64 x ≤ V .f64 4607182418800017408) : ∃ k, k ≤ 4 ∧ (∀ j, j < k → cmpA .geq .f64 (subs F j) (some 4598175219545276416) = true) ∧ cmpA .geq .f64 (subs F k) (some 4598175219545276416) = false := by
  by_cases h : ∀ j, j < 4 → cmpA .geq .f64 (subs F j) (some 4598175219545276416) = true
  · refine ⟨4, Nat.le_refl _, h, ?_⟩
    obtain ⟨y, hy⟩ := (num_subs hF 4 (by omega)).word
    have fy := ((num_subs hF 4 (by omega)).top y hy).1
    have h1 := subs_le hF hle 4 (Nat.le_refl _) h y hy
    rw [hy, geq_fin fy (by decide +kernel)]
    refine decide_eq_false fun hc => ?_
    have e : V .f64 (quart 4) < V .f64 4598175219545276416 := by decide +kernel
    omega
  · have h' : ∃ j, j < 4 ∧ cmpA .geq .f64 (subs F j) (some 4598175219545276416) = false := by
      refine Classical.byContradiction fun hn => h fun j hj => ?_
      cases hc : cmpA .geq .f64 (subs F j) (some 4598175219545276416) with
      | true => rfl
      | false => exact absurd ⟨j, hj, hc⟩ hn
    obtain ⟨j, hj, hc⟩ := h'
    obtain ⟨k, hk, h1, h2⟩ := exists_stop (fun i => cmpA .geq .f64 (subs F i) (some 4598175219545276416)) j hc
    exact ⟨k, by omega, h1, h2⟩

/-- The fraction of a finite number. -/
theorem num_frac {y : Nat} {nn : Int} (hf : finW .f64 y = true) (fn : finW .f64 (floatOfInt .f64 nn) = true) (ln : floatOfInt .f64 nn < 2 ^ FloatKind.f64.format.width) (hw : Whole y nn) :
    Num 1 (fracA (cmpA .lss .f64 (opA .sub .f64 (some y) (some (floatOfInt .f64 nn))) (some 0)) (opA .sub .f64 (some y) (some (floatOfInt .f64 nn)))) ∧
    (∀ x, fracA (cmpA .lss .f64 (opA .sub .f64 (some y) (some (floatOfInt .f64 nn))) (some 0)) (opA .sub .f64 (some y) (some (floatOfInt .f64 nn))) = some x → V .f64 x ≤ V .f64 4607182418800017408) := by
  obtain ⟨s, m, e, q, _⟩ := sub_word ln hf fn
  have hD : Num 0 (opA .sub .f64 (some y) (some (floatOfInt .f64 nn))) := ⟨⟨_, q⟩, hw.small⟩
  generalize opA .sub .f64 (some y) (some (floatOfInt .f64 nn)) = D at *
  obtain ⟨d, rfl⟩ := hD.word
  obtain ⟨fd, vd⟩ := hD.top d rfl
  have e0 : ((0 : Int) - FloatKind.f64.format.leastPlace).toNat = u64 := by rw [lpu]; omega
  rw [e0] at vd
  have v1 : V .f64 4607182418800017408 = ((2 ^ u64 : Nat) : Int) := by decide +kernel
  cases hb : cmpA .lss .f64 (some d) (some 0) with
  | false =>
    refine ⟨hD.mono (by omega), fun x hx => ?_⟩
    cases hx
    rw [v1]
    have := V_le .f64 d
    omega
  | true =>
    have hl : V .f64 d < 0 := by
      have k : (FloatKind.f64.format.order d 0 == some .lt) = true := hb
      rw [order_fin fd (fin_zero .f64), V_zero, lt_iff] at k
      exact of_decide_eq_true k
    refine ⟨hD.add num_one (by omega) (by omega), fun x hx => ?_⟩
    have f1 : finW .f64 4607182418800017408 = true := by decide +kernel
    obtain ⟨s, m, e, q1, q2, _⟩ := add_word (k := .f64) fd f1
    have hx' : floatBits .add .f64 d 4607182418800017408 = some x := hx
    rw [q1] at hx'
    have ha := V_abs .f64 d
    have hr : rg FloatKind.f64.format x ≤ rg FloatKind.f64.format 4607182418800017408 := by
      cases hx'
      refine worth_le q2 ?_
      have e3 : vl FloatKind.f64.format (rg FloatKind.f64.format 4607182418800017408) = 2 ^ u64 := by decide +kernel
      rw [e3, v1]
      generalize 2 ^ u64 = B at *
      omega
    have h1 := vl_mono FloatKind.f64.format hr
    have h2 := V_le .f64 x
    have e3 : vl FloatKind.f64.format (rg FloatKind.f64.format 4607182418800017408) = 2 ^ u64 := by decide +kernel
    rw [e3] at h1
    rw [v1]
    generalize 2 ^ u64 = B at *
    omega

theorem whole_fin {y : Nat} {nn : Int} (hw : Whole y nn) (hf : finW .f64 y = true) (hs : vl FloatKind.f64.format (rg FloatKind.f64.format y) < 2 ^ 52 * 2 ^ u64) : finW .f64 (floatOfInt .f64 nn) = true := by
  obtain ⟨M, h1, h2, h3⟩ := trunc_part hf
  have hM : M < 2 ^ 52 := Nat.lt_of_mul_lt_mul_right (Nat.lt_of_le_of_lt h2 hs)
  obtain ⟨v1, v2⟩ := V_whole (ng FloatKind.f64.format y) (M := M) (by omega)
  have hi : floatToIntVal .f64 y .i64 = some (wholeN (ng FloatKind.f64.format y) M) := by
    unfold floatToIntVal
    have ht : (FloatKind.f64.decode y).toInt .zero = some (wholeN (ng FloatKind.f64.format y) M) := by
      unfold Ieee.Datum.toInt
      rw [h1]
      show some (Ieee.signed _ M 0) = _
      unfold Ieee.signed wholeN
      rw [Nat.shiftLeft_zero]
    rw [ht]
    have hb : IntKind.i64.min ≤ wholeN (ng FloatKind.f64.format y) M ∧ wholeN (ng FloatKind.f64.format y) M ≤ IntKind.i64.max := by
      have m1 : IntKind.i64.min = -9223372036854775808 := by decide
      have m2 : IntKind.i64.max = 9223372036854775807 := by decide
      rw [m1, m2]
      unfold wholeN
      split <;> omega
    dsimp only
    rw [if_pos hb]
  rw [hw.int] at hi
  cases hi
  exact v2

theorem small_near {x : Nat} {t : Int} (h : Top .f64 t (some x)) (ht : t ≤ 51) : vl FloatKind.f64.format (rg FloatKind.f64.format x) < 2 ^ 52 * 2 ^ u64 := by
  have h1 := ((h.mono ht) x rfl).2
  rw [tu 51 (by omega), show ((51 : Int) + u64).toNat = 51 + u64 by omega, Nat.pow_add] at h1
  have := two_pos u64
  generalize 2 ^ u64 = B at *
  omega

theorem far_not {x : Nat} (hf : finW .f64 x = true) (hs : vl FloatKind.f64.format (rg FloatKind.f64.format x) < 2 ^ 52 * 2 ^ u64) : cmpA .geq .f64 (some x) (some 4841369599423283200) = false ∧ cmpA .leq .f64 (some x) (some 14064741636278059008) = false := by
  have v1 : V .f64 4841369599423283200 = ((2 ^ 52 * 2 ^ u64 : Nat) : Int) := by decide +kernel
  have v2 : V .f64 14064741636278059008 = -((2 ^ 52 * 2 ^ u64 : Nat) : Int) := by decide +kernel
  have ha := V_abs .f64 x
  rw [geq_fin hf (by decide +kernel), leq_fin hf (by decide +kernel), v1, v2]
  generalize 2 ^ 52 * 2 ^ u64 = B at *
  exact ⟨decide_eq_false (by omega), decide_eq_false (by omega)⟩

end Go.Proofs.Ytoimjjagkfgogaa
