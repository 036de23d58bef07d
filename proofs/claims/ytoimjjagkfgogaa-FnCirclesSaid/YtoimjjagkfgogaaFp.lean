/- Logarithms in 64 bits: closer bounds; tenths. No conditions. -/
import Derived.Test.YtoimjjagkfgogaaFj
import Derived.Test.YtoimjjagkfgogaaFz
namespace Go.Proofs.Ytoimjjagkfgogaa
open Go.RowKit

/-- The difference of two numbers that are near to one another. -/
theorem top_near {k : FloatKind} {t : Int} {a b : Nat} (hbl : b < 2 ^ k.format.width) (fa : finW k a = true) (fb : finW k b = true) (hv : (V k a - V k b).natAbs ≤ 2 ^ (t - k.format.leastPlace).toNat) (h1 : emin k ≤ t) (h2 : t ≤ emax k) : Top k t (opA .sub k (some a) (some b)) := by
  intro r hr
  obtain ⟨s, m, e, q1, q2, _⟩ := sub_word hbl fa fb
  have hr' : floatBits .sub k a b = some r := hr
  rw [q1] at hr'
  cases hr'
  refine top_of_rg (worth_le q2 ?_) h1 h2
  rw [p2_vl k (by unfold emin at h1; omega)]
  exact hv

/-- A finite number, of size 2 ^ t at most. -/
structure Num (t : Int) (X : Option Nat) : Prop where
  word : ∃ b, X = some b
  top : Top .f64 t X

theorem Num.add {t : Int} {X Y : Option Nat} (hX : Num t X) (hY : Num t Y) (h1 : -1022 ≤ t) (h2 : t ≤ 1022) : Num (t + 1) (opA .add .f64 X Y) := by
  have e1 := em64
  have e2 := ex64
  refine ⟨?_, top_add hX.top hY.top (by omega) (by omega)⟩
  obtain ⟨a, rfl⟩ := hX.word
  obtain ⟨b, rfl⟩ := hY.word
  obtain ⟨s, m, e, q, _⟩ := add_word (hX.top a rfl).1 (hY.top b rfl).1
  exact ⟨_, q⟩
theorem Num.sub {t : Int} {X Y : Option Nat} (oY : Ok .f64 Y) (hX : Num t X) (hY : Num t Y) (h1 : -1022 ≤ t) (h2 : t ≤ 1022) : Num (t + 1) (opA .sub .f64 X Y) := by
  have e1 := em64
  have e2 := ex64
  refine ⟨?_, top_sub oY hX.top hY.top (by omega) (by omega)⟩
  obtain ⟨a, rfl⟩ := hX.word
  obtain ⟨b, rfl⟩ := hY.word
  obtain ⟨s, m, e, q, _⟩ := sub_word (oY b rfl).2 (hX.top a rfl).1 (hY.top b rfl).1
  exact ⟨_, q⟩
theorem Num.mul {t u v : Int} {X Y : Option Nat} (hX : Num t X) (hY : Num u Y) (ht : -1074 ≤ t) (hu : -1074 ≤ u) (hv : t + u ≤ v) (h1 : -1022 ≤ v) (h2 : v ≤ 1022) : Num v (opA .mul .f64 X Y) := by
  have e1 := em64
  have e2 := ex64
  have e3 := lp64
  refine ⟨?_, top_mul hX.top hY.top (by omega) (by omega) hv (by omega) (by omega)⟩
  obtain ⟨a, rfl⟩ := hX.word
  obtain ⟨b, rfl⟩ := hY.word
  exact ⟨_, mul_word (hX.top a rfl).1 (hY.top b rfl).1⟩
theorem Num.quo {t g v : Int} {X Y : Option Nat} (hX : Num t X) (wY : ∃ b, Y = some b) (hY : Bot .f64 g Y) (ht : -1074 ≤ t) (hg : -1074 ≤ g) (hv : t - g ≤ v) (h1 : -1022 ≤ v) (h2 : v ≤ 1022) : Num v (opA .quo .f64 X Y) := by
  have e1 := em64
  have e2 := ex64
  have e3 := lp64
  refine ⟨?_, top_div hX.top hY (by omega) (by omega) hv (by omega) (by omega)⟩
  obtain ⟨a, rfl⟩ := hX.word
  obtain ⟨b, rfl⟩ := wY
  obtain ⟨f, _, v⟩ := hY b rfl
  exact ⟨_, div_word (hX.top a rfl).1 f (bot_ne v)⟩
theorem Num.mono {t u : Int} {X : Option Nat} (h : Num t X) (hu : t ≤ u) : Num u X := ⟨h.word, h.top.mono hu⟩
theorem num_lit {t : Int} {b : Nat} (h1 : finW .f64 b = true) (h2 : vl FloatKind.f64.format (rg FloatKind.f64.format b) ≤ 2 ^ (t - FloatKind.f64.format.leastPlace).toNat) : Num t (some b) := ⟨⟨_, rfl⟩, fun c hc => by cases hc; exact ⟨h1, h2⟩⟩

/-- Something that is not below 0, and at least 2 ^ g. -/
theorem bot_add2 {k : FloatKind} {t g : Int} {X Y : Option Nat} (hX : Top k t X) (hY : Top k t Y) (hB : Bot k g Y) (hN : NonNeg k X) (h1 : emin k ≤ t) (h2 : t + 1 ≤ emax k) (hg : emin k ≤ g) (hg2 : g ≤ emax k) : Bot k g (opA .add k X Y) := by
  intro r hr
  have hT := top_add hX hY h1 h2 r hr
  cases X with
  | none => cases hr
  | some a => cases Y with
    | none => cases hr
    | some b =>
      obtain ⟨fb, sb, bb⟩ := hB b rfl
      obtain ⟨fa, _⟩ := hX a rfl
      have na := hN a rfl fa
      obtain ⟨s, m, e, q1, q2, _⟩ := add_word fa fb
      have hr' : floatBits .add k a b = some r := hr
      rw [q1] at hr'
      cases hr'
      have vb := V_pos sb
      have hp := two_pos (g - k.format.leastPlace).toNat
      have hv : vl k.format (p2 k g) ≤ (V k a + V k b).natAbs := by
        rw [p2_vl k (by unfold emin at *; omega)]
        omega
      refine ⟨hT.1, ?_, ?_⟩
      · rw [nearest_ng]
        exact q2.pos (by omega)
      · have h3 := worth_ge q2 (Nat.le_of_lt (p2_fin k hg2)) hv
        have h4 := vl_mono k.format h3
        rw [p2_vl k (by unfold emin at *; omega)] at h4
        exact h4

theorem half15 : V .f64 4609434218613702656 = V .f64 4607182418800017408 + ((2 ^ (u64 - 1) : Nat) : Int) ∧ V .f64 4607182418800017408 = ((2 ^ (u64 - 1) : Nat) : Int) + ((2 ^ (u64 - 1) : Nat) : Int) := by decide +kernel

/-- Numbers between 0.5 and 1.5 are near 1. -/
theorem num_near {Z : Option Nat} (h : Mid (-1) 1 Z) (hle : ∀ z, Z = some z → V .f64 z ≤ V .f64 4609434218613702656) : Num (-1) (opA .sub .f64 Z (some 4607182418800017408)) := by
  have e1 := em64
  have e2 := ex64
  obtain ⟨z, rfl⟩ := h.word
  obtain ⟨b1, b2, b3⟩ := h.bot z rfl
  have hl := hle z rfl
  have o1 : finW .f64 4607182418800017408 = true := by decide +kernel
  have o2 : 4607182418800017408 < 2 ^ FloatKind.f64.format.width := by decide +kernel
  have hu : ((-1 : Int) + u64).toNat = u64 - 1 := by rw [u64_eq]; omega
  refine ⟨?_, top_near o2 b1 o1 ?_ (by omega) (by omega)⟩
  · obtain ⟨s, m, e, q, _⟩ := sub_word o2 b1 o1
    exact ⟨_, q⟩
  · rw [tu (-1) (by rw [u64_eq]; omega), hu] at b3 ⊢
    obtain ⟨k1, k2⟩ := half15
    have k3 := V_pos b2
    generalize V .f64 z = vz at *
    generalize V .f64 4607182418800017408 = v1 at *
    generalize V .f64 4609434218613702656 = v2 at *
    generalize 2 ^ (u64 - 1) = B at *
    omega

theorem num_one : Num 0 (some 4607182418800017408) := num_lit (by decide +kernel) (by decide +kernel)
theorem num_s {Z : Option Nat} (h : Mid (-1) 1 Z) (hle : ∀ z, Z = some z → V .f64 z ≤ V .f64 4609434218613702656) : Num (-1) (sA Z) := by
  have e1 := em64
  have e2 := ex64
  have t1 := num_one.mono (show (0 : Int) ≤ 1 by omega)
  have hs := (Num.mk h.word h.top).add t1 (by omega) (by omega)
  have hd := bot_add2 (k := .f64) h.top t1.top bot_one (fun b hb _ => by rw [V_pos (h.bot b hb).2.1]; omega) (by omega) (by omega) (by omega) (by omega)
  exact (num_near h hle).quo hs.word hd (by omega) (by omega) (by omega) (by omega) (by omega)

theorem num_polyL {U : Option Nat} (h : Num (-1) U) : ∀ j : Nat, j ≤ 13 → Num 1 (polyL U j)
  | 0, _ => ⟨⟨_, rfl⟩, top_zero _⟩
  | j + 1, hj => by
    have hq : Num 0 (opA .quo .f64 (some 4607182418800017408) (some (floatOfInt .f64 (25 - 2 * (j : Int))))) := num_one.quo ⟨_, rfl⟩ (odd_botL j (by omega)) (by omega) (by omega) (by omega) (by omega) (by omega)
    have hm : Num 0 (opA .mul .f64 U (polyL U j)) := h.mul (num_polyL h j (by omega)) (by omega) (by omega) (by omega) (by omega) (by omega)
    exact (hq.add hm (by omega) (by omega)).mono (by omega)

theorem num_exp {e : Int} (h1 : -300 ≤ e) (h2 : e ≤ 300) : Num 9 (some (floatOfInt .f64 e)) := ⟨⟨_, rfl⟩, top_exp h1 h2⟩

theorem num_log {Z : Option Nat} (h : Mid (-1) 1 Z) (hle : ∀ z, Z = some z → V .f64 z ≤ V .f64 4609434218613702656) {e : Int} (h1 : -300 ≤ e) (h2 : e ≤ 300) : Num 10 (logA Z e) := by
  have hs := num_s h hle
  have hu : Num (-1) (opA .mul .f64 (sA Z) (sA Z)) := hs.mul hs (by omega) (by omega) (by omega) (by omega) (by omega)
  have hm : Num 0 (opA .mul .f64 (sA Z) (polyL (opA .mul .f64 (sA Z) (sA Z)) 13)) := hs.mul (num_polyL hu 13 (by omega)) (by omega) (by omega) (by omega) (by omega) (by omega)
  have h2m : Num 1 (opA .mul .f64 (some 4611686018427387904) (opA .mul .f64 (sA Z) (polyL (opA .mul .f64 (sA Z) (sA Z)) 13))) := (Num.mk ⟨_, rfl⟩ top_two).mul hm (by omega) (by omega) (by omega) (by omega) (by omega)
  have hl : Num 0 (some 4604418534313441775) := num_lit (by decide +kernel) (by decide +kernel)
  have he : Num 9 (opA .mul .f64 (some (floatOfInt .f64 e)) (some 4604418534313441775)) := (num_exp h1 h2).mul hl (by omega) (by omega) (by omega) (by omega) (by omega)
  exact (h2m.mono (show (1 : Int) ≤ 9 by omega)).add he (by omega) (by omega)

/-- What the floor is taken of. -/
def tenA (L : Option Nat) : Option Nat := opA .add .f64 (opA .mul .f64 L (some 4631308968768463603)) (some 4602678819172646912)

theorem num_ten {L : Option Nat} (h : Num 10 L) : Num 17 (tenA L) := by
  have hc : Num 6 (some 4631308968768463603) := num_lit (by decide +kernel) (by decide +kernel)
  have hh : Num 16 (some 4602678819172646912) := num_lit (by decide +kernel) (by decide +kernel)
  exact (h.mul (v := 16) hc (by omega) (by omega) (by omega) (by omega) (by omega)).add hh (by omega) (by omega)

/-- Both sides read the floor as one integer. -/
theorem ten_int {L : Option Nat} (h : Num 10 L) : ∃ W q, integralA .down (tenA L) = some W ∧ floatToIntVal .f64 W .i64 = some q := by
  obtain ⟨y, hy⟩ := (num_ten h).word
  obtain ⟨f, v⟩ := (num_ten h).top y hy
  rw [hy]
  obtain ⟨W, q, a1, a2, _⟩ := floor_int f (by
    rw [tu 17 (by omega), show ((17 : Int) + u64).toNat = 17 + u64 by omega, Nat.pow_add] at v
    exact Nat.le_trans v (Nat.mul_le_mul_right _ (by omega)))
  exact ⟨W, q, a1, a2⟩

end Go.Proofs.Ytoimjjagkfgogaa
