/- The values of floating-point words as whole numbers of units, and what the operations make of them. No conditions. -/
import Derived.Test.YtoimjjagkfgogaaFr
namespace Go.Proofs.Ytoimjjagkfgogaa
open Ieee

/-! ## Values: in units of 2 ^ leastPlace -/

def vl (f : Format) (r : Nat) : Nat := mgR f r * 2 ^ (plR f r - f.leastPlace).toNat

theorem plR_ge (f : Format) (r : Nat) : f.leastPlace ≤ plR f r := (isMag_rung f r).least

theorem leV_vl_left (f : Format) (c : Nat) (m : Nat) (e : Int) : leV (mgR f c) (plR f c) m e ↔ leV (vl f c) f.leastPlace m e := by
  have h := plR_ge f c
  rw [leV_base (min e f.leastPlace) (by omega) (by omega), leV_base (min e f.leastPlace) (by omega) (by omega)]
  unfold vl
  rw [Nat.mul_assoc, ← Nat.pow_add, show (plR f c - f.leastPlace).toNat + (f.leastPlace - min e f.leastPlace).toNat = (plR f c - min e f.leastPlace).toNat by omega]
theorem leV_vl_right (f : Format) (c : Nat) (m : Nat) (e : Int) : leV m e (mgR f c) (plR f c) ↔ leV m e (vl f c) f.leastPlace := by
  have h := plR_ge f c
  rw [leV_base (min e f.leastPlace) (by omega) (by omega), leV_base (min e f.leastPlace) (by omega) (by omega)]
  unfold vl
  rw [Nat.mul_assoc, ← Nat.pow_add, show (plR f c - f.leastPlace).toNat + (f.leastPlace - min e f.leastPlace).toNat = (plR f c - min e f.leastPlace).toNat by omega]

theorem vl_low {f : Format} {r : Nat} (h : r < f.binade) : vl f r = r := by
  unfold vl mgR plR
  rw [if_pos h, if_pos h, show (f.leastPlace - f.leastPlace).toNat = 0 by omega, Nat.pow_zero, Nat.mul_one]
theorem vl_high {f : Format} {r : Nat} (h : f.binade ≤ r) : vl f r = (f.binade + r % f.binade) * 2 ^ (r / f.binade - 1) := by
  unfold vl mgR plR
  rw [if_neg (by omega), if_neg (by omega), show (f.leastPlace + ((r / f.binade - 1 : Nat) : Int) - f.leastPlace).toNat = r / f.binade - 1 by omega]

theorem vl_step (f : Format) (r : Nat) : vl f r < vl f (r + 1) := by
  have hp := bin_pos f
  rcases Nat.lt_or_ge (r + 1) f.binade with h | h
  · rw [vl_low h, vl_low (by omega)]; omega
  · rcases Nat.lt_or_ge r f.binade with h2 | h2
    · have e : r + 1 = f.binade := by omega
      rw [vl_low h2, e, vl_high (Nat.le_refl _), Nat.mod_self, Nat.div_self hp]
      simp; omega
    · rw [vl_high h2, vl_high h]
      have d1 := Nat.div_add_mod r f.binade
      have m1 := Nat.mod_lt r hp
      have hq : 1 ≤ r / f.binade := (Nat.le_div_iff_mul_le hp).2 (by omega)
      generalize hqq : r / f.binade = q at *
      generalize hmm : r % f.binade = m at *
      have hr : r = f.binade * q + m := d1.symm
      rcases Nat.lt_or_ge (m + 1) f.binade with h3 | h3
      · have e1 : (r + 1) / f.binade = q := by
          rw [hr, Nat.add_assoc, Nat.mul_add_div hp, Nat.div_eq_of_lt h3, Nat.add_zero]
        have e2 : (r + 1) % f.binade = m + 1 := by
          rw [hr, Nat.add_assoc, Nat.mul_add_mod, Nat.mod_eq_of_lt h3]
        rw [e1, e2]
        exact Nat.mul_lt_mul_of_pos_right (by omega) (two_pos _)
      · have e0 : m + 1 = f.binade := by omega
        have e1 : (r + 1) / f.binade = q + 1 := by
          rw [hr, Nat.add_assoc, Nat.mul_add_div hp, e0, Nat.div_self hp]
        have e2 : (r + 1) % f.binade = 0 := by
          rw [hr, Nat.add_assoc, Nat.mul_add_mod, e0, Nat.mod_self]
        rw [e1, e2, Nat.add_zero, show q + 1 - 1 = (q - 1) + 1 by omega, Nat.pow_succ, Nat.mul_comm (2 ^ (q - 1)), ← Nat.mul_assoc]
        exact Nat.mul_lt_mul_of_pos_right (by omega) (two_pos _)

theorem vl_mono_lt (f : Format) {r s : Nat} (h : r < s) : vl f r < vl f s := by
  induction s with
  | zero => omega
  | succ s ih =>
    rcases Nat.lt_or_ge r s with h1 | h1
    · exact Nat.lt_trans (ih h1) (vl_step f s)
    · have : r = s := by omega
      rw [this]; exact vl_step f s
theorem vl_mono (f : Format) {r s : Nat} (h : r ≤ s) : vl f r ≤ vl f s := by
  rcases Nat.lt_or_eq_of_le h with h | h
  · exact Nat.le_of_lt (vl_mono_lt f h)
  · rw [h]; exact Nat.le_refl _
theorem vl_lt_iff (f : Format) {r s : Nat} : vl f r < vl f s ↔ r < s := by
  constructor
  · intro h
    rcases Nat.lt_or_ge r s with h1 | h1
    · exact h1
    · have := vl_mono f h1; omega
  · exact vl_mono_lt f
theorem vl_le_iff (f : Format) {r s : Nat} : vl f r ≤ vl f s ↔ r ≤ s := by
  have := vl_lt_iff f (r := s) (s := r)
  omega
theorem vl_inj (f : Format) {r s : Nat} (h : vl f r = vl f s) : r = s := by
  have h1 := (vl_le_iff f (r := r) (s := s)).1 (by omega)
  have h2 := (vl_le_iff f (r := s) (s := r)).1 (by omega)
  omega
theorem vl_zero (f : Format) : vl f 0 = 0 := vl_low (bin_pos f)

/-- A word of a number, neither infinite nor a NaN. -/
def finW (k : FloatKind) (b : Nat) : Bool := decide (rg k.format b < k.format.infRung)
def infW (k : FloatKind) (b : Nat) : Bool := decide (rg k.format b = k.format.infRung)
/-- Its value. -/
def V (k : FloatKind) (b : Nat) : Int := if ng k.format b then -(vl k.format (rg k.format b) : Int) else (vl k.format (rg k.format b) : Int)

theorem kinds (k : FloatKind) (b : Nat) : (finW k b = true ∧ infW k b = false ∧ nanW k b = false) ∨ (finW k b = false ∧ infW k b = true ∧ nanW k b = false) ∨ (finW k b = false ∧ infW k b = false ∧ nanW k b = true) := by
  unfold finW infW nanW
  rcases Nat.lt_trichotomy (rg k.format b) k.format.infRung with h | h | h
  · left; simp; omega
  · right; left; simp; omega
  · right; right; simp; omega

theorem decode_fin {k : FloatKind} {b : Nat} (h : finW k b = true) : k.decode b = .number (ng k.format b) (mgR k.format (rg k.format b)) (plR k.format (rg k.format b)) := by
  unfold FloatKind.decode
  rw [read_eq]
  exact rungRead_fin _ _ (by simpa [finW] using h)
theorem decode_inf {k : FloatKind} {b : Nat} (h : infW k b = true) : k.decode b = .infinity (ng k.format b) := by
  have h' : rg k.format b = k.format.infRung := by simpa [infW] using h
  have hb := bin_le k
  have : 0 < k.format.binade := bin_pos _
  unfold FloatKind.decode
  rw [read_eq, h']
  unfold rungRead
  rw [if_neg (by omega), if_neg (by omega), if_pos rfl]

theorem lp_neg (k : FloatKind) : k.format.leastPlace < 0 := by cases k <;> decide

/-! ## Signed multiples -/

theorem signed_mul (s : Bool) (m up d : Nat) : signed s m up * (2 ^ d : Nat) = signed s m (up + d) := by
  unfold signed
  simp only [Nat.shiftLeft_eq, Nat.pow_add]
  cases s <;> simp [Int.mul_assoc, Int.neg_mul]

theorem signed_V {k : FloatKind} {b : Nat} {B : Int} (h1 : B ≤ plR k.format (rg k.format b)) (h2 : k.format.leastPlace ≤ B) :
    signed (ng k.format b) (mgR k.format (rg k.format b)) (plR k.format (rg k.format b) - B).toNat * (2 ^ (B - k.format.leastPlace).toNat : Nat) = V k b := by
  rw [signed_mul, show (plR k.format (rg k.format b) - B).toNat + (B - k.format.leastPlace).toNat = (plR k.format (rg k.format b) - k.format.leastPlace).toNat by omega]
  unfold signed V vl
  simp only [Nat.shiftLeft_eq]

theorem compare_mul (x y : Int) {c : Nat} (hc : 0 < c) : compare (x * c) (y * c) = compare x y := by
  have hc' : (0 : Int) < c := by omega
  have h1 : x * c < y * c ↔ x < y := ⟨fun h => Int.lt_of_mul_lt_mul_right h (by omega), fun h => Int.mul_lt_mul_of_pos_right h hc'⟩
  have h2 : x * c = y * c ↔ x = y := ⟨fun h => Int.eq_of_mul_eq_mul_right (by omega) h, fun h => by rw [h]⟩
  show compareOfLessAndEq _ _ = compareOfLessAndEq _ _
  unfold compareOfLessAndEq
  simp only [h1, h2]

theorem order_fin {k : FloatKind} {a b : Nat} (ha : finW k a = true) (hb : finW k b = true) : k.format.order a b = some (compare (V k a) (V k b)) := by
  have pa := plR_ge k.format (rg k.format a)
  have pb := plR_ge k.format (rg k.format b)
  show (k.decode a).order (k.decode b) = _
  rw [decode_fin ha, decode_fin hb]
  simp only [Datum.order]
  rw [← signed_V (k := k) (b := a) (B := min (plR k.format (rg k.format a)) (plR k.format (rg k.format b))) (by omega) (by omega),
    ← signed_V (k := k) (b := b) (B := min (plR k.format (rg k.format a)) (plR k.format (rg k.format b))) (by omega) (by omega), compare_mul _ _ (two_pos _)]

/-! ## Sums -/

theorem add_sign {n r : Nat} (h : r < 2 ^ n) : 2 ^ n + r = r ^^^ 2 ^ n := by
  apply Nat.eq_of_testBit_eq
  intro i
  rw [Nat.testBit_xor, Nat.testBit_two_pow]
  rcases Nat.lt_trichotomy i n with hi | hi | hi
  · rw [Nat.testBit_two_pow_add_gt hi]
    have : ¬ n = i := by omega
    simp [this]
  · subst hi
    rw [Nat.testBit_two_pow_add_eq]
    simp
  · have h1 : 2 ^ (n + 1) ≤ 2 ^ i := Nat.pow_le_pow_right (by omega) (by omega)
    rw [Nat.pow_succ] at h1
    rw [Nat.testBit_lt_two_pow (show 2 ^ n + r < 2 ^ i by omega), Nat.testBit_lt_two_pow (show r < 2 ^ i by omega)]
    have : ¬ n = i := by omega
    simp [this]

theorem V_neg {k : FloatKind} {b : Nat} (hb : b < 2 ^ k.format.width) : V k (Op.negFloat k b) = - V k b := by
  have hr := neg_rg k b
  have hn : ng k.format (Op.negFloat k b) = !ng k.format b := by
    rw [word_of k hb]
    have h1 : rg k.format b < k.format.signWeight := Nat.mod_lt _ (sw_pos _)
    have e : Op.negFloat k (k.format.word (ng k.format b) (rg k.format b)) = k.format.word (!ng k.format b) (rg k.format b) := by
      unfold Op.negFloat Format.word
      have hs : k.format.signWeight = 2 ^ (k.format.exponentBits + k.format.fractionBits) := rfl
      rw [← hs]
      have h2 : ∀ r, r < k.format.signWeight → k.format.signWeight + r = r ^^^ k.format.signWeight := by
        intro r hr
        rw [hs] at hr ⊢
        exact add_sign hr
      cases ng k.format b
      · simp; rw [h2 _ h1]
      · simp; rw [h2 _ h1, Nat.xor_assoc, Nat.xor_self, Nat.xor_zero]
    rw [e, word_ng _ _ h1, word_ng _ _ h1]
  unfold V
  rw [hr, hn]
  cases ng k.format b <;> simp

theorem V_abs (k : FloatKind) (b : Nat) : (V k b).natAbs = vl k.format (rg k.format b) := by
  unfold V; cases ng k.format b <;> simp

/-! ## Exactness -/

theorem leV_refl (m : Nat) (e : Int) : leV m e m e := Nat.le_refl _

theorem mg_rungOf {f : Format} {m : Nat} {e : Int} (h : IsMag f m e) : mgR f (rungOf f m e) = m ∧ plR f (rungOf f m e) = e := by
  obtain ⟨h1, h2, h3⟩ := h
  have hp := bin_pos f
  have hb : f.binade = 2 ^ f.fractionBits := rfl
  rw [Nat.pow_succ, ← hb] at h1
  rw [← hb] at h3
  unfold rungOf mgR plR
  rcases Nat.lt_or_ge m f.binade with h4 | h4
  · have e0 : e = f.leastPlace := by rcases h3 with h3 | h3 <;> omega
    rw [e0, show (f.leastPlace - f.leastPlace).toNat = 0 by omega, Nat.zero_mul, Nat.zero_add, if_pos h4, if_pos h4]
    exact ⟨rfl, rfl⟩
  · have hd : ((e - f.leastPlace).toNat * f.binade + m) = f.binade * ((e - f.leastPlace).toNat + 1) + (m - f.binade) := by
      rw [Nat.mul_add, Nat.mul_one, Nat.mul_comm]; omega
    have q1 : ((e - f.leastPlace).toNat * f.binade + m) / f.binade = (e - f.leastPlace).toNat + 1 := by
      rw [hd, Nat.mul_add_div hp, Nat.div_eq_of_lt (by omega), Nat.add_zero]
    have q2 : ((e - f.leastPlace).toNat * f.binade + m) % f.binade = m - f.binade := by
      rw [hd, Nat.mul_add_mod, Nat.mod_eq_of_lt (by omega)]
    rw [q1, q2, if_neg (by omega), if_neg (by omega)]
    exact ⟨by omega, by omega⟩

/-- A number whose value is that of rung c is rounded to c. -/
theorem nearest_eq (k : FloatKind) (s : Bool) {m c : Nat} {e : Int} (hc : c ≤ k.format.infRung) (h1 : leV m e (mgR k.format c) (plR k.format c)) (h2 : leV (mgR k.format c) (plR k.format c) m e) :
    rg k.format (k.format.nearest s m e) = c := by
  have a := nearest_le k s h1
  have b := le_nearest k s hc h2
  omega

/-! ## 32 bits in 64 -/

theorem e32 : Ieee.single.leastPlace = -149 := by decide
theorem e64 : Ieee.double.leastPlace = -1074 := by decide

theorem mag32 {r : Nat} (h : r < Ieee.single.infRung) : mgR Ieee.single r < 2 ^ 24 ∧ -149 ≤ plR Ieee.single r ∧ plR Ieee.single r ≤ 104 := by
  have h1 := isMag_rung Ieee.single r
  refine ⟨h1.lt, by have := h1.least; rw [e32] at this; exact this, ?_⟩
  have hi : Ieee.single.infRung = 2139095040 := by decide
  have hb : Ieee.single.binade = 8388608 := by decide
  unfold plR
  rw [e32, hb]
  split
  · omega
  · rw [hi] at h; omega

/-- 2 ^ wexp units of 64 bits are one of 32 bits. -/
def wexp : Nat := 925
theorem wexp_eq : wexp = 925 := rfl

theorem wr1 (e : Int) (d : Nat) (h : e ≤ 104) : (e - (d : Int) - -1074).toNat ≤ 1178 := by omega
theorem wr2 {x m B I : Nat} (h : x ≤ 1178) (hm : m < 2 * B) (hi : I = 2047 * B) : x * B + m < I := by
  have := Nat.mul_le_mul_right B h
  omega
theorem wr3 (L : Nat) (e : Int) (h : L < 24) (h2 : -149 ≤ e) : 52 - L + (e - ((52 - L : Nat) : Int) - -1074).toNat = (e + 149).toNat + wexp := by
  rw [wexp_eq]; omega
theorem inf64 : Ieee.double.infRung = 2047 * Ieee.double.binade := by decide

/-- The rung in 64 bits of a magnitude of 32 bits. -/
theorem wide_rung (s : Bool) {r : Nat} (h : r < Ieee.single.infRung) :
    ∃ c, c < Ieee.double.infRung ∧ Ieee.double.nearest s (mgR Ieee.single r) (plR Ieee.single r) = Ieee.double.word s c ∧ vl Ieee.double c = vl Ieee.single r * 2 ^ wexp := by
  obtain ⟨a1, a2, a3⟩ := mag32 h
  generalize hm : mgR Ieee.single r = m at *
  generalize he : plR Ieee.single r = e at *
  have hv : vl Ieee.single r = m * 2 ^ (e + 149).toNat := by
    unfold vl; rw [hm, he, e32, show (e - -149).toNat = (e + 149).toNat by omega]
  by_cases h0 : m = 0
  · refine ⟨0, by decide, ?_, ?_⟩
    · unfold Format.nearest; rw [if_pos h0]
    · rw [vl_zero, hv, h0]; simp
  · have hL1 : m < 2 ^ (m.log2 + 1) := Nat.lt_log2_self
    have hL2 : 2 ^ m.log2 ≤ m := Nat.log2_self_le h0
    have hL3 : m.log2 < 24 := (Nat.log2_lt h0).2 a1
    generalize m.log2 = L at *
    have hM : IsMag Ieee.double (m * 2 ^ (52 - L)) (e - (52 - L : Nat)) := by
      refine ⟨?_, by rw [e64]; omega, .inl ?_⟩
      · calc m * 2 ^ (52 - L) < 2 ^ (L + 1) * 2 ^ (52 - L) := Nat.mul_lt_mul_of_pos_right hL1 (two_pos _)
          _ = 2 ^ (L + 1 + (52 - L)) := (Nat.pow_add _ _ _).symm
          _ = 2 ^ (Ieee.double.fractionBits + 1) := by rw [show L + 1 + (52 - L) = 53 by omega]; rfl
      · calc 2 ^ Ieee.double.fractionBits = 2 ^ (L + (52 - L)) := by rw [show L + (52 - L) = 52 by omega]; rfl
          _ = 2 ^ L * 2 ^ (52 - L) := Nat.pow_add _ _ _
          _ ≤ m * 2 ^ (52 - L) := Nat.mul_le_mul_right _ hL2
    have hlt := hM.lt
    obtain ⟨g1, g2⟩ := mg_rungOf hM
    have hfr : (2 : Nat) ^ (Ieee.double.fractionBits + 1) = 2 * Ieee.double.binade := by rw [Nat.pow_succ, Nat.mul_comm]; rfl
    have hc : rungOf Ieee.double (m * 2 ^ (52 - L)) (e - (52 - L : Nat)) < Ieee.double.infRung := by
      rw [hfr] at hlt
      unfold rungOf
      rw [e64]
      exact wr2 (wr1 e (52 - L) a3) hlt inf64
    have q1 : leV m e (m * 2 ^ (52 - L)) (e - (52 - L : Nat)) := by
      rw [leV_base (e - (52 - L : Nat)) (by omega) (by omega), show (e - (e - ((52 - L : Nat) : Int))).toNat = 52 - L by omega, show (e - ((52 - L : Nat) : Int) - (e - ((52 - L : Nat) : Int))).toNat = 0 by omega, Nat.pow_zero, Nat.mul_one]
      exact Nat.le_refl _
    have q2 : leV (m * 2 ^ (52 - L)) (e - (52 - L : Nat)) m e := by
      rw [leV_base (e - (52 - L : Nat)) (by omega) (by omega), show (e - (e - ((52 - L : Nat) : Int))).toNat = 52 - L by omega, show (e - ((52 - L : Nat) : Int) - (e - ((52 - L : Nat) : Int))).toNat = 0 by omega, Nat.pow_zero, Nat.mul_one]
      exact Nat.le_refl _
    refine ⟨_, hc, ?_, ?_⟩
    · have hr := nearest_eq .f64 s (m := m) (e := e) (Nat.le_of_lt hc) (by show leV _ _ (mgR Ieee.double _) (plR Ieee.double _); rw [g1, g2]; exact q1) (by show leV (mgR Ieee.double _) (plR Ieee.double _) _ _; rw [g1, g2]; exact q2)
      have hn := nearest_ng .f64 s m e
      have hw := word_of .f64 (Ieee.Format.nearest_lt Ieee.double s m e)
      change Ieee.double.nearest s m e = Ieee.double.word (ng Ieee.double (Ieee.double.nearest s m e)) (rg Ieee.double (Ieee.double.nearest s m e)) at hw
      change rg Ieee.double (Ieee.double.nearest s m e) = _ at hr
      change ng Ieee.double (Ieee.double.nearest s m e) = s at hn
      rw [hn, hr] at hw
      exact hw
    · rw [hv]
      unfold vl
      rw [g1, g2, e64, Nat.mul_assoc, Nat.mul_assoc, ← Nat.pow_add, ← Nat.pow_add, wr3 L e hL3 a2]

def wideW (b : Nat) : Nat := FloatKind.f64.encode (FloatKind.f32.decode b)

theorem wide_fin {b : Nat} (h : finW .f32 b = true) : finW .f64 (wideW b) = true ∧ V .f64 (wideW b) = V .f32 b * (2 ^ wexp : Nat) ∧ ng Ieee.double (wideW b) = ng Ieee.single b := by
  have h' : rg Ieee.single b < Ieee.single.infRung := of_decide_eq_true h
  obtain ⟨c, c1, c2, c3⟩ := wide_rung (ng Ieee.single b) h'
  have hd := decode_fin h
  have e : wideW b = Ieee.double.word (ng Ieee.single b) c := by
    unfold wideW
    rw [hd]
    exact c2
  have hi := inf_lt .f64
  have hc : c < Ieee.double.signWeight := by
    have : Ieee.double.infRung < Ieee.double.signWeight := hi
    omega
  have r1 : rg Ieee.double (wideW b) = c := by rw [e]; exact word_rg _ _ hc
  have r2 : ng Ieee.double (wideW b) = ng Ieee.single b := by rw [e]; exact word_ng _ _ hc
  refine ⟨?_, ?_, r2⟩
  · unfold finW
    exact decide_eq_true (by show rg Ieee.double (wideW b) < Ieee.double.infRung; omega)
  · show (if ng Ieee.double (wideW b) then -(vl Ieee.double (rg Ieee.double (wideW b)) : Int) else (vl Ieee.double (rg Ieee.double (wideW b)) : Int)) = (if ng Ieee.single b then -(vl Ieee.single (rg Ieee.single b) : Int) else (vl Ieee.single (rg Ieee.single b) : Int)) * _
    rw [r1, r2, c3]
    cases ng Ieee.single b
    · simp only [Bool.false_eq_true, if_false, Int.natCast_mul]
    · simp only [if_true, Int.natCast_mul, Int.neg_mul]

theorem wide_inf {b : Nat} (h : infW .f32 b = true) : infW .f64 (wideW b) = true ∧ ng Ieee.double (wideW b) = ng Ieee.single b := by
  have e : wideW b = Ieee.double.word (ng Ieee.single b) Ieee.double.infRung := by
    unfold wideW
    rw [decode_inf h]
    rfl
  have hi : Ieee.double.infRung < Ieee.double.signWeight := inf_lt .f64
  refine ⟨?_, by rw [e]; exact word_ng _ _ hi⟩
  unfold infW
  exact decide_eq_true (by show rg Ieee.double (wideW b) = Ieee.double.infRung; rw [e]; exact word_rg _ _ hi)

end Go.Proofs.Ytoimjjagkfgogaa
