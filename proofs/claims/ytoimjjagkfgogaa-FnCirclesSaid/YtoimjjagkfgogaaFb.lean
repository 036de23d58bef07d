/- What the operations make of the values of words: sums, products, quotients and roots held against words of the format; bounds by powers of two. No conditions. -/
import Derived.Test.YtoimjjagkfgogaaFy
namespace Go.Proofs.Ytoimjjagkfgogaa
open Ieee

/-! ## Rounding in units -/

theorem near_le (k : FloatKind) (s : Bool) {m c : Nat} {e : Int} (he : k.format.leastPlace ≤ e) (h : m * 2 ^ (e - k.format.leastPlace).toNat ≤ vl k.format c) : rg k.format (k.format.nearest s m e) ≤ c := by
  refine nearest_le k s ((leV_vl_right _ _ _ _).2 ?_)
  rw [leV_base k.format.leastPlace he (Int.le_refl _), Int.sub_self, Int.toNat_zero, Nat.pow_zero, Nat.mul_one]
  exact h
theorem near_ge (k : FloatKind) (s : Bool) {m c : Nat} {e : Int} (he : k.format.leastPlace ≤ e) (hc : c ≤ k.format.infRung) (h : vl k.format c ≤ m * 2 ^ (e - k.format.leastPlace).toNat) : c ≤ rg k.format (k.format.nearest s m e) := by
  refine le_nearest k s hc ((leV_vl_left _ _ _ _).2 ?_)
  rw [leV_base k.format.leastPlace (Int.le_refl _) he, Int.sub_self, Int.toNat_zero, Nat.pow_zero, Nat.mul_one]
  exact h

/-! ## Sums -/

/-- What the number s, m, e is worth, v units, and that it is v. -/
structure Worth (k : FloatKind) (s : Bool) (m : Nat) (e : Int) (v : Int) : Prop where
  least : k.format.leastPlace ≤ e
  size : ((m * 2 ^ (e - k.format.leastPlace).toNat : Nat) : Int) = v.natAbs
  neg : v < 0 → s = true
  pos : 0 < v → s = false

theorem natAbs_mul_nat (x : Int) (c : Nat) : (x * (c : Int)).natAbs = x.natAbs * c := by rw [Int.natAbs_mul]; simp

theorem sum_worth {k : FloatKind} {a b : Nat} (ha : finW k a = true) (hb : finW k b = true) :
    ∃ s m e, (k.decode a).sum (k.decode b) = some (.number s m e) ∧ Worth k s m e (V k a + V k b) ∧ (V k a + V k b = 0 → s = (ng k.format a && ng k.format b)) := by
  have pa := plR_ge k.format (rg k.format a)
  have pb := plR_ge k.format (rg k.format b)
  rw [decode_fin ha, decode_fin hb]
  simp only [Datum.sum]
  have e1 := signed_V (k := k) (b := a) (B := min (plR k.format (rg k.format a)) (plR k.format (rg k.format b))) (by omega) (by omega)
  have e2 := signed_V (k := k) (b := b) (B := min (plR k.format (rg k.format a)) (plR k.format (rg k.format b))) (by omega) (by omega)
  generalize hB : min (plR k.format (rg k.format a)) (plR k.format (rg k.format b)) = B at *
  generalize hT1 : signed (ng k.format a) (mgR k.format (rg k.format a)) (plR k.format (rg k.format a) - B).toNat = T1 at *
  generalize hT2 : signed (ng k.format b) (mgR k.format (rg k.format b)) (plR k.format (rg k.format b) - B).toNat = T2 at *
  have hp := two_pos (B - k.format.leastPlace).toNat
  generalize hc : 2 ^ (B - k.format.leastPlace).toNat = c at *
  have e3 : (T1 + T2) * (c : Int) = V k a + V k b := by rw [Int.add_mul, e1, e2]
  have hc0 : (0 : Int) < c := by omega
  refine ⟨_, _, B, rfl, ⟨by omega, ?_, fun h => ?_, fun h => ?_⟩, fun h => ?_⟩
  · rw [hc, ← e3, natAbs_mul_nat]
  · have h1 : T1 + T2 < 0 := by
      rcases Int.lt_or_le (T1 + T2) 0 with h1 | h1
      · exact h1
      · have := Int.mul_nonneg h1 (Int.le_of_lt hc0); omega
    rw [if_neg (by omega)]; exact decide_eq_true h1
  · have h1 : 0 < T1 + T2 := by
      rcases Int.lt_or_le 0 (T1 + T2) with h1 | h1
      · exact h1
      · have := Int.mul_nonneg (show 0 ≤ -(T1 + T2) by omega) (Int.le_of_lt hc0)
        rw [Int.neg_mul] at this; omega
    rw [if_neg (by omega)]; exact decide_eq_false (by omega)
  · have h1 : T1 + T2 = 0 := by
      rw [← e3] at h
      rcases Int.mul_eq_zero.1 h with h1 | h1 <;> omega
    rw [if_pos h1]

/-- The word that a number worth v is written as. -/
theorem worth_le {k : FloatKind} {s : Bool} {m c : Nat} {e v : Int} (h : Worth k s m e v) (hv : v.natAbs ≤ vl k.format c) : rg k.format (k.format.nearest s m e) ≤ c := by
  refine near_le k s h.least ?_
  have := h.size
  omega
theorem worth_ge {k : FloatKind} {s : Bool} {m c : Nat} {e v : Int} (h : Worth k s m e v) (hc : c ≤ k.format.infRung) (hv : vl k.format c ≤ v.natAbs) : c ≤ rg k.format (k.format.nearest s m e) := by
  refine near_ge k s h.least hc ?_
  have := h.size
  omega

theorem add_word {k : FloatKind} {a b : Nat} (ha : finW k a = true) (hb : finW k b = true) :
    ∃ s m e, floatBits .add k a b = some (k.format.nearest s m e) ∧ Worth k s m e (V k a + V k b) ∧ (V k a + V k b = 0 → s = (ng k.format a && ng k.format b)) := by
  obtain ⟨s, m, e, h1, h2, h3⟩ := sum_worth ha hb
  refine ⟨s, m, e, ?_, h2, h3⟩
  show ((k.decode a).sum (k.decode b)).map k.format.write = _
  rw [h1]; rfl

theorem decode_neg {k : FloatKind} {b : Nat} (hb : b < 2 ^ k.format.width) : k.decode (Op.negFloat k b) = (k.decode b).opposite := by
  have hr := neg_rg k b
  have hn : ng k.format (Op.negFloat k b) = !ng k.format b := by
    rw [word_of k hb]
    have h1 : rg k.format b < k.format.signWeight := Nat.mod_lt _ (sw_pos _)
    have e : Op.negFloat k (k.format.word (ng k.format b) (rg k.format b)) = k.format.word (!ng k.format b) (rg k.format b) := by
      unfold Op.negFloat Format.word
      have hs : k.format.signWeight = 2 ^ (k.format.exponentBits + k.format.fractionBits) := rfl
      rw [← hs]
      have h2 : ∀ r, r < k.format.signWeight → k.format.signWeight + r = r ^^^ k.format.signWeight := by
        intro r hr
        rw [hs] at hr ⊢
        exact add_sign hr
      cases ng k.format b
      · simp; rw [h2 _ h1]
      · simp; rw [h2 _ h1, Nat.xor_assoc, Nat.xor_self, Nat.xor_zero]
    rw [e, word_ng _ _ h1, word_ng _ _ h1]
  unfold FloatKind.decode
  rw [read_eq, read_eq, hr, hn]
  unfold rungRead
  split
  · rfl
  · split
    · rfl
    · split <;> rfl

theorem ng_neg {k : FloatKind} {b : Nat} (hb : b < 2 ^ k.format.width) : ng k.format (Op.negFloat k b) = !ng k.format b := by
  have h := decode_neg hb
  unfold FloatKind.decode at h
  rw [read_eq, read_eq, neg_rg] at h
  unfold rungRead at h
  split at h
  · simpa [Datum.opposite] using h
  · split at h
    · simpa [Datum.opposite] using h
    · split at h
      · simpa [Datum.opposite] using h
      · simpa [Datum.opposite] using h

theorem fin_neg (k : FloatKind) (b : Nat) : finW k (Op.negFloat k b) = finW k b := by unfold finW; rw [neg_rg]
theorem inf_neg (k : FloatKind) (b : Nat) : infW k (Op.negFloat k b) = infW k b := by unfold infW; rw [neg_rg]

theorem sub_is_add {k : FloatKind} {a b : Nat} (hb : b < 2 ^ k.format.width) : floatBits .sub k a b = floatBits .add k a (Op.negFloat k b) := by
  show ((k.decode a).sum (k.decode b).opposite).map k.format.write = ((k.decode a).sum (k.decode (Op.negFloat k b))).map k.format.write
  rw [decode_neg hb]

theorem sub_word {k : FloatKind} {a b : Nat} (hbl : b < 2 ^ k.format.width) (ha : finW k a = true) (hb : finW k b = true) :
    ∃ s m e, floatBits .sub k a b = some (k.format.nearest s m e) ∧ Worth k s m e (V k a - V k b) ∧ (V k a - V k b = 0 → s = (ng k.format a && !ng k.format b)) := by
  obtain ⟨s, m, e, h1, h2, h3⟩ := add_word (k := k) (a := a) (b := Op.negFloat k b) ha (by rw [fin_neg]; exact hb)
  rw [V_neg hbl, ← Int.sub_eq_add_neg] at h2 h3
  rw [ng_neg hbl] at h3
  exact ⟨s, m, e, by rw [sub_is_add hbl]; exact h1, h2, h3⟩

/-! ## Products -/

theorem mul_word {k : FloatKind} {a b : Nat} (ha : finW k a = true) (hb : finW k b = true) :
    floatBits .mul k a b = some (k.format.nearest (ng k.format a ^^ ng k.format b) (mgR k.format (rg k.format a) * mgR k.format (rg k.format b)) (plR k.format (rg k.format a) + plR k.format (rg k.format b))) := by
  show ((k.decode a).product (k.decode b)).map k.format.write = _
  rw [decode_fin ha, decode_fin hb]
  rfl

/-- Of two rungs: their values' product, in units of the square. -/
theorem prod_scale (f : Format) (r s : Nat) : mgR f r * mgR f s * 2 ^ (plR f r + plR f s - 2 * f.leastPlace).toNat = vl f r * vl f s := by
  have h1 := plR_ge f r
  have h2 := plR_ge f s
  unfold vl
  rw [show (plR f r + plR f s - 2 * f.leastPlace).toNat = (plR f r - f.leastPlace).toNat + (plR f s - f.leastPlace).toNat by omega, Nat.pow_add]
  simp only [Nat.mul_assoc, Nat.mul_left_comm]

theorem mul_le {k : FloatKind} {s : Bool} {r t c : Nat} (h : vl k.format r * vl k.format t ≤ vl k.format c * 2 ^ (-k.format.leastPlace).toNat) :
    rg k.format (k.format.nearest s (mgR k.format r * mgR k.format t) (plR k.format r + plR k.format t)) ≤ c := by
  have hl := lp_neg k
  have h1 := plR_ge k.format r
  have h2 := plR_ge k.format t
  refine nearest_le k s ((leV_vl_right _ _ _ _).2 ?_)
  rw [leV_base (2 * k.format.leastPlace) (by omega) (by omega), prod_scale, show (k.format.leastPlace - 2 * k.format.leastPlace).toNat = (-k.format.leastPlace).toNat by omega]
  exact h
theorem mul_ge {k : FloatKind} {s : Bool} {r t c : Nat} (hc : c ≤ k.format.infRung) (h : vl k.format c * 2 ^ (-k.format.leastPlace).toNat ≤ vl k.format r * vl k.format t) :
    c ≤ rg k.format (k.format.nearest s (mgR k.format r * mgR k.format t) (plR k.format r + plR k.format t)) := by
  have hl := lp_neg k
  have h1 := plR_ge k.format r
  have h2 := plR_ge k.format t
  refine le_nearest k s hc ((leV_vl_left _ _ _ _).2 ?_)
  rw [leV_base (2 * k.format.leastPlace) (by omega) (by omega), prod_scale, show (k.format.leastPlace - 2 * k.format.leastPlace).toNat = (-k.format.leastPlace).toNat by omega]
  exact h

/-! ## Quotients -/

theorem mgR_pos {f : Format} {r : Nat} (h : r ≠ 0) : mgR f r ≠ 0 := by
  have hp := bin_pos f
  unfold mgR
  split <;> omega
theorem mgR_zero (f : Format) : mgR f 0 = 0 := by
  unfold mgR
  rw [if_pos (bin_pos f)]

/-- The whole part of the quotient and the digit behind it. -/
def quoM (f : Format) (m n : Nat) : Nat := 2 * (m <<< (f.fractionBits + 2 + n.log2 - m.log2) / n) + (m <<< (f.fractionBits + 2 + n.log2 - m.log2) % n != 0).toNat
def quoE (f : Format) (m n : Nat) (i j : Int) : Int := i - j - ((f.fractionBits + 2 + n.log2 - m.log2 : Nat) : Int) - 1

theorem div_word {k : FloatKind} {a b : Nat} (ha : finW k a = true) (hb : finW k b = true) (h0 : rg k.format b ≠ 0) :
    floatBits .quo k a b = some (k.format.nearest (ng k.format a ^^ ng k.format b) (quoM k.format (mgR k.format (rg k.format a)) (mgR k.format (rg k.format b)))
      (quoE k.format (mgR k.format (rg k.format a)) (mgR k.format (rg k.format b)) (plR k.format (rg k.format a)) (plR k.format (rg k.format b)))) := by
  show ((k.decode a).quotient (k.format.fractionBits + 2) (k.decode b)).map k.format.write = _
  rw [decode_fin ha, decode_fin hb]
  simp only [Datum.quotient]
  rw [if_neg (mgR_pos h0)]
  rfl

theorem quo_core_le {M n A : Nat} (h : M ≤ n * A) : 2 * (M / n) + (M % n != 0).toNat ≤ 2 * A := by
  have h1 := Nat.div_add_mod M n
  have ht : ∀ b : Bool, b.toNat ≤ 1 := by decide
  have h2 := ht (M % n != 0)
  rcases Nat.eq_zero_or_pos n with hn | hn
  · subst hn
    have : M = 0 := by omega
    subst this
    simp
  · have h3 : M / n ≤ A := by
      calc M / n ≤ n * A / n := Nat.div_le_div_right h
        _ = A := Nat.mul_div_cancel_left _ hn
    rcases Nat.lt_or_eq_of_le h3 with h4 | h4
    · omega
    · rw [h4] at h1
      have : M % n = 0 := by omega
      rw [this]
      simp
      omega
theorem quo_core_ge {M n A : Nat} (hn : 0 < n) (h : n * A ≤ M) : 2 * A ≤ 2 * (M / n) + (M % n != 0).toNat := by
  have h3 : A ≤ M / n := (Nat.le_div_iff_mul_le hn).2 (by rw [Nat.mul_comm]; exact h)
  omega

theorem more_ge {d m n : Nat} (hm : m ≠ 0) : 2 ^ (d + n.log2) ≤ m <<< (d + n.log2 - m.log2) := by
  rw [Nat.shiftLeft_eq]
  have h := Nat.log2_self_le hm
  calc 2 ^ (d + n.log2) ≤ 2 ^ (m.log2 + (d + n.log2 - m.log2)) := Nat.pow_le_pow_right (by omega) (by omega)
    _ = 2 ^ m.log2 * 2 ^ (d + n.log2 - m.log2) := Nat.pow_add _ _ _
    _ ≤ m * 2 ^ (d + n.log2 - m.log2) := Nat.mul_le_mul_right _ h

theorem quo_le {f : Format} {m n c : Nat} {i j : Int} (h : leV m i (mgR f c * n) (plR f c + j)) : leV (quoM f m n) (quoE f m n i j) (mgR f c) (plR f c) := by
  by_cases hm : m = 0
  · subst hm
    unfold quoM leV
    simp
  · have hM := more_ge (d := f.fractionBits + 2) (n := n) hm
    have hc := (isMag_rung f c).lt
    have hn2 : n < 2 ^ (n.log2 + 1) := Nat.lt_log2_self
    unfold quoM quoE
    rw [Nat.shiftLeft_eq] at hM ⊢
    generalize hmore : f.fractionBits + 2 + n.log2 - m.log2 = more at *
    generalize hmc : mgR f c = mc at *
    generalize hpc : plR f c = pc at *
    rcases Int.lt_or_le (i - j - (more : Int) - 1) pc with hE | hE
    · have h1 := (leV_base (i - more) (by omega) (by omega)).1 h
      rw [show (i - (i - (more : Int))).toNat = more by omega] at h1
      generalize hd : (pc + j - (i - (more : Int))).toNat = d at *
      have h2 := quo_core_le (M := m * 2 ^ more) (n := n) (A := mc * 2 ^ d) (by
        calc m * 2 ^ more ≤ mc * n * 2 ^ d := h1
          _ = n * (mc * 2 ^ d) := by rw [Nat.mul_comm mc n, Nat.mul_assoc])
      rw [leV_base (i - j - (more : Int) - 1) (Int.le_refl _) (by omega), Int.sub_self, Int.toNat_zero, Nat.pow_zero, Nat.mul_one, show (pc - (i - j - (more : Int) - 1)).toNat = d + 1 by omega, Nat.pow_succ]
      calc _ ≤ 2 * (mc * 2 ^ d) := h2
        _ = mc * (2 ^ d * 2) := by rw [Nat.mul_comm 2, Nat.mul_assoc]
    · exfalso
      have h1 := (leV_base (pc + j) (by omega) (by omega)).1 h
      rw [Int.sub_self, Int.toNat_zero, Nat.pow_zero, Nat.mul_one] at h1
      have e1 : 2 * (m * 2 ^ more) ≤ m * 2 ^ (i - (pc + j)).toNat := by
        rw [show (i - (pc + j)).toNat = more + 1 + (i - (pc + j) - more - 1).toNat by omega, Nat.pow_add, Nat.pow_succ]
        have := two_pos (i - (pc + j) - more - 1).toNat
        calc 2 * (m * 2 ^ more) = m * (2 ^ more * 2) * 1 := by rw [Nat.mul_one, Nat.mul_comm 2, Nat.mul_assoc]
          _ ≤ m * (2 ^ more * 2) * 2 ^ (i - (pc + j) - more - 1).toNat := Nat.mul_le_mul_left _ this
          _ = m * (2 ^ more * 2 * 2 ^ (i - (pc + j) - more - 1).toNat) := Nat.mul_assoc _ _ _
      have e2 : mc * n ≤ 2 ^ (f.fractionBits + 1) * 2 ^ (n.log2 + 1) := Nat.mul_le_mul (Nat.le_of_lt hc) (Nat.le_of_lt hn2)
      rw [← Nat.pow_add, show f.fractionBits + 1 + (n.log2 + 1) = f.fractionBits + 2 + n.log2 by omega] at e2
      have := two_pos (f.fractionBits + 2 + n.log2)
      omega

theorem quo_ge {f : Format} {m n c : Nat} {i j : Int} (hn : n ≠ 0) (h : leV (mgR f c * n) (plR f c + j) m i) : leV (mgR f c) (plR f c) (quoM f m n) (quoE f m n i j) := by
  by_cases hm : m = 0
  · subst hm
    have h' : mgR f c * n * 2 ^ (plR f c + j - min (plR f c + j) i).toNat ≤ 0 * 2 ^ (i - min (plR f c + j) i).toNat := h
    rw [Nat.zero_mul] at h'
    have h0 : mgR f c = 0 := by
      rcases Nat.eq_zero_or_pos (mgR f c) with h0 | h0
      · exact h0
      · have := Nat.mul_pos (Nat.mul_pos h0 (Nat.pos_of_ne_zero hn)) (two_pos (plR f c + j - min (plR f c + j) i).toNat)
        omega
    rw [h0]
    unfold leV
    simp
  · have hM := more_ge (d := f.fractionBits + 2) (n := n) hm
    have hc := (isMag_rung f c).lt
    have hn2 : n < 2 ^ (n.log2 + 1) := Nat.lt_log2_self
    unfold quoM quoE
    rw [Nat.shiftLeft_eq] at hM ⊢
    generalize hmore : f.fractionBits + 2 + n.log2 - m.log2 = more at *
    generalize hmc : mgR f c = mc at *
    generalize hpc : plR f c = pc at *
    rcases Int.lt_or_le (i - j - (more : Int) - 1) pc with hE | hE
    · have h1 := (leV_base (i - more) (by omega) (by omega)).1 h
      rw [show (i - (i - (more : Int))).toNat = more by omega] at h1
      generalize hd : (pc + j - (i - (more : Int))).toNat = d at *
      have h2 := quo_core_ge (M := m * 2 ^ more) (n := n) (A := mc * 2 ^ d) (Nat.pos_of_ne_zero hn) (by
        calc n * (mc * 2 ^ d) = mc * n * 2 ^ d := by rw [Nat.mul_comm mc n, Nat.mul_assoc]
          _ ≤ m * 2 ^ more := h1)
      rw [leV_base (i - j - (more : Int) - 1) (by omega) (Int.le_refl _), Int.sub_self, Int.toNat_zero, Nat.pow_zero, Nat.mul_one, show (pc - (i - j - (more : Int) - 1)).toNat = d + 1 by omega, Nat.pow_succ]
      calc mc * (2 ^ d * 2) = 2 * (mc * 2 ^ d) := by rw [Nat.mul_comm 2, Nat.mul_assoc]
        _ ≤ _ := h2
    · rw [leV_base pc (Int.le_refl _) hE, Int.sub_self, Int.toNat_zero, Nat.pow_zero, Nat.mul_one]
      have h2 : 2 ^ (f.fractionBits + 1) ≤ m * 2 ^ more / n := by
        refine (Nat.le_div_iff_mul_le (Nat.pos_of_ne_zero hn)).2 ?_
        calc 2 ^ (f.fractionBits + 1) * n ≤ 2 ^ (f.fractionBits + 1) * 2 ^ (n.log2 + 1) := Nat.mul_le_mul_left _ (Nat.le_of_lt hn2)
          _ = 2 ^ (f.fractionBits + 2 + n.log2) := by rw [← Nat.pow_add, show f.fractionBits + 1 + (n.log2 + 1) = f.fractionBits + 2 + n.log2 by omega]
          _ ≤ m * 2 ^ more := hM
      have h3 := two_pos (i - j - (more : Int) - 1 - pc).toNat
      calc mc ≤ (2 * (m * 2 ^ more / n) + (m * 2 ^ more % n != 0).toNat) * 1 := by omega
        _ ≤ _ := Nat.mul_le_mul_left _ h3

theorem quo_scale (k : FloatKind) (r c b : Nat) : leV (mgR k.format r) (plR k.format r) (mgR k.format c * mgR k.format b) (plR k.format c + plR k.format b) ↔ vl k.format r * 2 ^ (-k.format.leastPlace).toNat ≤ vl k.format c * vl k.format b := by
  have h1 := plR_ge k.format r
  have h2 := plR_ge k.format c
  have h3 := plR_ge k.format b
  have hl := lp_neg k
  rw [leV_base (2 * k.format.leastPlace) (by omega) (by omega), prod_scale, show (plR k.format r - 2 * k.format.leastPlace).toNat = (plR k.format r - k.format.leastPlace).toNat + (-k.format.leastPlace).toNat by omega, Nat.pow_add, ← Nat.mul_assoc]
  exact Iff.rfl
theorem quo_scale' (k : FloatKind) (r c b : Nat) : leV (mgR k.format c * mgR k.format b) (plR k.format c + plR k.format b) (mgR k.format r) (plR k.format r) ↔ vl k.format c * vl k.format b ≤ vl k.format r * 2 ^ (-k.format.leastPlace).toNat := by
  have h1 := plR_ge k.format r
  have h2 := plR_ge k.format c
  have h3 := plR_ge k.format b
  have hl := lp_neg k
  rw [leV_base (2 * k.format.leastPlace) (by omega) (by omega), prod_scale, show (plR k.format r - 2 * k.format.leastPlace).toNat = (plR k.format r - k.format.leastPlace).toNat + (-k.format.leastPlace).toNat by omega, Nat.pow_add, ← Nat.mul_assoc]
  exact Iff.rfl

theorem div_le {k : FloatKind} {s : Bool} {r b c : Nat} (h : vl k.format r * 2 ^ (-k.format.leastPlace).toNat ≤ vl k.format c * vl k.format b) :
    rg k.format (k.format.nearest s (quoM k.format (mgR k.format r) (mgR k.format b)) (quoE k.format (mgR k.format r) (mgR k.format b) (plR k.format r) (plR k.format b))) ≤ c :=
  nearest_le k s (quo_le ((quo_scale k r c b).2 h))
theorem div_ge {k : FloatKind} {s : Bool} {r b c : Nat} (hb : b ≠ 0) (hc : c ≤ k.format.infRung) (h : vl k.format c * vl k.format b ≤ vl k.format r * 2 ^ (-k.format.leastPlace).toNat) :
    c ≤ rg k.format (k.format.nearest s (quoM k.format (mgR k.format r) (mgR k.format b)) (quoE k.format (mgR k.format r) (mgR k.format b) (plR k.format r) (plR k.format b))) :=
  le_nearest k s hc (quo_ge (mgR_pos hb) ((quo_scale' k r c b).2 h))

/-! ## Roots -/

theorem rootFrom_le (n : Nat) : ∀ todo root, root * root ≤ n → Datum.rootFrom n todo root * Datum.rootFrom n todo root ≤ n
  | 0, root, h => h
  | todo + 1, root, h => by
    unfold Datum.rootFrom
    dsimp only
    split
    · rename_i h2; exact rootFrom_le n todo _ h2
    · exact rootFrom_le n todo _ h

def rootUp (f : Format) (m : Nat) (i : Int) : Nat := (2 * (f.fractionBits + 2) - m.log2) + ((i - ((2 * (f.fractionBits + 2) - m.log2 : Nat) : Int)) % 2).toNat
def rootN (f : Format) (m : Nat) (i : Int) : Nat := m <<< rootUp f m i
def rootW (f : Format) (m : Nat) (i : Int) : Nat := Datum.rootFrom (rootN f m i) ((rootN f m i).log2 / 2 + 1) 0
def rootM (f : Format) (m : Nat) (i : Int) : Nat := 2 * rootW f m i + (rootW f m i * rootW f m i != rootN f m i).toNat
def rootE (f : Format) (m : Nat) (i : Int) : Int := (i - (rootUp f m i : Int)) / 2 - 1

theorem sqrt_word {k : FloatKind} {a : Nat} (ha : finW k a = true) (hs : ng k.format a = false) (h0 : rg k.format a ≠ 0) :
    k.format.sqrt a = some (k.format.nearest false (rootM k.format (mgR k.format (rg k.format a)) (plR k.format (rg k.format a))) (rootE k.format (mgR k.format (rg k.format a)) (plR k.format (rg k.format a)))) := by
  show ((k.decode a).root (k.format.fractionBits + 2)).map k.format.write = _
  rw [decode_fin ha, hs]
  simp only [Datum.root]
  rw [if_neg (mgR_pos h0), if_neg (by decide)]
  rfl
theorem sqrt_zero {k : FloatKind} {a : Nat} (ha : a < 2 ^ k.format.width) (h0 : rg k.format a = 0) : k.format.sqrt a = some a := by
  have hf : finW k a = true := by
    unfold finW
    rw [h0]
    cases k <;> decide
  show ((k.decode a).root (k.format.fractionBits + 2)).map k.format.write = _
  rw [decode_fin hf, h0, mgR_zero]
  simp only [Datum.root, if_true]
  have hw := word_of k ha
  rw [h0] at hw
  simp only [Option.map_some, Format.write, Format.nearest, if_true]
  rw [← hw]

theorem root_le {f : Format} {m c : Nat} {i : Int} (hm : m ≠ 0) (h : leV m i (mgR f c * mgR f c) (2 * plR f c)) : leV (rootM f m i) (rootE f m i) (mgR f c) (plR f c) := by
  have hw : rootW f m i * rootW f m i ≤ rootN f m i := rootFrom_le _ _ 0 (Nat.zero_le _)
  have hN : rootN f m i = m * 2 ^ rootUp f m i := Nat.shiftLeft_eq _ _
  have hc := (isMag_rung f c).lt
  have hpar : ∃ q : Int, i - (rootUp f m i : Int) = 2 * q := by
    unfold rootUp
    generalize (2 * (f.fractionBits + 2) - m.log2 : Nat) = u
    exact ⟨(i - ((u + ((i - (u : Int)) % 2).toNat : Nat) : Int)) / 2, by omega⟩
  obtain ⟨q, hq⟩ := hpar
  have hE : rootE f m i = q - 1 := by unfold rootE; rw [hq]; omega
  have hup : 2 * (f.fractionBits + 2) - m.log2 ≤ rootUp f m i := by unfold rootUp; omega
  unfold rootM
  rw [hE]
  generalize hup2 : rootUp f m i = up at *
  generalize rootW f m i = w at *
  generalize rootN f m i = n at *
  generalize mgR f c = mc at *
  generalize plR f c = pc at *
  rcases Int.lt_or_le (q - 1) pc with hl | hl
  · have h1 := (leV_base (2 * q) (by omega) (by omega)).1 h
    rw [show (i - 2 * q).toNat = up by omega, ← hN, show (2 * pc - 2 * q).toNat = (pc - q).toNat + (pc - q).toNat by omega, Nat.pow_add] at h1
    generalize hA : 2 ^ (pc - q).toNat = A at *
    have h2 : n ≤ mc * A * (mc * A) := by
      calc n ≤ mc * mc * (A * A) := h1
        _ = mc * A * (mc * A) := by simp only [Nat.mul_assoc, Nat.mul_left_comm]
    have h3 : w ≤ mc * A := by
      rcases Nat.lt_or_ge (mc * A) w with h4 | h4
      · have := Nat.mul_self_lt_mul_self h4
        omega
      · exact h4
    have ht : ∀ b : Bool, b.toNat ≤ 1 := by decide
    have h4 := ht (w * w != n)
    have h5 : 2 * w + (w * w != n).toNat ≤ 2 * (mc * A) := by
      rcases Nat.lt_or_eq_of_le h3 with h6 | h6
      · omega
      · rw [← h6] at h2
        have : w * w = n := by omega
        rw [this]
        simp
        omega
    rw [leV_base (q - 1) (Int.le_refl _) (by omega), Int.sub_self, Int.toNat_zero, Nat.pow_zero, Nat.mul_one, show (pc - (q - 1)).toNat = (pc - q).toNat + 1 by omega, Nat.pow_succ, hA]
    calc _ ≤ 2 * (mc * A) := h5
      _ = mc * (A * 2) := by rw [Nat.mul_comm 2, Nat.mul_assoc]
  · exfalso
    have h1 := (leV_base (2 * pc) (by omega) (Int.le_refl _)).1 h
    rw [Int.sub_self, Int.toNat_zero, Nat.pow_zero, Nat.mul_one] at h1
    have hL := Nat.log2_self_le hm
    have e1 : 2 ^ (2 * (f.fractionBits + 2)) ≤ m * 2 ^ (i - 2 * pc).toNat := by
      calc 2 ^ (2 * (f.fractionBits + 2)) ≤ 2 ^ (m.log2 + (i - 2 * pc).toNat) := Nat.pow_le_pow_right (by omega) (by omega)
        _ = 2 ^ m.log2 * 2 ^ (i - 2 * pc).toNat := Nat.pow_add _ _ _
        _ ≤ m * 2 ^ (i - 2 * pc).toNat := Nat.mul_le_mul_right _ hL
    have e2 : mc * mc ≤ 2 ^ (f.fractionBits + 1) * 2 ^ (f.fractionBits + 1) := Nat.mul_le_mul (Nat.le_of_lt hc) (Nat.le_of_lt hc)
    rw [← Nat.pow_add] at e2
    have e3 : 2 ^ (f.fractionBits + 1 + (f.fractionBits + 1)) < 2 ^ (2 * (f.fractionBits + 2)) := Nat.pow_lt_pow_right (by omega) (by omega)
    omega

theorem sqrt_le {k : FloatKind} {r c : Nat} (h0 : r ≠ 0) (h : vl k.format r * 2 ^ (-k.format.leastPlace).toNat ≤ vl k.format c * vl k.format c) :
    rg k.format (k.format.nearest false (rootM k.format (mgR k.format r) (plR k.format r)) (rootE k.format (mgR k.format r) (plR k.format r))) ≤ c := by
  have h2 := (quo_scale k r c c).2 h
  rw [← Int.two_mul] at h2
  exact nearest_le k false (root_le (mgR_pos h0) h2)

/-! ## Powers of two -/

/-- The rung of 2 ^ t. -/
def p2 (k : FloatKind) (t : Int) : Nat := rungOf k.format k.format.binade (t - k.format.fractionBits)

theorem p2_mag (k : FloatKind) {t : Int} (h : k.format.leastPlace + k.format.fractionBits ≤ t) : IsMag k.format k.format.binade (t - k.format.fractionBits) :=
  ⟨by have := bin_pos k.format; rw [Nat.pow_succ]; show k.format.binade < k.format.binade * 2; omega, by omega, .inl (Nat.le_refl _)⟩
theorem p2_vl (k : FloatKind) {t : Int} (h : k.format.leastPlace + k.format.fractionBits ≤ t) : vl k.format (p2 k t) = 2 ^ (t - k.format.leastPlace).toNat := by
  obtain ⟨g1, g2⟩ := mg_rungOf (p2_mag k h)
  unfold vl p2
  rw [g1, g2]
  show 2 ^ k.format.fractionBits * _ = _
  rw [← Nat.pow_add, show k.format.fractionBits + (t - k.format.fractionBits - k.format.leastPlace).toNat = (t - k.format.leastPlace).toNat by omega]
/-- The greatest power of two of the format. -/
def emax (k : FloatKind) : Int := match k with | .f32 => 127 | .f64 => 1023
theorem p2_fin (k : FloatKind) {t : Int} (h2 : t ≤ emax k) : p2 k t < k.format.infRung := by
  have hp := bin_pos k.format
  unfold p2 rungOf
  cases k
  · have hi : Ieee.single.infRung = 255 * Ieee.single.binade := by decide
    show (t - ((23 : Nat) : Int) - Ieee.single.leastPlace).toNat * Ieee.single.binade + Ieee.single.binade < Ieee.single.infRung
    have h2' : t ≤ 127 := h2
    have hp' : 0 < Ieee.single.binade := hp
    rw [e32, hi]
    have h3 : (t - ((23 : Nat) : Int) - -149).toNat ≤ 253 := by omega
    have := Nat.mul_le_mul_right Ieee.single.binade h3
    omega
  · have hi := inf64
    show (t - ((52 : Nat) : Int) - Ieee.double.leastPlace).toNat * Ieee.double.binade + Ieee.double.binade < Ieee.double.infRung
    have h2' : t ≤ 1023 := h2
    have hp' : 0 < Ieee.double.binade := hp
    rw [e64, hi]
    have h3 : (t - ((52 : Nat) : Int) - -1074).toNat ≤ 2045 := by omega
    have := Nat.mul_le_mul_right Ieee.double.binade h3
    omega

/-! ## Bounds by powers of two -/

/-- X is a NaN, or finite and of size 2 ^ t at most. -/
def Top (k : FloatKind) (t : Int) (X : Option Nat) : Prop := ∀ b, X = some b → finW k b = true ∧ vl k.format (rg k.format b) ≤ 2 ^ (t - k.format.leastPlace).toNat
/-- X is a NaN, or finite, not below 0 by its sign, and at least 2 ^ g. -/
def Bot (k : FloatKind) (g : Int) (X : Option Nat) : Prop := ∀ b, X = some b → finW k b = true ∧ ng k.format b = false ∧ 2 ^ (g - k.format.leastPlace).toNat ≤ vl k.format (rg k.format b)
/-- The least power of two that has all digits. -/
def emin (k : FloatKind) : Int := k.format.leastPlace + k.format.fractionBits

/-- X reads some word. -/
def Ok (k : FloatKind) (X : Option Nat) : Prop := ∀ b, X = some b → nanW k b = false ∧ b < 2 ^ k.format.width
theorem Ab.ok {k : FloatKind} {b : Nat} {X : Option Nat} (h : Ab k b X) : Ok k X := fun c hc => by
  subst hc
  obtain ⟨rfl, hn⟩ := h.of_some
  exact ⟨hn, h.lt⟩
theorem Ok.none (k : FloatKind) : Ok k none := fun b h => by cases h
theorem Ok.lit {k : FloatKind} {b : Nat} (h1 : nanW k b = false) (h2 : b < 2 ^ k.format.width) : Ok k (some b) := fun c hc => by cases hc; exact ⟨h1, h2⟩
theorem Ok.op {op : BinOp} {k : FloatKind} {X Y : Option Nat} : Ok k (opA op k X Y) := fun r hr => by
  cases X with
  | none => cases hr
  | some a => cases Y with
    | none => cases hr
    | some b => exact ⟨floatBits_not_nan (show floatBits op k a b = some r from hr), floatBits_lt (show floatBits op k a b = some r from hr)⟩
theorem Ok.ab {k : FloatKind} {b : Nat} (h : Ok k (some b)) : Ab k b (some b) := Ab.lit (h b rfl).1 (h b rfl).2

theorem fin_nan {k : FloatKind} {b : Nat} (h : finW k b = true) : nanW k b = false := by
  rcases kinds k b with ⟨_, _, h1⟩ | ⟨h1, _, _⟩ | ⟨h1, _, _⟩
  · exact h1
  · rw [h] at h1; cases h1
  · rw [h] at h1; cases h1

theorem Top.mono {k : FloatKind} {t u : Int} {X : Option Nat} (h : Top k t X) (hu : t ≤ u) : Top k u X := fun b hb =>
  ⟨(h b hb).1, Nat.le_trans (h b hb).2 (Nat.pow_le_pow_right (by omega) (by omega))⟩
theorem Top.none (k : FloatKind) (t : Int) : Top k t none := fun b h => by cases h

theorem fin_of_rg {k : FloatKind} {b c : Nat} (h : rg k.format b ≤ c) (hc : c < k.format.infRung) : finW k b = true := decide_eq_true (by omega)

theorem top_of_rg {k : FloatKind} {b : Nat} {t : Int} (h : rg k.format b ≤ p2 k t) (h1 : emin k ≤ t) (h2 : t ≤ emax k) : finW k b = true ∧ vl k.format (rg k.format b) ≤ 2 ^ (t - k.format.leastPlace).toNat :=
  ⟨fin_of_rg h (p2_fin k h2), by rw [← p2_vl k h1]; exact vl_mono _ h⟩

theorem two_sum {a b n : Nat} {x y : Int} (hx : x.natAbs = a) (hy : y.natAbs = b) (ha : a ≤ n) (hb : b ≤ n) : (x + y).natAbs ≤ 2 * n ∧ (x - y).natAbs ≤ 2 * n := by omega

theorem pow_next {t l : Int} (h : l ≤ t) : 2 ^ (t + 1 - l).toNat = 2 * 2 ^ (t - l).toNat := by
  rw [show (t + 1 - l).toNat = (t - l).toNat + 1 by omega, Nat.pow_succ, Nat.mul_comm]

theorem top_add {k : FloatKind} {t : Int} {X Y : Option Nat} (hX : Top k t X) (hY : Top k t Y) (h1 : emin k ≤ t) (h2 : t + 1 ≤ emax k) : Top k (t + 1) (opA .add k X Y) := by
  intro r hr
  cases X with
  | none => cases hr
  | some a => cases Y with
    | none => cases hr
    | some b =>
      obtain ⟨fa, va⟩ := hX a rfl
      obtain ⟨fb, vb⟩ := hY b rfl
      obtain ⟨s, m, e, q1, q2, _⟩ := add_word fa fb
      have hr' : floatBits .add k a b = some r := hr
      rw [q1] at hr'
      cases hr'
      have hl : k.format.leastPlace ≤ t := by unfold emin at h1; omega
      refine top_of_rg (worth_le q2 ?_) (by unfold emin at *; omega) h2
      rw [p2_vl k (by unfold emin at *; omega), pow_next hl]
      exact (two_sum (V_abs k a) (V_abs k b) va vb).1
theorem top_sub {k : FloatKind} {t : Int} {X Y : Option Nat} (oY : Ok k Y) (hX : Top k t X) (hY : Top k t Y) (h1 : emin k ≤ t) (h2 : t + 1 ≤ emax k) : Top k (t + 1) (opA .sub k X Y) := by
  intro r hr
  cases X with
  | none => cases hr
  | some a => cases Y with
    | none => cases hr
    | some b =>
      obtain ⟨fa, va⟩ := hX a rfl
      obtain ⟨fb, vb⟩ := hY b rfl
      obtain ⟨s, m, e, q1, q2, _⟩ := sub_word (oY b rfl).2 fa fb
      have hr' : floatBits .sub k a b = some r := hr
      rw [q1] at hr'
      cases hr'
      have hl : k.format.leastPlace ≤ t := by unfold emin at h1; omega
      refine top_of_rg (worth_le q2 ?_) (by unfold emin at *; omega) h2
      rw [p2_vl k (by unfold emin at *; omega), pow_next hl]
      exact (two_sum (V_abs k a) (V_abs k b) va vb).2

theorem top_mul {k : FloatKind} {t u v : Int} {X Y : Option Nat} (hX : Top k t X) (hY : Top k u Y) (ht : k.format.leastPlace ≤ t) (hu : k.format.leastPlace ≤ u) (hv : t + u ≤ v) (h1 : emin k ≤ v) (h2 : v ≤ emax k) : Top k v (opA .mul k X Y) := by
  intro r hr
  cases X with
  | none => cases hr
  | some a => cases Y with
    | none => cases hr
    | some b =>
      obtain ⟨fa, va⟩ := hX a rfl
      obtain ⟨fb, vb⟩ := hY b rfl
      have hr' : floatBits .mul k a b = some r := hr
      rw [mul_word fa fb] at hr'
      cases hr'
      have hl := lp_neg k
      refine top_of_rg (mul_le ?_) h1 h2
      rw [p2_vl k (by unfold emin at *; omega), ← Nat.pow_add]
      calc _ ≤ 2 ^ (t - k.format.leastPlace).toNat * 2 ^ (u - k.format.leastPlace).toNat := Nat.mul_le_mul va vb
        _ = 2 ^ ((t - k.format.leastPlace).toNat + (u - k.format.leastPlace).toNat) := (Nat.pow_add _ _ _).symm
        _ ≤ _ := Nat.pow_le_pow_right (by omega) (by unfold emin at *; omega)

theorem bot_ne {k : FloatKind} {g : Int} {b : Nat} (h : 2 ^ (g - k.format.leastPlace).toNat ≤ vl k.format (rg k.format b)) : rg k.format b ≠ 0 := by
  intro h0
  rw [h0, vl_zero] at h
  have := two_pos (g - k.format.leastPlace).toNat
  omega

theorem top_div {k : FloatKind} {t g v : Int} {X Y : Option Nat} (hX : Top k t X) (hY : Bot k g Y) (ht : k.format.leastPlace ≤ t) (hg : k.format.leastPlace ≤ g) (hv : t - g ≤ v) (h1 : emin k ≤ v) (h2 : v ≤ emax k) : Top k v (opA .quo k X Y) := by
  intro r hr
  cases X with
  | none => cases hr
  | some a => cases Y with
    | none => cases hr
    | some b =>
      obtain ⟨fa, va⟩ := hX a rfl
      obtain ⟨fb, _, vb⟩ := hY b rfl
      have hr' : floatBits .quo k a b = some r := hr
      rw [div_word fa fb (bot_ne vb)] at hr'
      cases hr'
      have hl := lp_neg k
      refine top_of_rg (div_le ?_) h1 h2
      rw [p2_vl k (by unfold emin at *; omega)]
      calc _ ≤ 2 ^ (t - k.format.leastPlace).toNat * 2 ^ (-k.format.leastPlace).toNat := Nat.mul_le_mul_right _ va
        _ = 2 ^ ((t - k.format.leastPlace).toNat + (-k.format.leastPlace).toNat) := (Nat.pow_add _ _ _).symm
        _ ≤ 2 ^ ((v - k.format.leastPlace).toNat + (g - k.format.leastPlace).toNat) := Nat.pow_le_pow_right (by omega) (by unfold emin at *; omega)
        _ = 2 ^ (v - k.format.leastPlace).toNat * 2 ^ (g - k.format.leastPlace).toNat := Nat.pow_add _ _ _
        _ ≤ _ := Nat.mul_le_mul_left _ vb

theorem top_sqrt {t v : Int} {X : Option Nat} (oX : Ok .f64 X) (hX : Top .f64 t X) (ht : -1074 ≤ t) (hv : t ≤ 2 * v) (h1 : -1022 ≤ v) (h2 : v ≤ 1023) : Top .f64 v (sqrtA X) := by
  intro r hr
  cases X with
  | none => cases hr
  | some a =>
    obtain ⟨fa, va⟩ := hX a rfl
    have hr' : FloatKind.f64.format.sqrt a = some r := hr
    by_cases h0 : rg FloatKind.f64.format a = 0
    · rw [sqrt_zero (oX a rfl).2 h0] at hr'
      cases hr'
      refine ⟨fa, ?_⟩
      rw [h0, vl_zero]
      exact Nat.zero_le _
    · cases hs : ng FloatKind.f64.format a with
      | true =>
        have : FloatKind.f64.format.sqrt a = none := by
          show ((FloatKind.f64.decode a).root _).map _ = none
          rw [decode_fin fa, hs]
          simp only [Datum.root]
          rw [if_neg (mgR_pos h0), if_pos trivial]
          rfl
        rw [this] at hr'; cases hr'
      | false =>
        rw [sqrt_word fa hs h0] at hr'
        cases hr'
        have hle : FloatKind.f64.format.leastPlace = -1074 := e64
        have hem : emin .f64 = -1022 := by decide
        refine top_of_rg (sqrt_le h0 ?_) (by rw [hem]; exact h1) h2
        rw [p2_vl .f64 (by unfold emin at hem; omega), hle, ← Nat.pow_add]
        rw [hle] at va
        calc _ ≤ 2 ^ (t - -1074).toNat * 2 ^ (- -1074 : Int).toNat := Nat.mul_le_mul_right _ va
          _ = 2 ^ ((t - -1074).toNat + (- -1074 : Int).toNat) := (Nat.pow_add _ _ _).symm
          _ ≤ _ := Nat.pow_le_pow_right (by omega) (by omega)

theorem top_neg {k : FloatKind} {t : Int} {X : Option Nat} (h : Top k t X) : Top k t (negA k X) := by
  intro r hr
  cases X with
  | none => cases hr
  | some a =>
    cases hr
    rw [fin_neg, neg_rg]
    exact h a rfl

end Go.Proofs.Ytoimjjagkfgogaa
