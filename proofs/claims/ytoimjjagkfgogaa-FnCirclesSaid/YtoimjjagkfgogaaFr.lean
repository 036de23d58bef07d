/- Rounding to the nearest word keeps the order: what is at most (at least) a word of the format is rounded to at most (at least) that word. No conditions. -/
import Derived.Test.YtoimjjagkfgogaaFl
namespace Go.Proofs.Ytoimjjagkfgogaa
open Ieee

theorem two_pos (n : Nat) : 0 < 2 ^ n := Nat.two_pow_pos n

/-! ## 'cut' -/

theorem cut_le {neg : Bool} {n drop c : Nat} (h : n ≤ c * 2 ^ drop) : Toward.even.cut neg n drop ≤ c := by
  unfold Toward.cut
  dsimp only
  rw [Nat.one_shiftLeft]
  by_cases hg : drop ≤ n.log2 + 2
  · rw [Nat.min_eq_left hg]
    have hp := two_pos drop
    generalize hG : 2 ^ drop = g at *
    have h1 : n / g ≤ c := by
      calc n / g ≤ c * g / g := Nat.div_le_div_right h
        _ = c := Nat.mul_div_cancel _ hp
    by_cases h2 : n / g = c
    · have h3 := Nat.div_add_mod n g
      rw [h2, Nat.mul_comm] at h3
      have h4 : n % g = 0 := by omega
      have hg0 : (g == 0) = false := beq_eq_false_iff_ne.2 (by omega)
      rw [h2, h4]
      simp [hg0]
    · have h3 : ∀ b : Bool, b.toNat ≤ 1 := by decide
      have := h3 (decide (g < 2 * (n % g)) || (g == 2 * (n % g) && n / g % 2 == 1))
      omega
  · have hg' : n.log2 + 2 ≤ drop := by omega
    rw [Nat.min_eq_right hg']
    have hn : n < 2 ^ (n.log2 + 1) := Nat.lt_log2_self
    have e : 2 ^ (n.log2 + 2) = 2 * 2 ^ (n.log2 + 1) := by rw [Nat.pow_succ, Nat.mul_comm]
    rw [e]
    generalize 2 ^ (n.log2 + 1) = q at *
    have h1 : n / (2 * q) = 0 := Nat.div_eq_of_lt (by omega)
    have h2 : n % (2 * q) = n := Nat.mod_eq_of_lt (by omega)
    rw [h1, h2]
    have : ¬ 2 * q < 2 * n := by omega
    simp [this]

theorem le_cut {neg : Bool} {n drop c : Nat} (h : c * 2 ^ drop ≤ n) : c ≤ Toward.even.cut neg n drop := by
  unfold Toward.cut
  dsimp only
  rw [Nat.one_shiftLeft]
  by_cases hg : drop ≤ n.log2 + 2
  · rw [Nat.min_eq_left hg]
    have hp := two_pos drop
    have h1 : c ≤ n / 2 ^ drop := (Nat.le_div_iff_mul_le hp).2 h
    omega
  · have hg' : n.log2 + 2 ≤ drop := by omega
    have hn : n < 2 ^ (n.log2 + 1) := Nat.lt_log2_self
    have h2 : 2 ^ (n.log2 + 1) ≤ 2 ^ drop := Nat.pow_le_pow_right (by omega) (by omega)
    have hc : c = 0 := by
      rcases Nat.eq_zero_or_pos c with h0 | h0
      · exact h0
      · have : 1 * 2 ^ drop ≤ c * 2 ^ drop := Nat.mul_le_mul_right _ h0
        omega
    rw [hc]
    exact Nat.zero_le _

/-! ## Numbers 'm * 2 ^ e' held against one another -/

/-- m * 2 ^ e ≤ n * 2 ^ j -/
def leV (m : Nat) (e : Int) (n : Nat) (j : Int) : Prop := m * 2 ^ (e - min e j).toNat ≤ n * 2 ^ (j - min e j).toNat

theorem leV_base {m n : Nat} {e j : Int} (B : Int) (h1 : B ≤ e) (h2 : B ≤ j) : leV m e n j ↔ m * 2 ^ (e - B).toNat ≤ n * 2 ^ (j - B).toNat := by
  unfold leV
  have e1 : (e - B).toNat = (e - min e j).toNat + (min e j - B).toNat := by omega
  have e2 : (j - B).toNat = (j - min e j).toNat + (min e j - B).toNat := by omega
  rw [e1, e2, Nat.pow_add, Nat.pow_add, ← Nat.mul_assoc, ← Nat.mul_assoc]
  exact (Nat.mul_le_mul_right_iff (two_pos _)).symm

theorem leV_trans {a b c : Nat} {i j l : Int} (h1 : leV a i b j) (h2 : leV b j c l) : leV a i c l := by
  have B : ∃ B : Int, B ≤ i ∧ B ≤ j ∧ B ≤ l := ⟨min i (min j l), by omega, by omega, by omega⟩
  obtain ⟨B, b1, b2, b3⟩ := B
  rw [leV_base B b1 b2] at h1
  rw [leV_base B b2 b3] at h2
  rw [leV_base B b1 b3]
  exact Nat.le_trans h1 h2

/-! ## The nearest word -/

/-- A magnitude of the format: 'm * 2 ^ e', m of as many digits as the format keeps. -/
structure IsMag (f : Format) (m : Nat) (e : Int) : Prop where
  lt : m < 2 ^ (f.fractionBits + 1)
  least : f.leastPlace ≤ e
  norm : 2 ^ f.fractionBits ≤ m ∨ e = f.leastPlace

/-- Its rung. -/
def rungOf (f : Format) (m : Nat) (e : Int) : Nat := (e - f.leastPlace).toNat * f.binade + m

/-- The rung that 'nearest' comes to, but for the bound at infinity. -/
def rawRung (f : Format) (m : Nat) (e : Int) : Nat :=
  (max (e + m.log2 - f.fractionBits) f.leastPlace - f.leastPlace).toNat * f.binade +
    Toward.even.cut false (m <<< (e - max (e + m.log2 - f.fractionBits) f.leastPlace).toNat) (max (e + m.log2 - f.fractionBits) f.leastPlace - e).toNat

theorem cut_even_neg (s : Bool) (n d : Nat) : Toward.even.cut s n d = Toward.even.cut false n d := rfl

theorem nearest_raw (k : FloatKind) (s : Bool) (m : Nat) (e : Int) : k.format.nearest s m e = k.format.word s (if m = 0 then 0 else min (rawRung k.format m e) k.format.infRung) := by
  unfold Format.nearest rawRung
  split
  · rfl
  · simp only [cut_even_neg s]

theorem nearest_rg (k : FloatKind) (s : Bool) (m : Nat) (e : Int) : rg k.format (k.format.nearest s m e) = if m = 0 then 0 else min (rawRung k.format m e) k.format.infRung := by
  rw [nearest_raw, word_rg]
  have h1 := inf_lt k
  have h2 := sw_pos k.format
  split <;> omega
theorem nearest_ng (k : FloatKind) (s : Bool) (m : Nat) (e : Int) : ng k.format (k.format.nearest s m e) = s := by
  rw [nearest_raw, word_ng]
  have h1 := inf_lt k
  have h2 := sw_pos k.format
  split <;> omega

theorem raw_le (f : Format) {m c : Nat} {e j : Int} (hm : m ≠ 0) (hc : IsMag f c j) (h : leV m e c j) : rawRung f m e ≤ rungOf f c j := by
  unfold rawRung rungOf
  have hL1 : m < 2 ^ (m.log2 + 1) := Nat.lt_log2_self
  have hL2 : 2 ^ m.log2 ≤ m := Nat.log2_self_le hm
  obtain ⟨c1, c2, c3⟩ := hc
  have hbin : f.binade = 2 ^ f.fractionBits := rfl
  rw [Nat.shiftLeft_eq]
  generalize hl : max (e + (m.log2 : Int) - f.fractionBits) f.leastPlace = l
  have l1 : e + (m.log2 : Int) - f.fractionBits ≤ l := by omega
  have l2 : f.leastPlace ≤ l := by omega
  have l3 : l = e + (m.log2 : Int) - f.fractionBits ∨ l = f.leastPlace := by omega
  generalize m.log2 = L at *
  by_cases hlj : l ≤ j
  · -- the word's place is at least the last place that is kept
    have k1 : Toward.even.cut false (m * 2 ^ (e - l).toNat) (l - e).toNat ≤ c * 2 ^ (j - l).toNat := by
      refine cut_le ?_
      by_cases hel : l ≤ e
      · have h' := (leV_base l hel hlj).1 h
        rw [show (l - e).toNat = 0 by omega, Nat.pow_zero, Nat.mul_one]
        exact h'
      · have h' := (leV_base e (Int.le_refl e) (by omega)).1 h
        rw [show (e - e).toNat = 0 by omega, Nat.pow_zero, Nat.mul_one] at h'
        rw [show (e - l).toNat = 0 by omega, Nat.pow_zero, Nat.mul_one, Nat.mul_assoc, ← Nat.pow_add, show (j - l).toNat + (l - e).toNat = (j - e).toNat by omega]
        exact h'
    have k2 : Toward.even.cut false (m * 2 ^ (e - l).toNat) (l - e).toNat ≤ 2 ^ (f.fractionBits + 1) := by
      refine cut_le ?_
      rw [← Nat.pow_add]
      calc m * 2 ^ (e - l).toNat ≤ 2 ^ (L + 1) * 2 ^ (e - l).toNat := Nat.mul_le_mul_right _ (Nat.le_of_lt hL1)
        _ = 2 ^ (L + 1 + (e - l).toNat) := (Nat.pow_add _ _ _).symm
        _ ≤ 2 ^ (f.fractionBits + 1 + (l - e).toNat) := Nat.pow_le_pow_right (by omega) (by omega)
    rcases Int.lt_or_eq_of_le hlj with hlt | heq
    · -- a lower binade
      have hn : f.binade ≤ c := by rcases c3 with c3 | c3 <;> omega
      have hb : (l - f.leastPlace).toNat + 1 ≤ (j - f.leastPlace).toNat := by omega
      have := Nat.mul_le_mul_right f.binade hb
      rw [Nat.add_mul, Nat.one_mul] at this
      rw [Nat.pow_succ, ← hbin] at k2
      omega
    · rw [heq] at k1 ⊢
      rw [show (j - j).toNat = 0 by omega, Nat.pow_zero, Nat.mul_one] at k1
      omega
  · -- a greater place: the number would be greater than the word
    exfalso
    have hl' : l = e + (L : Int) - f.fractionBits := by omega
    have h' := (leV_base (min e j) (by omega) (by omega)).1 h
    have a1 : 2 ^ (L + (e - min e j).toNat) ≤ m * 2 ^ (e - min e j).toNat := by
      rw [Nat.pow_add]; exact Nat.mul_le_mul_right _ hL2
    have a2 : c * 2 ^ (j - min e j).toNat < 2 ^ (f.fractionBits + 1 + (j - min e j).toNat) := by
      rw [Nat.pow_add]; exact Nat.mul_lt_mul_of_pos_right c1 (two_pos _)
    have a3 : 2 ^ (f.fractionBits + 1 + (j - min e j).toNat) ≤ 2 ^ (L + (e - min e j).toNat) := Nat.pow_le_pow_right (by omega) (by omega)
    omega

theorem le_raw (f : Format) {m c : Nat} {e j : Int} (hm : m ≠ 0) (hc : IsMag f c j) (h : leV c j m e) : rungOf f c j ≤ rawRung f m e := by
  unfold rawRung rungOf
  have hL1 : m < 2 ^ (m.log2 + 1) := Nat.lt_log2_self
  have hL2 : 2 ^ m.log2 ≤ m := Nat.log2_self_le hm
  obtain ⟨c1, c2, c3⟩ := hc
  have hbin : f.binade = 2 ^ f.fractionBits := rfl
  rw [Nat.shiftLeft_eq]
  generalize hl : max (e + (m.log2 : Int) - f.fractionBits) f.leastPlace = l
  have l1 : e + (m.log2 : Int) - f.fractionBits ≤ l := by omega
  have l2 : f.leastPlace ≤ l := by omega
  have l3 : l = e + (m.log2 : Int) - f.fractionBits ∨ l = f.leastPlace := by omega
  generalize m.log2 = L at *
  rcases Int.lt_trichotomy l j with hlj | hlj | hlj
  · -- a smaller place: the number would be less than the word
    exfalso
    have hn : 2 ^ f.fractionBits ≤ c := by rcases c3 with c3 | c3 <;> omega
    have h' := (leV_base (min e j) (by omega) (by omega)).1 h
    have a1 : m * 2 ^ (e - min e j).toNat < 2 ^ (L + 1 + (e - min e j).toNat) := by
      rw [Nat.pow_add]; exact Nat.mul_lt_mul_of_pos_right hL1 (two_pos _)
    have a2 : 2 ^ (f.fractionBits + (j - min e j).toNat) ≤ c * 2 ^ (j - min e j).toNat := by
      rw [Nat.pow_add]; exact Nat.mul_le_mul_right _ hn
    have a3 : 2 ^ (L + 1 + (e - min e j).toNat) ≤ 2 ^ (f.fractionBits + (j - min e j).toNat) := Nat.pow_le_pow_right (by omega) (by omega)
    omega
  · subst hlj
    have k1 : c ≤ Toward.even.cut false (m * 2 ^ (e - l).toNat) (l - e).toNat := by
      refine le_cut ?_
      by_cases hel : l ≤ e
      · have h' := (leV_base l (Int.le_refl l) hel).1 h
        rw [show (l - l).toNat = 0 by omega, Nat.pow_zero, Nat.mul_one] at h'
        rw [show (l - e).toNat = 0 by omega, Nat.pow_zero, Nat.mul_one]
        exact h'
      · have h' := (leV_base e (by omega) (Int.le_refl e)).1 h
        rw [show (e - e).toNat = 0 by omega, Nat.pow_zero, Nat.mul_one] at h'
        rw [show (e - l).toNat = 0 by omega, Nat.pow_zero, Nat.mul_one]
        exact h'
    omega
  · have hl' : l = e + (L : Int) - f.fractionBits := by omega
    have k2 : 2 ^ f.fractionBits ≤ Toward.even.cut false (m * 2 ^ (e - l).toNat) (l - e).toNat := by
      refine le_cut ?_
      rw [← Nat.pow_add]
      calc 2 ^ (f.fractionBits + (l - e).toNat) ≤ 2 ^ (L + (e - l).toNat) := Nat.pow_le_pow_right (by omega) (by omega)
        _ = 2 ^ L * 2 ^ (e - l).toNat := Nat.pow_add _ _ _
        _ ≤ m * 2 ^ (e - l).toNat := Nat.mul_le_mul_right _ hL2
    have hb : (j - f.leastPlace).toNat + 1 ≤ (l - f.leastPlace).toNat := by omega
    have := Nat.mul_le_mul_right f.binade hb
    rw [Nat.add_mul, Nat.one_mul] at this
    rw [Nat.pow_succ, ← hbin] at c1
    rw [← hbin] at k2
    omega

/-! ## The parts of a rung -/

def mgR (f : Format) (r : Nat) : Nat := if r < f.binade then r else f.binade + r % f.binade
def plR (f : Format) (r : Nat) : Int := if r < f.binade then f.leastPlace else f.leastPlace + (r / f.binade - 1 : Nat)

theorem rungRead_fin (f : Format) (s : Bool) {r : Nat} (h : r < f.infRung) : rungRead f s r = .number s (mgR f r) (plR f r) := by
  unfold rungRead mgR plR
  split
  · rfl
  · rfl

theorem isMag_rung (f : Format) (r : Nat) : IsMag f (mgR f r) (plR f r) := by
  have hb : 2 ^ (f.fractionBits + 1) = 2 * f.binade := by rw [Nat.pow_succ, Nat.mul_comm]; rfl
  have hb0 : f.binade = 2 ^ f.fractionBits := rfl
  have hp := bin_pos f
  unfold mgR plR
  split
  · exact ⟨by omega, Int.le_refl _, .inr rfl⟩
  · have := Nat.mod_lt r hp
    exact ⟨by omega, by omega, .inl (by omega)⟩

theorem rungOf_rung (f : Format) (r : Nat) : rungOf f (mgR f r) (plR f r) = r := by
  have hp := bin_pos f
  unfold rungOf mgR plR
  split
  · simp
  · rename_i h
    have h1 : 1 ≤ r / f.binade := (Nat.le_div_iff_mul_le hp).2 (by omega)
    have h2 := Nat.div_add_mod r f.binade
    have e : (f.leastPlace + ((r / f.binade - 1 : Nat) : Int) - f.leastPlace).toNat = r / f.binade - 1 := by omega
    rw [e, Nat.sub_mul, Nat.one_mul, Nat.mul_comm (r / f.binade)]
    have h3 : f.binade * 1 ≤ f.binade * (r / f.binade) := Nat.mul_le_mul_left _ h1
    omega

/-- What is at most the word of rung c is rounded to at most c. -/
theorem nearest_le (k : FloatKind) (s : Bool) {m c : Nat} {e : Int} (h : leV m e (mgR k.format c) (plR k.format c)) : rg k.format (k.format.nearest s m e) ≤ c := by
  rw [nearest_rg]
  split
  · omega
  · rename_i hm
    have := raw_le k.format hm (isMag_rung k.format c) h
    rw [rungOf_rung] at this
    omega

/-- What is at least the word of rung c is rounded to at least c. -/
theorem le_nearest (k : FloatKind) (s : Bool) {m c : Nat} {e : Int} (hc : c ≤ k.format.infRung) (h : leV (mgR k.format c) (plR k.format c) m e) : c ≤ rg k.format (k.format.nearest s m e) := by
  rw [nearest_rg]
  split
  · rename_i hm
    subst hm
    have h0 : mgR k.format c = 0 := by
      have h' : mgR k.format c * 2 ^ (plR k.format c - min (plR k.format c) e).toNat ≤ 0 * 2 ^ (e - min (plR k.format c) e).toNat := h
      rw [Nat.zero_mul] at h'
      have := two_pos (plR k.format c - min (plR k.format c) e).toNat
      rcases Nat.eq_zero_or_pos (mgR k.format c) with h0 | h0
      · exact h0
      · have := Nat.mul_pos h0 this; omega
    have hp := bin_pos k.format
    unfold mgR at h0
    split at h0 <;> omega
  · rename_i hm
    have := le_raw k.format hm (isMag_rung k.format c) h
    rw [rungOf_rung] at this
    omega

end Go.Proofs.Ytoimjjagkfgogaa
