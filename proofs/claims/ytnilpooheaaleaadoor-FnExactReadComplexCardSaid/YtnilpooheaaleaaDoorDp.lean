/- Plain laws: which texts are decimal numerals. No conditions. -/
import Derived.Lib.ParseIntBTie
import Derived.Lib.ItoaMem
namespace Go.Proofs.YtnilpooheaaleaaDoor.dcp
open Go.Lib

/-- The number with a text, if it is from -10^15 to 10^15. -/
def readDec (l : List UInt8) : Option Int :=
  match parseIntB 64 l with
  | .ok v => if -1000000000000000 ≤ v ∧ v ≤ 1000000000000000 ∧ itoa v = l then some v else none
  | _ => none

theorem parse_append : ∀ (l r : List UInt8) (a b : Nat), parseUint10 a l = .ok b → parseUint10 a (l ++ r) = parseUint10 b r
  | [], r, a, b, h => by
    simp only [parseUint10] at h
    injection h with h
    subst h
    rfl
  | c :: l, r, a, b, h => by
    simp only [parseUint10] at h
    simp only [List.cons_append, parseUint10]
    split at h
    · split at h
      · cases h
      · split at h
        · cases h
        · rename_i h1 h2 h3
          rw [if_pos h1, if_neg h2, if_neg h3]
          exact parse_append l r _ b h
    · cases h

theorem dig_nat {d : Nat} (h : d < 10) : (UInt8.ofNat (48 + d)).toNat = 48 + d := by
  rw [UInt8.toNat_ofNat']
  omega

theorem parse_dec : ∀ (u : Nat), u < 9223372036854775808 → parseUint10 0 (decDigits u) = .ok u := by
  intro u
  induction u using Nat.strongRecOn with
  | ind u ih =>
    intro hu
    rw [decDigits]
    by_cases h : u < 10
    · rw [dif_pos h]
      simp only [parseUint10, dig_nat h]
      rw [if_pos (by omega), if_neg (by omega), if_neg (by omega)]
      congr 1
      omega
    · rw [dif_neg h, parse_append _ _ _ _ (ih (u / 10) (by omega) (by omega))]
      simp only [parseUint10, dig_nat (Nat.mod_lt u (by decide : 0 < 10))]
      rw [if_pos (by omega), if_neg (by omega), if_neg (by omega)]
      congr 1
      omega

/-- The spelling of the digits of a text. -/
def dig (n : Nat) (c : UInt8) : Nat := if 48 ≤ c.toNat ∧ c.toNat ≤ 57 then 10 * n + (c.toNat - 48) else n
def spell (l : List UInt8) : Nat := l.foldl dig 0
/-- The reference's number. -/
def spelt (l : List UInt8) : Int := if l.head? = some 45 then -(spell l : Int) else (spell l : Int)

theorem spell_snoc (l : List UInt8) (c : UInt8) : spell (l ++ [c]) = dig (spell l) c := by
  simp [spell]
theorem spell_dec : ∀ (u : Nat), spell (decDigits u) = u := by
  intro u
  induction u using Nat.strongRecOn with
  | ind u ih =>
    rw [decDigits]
    by_cases h : u < 10
    · rw [dif_pos h]
      simp only [spell, List.foldl_cons, List.foldl_nil, dig, dig_nat h]
      rw [if_pos (by omega)]
      omega
    · rw [dif_neg h, spell_snoc, ih (u / 10) (by omega)]
      simp only [dig, dig_nat (Nat.mod_lt u (by decide : 0 < 10))]
      rw [if_pos (by omega)]
      omega
theorem spell_lt : ∀ (l : List UInt8), spell l < 10 ^ l.length := by
  intro l
  have h : ∀ (k : Nat) (m : List UInt8), m.length = k → spell m < 10 ^ k := by
    intro k
    induction k with
    | zero => intro m hm; obtain rfl := List.eq_nil_of_length_eq_zero hm; decide
    | succ k ih =>
      intro m hm
      rcases List.eq_nil_or_concat m with rfl | ⟨a, c, rfl⟩
      · cases hm
      · rw [List.concat_eq_append] at hm ⊢
        rw [List.length_append] at hm
        have h1 := ih a (by simpa using hm)
        rw [spell_snoc, dig, Nat.pow_succ]
        split <;> omega
  exact h _ l rfl

theorem dec_head : ∀ (u : Nat), ∃ c r, decDigits u = c :: r ∧ 48 ≤ c.toNat ∧ c.toNat ≤ 57 := by
  intro u
  induction u using Nat.strongRecOn with
  | ind u ih =>
    rw [decDigits]
    by_cases h : u < 10
    · rw [dif_pos h]
      exact ⟨_, [], rfl, by rw [dig_nat h]; omega, by rw [dig_nat h]; omega⟩
    · rw [dif_neg h]
      obtain ⟨c, r, e, h1, h2⟩ := ih (u / 10) (by omega)
      exact ⟨c, r ++ [UInt8.ofNat (48 + u % 10)], by rw [e]; rfl, h1, h2⟩

theorem dec_len (u : Nat) (h : u < 10 ^ 16) : 1 ≤ (decDigits u).length ∧ (decDigits u).length ≤ 16 := by
  rw [decDigits_length]
  refine ⟨nDigits_pos u, ?_⟩
  rcases Nat.lt_or_ge 16 (nDigits u) with hc | hc
  · exfalso
    have h1 : ∀ (u : Nat), 10 ^ (nDigits u - 1) ≤ u ∨ u = 0 := by
      intro u
      induction u using Nat.strongRecOn with
      | ind u ih =>
        by_cases h : u < 10
        · rw [nDigits_small h]; rcases Nat.eq_zero_or_pos u with h0 | h0
          · exact .inr h0
          · exact .inl h0
        · rw [nDigits_big h]
          rcases ih (u / 10) (by omega) with h2 | h2
          · have h3 := nDigits_pos (u / 10)
            refine .inl ?_
            have e : nDigits (u / 10) + 1 - 1 = (nDigits (u / 10) - 1) + 1 := by omega
            rw [e, Nat.pow_succ]
            omega
          · omega
    rcases h1 u with h2 | h2
    · have h3 : 10 ^ 16 ≤ 10 ^ (nDigits u - 1) := Nat.pow_le_pow_right (by decide) (by omega)
      omega
    · rw [h2, nDigits_small (by decide)] at hc; omega
  · exact hc

theorem parse_mag (u : Nat) (h : u < 9223372036854775808) : parseUintB 64 (decDigits u) = .ok u := by
  rw [parseUintB_64, parseMag, parse_dec u h]
  obtain ⟨c, r, e, _⟩ := dec_head u
  rw [e]
  rfl

theorem parse_itoa (v : Int) (h0 : -1000000000000000 ≤ v) (h1 : v ≤ 1000000000000000) : parseIntB 64 (itoa v) = .ok v := by
  unfold itoa
  by_cases hv : v < 0
  · rw [if_pos hv, parseIntB_minus, parse_mag _ (by omega)]
    show (if 2 ^ (64 - 1) < v.natAbs then _ else _) = _
    rw [if_neg (by omega)]
    congr 1
    omega
  · rw [if_neg hv]
    obtain ⟨c, r, e, hc1, hc2⟩ := dec_head v.toNat
    rw [e, parseIntB_plain 64 c r (by omega) (by omega), ← e, parse_mag _ (by omega)]
    show (if 2 ^ (64 - 1) ≤ v.toNat then _ else _) = _
    rw [if_neg (by omega)]
    congr 1
    omega

theorem spelt_itoa (v : Int) : spelt (itoa v) = v := by
  unfold itoa spelt
  by_cases hv : v < 0
  · rw [if_pos hv]
    have e : spell (45 :: decDigits v.natAbs) = spell (decDigits v.natAbs) := by
      unfold spell
      rw [List.foldl_cons]
      rfl
    rw [e, spell_dec, List.head?_cons, if_pos rfl]
    omega
  · rw [if_neg hv, spell_dec]
    obtain ⟨c, r, e, hc1, hc2⟩ := dec_head v.toNat
    rw [e, List.head?_cons, if_neg (fun h => by
      injection h with h
      subst h
      revert hc1
      decide)]
    omega

theorem itoa_len (v : Int) (h0 : -1000000000000000 ≤ v) (h1 : v ≤ 1000000000000000) : 1 ≤ (itoa v).length ∧ (itoa v).length ≤ 17 := by
  unfold itoa
  by_cases hv : v < 0
  · rw [if_pos hv, List.length_cons]
    have := dec_len v.natAbs (by omega)
    omega
  · rw [if_neg hv]
    have := dec_len v.toNat (by omega)
    omega

theorem readDec_some {l : List UInt8} {v : Int} (h0 : -1000000000000000 ≤ v) (h1 : v ≤ 1000000000000000) (h : itoa v = l) : readDec l = some v := by
  subst h
  unfold readDec
  rw [parse_itoa v h0 h1]
  show (if _ then _ else _) = _
  rw [if_pos ⟨h0, h1, rfl⟩]
theorem readDec_eq {l : List UInt8} {v : Int} (h : readDec l = some v) : -1000000000000000 ≤ v ∧ v ≤ 1000000000000000 ∧ itoa v = l := by
  unfold readDec at h
  split at h
  · split at h
    · injection h with h
      subst h
      assumption
    · cases h
  · cases h
theorem readDec_none {l : List UInt8} (h : ∀ v, -1000000000000000 ≤ v → v ≤ 1000000000000000 → itoa v ≠ l) : readDec l = none := by
  cases e : readDec l with
  | none => rfl
  | some v =>
    obtain ⟨h0, h1, h2⟩ := readDec_eq e
    exact absurd h2 (h v h0 h1)
/-- The program's ways to say no. -/
theorem none_of_parse {l : List UInt8} (h : ∀ v, parseIntB 64 l ≠ .ok v) : readDec l = none := by
  unfold readDec
  split
  · rename_i v e
    exact absurd e (h v)
  · rfl
theorem none_of_not {l : List UInt8} {v : Int} (hp : parseIntB 64 l = .ok v) (h : ¬ (-1000000000000000 ≤ v ∧ v ≤ 1000000000000000 ∧ itoa v = l)) : readDec l = none := by
  unfold readDec
  rw [hp]
  show (if _ then _ else _) = _
  rw [if_neg h]
/-- The reference's ways to say no. -/
theorem none_of_len {l : List UInt8} (h : l.length < 1 ∨ 17 < l.length) : readDec l = none :=
  readDec_none fun v h0 h1 e => by
    have := itoa_len v h0 h1
    rw [e] at this
    omega
theorem none_of_spelt {l : List UInt8} (h : ¬ (-1000000000000000 ≤ spelt l ∧ spelt l ≤ 1000000000000000 ∧ itoa (spelt l) = l)) : readDec l = none :=
  readDec_none fun v h0 h1 e => by
    subst e
    rw [spelt_itoa] at h
    exact h ⟨h0, h1, rfl⟩
end Go.Proofs.YtnilpooheaaleaaDoor.dcp
