/- Plain laws: hexadecimal digits. No conditions. -/
import Derived.Lib.Repeat
namespace Go.Proofs.YtnilpooheaaleaaDoor.hex

/-- The digit of a number below 16. -/
def dg (d : Nat) : UInt8 := if d < 10 then UInt8.ofNat (48 + d) else UInt8.ofNat (87 + d)
theorem dg_nat {d : Nat} (h : d < 16) : (dg d).toNat = if d < 10 then 48 + d else 87 + d := by
  unfold dg
  split
  · rw [UInt8.toNat_ofNat']; omega
  · rw [UInt8.toNat_ofNat']; omega
/-- The last k digits. -/
def lasts : Nat → Nat → List UInt8
  | 0, _ => []
  | k + 1, n => lasts k (n / 16) ++ [dg (n % 16)]
theorem lasts_length : ∀ k n, (lasts k n).length = k
  | 0, _ => rfl
  | k + 1, n => by rw [lasts, List.length_append, lasts_length k]; rfl
/-- The digits, without zeros ahead. -/
def digits (n : Nat) : List UInt8 := if _h : n < 16 then [dg n] else digits (n / 16) ++ [dg (n % 16)]
termination_by n
decreasing_by omega
theorem digits_small {n : Nat} (h : n < 16) : digits n = [dg n] := by rw [digits, dif_pos h]
theorem digits_big {n : Nat} (h : 16 ≤ n) : digits n = digits (n / 16) ++ [dg (n % 16)] := by rw [digits, dif_neg (by omega)]
theorem lasts_zero : ∀ k, lasts k 0 = List.replicate k 48
  | 0 => rfl
  | k + 1 => by
    rw [lasts, Nat.zero_div, lasts_zero k, List.replicate_succ']
    rfl
theorem digits_pos (n : Nat) : 1 ≤ (digits n).length := by
  by_cases h : n < 16
  · rw [digits_small h]; exact Nat.le_refl _
  · rw [digits_big (by omega)]; simp
/-- Filled up with zeros they are the last k digits. -/
theorem pad : ∀ k n, 1 ≤ k → n < 16 ^ k → (digits n).length ≤ k ∧ List.replicate (k - (digits n).length) 48 ++ digits n = lasts k n
  | 0, _, h, _ => by omega
  | k + 1, n, _, hn => by
    by_cases h : n < 16
    · rw [digits_small h, lasts, Nat.div_eq_of_lt h, lasts_zero, Nat.mod_eq_of_lt h]
      exact ⟨by simp, rfl⟩
    · rw [digits_big (by omega), lasts]
      have hk : 1 ≤ k := by
        rcases Nat.eq_zero_or_pos k with h0 | h0
        · subst h0; simp at hn; omega
        · exact h0
      rw [Nat.pow_succ] at hn
      obtain ⟨h1, h2⟩ := pad k (n / 16) hk (by omega)
      refine ⟨by simp; omega, ?_⟩
      rw [List.length_append, ← h2, List.length_singleton, show k + 1 - ((digits (n / 16)).length + 1) = k - (digits (n / 16)).length by omega, List.append_assoc]
theorem first_digits (n k : Nat) : lasts (k + 1) n = lasts k (n / 16) ++ [dg (n % 16)] := rfl
end Go.Proofs.YtnilpooheaaleaaDoor.hex
