/- More facts on collapsed words: finite words, infinities, comparisons, what is kept when 32 bits are widened. No conditions. -/
import Derived.Test.YtoimjjagkfgogaaFv
namespace Go.Proofs.Ytoimjjagkfgogaa
open Ieee

def finA (k : FloatKind) (X : Option Nat) : Bool := cmpA .eql k (opA .sub k X X) (some 0)

theorem sum_opp_self (s : Bool) (m : Nat) (i : Int) : (Datum.number s m i).sum (Datum.number s m i).opposite = some (.number false 0 i) := by
  simp only [Datum.opposite, Datum.sum]
  rw [Int.min_self]
  have e : signed s m (i - i).toNat + signed (!s) m (i - i).toNat = 0 := by
    unfold signed
    cases s <;> simp <;> omega
  rw [e]
  cases s <;> simp

theorem sub_self_fin {k : FloatKind} {b : Nat} (h : finW k b = true) : floatBits .sub k b b = some 0 := by
  show ((k.decode b).sum (k.decode b).opposite).map k.format.write = some 0
  rw [decode_fin h, sum_opp_self]
  simp [Format.write, Format.nearest, Format.word]
theorem sub_self_inf {k : FloatKind} {b : Nat} (h : infW k b = true) : floatBits .sub k b b = none := by
  show ((k.decode b).sum (k.decode b).opposite).map k.format.write = none
  rw [decode_inf h]
  simp only [Datum.opposite, Datum.sum]
  cases ng k.format b <;> simp

theorem fin_zero (k : FloatKind) : finW k 0 = true := by cases k <;> decide
theorem V_zero (k : FloatKind) : V k 0 = 0 := by
  unfold V rg
  rw [Nat.zero_mod, vl_zero]
  simp

theorem order_self {k : FloatKind} {b : Nat} (h : finW k b = true) : k.format.order b b = some .eq := by
  rw [order_fin h h]
  show some (compareOfLessAndEq _ _) = _
  unfold compareOfLessAndEq
  simp

theorem finA_some {k : FloatKind} {b : Nat} (h : nanW k b = false) : finA k (some b) = finW k b := by
  unfold finA
  rcases kinds k b with ⟨h1, _, _⟩ | ⟨h1, h2, _⟩ | ⟨_, _, h1⟩
  · rw [h1]
    show cmpA .eql k (floatBits .sub k b b) (some 0) = true
    rw [sub_self_fin h1]
    show (k.format.order 0 0 == some .eq) = true
    rw [order_self (fin_zero k)]
    rfl
  · rw [h1]
    show cmpA .eql k (floatBits .sub k b b) (some 0) = false
    rw [sub_self_inf h2]
    rfl
  · rw [h] at h1; cases h1
theorem finA_none (k : FloatKind) : finA k none = false := rfl

theorem wide_not_nan {b : Nat} (h : nanW .f32 b = false) : nanW .f64 (wideW b) = false ∧ finW .f64 (wideW b) = finW .f32 b ∧ infW .f64 (wideW b) = infW .f32 b ∧ ng Ieee.double (wideW b) = ng Ieee.single b := by
  rcases kinds .f32 b with ⟨h1, h2, _⟩ | ⟨h1, h2, _⟩ | ⟨_, _, h1⟩
  · obtain ⟨w1, _, w3⟩ := wide_fin h1
    rcases kinds .f64 (wideW b) with ⟨k1, k2, k3⟩ | ⟨k1, _, _⟩ | ⟨k1, _, _⟩
    · exact ⟨k3, by rw [k1, h1], by rw [k2, h2], w3⟩
    · rw [w1] at k1; cases k1
    · rw [w1] at k1; cases k1
  · obtain ⟨w1, w3⟩ := wide_inf h2
    rcases kinds .f64 (wideW b) with ⟨_, k1, _⟩ | ⟨k1, k2, k3⟩ | ⟨_, k1, _⟩
    · rw [w1] at k1; cases k1
    · exact ⟨k3, by rw [k1, h1], by rw [k2, h2], w3⟩
    · rw [w1] at k1; cases k1
  · rw [h] at h1; cases h1

theorem wideA_some (b : Nat) : wideA (some b) = some (wideW b) := rfl

theorem finA_wide {x : Nat} {X : Option Nat} (h : Ab .f32 x X) : finA .f64 (wideA X) = finA .f32 X := by
  cases X with
  | none =>
    show finA .f64 none = finA .f32 none
    rw [finA_none, finA_none]
  | some b =>
    have hn := h.of_some.2
    rw [wideA_some, finA_some (wide_not_nan hn).1, finA_some hn, (wide_not_nan hn).2.1]

theorem decode_cases' {k : FloatKind} {b : Nat} (h : nanW k b = false) : (∃ s, k.decode b = .infinity s) ∨ (∃ s m e, k.decode b = .number s m e) := by
  rcases kinds k b with ⟨h1, _, _⟩ | ⟨_, h1, _⟩ | ⟨_, _, h1⟩
  · exact .inr ⟨_, _, _, decode_fin h1⟩
  · exact .inl ⟨_, decode_inf h1⟩
  · rw [h] at h1; cases h1

end Go.Proofs.Ytoimjjagkfgogaa
