/- Widening and narrowing held against powers of two; what is not below zero; lower bounds. No conditions. -/
import Derived.Test.YtoimjjagkfgogaaFb
namespace Go.Proofs.Ytoimjjagkfgogaa
open Ieee

theorem em32 : emin .f32 = -126 := by decide
theorem em64 : emin .f64 = -1022 := by decide

theorem narrow_fin {b c : Nat} (h : finW .f64 b = true) (hv : vl Ieee.double (rg Ieee.double b) ≤ vl Ieee.single c * 2 ^ wexp) :
    rg Ieee.single (FloatKind.f32.encode (FloatKind.f64.decode b)) ≤ c := by
  rw [decode_fin h]
  show rg FloatKind.f32.format (FloatKind.f32.format.nearest _ _ _) ≤ c
  refine nearest_le .f32 _ ((leV_vl_right _ _ _ _).2 ?_)
  have hp := plR_ge Ieee.double (rg Ieee.double b)
  show leV (mgR Ieee.double (rg Ieee.double b)) (plR Ieee.double (rg Ieee.double b)) (vl Ieee.single c) Ieee.single.leastPlace
  rw [e32]
  rw [e64] at hp
  rw [leV_base (-1074) hp (by omega), show (-149 - -1074 : Int).toNat = wexp by rw [wexp_eq]; rfl]
  have : mgR Ieee.double (rg Ieee.double b) * 2 ^ (plR Ieee.double (rg Ieee.double b) - -1074).toNat = vl Ieee.double (rg Ieee.double b) := by
    unfold vl; rw [e64]
  rw [this]
  exact hv

theorem fits_of_fin {X : Option Nat} (h : ∀ b, X = some b → infW .f64 b = true ∨ finW .f32 (FloatKind.f32.encode (FloatKind.f64.decode b)) = true) : Fits X := by
  intro b hb
  unfold tooGreat
  rcases h b hb with h1 | h1
  · rw [decode_inf h1]; rfl
  · rw [decode_fin h1]; simp [Datum.isInfinity]

theorem fits_top {t : Int} {X : Option Nat} (hX : Top .f64 t X) (h1 : -126 ≤ t) (h2 : t ≤ 127) : Fits X ∧ Top .f32 t (narrowA X) := by
  have key : ∀ b, X = some b → rg Ieee.single (FloatKind.f32.encode (FloatKind.f64.decode b)) ≤ p2 .f32 t := by
    intro b hb
    obtain ⟨fb, vb⟩ := hX b hb
    refine narrow_fin fb ?_
    have e := p2_vl .f32 (t := t) (by have := em32; unfold emin at this; omega)
    have hl : FloatKind.f32.format.leastPlace = -149 := e32
    have hl2 : FloatKind.f64.format.leastPlace = -1074 := e64
    rw [hl] at e
    rw [hl2] at vb
    show _ ≤ vl FloatKind.f32.format _ * _
    rw [e, ← Nat.pow_add, show (t - -149).toNat + wexp = (t - -1074).toNat by rw [wexp_eq]; omega]
    exact vb
  have hem : emin .f32 ≤ t := by rw [em32]; exact h1
  refine ⟨fits_of_fin fun b hb => .inr (fin_of_rg (key b hb) (p2_fin .f32 h2)), fun r hr => ?_⟩
  cases X with
  | none => cases hr
  | some b => cases hr; exact top_of_rg (key b rfl) hem h2

theorem top_wide {t : Int} {X : Option Nat} (hX : Top .f32 t X) (h1 : -149 ≤ t) : Top .f64 t (wideA X) := by
  intro r hr
  cases X with
  | none => cases hr
  | some b =>
    cases hr
    obtain ⟨fb, vb⟩ := hX b rfl
    obtain ⟨w1, w2, _⟩ := wide_fin fb
    refine ⟨w1, ?_⟩
    have a1 := V_abs .f64 (wideW b)
    have a2 := V_abs .f32 b
    rw [w2, Int.natAbs_mul, a2] at a1
    show vl FloatKind.f64.format (rg FloatKind.f64.format (wideW b)) ≤ _
    rw [← a1]
    have hl : FloatKind.f32.format.leastPlace = -149 := e32
    have hl2 : FloatKind.f64.format.leastPlace = -1074 := e64
    rw [hl] at vb
    rw [hl2, show (t - -1074).toNat = (t - -149).toNat + wexp by rw [wexp_eq]; omega, Nat.pow_add]
    have : ((2 ^ wexp : Nat) : Int).natAbs = 2 ^ wexp := rfl
    rw [this]
    exact Nat.mul_le_mul_right _ vb

theorem pow_split (a b c : Nat) (h : c = a + b) : 2 ^ c = 2 ^ a * 2 ^ b := by rw [h, Nat.pow_add]

theorem top_all {b : Nat} (h : finW .f32 b = true) : Top .f32 128 (some b) := by
  intro c hc
  cases hc
  refine ⟨h, ?_⟩
  have h1 : rg Ieee.single b ≤ Ieee.single.infRung := Nat.le_of_lt (of_decide_eq_true h)
  have h2 := vl_mono Ieee.single h1
  have hl : FloatKind.f32.format.leastPlace = -149 := e32
  rw [hl]
  obtain ⟨n, hn⟩ : ∃ n, n = (128 - -149 : Int).toNat := ⟨_, rfl⟩
  rw [← hn]
  have h3 : vl Ieee.single Ieee.single.infRung = 2 ^ n := by
    have hn2 : n = 23 + 254 := hn
    rw [vl_high (by decide)]
    have e1 : Ieee.single.infRung % Ieee.single.binade = 0 := by decide
    have e2 : Ieee.single.infRung / Ieee.single.binade - 1 = 254 := by decide
    have e3 : Ieee.single.binade = 2 ^ 23 := by decide
    rw [e1, e2, e3, Nat.add_zero, hn2]
    exact (Nat.pow_add 2 23 254).symm
  rw [h3] at h2
  exact h2

theorem top_fin {X : Option Nat} (oX : Ok .f32 X) (h : finA .f32 X = true) : Top .f32 128 X := by
  cases X with
  | none => cases h
  | some b => rw [finA_some (oX b rfl).1] at h; exact top_all h

theorem Ok.wide {X : Option Nat} (h : Ok .f32 X) : Ok .f64 (wideA X) := fun r hr => by
  cases X with
  | none => cases hr
  | some b => cases hr; exact ⟨(wide_not_nan (h b rfl).1).1, encode_lt _ _⟩
theorem Ok.narrow {X : Option Nat} (h : Ok .f64 X) : Ok .f32 (narrowA X) := fun r hr => by
  cases X with
  | none => cases hr
  | some b =>
    cases hr
    refine ⟨write_nan .f32 ?_, encode_lt _ _⟩
    rcases decode_cases' (h b rfl).1 with ⟨s, e⟩ | ⟨s, m, e0, e⟩ <;> rw [e] <;> rfl
theorem Ok.sqrt (X : Option Nat) : Ok .f64 (sqrtA X) := fun r hr => by
  cases X with
  | none => cases hr
  | some b => exact ⟨sqrt_not_nan (show FloatKind.f64.format.sqrt b = some r from hr), Ieee.Format.sqrt_lt _ (show FloatKind.f64.format.sqrt b = some r from hr)⟩
theorem Ok.neg {k : FloatKind} {X : Option Nat} (h : Ok k X) : Ok k (negA k X) := fun r hr => by
  cases X with
  | none => cases hr
  | some b => cases hr; exact ⟨by rw [neg_nan]; exact (h b rfl).1, neg_lt (h b rfl).2⟩

/-- The root of a 32-bit number is not too great. -/
theorem fits_root {X : Option Nat} (oX : Ok .f32 X) : Fits (sqrtA (wideA X)) := by
  cases X with
  | none => intro b hb; cases hb
  | some b =>
    obtain ⟨hn, _⟩ := oX b rfl
    rcases kinds .f32 b with ⟨h1, _, _⟩ | ⟨_, h1, _⟩ | ⟨_, _, h1⟩
    · exact (fits_top (top_sqrt oX.wide (top_wide (top_all h1) (by omega)) (by omega) (show (128 : Int) ≤ 2 * 64 by omega) (by omega) (by omega)) (by omega) (by omega)).1
    · refine fits_of_fin fun r hr => ?_
      have hr' : FloatKind.f64.format.sqrt (wideW b) = some r := hr
      have e : FloatKind.f64.format.sqrt (wideW b) = ((FloatKind.f64.decode (wideW b)).root (FloatKind.f64.format.fractionBits + 2)).map FloatKind.f64.format.write := rfl
      rw [e, decode_inf (wide_inf h1).1] at hr'
      cases hs : ng FloatKind.f64.format (wideW b) with
      | true => rw [hs] at hr'; cases hr'
      | false =>
        rw [hs] at hr'
        left
        have e2 : (Datum.infinity false).root (FloatKind.f64.format.fractionBits + 2) = some (Datum.infinity false) := rfl
        rw [e2] at hr'
        have e3 : r = Ieee.double.word false Ieee.double.infRung := by cases hr'; rfl
        rw [e3]
        show decide (rg Ieee.double (Ieee.double.word false Ieee.double.infRung) = Ieee.double.infRung) = true
        exact decide_eq_true (word_rg Ieee.double false (inf_lt .f64))
    · rw [hn] at h1; cases h1

/-! ## Not below zero -/

def NonNeg (k : FloatKind) (X : Option Nat) : Prop := ∀ b, X = some b → finW k b = true → 0 ≤ V k b

theorem V_pos {k : FloatKind} {b : Nat} (h : ng k.format b = false) : V k b = (vl k.format (rg k.format b) : Int) := by
  unfold V; rw [h]; simp

theorem nonneg_sq {k : FloatKind} {X : Option Nat} : NonNeg k (opA .mul k X X) := by
  intro r hr hf
  cases X with
  | none => cases hr
  | some a =>
    have hr' : ((k.decode a).product (k.decode a)).map k.format.write = some r := hr
    have key : ng k.format r = false := by
      cases hd : k.decode a with
      | number s m e =>
        rw [hd] at hr'
        cases hr'
        show ng k.format (k.format.nearest _ _ _) = false
        rw [nearest_ng]
        cases s <;> rfl
      | infinity s =>
        rw [hd] at hr'
        cases hr'
        show ng k.format (k.format.word _ _) = false
        rw [word_ng _ _ (inf_lt k)]
        cases s <;> rfl
      | nan s t => rw [hd] at hr'; cases hr'
    rw [V_pos key]
    exact Int.natCast_nonneg _

theorem nonneg_sqrt {X : Option Nat} (oX : Ok .f64 X) : NonNeg .f64 (sqrtA X) := by
  intro r hr hf
  cases X with
  | none => cases hr
  | some a =>
    have hr' : FloatKind.f64.format.sqrt a = some r := hr
    rcases kinds .f64 a with ⟨h1, _, _⟩ | ⟨_, h1, _⟩ | ⟨_, _, h1⟩
    · by_cases h0 : rg FloatKind.f64.format a = 0
      · rw [sqrt_zero (oX a rfl).2 h0] at hr'
        cases hr'
        unfold V
        rw [h0, vl_zero]
        split <;> simp
      · cases hs : ng FloatKind.f64.format a with
        | true =>
          have : FloatKind.f64.format.sqrt a = none := by
            show ((FloatKind.f64.decode a).root _).map _ = none
            rw [decode_fin h1, hs]
            simp only [Datum.root]
            rw [if_neg (mgR_pos h0), if_pos trivial]
            rfl
          rw [this] at hr'; cases hr'
        | false =>
          rw [sqrt_word h1 hs h0] at hr'
          cases hr'
          rw [V_pos (nearest_ng .f64 _ _ _)]
          exact Int.natCast_nonneg _
    · have e : FloatKind.f64.format.sqrt a = ((FloatKind.f64.decode a).root (FloatKind.f64.format.fractionBits + 2)).map FloatKind.f64.format.write := rfl
      rw [e, decode_inf h1] at hr'
      cases hs : ng FloatKind.f64.format a with
      | true => rw [hs] at hr'; cases hr'
      | false =>
        rw [hs] at hr'
        have e2 : (Datum.infinity false).root (FloatKind.f64.format.fractionBits + 2) = some (Datum.infinity false) := rfl
        rw [e2] at hr'
        have e3 : r = Ieee.double.word false Ieee.double.infRung := by cases hr'; rfl
        rw [e3, V_pos (k := .f64) (b := Ieee.double.word false Ieee.double.infRung) (word_ng Ieee.double false (inf_lt .f64))]
        exact Int.natCast_nonneg _
    · rw [(oX a rfl).1] at h1; cases h1

/-- At least 2 ^ g, and something that is not below 0. -/
theorem bot_add {k : FloatKind} {t g : Int} {X Y : Option Nat} (hX : Top k t X) (hY : Top k t Y) (hB : Bot k g X) (hN : NonNeg k Y) (h1 : emin k ≤ t) (h2 : t + 1 ≤ emax k) (hg : emin k ≤ g) (hg2 : g ≤ emax k) : Bot k g (opA .add k X Y) := by
  intro r hr
  have hT := top_add hX hY h1 h2 r hr
  cases X with
  | none => cases hr
  | some a => cases Y with
    | none => cases hr
    | some b =>
      obtain ⟨fa, sa, ba⟩ := hB a rfl
      obtain ⟨fb, _⟩ := hY b rfl
      have nb := hN b rfl fb
      obtain ⟨s, m, e, q1, q2, _⟩ := add_word fa fb
      have hr' : floatBits .add k a b = some r := hr
      rw [q1] at hr'
      cases hr'
      have va := V_pos sa
      have hp := two_pos (g - k.format.leastPlace).toNat
      have hv : vl k.format (p2 k g) ≤ (V k a + V k b).natAbs := by
        rw [p2_vl k (by unfold emin at *; omega)]
        omega
      refine ⟨hT.1, ?_, ?_⟩
      · rw [nearest_ng]
        exact q2.pos (by omega)
      · have h3 := worth_ge q2 (Nat.le_of_lt (p2_fin k hg2)) hv
        have h4 := vl_mono k.format h3
        rw [p2_vl k (by unfold emin at *; omega)] at h4
        exact h4

end Go.Proofs.Ytoimjjagkfgogaa
