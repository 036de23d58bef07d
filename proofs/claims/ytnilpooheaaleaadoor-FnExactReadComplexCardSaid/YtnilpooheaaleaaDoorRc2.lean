/- Walks: the complex numbers of a list with a text: the reference's digits. No conditions. -/
import Derived.Test.YtnilpooheaaleaaDoorRc1
import Derived.Test.YtnilpooheaaleaaDoorRf3
namespace Go.Proofs.YtnilpooheaaleaaDoor.cx
open Go.RowKit
open hex (dg lasts rdBits Own Not8)
open li (own_below)
open re (strs part_cell)
open row (Lists lists_none lists_some vals vals_succ vals_length vals_all)
open fl (Upto digit_of letter_of bad_byte not_own not_long)
set_option maxRecDepth 8000

theorem info_c : (Tryd.prog.info? 68).map (fun i => (i.zero, i.size, i.bytes)) = some (some (.complex .f32 0 0), 1, 8) := by kernel_rfl

/-- The complex number with a text: its words. -/
noncomputable def rdC (l : List UInt8) : Option (Nat × Nat) := if l.length = 16 then (rdBits (l.take 8)).bind fun a => (rdBits (l.drop 8)).map fun b => (a, b) else none
theorem rdC_long {l : List UInt8} (h : l.length ≠ 16) : rdC l = none := by rw [rdC, if_neg h]
theorem rdC_yes {l : List UInt8} {a b : Nat} (h : l.length = 16) (h1 : rdBits (l.take 8) = some a) (h2 : rdBits (l.drop 8) = some b) : rdC l = some (a, b) := by rw [rdC, if_pos h, h1, h2]; rfl
theorem rdC_no1 {l : List UInt8} (h1 : rdBits (l.take 8) = none) : rdC l = none := by
  unfold rdC
  split
  · rw [h1]; rfl
  · rfl
theorem rdC_no2 {l : List UInt8} (h2 : rdBits (l.drop 8) = none) : rdC l = none := by
  unfold rdC
  split
  · rw [h2]; cases rdBits (l.take 8) <;> rfl
  · rfl
theorem rdC_small {l : List UInt8} {z : Nat × Nat} (h : rdC l = some z) : Small z := by
  unfold rdC at h
  split at h
  · cases h1 : rdBits (l.take 8) with
    | none => rw [h1] at h; cases h
    | some a =>
      cases h2 : rdBits (l.drop 8) with
      | none => rw [h1, h2] at h; cases h
      | some b =>
        rw [h1, h2] at h
        injection h with h
        subst h
        exact ⟨(hex.rdBits_eq h1).1.1, (hex.rdBits_eq h2).1.1⟩
  · cases h
noncomputable def val (p : List UInt8) : Nat × Nat := (rdC p).getD (0, 0)
noncomputable def listOf (l : List UInt8) : Option (List (Nat × Nat)) := cut.readAll rdC (0, 0) 256 l

/-- What the reference's reading of eight digits gives. -/
def told (o : Option Nat) : Ending := .returned (.tuple #[.float .f32 (o.getD 0), .bool o.isSome])
theorem told_no {o : Option Nat} (h : o = none) : told o = .returned (.tuple #[.float .f32 0, .bool false]) := by rw [h]; rfl
theorem told_yes {o : Option Nat} {n : Nat} (h : o = some n) : told o = .returned (.tuple #[.float .f32 n, .bool true]) := by rw [h]; rfl

set_option maxRecDepth 100000 in
set_option maxHeartbeats 8000000 in
theorem spec_digits (q : ByteArray) (h8 : q.size = 8) (w : World) :
    Calls Tryd.prog 84 #[.string q] w fun e w' => e = told (rdBits q.data.toList) ∧ w = w' := by
  obtain ⟨p, hq⟩ : ∃ p, p = q.data.toList := ⟨_, rfl⟩
  have H8 := Lib.hid (show p.length = 8 by rw [hq]; simpa using h8)
  have HQ := Lib.hid hq
  have HQS := Lib.hid h8
  have hsz : (q.size : Int) = 8 := by omega
  rw [← hq]
  clear hq h8
  go_enter Tryd.func84, Tryd.ntmps84
  go_wp2
  go_loop [4, 5, 6] (fun n j _ => ∃ (jj nn : Nat), n = .int .i64 nn ∧ j = .int .i64 jj ∧ jj ≤ 8 ∧ Hid (Upto p jj nn)) (fun _ j _ => 8 - (intOf j).toNat)
  case atStart => exact ⟨0, 0, rfl, rfl, by decide, Lib.hid (Upto.start p)⟩
  case round =>
    obtain ⟨j, n, rfl, rfl, hj, HU⟩ := hrel
    by_cases hj8 : j < 8
    · have hn28 : (n : Int) < 268435456 := by have := HU.out.lt (by omega); omega
      have hn0 : (0 : Int) ≤ (n : Int) := by omega
      have hqs := HQS.out
      have hat : p[j]? = some (q[j]'(by omega)) := by rw [HQ.out]; exact List.getElem?_eq_getElem (by simp; omega)
      have hix : ∀ w, (Instr.index 9 (.string q) (.int .i64 (j : Int))).run Tryd.prog w = .ok (.int .u8 (((q[j]'(by omega)).toNat : Nat) : Int)) w := fun w => by
        rw [run_index_string w 9 q .i64 _ Tryd.underlying9, dif_pos ⟨by omega, by omega⟩]
        have e : ((j : Int)).toNat = j := by omega
        simp only [e]
      generalize q[j]'(by omega) = c at hat hix
      clear hqs
      have hc255 : (c.toNat : Int) ≤ 255 := by have := c.toNat_lt; omega
      have hc0 : (0 : Int) ≤ (c.toNat : Int) := by omega
      have hj8i : (j : Int) < 8 := by omega
      by_cases hd : 48 ≤ c.toNat ∧ c.toNat ≤ 57
      · have HK : Hid (Upto p (j + 1) (16 * n + (c.toNat - 48))) := Lib.hid (HU.out.push hat (by omega) (digit_of c hd.1 hd.2))
        have hd0 : (48 : Int) ≤ (c.toNat : Int) := by omega
        have hd1 : (c.toNat : Int) ≤ 57 := by omega
        have hd2 : ¬ (97 : Int) ≤ (c.toNat : Int) := by omega
        have hsum : ((16 * n + (c.toNat - 48) : Nat) : Int) = 16 * (n : Int) + ((c.toNat : Int) - 48) := by omega
        clear hat hd hj8 hj
        generalize (c.toNat : Int) = z at *
        have hng : decide (z - 48 < 0) = false := decide_eq_false (by omega)
        go_wp2
        exact ⟨⟨j + 1, 16 * n + (c.toNat - 48), by rw [hsum], by go_num, by omega, HK⟩, by simp [intOf]; omega⟩
      · by_cases hl : 97 ≤ c.toNat ∧ c.toNat ≤ 102
        · have HK : Hid (Upto p (j + 1) (16 * n + (c.toNat - 87))) := Lib.hid (HU.out.push hat (by omega) (letter_of c hl.1 hl.2))
          have hd0 : (48 : Int) ≤ (c.toNat : Int) := by omega
          have hd1 : ¬ (c.toNat : Int) ≤ 57 := by omega
          have hd2 : (97 : Int) ≤ (c.toNat : Int) := by omega
          have hd3 : (c.toNat : Int) ≤ 102 := by omega
          have hsum : ((16 * n + (c.toNat - 87) : Nat) : Int) = 16 * (n : Int) + ((c.toNat : Int) - 97 + 10) := by omega
          clear hat hd hl hj8 hj
          generalize (c.toNat : Int) = z at *
          have hng : decide (z - 97 + 10 < 0) = false := decide_eq_false (by omega)
          go_wp2
          exact ⟨⟨j + 1, 16 * n + (c.toNat - 87), by rw [hsum], by go_num, by omega, HK⟩, by simp [intOf]; omega⟩
        · have HN := Lib.hid (told_no (hex.rdBits_not (bad_byte hat hd hl)))
          have hway : (c.toNat : Int) < 48 ∨ (57 < (c.toNat : Int) ∧ (c.toNat : Int) < 97) ∨ 102 < (c.toNat : Int) := by omega
          clear hat hd hl hj8 hj
          generalize (c.toNat : Int) = z at *
          rcases hway with hw | ⟨hw0, hw1⟩ | hw
          · have f1 : ¬ (48 : Int) ≤ z := by omega
            have f2 : ¬ (97 : Int) ≤ z := by omega
            clear hw
            go_wp2
            go_ret2
            exact ⟨HN.out.symm, rfl⟩
          · have f1 : (48 : Int) ≤ z := by omega
            have f3 : ¬ z ≤ (57 : Int) := by omega
            have f2 : ¬ (97 : Int) ≤ z := by omega
            clear hw0 hw1
            go_wp2
            go_ret2
            exact ⟨HN.out.symm, rfl⟩
          · have f1 : (48 : Int) ≤ z := by omega
            have f3 : ¬ z ≤ (57 : Int) := by omega
            have f2 : (97 : Int) ≤ z := by omega
            have f4 : ¬ z ≤ (102 : Int) := by omega
            clear hw
            go_wp2
            go_ret2
            exact ⟨HN.out.symm, rfl⟩
    · obtain rfl : j = 8 := by omega
      obtain ⟨hn32, hpl⟩ := HU.out.done H8.out
      have hx : Ab .f32 n (ab .f32 n) := Ab.self (b := n) hn32
      have hb := fun w' => spec_l01Bits n (ab .f32 n) hx w'
      rw [hex.bitsA_word] at hb
      have hni : (n : Int) ≤ 4294967295 := by omega
      have hn0 : (0 : Int) ≤ (n : Int) := by omega
      by_cases hown : hex.wordA (ab .f32 n) = n
      · have HN := Lib.hid (told_yes (hex.rdBits_some ⟨hn32, hown⟩ hpl))
        rw [hown] at hb
        have enn : ((n : Int) != (n : Int)) = false := by simp
        clear hpl hx hown hn32 HU
        go_wp2_with (first | (go_at_call 81; refine (hb _).mono ?_; rintro e w' ⟨rfl, rfl⟩) | go_in)
        go_ret2
        exact ⟨HN.out.symm, rfl⟩
      · have HN := Lib.hid (told_no (not_own hn32 hpl hown))
        have enn : (((hex.wordA (ab .f32 n) : Nat) : Int) != (n : Int)) = true := by simp; omega
        have hwl := hex.word_lt hx
        have hwl2 : ((hex.wordA (ab .f32 n) : Nat) : Int) ≤ 4294967295 := by omega
        clear hpl hx hown hn32 HU hwl
        generalize hex.wordA (ab .f32 n) = m at *
        go_wp2_with (first | (go_at_call 81; refine (hb _).mono ?_; rintro e w' ⟨rfl, rfl⟩) | go_in)
        go_ret2
        exact ⟨HN.out.symm, rfl⟩

end Go.Proofs.YtnilpooheaaleaaDoor.cx
