/- Walks: the reference's hexadecimal digits. No conditions. -/
import Derived.Test.YtnilpooheaaleaaDoorHc
namespace Go.Proofs.YtnilpooheaaleaaDoor.hex
open Go.RowKit
open dec (bytesV bytesV_length bytesV_one own_shape fl_text)
set_option maxRecDepth 8000

def digs : ByteArray := ⟨#[48, 49, 50, 51, 52, 53, 54, 55, 56, 57, 97, 98, 99, 100, 101, 102]⟩
theorem digs_at : ∀ d : Fin 16, digs.data.toList.getD d.val 0 = dg d.val := by decide +kernel
theorem idx16 {P : Program} (t : TypeId) (ht : P.underlying t = some .string) (k : IntKind) (d : Nat) (hd : d < 16) (w : World) :
    (Instr.index t (.string digs) (.int k (d : Int))).run P w = .ok (.int .u8 ((dg d).toNat : Int)) w := by
  rw [run_index_string w t digs k _ ht, dif_pos ⟨by omega, by show (d : Int) < (16 : Nat); omega⟩]
  have e : ((d : Int)).toNat = d := by omega
  simp only [e]
  rw [Lib.getD_at, digs_at ⟨d, hd⟩]
theorem and15i (r : Nat) (hr : r < 9223372036854775808) : bits .and .i64 (r : Int) 15 = ((r % 16 : Nat) : Int) := by
  have hx : r &&& 15 < 2 ^ 63 := Nat.and_lt_two_pow _ (by omega)
  have h1 : (BitVec.ofInt 64 (r : Int)).toNat = r := by
    rw [BitVec.ofInt_natCast, BitVec.toNat_ofNat]; exact Nat.mod_eq_of_lt (by omega)
  have h2 : (BitVec.ofInt 64 15).toNat = 15 := by decide
  show IntKind.i64.wrap ((BitVec.ofInt 64 (r : Int) &&& BitVec.ofInt 64 15).toNat : Int) = _
  rw [BitVec.toNat_and, h1, h2, IntKind.wrap_i64]
  have h3 : r &&& 15 = r % 16 := Nat.and_two_pow_sub_one_eq_mod r 4
  rw [h3]
  omega
theorem own_snoc {w : World} {base : Nat} {e : TypeId} {v : Value} {D : List UInt8} {c : UInt8} {j : Nat} (hj : D.length = j) (h : w.ownsRow base e 1 v (j + 1) (bytesV D ++ [.int .u8 (c.toNat : Int)])) : w.ownsRow base e 1 v (D ++ [c]).length (bytesV (D ++ [c])) := by
  have e2 : bytesV (D ++ [c]) = bytesV D ++ [.int .u8 (c.toNat : Int)] := by simp [bytesV]
  rw [e2, List.length_append, hj]
  exact h

set_option maxHeartbeats 8000000 in
theorem spec_hex (x : Nat) (X : Option Nat) (hx : Ab .f32 x X) (w : World) :
    Calls Tryd.prog 73 #[.float .f32 x] w fun e w' => e = .returned (.string ⟨(textA X).toArray⟩) ∧ Below w.heap.size w w' := by
  obtain ⟨iu, hiu, hzu, hsu, hbu⟩ := info_parts dec.info_u8
  have hB := fun w' => spec_l01Bits x X hx w'
  have hu := word_lt hx
  rw [bitsA_word] at hB
  have HT := Lib.hid (show textA X = lasts 8 (wordA X) from rfl)
  clear hx
  generalize wordA X = n at *
  go_enter Tryd.func73, Tryd.ntmps73
  have eD : (⟨#[48, 49, 50, 51, 52, 53, 54, 55, 56, 57, 97, 98, 99, 100, 101, 102]⟩ : ByteArray) = digs := rfl
  rw [eD]
  have hidx := fun d hd w => idx16 (P := Tryd.prog) 9 Tryd.underlying9 .i64 d hd w
  generalize digs = DG at *
  have HI := Lib.hid hidx
  clear hidx eD
  go_wp2_with ((go_at_call 81; refine (hB _).mono ?_; rintro e w' ⟨rfl, rfl⟩))
  go_loopw [4, 5] (fun v k wr => ∃ (g cap j : Nat) (D : List UInt8), v = .slice (some ⟨g, 0, none⟩) j cap ∧ k = .int .i64 (28 - 4 * (j : Int)) ∧ j ≤ 8 ∧ D.length = j ∧ D = lasts j (n / 16 ^ (8 - j)) ∧ wr.ownsRow w.heap.size 5 1 v j (bytesV D) ∧ Below w.heap.size w wr) (fun _ k _ => (intOf k + 4).toNat)
  case atStart => exact ⟨_, _, 0, [], rfl, rfl, by decide, rfl, rfl, World.ownsRow_lit w #[] 0 (Nat.le_refl _) (by decide) rfl, (Below.refl _ _).alloc (Nat.le_refl _) _⟩
  case round =>
    obtain ⟨g, cap, j, D, rfl, rfl, hj, hD, eL, hown, bel⟩ := hrel
    have hcase : j = 0 ∨ j = 1 ∨ j = 2 ∨ j = 3 ∨ j = 4 ∨ j = 5 ∨ j = 6 ∨ j = 7 ∨ j = 8 := by omega
    have HL := Lib.hid eL
    have HO := HI
    clear eL
    rcases hcase with rfl | rfl | rfl | rfl | rfl | rfl | rfl | rfl | rfl
    · have hd := Nat.mod_lt (n / 268435456) (show 0 < 16 by decide)
      have hand : bits .and .i64 ((n : Int) / 268435456) 15 = ((n / 268435456 % 16 : Nat) : Int) := by
        rw [← and15i (n / 268435456) (by omega)]
        congr 1
      have hix := HI.out (n / 268435456 % 16) hd
      have HN := Lib.hid (show D ++ [dg (n / 268435456 % 16)] = lasts 1 (n / 16 ^ (8 - 1)) by
        have e := first_digits (n / 268435456) 0
        rw [Nat.div_div_eq_div_mul] at e
        rw [HL.out, show (8 - 1 : Nat) = 7 from rfl, show (16 : Nat) ^ 7 = 268435456 by decide, show (8 - 0 : Nat) = 8 from rfl, show (16 : Nat) ^ 8 = 268435456 * 16 by decide]
        exact e.symm)
      generalize n / 268435456 % 16 = d at *
      go_wp2_with (first | (simp only [hand]) | (refine wpList_append_own _ rfl _ _ _ rfl w.heap.size 5 iu _ 1 1 Tryd.underlying72 hiu hzu hsu hbu rfl (by decide) (.slice (some ⟨g, 0, none⟩) 0 cap) 0 _ rfl (hown.alloc _) _ 1 _ [.int .u8 ((dg d).toNat : Int)] rfl rfl (cell_one_new _ _ _) (by simp [Value.oneCell']) (by unfold maxLen; omega) (by omega) (Nat.le_trans bel.size (by simp)) ?_; intro v2 w2 o2 g2 _; obtain ⟨gg, cc, rfl⟩ := own_shape o2 (by omega); have bel2 := (Below.alloc bel bel.size _).grown g2 (Nat.le_trans bel.size (by simp)) (fun q hq => (hown.lt q hq).1)))
      go_roundw
      case rel => exact ⟨gg, cc, 1, D ++ [dg d], rfl, by rfl, by decide, by rw [List.length_append, hD]; rfl, HN.out, by have h := own_snoc hD o2; rw [List.length_append, hD] at h; exact h, bel2⟩
      case measure => simp [intOf]
    · have hd := Nat.mod_lt (n / 16777216) (show 0 < 16 by decide)
      have hand : bits .and .i64 ((n : Int) / 16777216) 15 = ((n / 16777216 % 16 : Nat) : Int) := by
        rw [← and15i (n / 16777216) (by omega)]
        congr 1
      have hix := HI.out (n / 16777216 % 16) hd
      have HN := Lib.hid (show D ++ [dg (n / 16777216 % 16)] = lasts 2 (n / 16 ^ (8 - 2)) by
        have e := first_digits (n / 16777216) 1
        rw [Nat.div_div_eq_div_mul] at e
        rw [HL.out, show (8 - 2 : Nat) = 6 from rfl, show (16 : Nat) ^ 6 = 16777216 by decide, show (8 - 1 : Nat) = 7 from rfl, show (16 : Nat) ^ 7 = 16777216 * 16 by decide]
        exact e.symm)
      generalize n / 16777216 % 16 = d at *
      go_wp2_with (first | (simp only [hand]) | (refine wpList_append_own _ rfl _ _ _ rfl w.heap.size 5 iu _ 1 1 Tryd.underlying72 hiu hzu hsu hbu rfl (by decide) (.slice (some ⟨g, 0, none⟩) 1 cap) 1 _ rfl (hown.alloc _) _ 1 _ [.int .u8 ((dg d).toNat : Int)] rfl rfl (cell_one_new _ _ _) (by simp [Value.oneCell']) (by unfold maxLen; omega) (by omega) (Nat.le_trans bel.size (by simp)) ?_; intro v2 w2 o2 g2 _; obtain ⟨gg, cc, rfl⟩ := own_shape o2 (by omega); have bel2 := (Below.alloc bel bel.size _).grown g2 (Nat.le_trans bel.size (by simp)) (fun q hq => (hown.lt q hq).1)))
      go_roundw
      case rel => exact ⟨gg, cc, 2, D ++ [dg d], rfl, by rfl, by decide, by rw [List.length_append, hD]; rfl, HN.out, by have h := own_snoc hD o2; rw [List.length_append, hD] at h; exact h, bel2⟩
      case measure => simp [intOf]
    · have hd := Nat.mod_lt (n / 1048576) (show 0 < 16 by decide)
      have hand : bits .and .i64 ((n : Int) / 1048576) 15 = ((n / 1048576 % 16 : Nat) : Int) := by
        rw [← and15i (n / 1048576) (by omega)]
        congr 1
      have hix := HI.out (n / 1048576 % 16) hd
      have HN := Lib.hid (show D ++ [dg (n / 1048576 % 16)] = lasts 3 (n / 16 ^ (8 - 3)) by
        have e := first_digits (n / 1048576) 2
        rw [Nat.div_div_eq_div_mul] at e
        rw [HL.out, show (8 - 3 : Nat) = 5 from rfl, show (16 : Nat) ^ 5 = 1048576 by decide, show (8 - 2 : Nat) = 6 from rfl, show (16 : Nat) ^ 6 = 1048576 * 16 by decide]
        exact e.symm)
      generalize n / 1048576 % 16 = d at *
      go_wp2_with (first | (simp only [hand]) | (refine wpList_append_own _ rfl _ _ _ rfl w.heap.size 5 iu _ 1 1 Tryd.underlying72 hiu hzu hsu hbu rfl (by decide) (.slice (some ⟨g, 0, none⟩) 2 cap) 2 _ rfl (hown.alloc _) _ 1 _ [.int .u8 ((dg d).toNat : Int)] rfl rfl (cell_one_new _ _ _) (by simp [Value.oneCell']) (by unfold maxLen; omega) (by omega) (Nat.le_trans bel.size (by simp)) ?_; intro v2 w2 o2 g2 _; obtain ⟨gg, cc, rfl⟩ := own_shape o2 (by omega); have bel2 := (Below.alloc bel bel.size _).grown g2 (Nat.le_trans bel.size (by simp)) (fun q hq => (hown.lt q hq).1)))
      go_roundw
      case rel => exact ⟨gg, cc, 3, D ++ [dg d], rfl, by rfl, by decide, by rw [List.length_append, hD]; rfl, HN.out, by have h := own_snoc hD o2; rw [List.length_append, hD] at h; exact h, bel2⟩
      case measure => simp [intOf]
    · have hd := Nat.mod_lt (n / 65536) (show 0 < 16 by decide)
      have hand : bits .and .i64 ((n : Int) / 65536) 15 = ((n / 65536 % 16 : Nat) : Int) := by
        rw [← and15i (n / 65536) (by omega)]
        congr 1
      have hix := HI.out (n / 65536 % 16) hd
      have HN := Lib.hid (show D ++ [dg (n / 65536 % 16)] = lasts 4 (n / 16 ^ (8 - 4)) by
        have e := first_digits (n / 65536) 3
        rw [Nat.div_div_eq_div_mul] at e
        rw [HL.out, show (8 - 4 : Nat) = 4 from rfl, show (16 : Nat) ^ 4 = 65536 by decide, show (8 - 3 : Nat) = 5 from rfl, show (16 : Nat) ^ 5 = 65536 * 16 by decide]
        exact e.symm)
      generalize n / 65536 % 16 = d at *
      go_wp2_with (first | (simp only [hand]) | (refine wpList_append_own _ rfl _ _ _ rfl w.heap.size 5 iu _ 1 1 Tryd.underlying72 hiu hzu hsu hbu rfl (by decide) (.slice (some ⟨g, 0, none⟩) 3 cap) 3 _ rfl (hown.alloc _) _ 1 _ [.int .u8 ((dg d).toNat : Int)] rfl rfl (cell_one_new _ _ _) (by simp [Value.oneCell']) (by unfold maxLen; omega) (by omega) (Nat.le_trans bel.size (by simp)) ?_; intro v2 w2 o2 g2 _; obtain ⟨gg, cc, rfl⟩ := own_shape o2 (by omega); have bel2 := (Below.alloc bel bel.size _).grown g2 (Nat.le_trans bel.size (by simp)) (fun q hq => (hown.lt q hq).1)))
      go_roundw
      case rel => exact ⟨gg, cc, 4, D ++ [dg d], rfl, by rfl, by decide, by rw [List.length_append, hD]; rfl, HN.out, by have h := own_snoc hD o2; rw [List.length_append, hD] at h; exact h, bel2⟩
      case measure => simp [intOf]
    · have hd := Nat.mod_lt (n / 4096) (show 0 < 16 by decide)
      have hand : bits .and .i64 ((n : Int) / 4096) 15 = ((n / 4096 % 16 : Nat) : Int) := by
        rw [← and15i (n / 4096) (by omega)]
        congr 1
      have hix := HI.out (n / 4096 % 16) hd
      have HN := Lib.hid (show D ++ [dg (n / 4096 % 16)] = lasts 5 (n / 16 ^ (8 - 5)) by
        have e := first_digits (n / 4096) 4
        rw [Nat.div_div_eq_div_mul] at e
        rw [HL.out, show (8 - 5 : Nat) = 3 from rfl, show (16 : Nat) ^ 3 = 4096 by decide, show (8 - 4 : Nat) = 4 from rfl, show (16 : Nat) ^ 4 = 4096 * 16 by decide]
        exact e.symm)
      generalize n / 4096 % 16 = d at *
      go_wp2_with (first | (simp only [hand]) | (refine wpList_append_own _ rfl _ _ _ rfl w.heap.size 5 iu _ 1 1 Tryd.underlying72 hiu hzu hsu hbu rfl (by decide) (.slice (some ⟨g, 0, none⟩) 4 cap) 4 _ rfl (hown.alloc _) _ 1 _ [.int .u8 ((dg d).toNat : Int)] rfl rfl (cell_one_new _ _ _) (by simp [Value.oneCell']) (by unfold maxLen; omega) (by omega) (Nat.le_trans bel.size (by simp)) ?_; intro v2 w2 o2 g2 _; obtain ⟨gg, cc, rfl⟩ := own_shape o2 (by omega); have bel2 := (Below.alloc bel bel.size _).grown g2 (Nat.le_trans bel.size (by simp)) (fun q hq => (hown.lt q hq).1)))
      go_roundw
      case rel => exact ⟨gg, cc, 5, D ++ [dg d], rfl, by rfl, by decide, by rw [List.length_append, hD]; rfl, HN.out, by have h := own_snoc hD o2; rw [List.length_append, hD] at h; exact h, bel2⟩
      case measure => simp [intOf]
    · have hd := Nat.mod_lt (n / 256) (show 0 < 16 by decide)
      have hand : bits .and .i64 ((n : Int) / 256) 15 = ((n / 256 % 16 : Nat) : Int) := by
        rw [← and15i (n / 256) (by omega)]
        congr 1
      have hix := HI.out (n / 256 % 16) hd
      have HN := Lib.hid (show D ++ [dg (n / 256 % 16)] = lasts 6 (n / 16 ^ (8 - 6)) by
        have e := first_digits (n / 256) 5
        rw [Nat.div_div_eq_div_mul] at e
        rw [HL.out, show (8 - 6 : Nat) = 2 from rfl, show (16 : Nat) ^ 2 = 256 by decide, show (8 - 5 : Nat) = 3 from rfl, show (16 : Nat) ^ 3 = 256 * 16 by decide]
        exact e.symm)
      generalize n / 256 % 16 = d at *
      go_wp2_with (first | (simp only [hand]) | (refine wpList_append_own _ rfl _ _ _ rfl w.heap.size 5 iu _ 1 1 Tryd.underlying72 hiu hzu hsu hbu rfl (by decide) (.slice (some ⟨g, 0, none⟩) 5 cap) 5 _ rfl (hown.alloc _) _ 1 _ [.int .u8 ((dg d).toNat : Int)] rfl rfl (cell_one_new _ _ _) (by simp [Value.oneCell']) (by unfold maxLen; omega) (by omega) (Nat.le_trans bel.size (by simp)) ?_; intro v2 w2 o2 g2 _; obtain ⟨gg, cc, rfl⟩ := own_shape o2 (by omega); have bel2 := (Below.alloc bel bel.size _).grown g2 (Nat.le_trans bel.size (by simp)) (fun q hq => (hown.lt q hq).1)))
      go_roundw
      case rel => exact ⟨gg, cc, 6, D ++ [dg d], rfl, by rfl, by decide, by rw [List.length_append, hD]; rfl, HN.out, by have h := own_snoc hD o2; rw [List.length_append, hD] at h; exact h, bel2⟩
      case measure => simp [intOf]
    · have hd := Nat.mod_lt (n / 16) (show 0 < 16 by decide)
      have hand : bits .and .i64 ((n : Int) / 16) 15 = ((n / 16 % 16 : Nat) : Int) := by
        rw [← and15i (n / 16) (by omega)]
        congr 1
      have hix := HI.out (n / 16 % 16) hd
      have HN := Lib.hid (show D ++ [dg (n / 16 % 16)] = lasts 7 (n / 16 ^ (8 - 7)) by
        have e := first_digits (n / 16) 6
        rw [Nat.div_div_eq_div_mul] at e
        rw [HL.out, show (8 - 7 : Nat) = 1 from rfl, show (16 : Nat) ^ 1 = 16 by decide, show (8 - 6 : Nat) = 2 from rfl, show (16 : Nat) ^ 2 = 16 * 16 by decide]
        exact e.symm)
      generalize n / 16 % 16 = d at *
      go_wp2_with (first | (simp only [hand]) | (refine wpList_append_own _ rfl _ _ _ rfl w.heap.size 5 iu _ 1 1 Tryd.underlying72 hiu hzu hsu hbu rfl (by decide) (.slice (some ⟨g, 0, none⟩) 6 cap) 6 _ rfl (hown.alloc _) _ 1 _ [.int .u8 ((dg d).toNat : Int)] rfl rfl (cell_one_new _ _ _) (by simp [Value.oneCell']) (by unfold maxLen; omega) (by omega) (Nat.le_trans bel.size (by simp)) ?_; intro v2 w2 o2 g2 _; obtain ⟨gg, cc, rfl⟩ := own_shape o2 (by omega); have bel2 := (Below.alloc bel bel.size _).grown g2 (Nat.le_trans bel.size (by simp)) (fun q hq => (hown.lt q hq).1)))
      go_roundw
      case rel => exact ⟨gg, cc, 7, D ++ [dg d], rfl, by rfl, by decide, by rw [List.length_append, hD]; rfl, HN.out, by have h := own_snoc hD o2; rw [List.length_append, hD] at h; exact h, bel2⟩
      case measure => simp [intOf]
    · have hd := Nat.mod_lt (n / 1) (show 0 < 16 by decide)
      have hand : bits .and .i64 ((n : Int)) 15 = ((n / 1 % 16 : Nat) : Int) := by
        rw [← and15i (n / 1) (by omega)]
        rw [Nat.div_one]
      have hix := HI.out (n / 1 % 16) hd
      have HN := Lib.hid (show D ++ [dg (n / 1 % 16)] = lasts 8 (n / 16 ^ (8 - 8)) by
        have e := first_digits (n / 1) 7
        rw [Nat.div_div_eq_div_mul] at e
        rw [HL.out, show (8 - 8 : Nat) = 0 from rfl, show (16 : Nat) ^ 0 = 1 by decide, show (8 - 7 : Nat) = 1 from rfl, show (16 : Nat) ^ 1 = 1 * 16 by decide]
        exact e.symm)
      generalize n / 1 % 16 = d at *
      go_wp2_with (first | (simp only [hand]) | (refine wpList_append_own _ rfl _ _ _ rfl w.heap.size 5 iu _ 1 1 Tryd.underlying72 hiu hzu hsu hbu rfl (by decide) (.slice (some ⟨g, 0, none⟩) 7 cap) 7 _ rfl (hown.alloc _) _ 1 _ [.int .u8 ((dg d).toNat : Int)] rfl rfl (cell_one_new _ _ _) (by simp [Value.oneCell']) (by unfold maxLen; omega) (by omega) (Nat.le_trans bel.size (by simp)) ?_; intro v2 w2 o2 g2 _; obtain ⟨gg, cc, rfl⟩ := own_shape o2 (by omega); have bel2 := (Below.alloc bel bel.size _).grown g2 (Nat.le_trans bel.size (by simp)) (fun q hq => (hown.lt q hq).1)))
      go_roundw
      case rel => exact ⟨gg, cc, 8, D ++ [dg d], rfl, by rfl, by decide, by rw [List.length_append, hD]; rfl, HN.out, by have h := own_snoc hD o2; rw [List.length_append, hD] at h; exact h, bel2⟩
      case measure => simp [intOf]
    · have HE := Lib.hid (show textA X = D by rw [HT.out, HL.out]; simp)
      go_wp2_with (refine fl_text rfl _ _ _ rfl _ _ _ _ _ rfl _ _ hown hD.symm Tryd.underlying72 Tryd.underlying5 Tryd.underlying9 ?_)
      go_ret
      exact ⟨by rw [HE.out]; rfl, bel⟩
end Go.Proofs.YtnilpooheaaleaaDoor.hex
