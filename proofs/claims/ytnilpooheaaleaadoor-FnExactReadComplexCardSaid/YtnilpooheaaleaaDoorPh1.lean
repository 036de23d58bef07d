/- Walks: hexadecimal numerals read by the library. No conditions. -/
import Derived.Test.YtnilpooheaaleaaDoorHc
import Derived.Shelf.Strconv.ToError
import Derived.Shelf.Strconv.ToErrorRange
import Derived.Lib.ConvBytes
import Derived.Lib.ParseIntBMem
namespace Go.Proofs.YtnilpooheaaleaaDoor.hex
open Go.RowKit
set_option maxRecDepth 8000

theorem lasts_get : ∀ (j n k : Nat), k < j → (lasts j n)[k]? = some (dg (n / 16 ^ (j - 1 - k) % 16))
  | 0, _, _, h => absurd h (Nat.not_lt_zero _)
  | j + 1, n, k, h => by
    rw [lasts]
    by_cases hk : k < j
    · rw [List.getElem?_append_left (by rw [lasts_length]; exact hk), lasts_get j (n / 16) k hk, Nat.div_div_eq_div_mul]
      have e : 16 * 16 ^ (j - 1 - k) = 16 ^ (j + 1 - 1 - k) := by
        rw [← Nat.pow_succ']
        congr 1
        omega
      rw [e]
    · obtain rfl : k = j := by omega
      rw [List.getElem?_append_right (by rw [lasts_length]; exact Nat.le_refl _), lasts_length]
      simp

/-- The k bytes ahead of the place spell the number's first k digits. -/
def Ahead (l : List UInt8) (k acc : Nat) : Prop := ∀ n, n < 4294967296 → l = lasts 8 n → acc = n / 16 ^ (8 - k)
/-- No numeral of eight small digits. -/
def Not8 (l : List UInt8) : Prop := ∀ n, n < 4294967296 → l ≠ lasts 8 n
theorem Ahead.start (l : List UInt8) : Ahead l 0 0 := fun n hn _ => by
  rw [Nat.div_eq_of_lt (by simpa using hn)]
/-- What the next byte must be. -/
theorem Ahead.byte {l : List UInt8} {k acc : Nat} {c : UInt8} (h : Ahead l k acc) (hc : l[k]? = some c) {n : Nat} (hn : n < 4294967296) (hl : l = lasts 8 n) : k < 8 ∧ c = dg (n / 16 ^ (7 - k) % 16) ∧ acc * 16 + n / 16 ^ (7 - k) % 16 = n / 16 ^ (7 - k) := by
  have hk : k < 8 := by
    have h1 := (List.getElem?_eq_some_iff.1 hc).1
    rw [hl, lasts_length] at h1
    exact h1
  rw [hl, lasts_get 8 n k hk] at hc
  injection hc with hc
  refine ⟨hk, hc.symm, ?_⟩
  rw [h n hn hl, show 8 - k = (7 - k) + 1 by omega, Nat.pow_succ, ← Nat.div_div_eq_div_mul]
  omega
theorem dg_digit {d : Nat} (h : d < 16) (_h1 : 48 ≤ (dg d).toNat) (h2 : (dg d).toNat ≤ 57) : (dg d).toNat - 48 = d := by
  rw [dg_nat h] at *
  split at h2 <;> simp_all <;> omega
theorem dg_low : ∀ d : Fin 16, 10 ≤ d.val → (bits .or .u8 ((dg d.val).toNat : Int) 32) = (d.val : Int) + 87 ∧ (dg d.val).toNat = d.val + 87 := by decide +kernel
theorem dg_small : ∀ d : Fin 16, d.val < 10 → 48 ≤ (dg d.val).toNat ∧ (dg d.val).toNat ≤ 57 := by decide +kernel
theorem Ahead.digit {l : List UInt8} {k acc : Nat} {c : UInt8} (h : Ahead l k acc) (hc : l[k]? = some c) (h1 : 48 ≤ c.toNat) (h2 : c.toNat ≤ 57) : Ahead l (k + 1) (acc * 16 + (c.toNat - 48)) := fun n hn hl => by
  obtain ⟨hk, hb, ha⟩ := h.byte hc hn hl
  have hd := Nat.mod_lt (n / 16 ^ (7 - k)) (show 0 < 16 by decide)
  rw [show 8 - (k + 1) = 7 - k by omega, ← ha]
  subst hb
  rw [dg_digit hd h1 h2]
theorem Ahead.letter {l : List UInt8} {k acc e : Nat} {c : UInt8} (h : Ahead l k acc) (hc : l[k]? = some c) (hn : ¬ (48 ≤ c.toNat ∧ c.toNat ≤ 57)) (he : bits .or .u8 (c.toNat : Int) 32 = (e : Int)) : Ahead l (k + 1) (acc * 16 + (e - 87)) := fun n hn2 hl => by
  obtain ⟨hk, hb, ha⟩ := h.byte hc hn2 hl
  have hd := Nat.mod_lt (n / 16 ^ (7 - k)) (show 0 < 16 by decide)
  rw [show 8 - (k + 1) = 7 - k by omega, ← ha]
  subst hb
  rcases Nat.lt_or_ge (n / 16 ^ (7 - k) % 16) 10 with h10 | h10
  · exact absurd (dg_small ⟨_, hd⟩ h10) hn
  · have h3 := (dg_low ⟨_, hd⟩ h10).1
    rw [he] at h3
    have h4 : e = n / 16 ^ (7 - k) % 16 + 87 := by
      have : (e : Int) = ((n / 16 ^ (7 - k) % 16 : Nat) : Int) + 87 := h3
      omega
    omega
/-- A sum that is too great. -/
theorem Ahead.over {l : List UInt8} {k acc : Nat} (h : Ahead l (k + 1) acc) (ho : 4294967295 < acc) : Not8 l := fun n hn hl => by
  have h1 := h n hn hl
  have h2 : n / 16 ^ (8 - (k + 1)) ≤ n := Nat.div_le_self _ _
  omega
/-- A byte that is no small digit. -/
theorem Ahead.bad {l : List UInt8} {k acc : Nat} {c : UInt8} (h : Ahead l k acc) (hc : l[k]? = some c) (hn : ¬ (48 ≤ c.toNat ∧ c.toNat ≤ 57)) (he : ¬ (97 ≤ bits .or .u8 (c.toNat : Int) 32 ∧ bits .or .u8 (c.toNat : Int) 32 ≤ 102)) : Not8 l := fun n hn2 hl => by
  obtain ⟨hk, hb, ha⟩ := h.byte hc hn2 hl
  have hd := Nat.mod_lt (n / 16 ^ (7 - k)) (show 0 < 16 by decide)
  subst hb
  rcases Nat.lt_or_ge (n / 16 ^ (7 - k) % 16) 10 with h10 | h10
  · exact hn (dg_small ⟨_, hd⟩ h10)
  · have h3 := (dg_low ⟨_, hd⟩ h10).1
    have h4 : bits .or .u8 ((dg (n / 16 ^ (7 - k) % 16)).toNat : Int) 32 = ((n / 16 ^ (7 - k) % 16 : Nat) : Int) + 87 := h3
    rw [h4] at he
    omega
theorem Ahead.done {l : List UInt8} {acc : Nat} (h : Ahead l l.length acc) : ∀ n, n < 4294967296 → l = lasts 8 n → acc = n := fun n hn hl => by
  have h1 := h n hn hl
  have h2 : l.length = 8 := by rw [hl, lasts_length]
  rw [h2] at h1
  simpa using h1

/-- How the inner call ends. -/
def Ends (l : List UInt8) (e : Ending) : Prop :=
  (∃ u : Nat, e = .returned (.tuple #[.int .u64 (u : Int), .nilIface]) ∧ u ≤ 4294967295 ∧ ∀ n, n < 4294967296 → l = lasts 8 n → u = n) ∨
  (∃ u : Int, (e = .returned (.tuple #[.int .u64 u, .iface 118 (.int .i64 1)]) ∨ e = .returned (.tuple #[.int .u64 u, .iface 118 (.int .i64 2)])) ∧ Not8 l)

theorem lower (c : Int) (w : World) : Calls Tryd.prog 119 #[.int .u8 c] w fun e w' => e = .returned (.int .u8 (bits .or .u8 c 32)) ∧ w = w' := by
  go_enter Tryd.func119, Tryd.ntmps119
  go_wp2
  go_ret
  exact ⟨rfl, rfl⟩

set_option maxHeartbeats 8000000 in
theorem parse_in (t : ByteArray) (hmax : t.size ≤ 1048576) (w : World) :
    Calls Tryd.prog 100 #[.string t, .int .i64 16, .int .i64 32] w fun e w' => Ends t.data.toList e ∧ Below w.heap.size w w' := by
  by_cases hne : t.size = 0
  · have HB := Lib.hid (show Not8 t.data.toList from fun n hn hl => by
      have h1 : t.data.toList.length = 8 := by rw [hl, lasts_length]
      simp at h1
      have h2 : t.size = t.data.size := rfl
      omega)
    have hemp : t.toList.isEmpty = true := by
      rw [Lib.toList_data]
      have : t.data.toList.length = 0 := by simpa using hne
      rw [List.eq_nil_of_length_eq_zero this]; rfl
    go_enter Tryd.func100, Tryd.ntmps100
    go_wp2
    go_ret2
    exact ⟨.inr ⟨_, .inr rfl, HB.out⟩, Below.refl _ _⟩
  · have hemp : t.toList.isEmpty = false := by
      rw [← decide_eq_emptyBytes]
      exact decide_eq_false (fun h => hne (by rw [h]; rfl))
    have hcv := Lib.run_convert_string_bytes (P := Tryd.prog) w 9 72 5 t (u := .string) Tryd.underlying9 Tryd.underlying72 Tryd.underlying5
    have hB : ∀ j, j < t.size → (Lib.bytesWorld w 5 t).cell? ⟨w.heap.size, j, none⟩ = some (.int .u8 (t.data.toList.getD j 0).toNat) := fun j hj => Lib.bytesWorld_cell w 5 t j hj
    have HW := Lib.hid (Lib.bytesWorld_below w 5 t)
    obtain ⟨W1, hW1⟩ : ∃ W1, W1 = Lib.bytesWorld w 5 t := ⟨_, rfl⟩
    rw [← hW1] at hcv hB HW
    clear hW1
    obtain ⟨bs, hL⟩ : ∃ bs, bs = t.data.toList := ⟨_, rfl⟩
    have hLn : bs.length = t.size := by rw [hL, Lib.size_eq]
    rw [← hL] at hB ⊢
    clear hL
    have hmv : IntKind.u64.wrap (IntKind.u64.wrap 4294967296 - 1) = 4294967295 := by
      rw [IntKind.wrap_u64, IntKind.wrap_u64]
      decide
    go_enter Tryd.func100, Tryd.ntmps100
    go_wp2
    go_loop [12, 13, 101] (fun vu vn vi => ∃ (k acc : Nat) (a : Int), vu = .bool false ∧ vn = .int .u64 a ∧ vi = .int .i64 k ∧ k ≤ t.size ∧ Hid (a = (acc : Int) ∧ acc ≤ 4294967295 ∧ Ahead bs k acc))
      (fun _ _ vi => t.size - (intOf vi).toNat)
    case atStart => exact ⟨0, 0, 0, rfl, rfl, rfl, by omega, ⟨rfl, by omega, Ahead.start _⟩⟩
    case round =>
      obtain ⟨k, acc, a, rfl, rfl, rfl, hk, hh⟩ := hrel
      obtain ⟨ha, hacc, hdec⟩ := hh.out
      clear hh
      have a0 : 0 ≤ a := by omega
      have a1 : a ≤ 4294967295 := by omega
      by_cases hkn : k < t.size
      · have hc := hB k hkn
        have hget : bs.getD k 0 = bs[k]'(by omega) := by simp [List.getD, List.getElem?_eq_getElem (show k < bs.length by omega)]
        have hat : bs[k]? = some (bs[k]'(by omega)) := List.getElem?_eq_getElem (by omega)
        rw [hget] at hc
        generalize bs[k]'(by omega) = c at hc hat
        have hc256 : (c.toNat : Int) ≤ 255 := by have := c.toNat_lt; omega
        clear hB hget
        by_cases hdig : 48 ≤ c.toNat ∧ c.toNat ≤ 57
        · have HN := Lib.hid (hdec.digit hat hdig.1 hdig.2)
          have hd0 : (48 : Int) ≤ (c.toNat : Int) := by omega
          have hd1 : (c.toNat : Int) ≤ 57 := by omega
          by_cases hov : 4294967295 < acc * 16 + (c.toNat - 48)
          · have HO := Lib.hid (HN.out.over hov)
            have iov : 4294967295 < a * 16 + ((c.toNat : Int) - 48) := by omega
            clear hacc hov ha hdec hdig hat
            go_wp2
            go_ret2
            exact ⟨.inr ⟨_, .inl rfl, HO.out⟩, HW.out⟩
          · have HK : Hid (a * 16 + ((c.toNat : Int) - 48) = ((acc * 16 + (c.toNat - 48) : Nat) : Int) ∧ acc * 16 + (c.toNat - 48) ≤ 4294967295 ∧ Ahead bs (k + 1) (acc * 16 + (c.toNat - 48))) := Lib.hid ⟨by omega, by omega, HN.out⟩
            have iov : a * 16 + ((c.toNat : Int) - 48) ≤ 4294967295 := by omega
            clear hacc hov hdec ha hdig hat
            go_wp2
            refine ⟨⟨k + 1, acc * 16 + (c.toNat - 48), a * 16 + ((c.toNat : Int) - 48), rfl, (by first | rfl | (congr 1; omega)), (by first | rfl | (congr 1; omega)), by omega, HK⟩, by simp [intOf]; omega⟩
        · have hlow := fun w => lower (c.toNat : Int) w
          have hv0 := bits_lo_u8 .or (c.toNat : Int) 32
          have hv1 := bits_hi_u8 .or (c.toNat : Int) 32
          have hbad := hdec.bad hat hdig
          have hlet := fun e he => hdec.letter (e := e) hat hdig he
          have hz0 : (0 : Int) ≤ (c.toNat : Int) := by omega
          have hsides : (c.toNat : Int) < 48 ∨ 57 < (c.toNat : Int) := by omega
          clear hdec hdig hat
          generalize (c.toNat : Int) = z at *
          by_cases h95 : z = 95
          · subst h95
            have key : bits .or .u8 95 32 = 127 := by decide +kernel
            rw [key] at hlow hbad
            have HX := Lib.hid (hbad (by decide))
            clear hbad hlet hv0 hv1 key hacc ha
            go_wp2_with (go_at_call 119; refine (hlow _).mono ?_; rintro e w' ⟨rfl, rfl⟩)
            go_ret2
            exact ⟨.inr ⟨_, .inr rfl, HX.out⟩, HW.out⟩
          · have h95 : (z == 95) = false := by simpa using h95
            generalize bits .or .u8 z 32 = e at *
            by_cases hgood : 97 ≤ e ∧ e ≤ 102
            · obtain ⟨hg0, hg1⟩ := hgood
              obtain ⟨E, rfl⟩ : ∃ E : Nat, e = (E : Int) := ⟨e.toNat, by omega⟩
              have HN := Lib.hid (hlet E rfl)
              by_cases hov : 4294967295 < acc * 16 + (E - 87)
              · have HO := Lib.hid (HN.out.over hov)
                have iov : 4294967295 < a * 16 + ((E : Int) - 97 + 10) := by omega
                clear hacc hov ha hlet hbad
                generalize (E : Int) = e at *
                rcases hsides with hs | hs
                · go_wp2_with (go_at_call 119; refine (hlow _).mono ?_; rintro e w' ⟨rfl, rfl⟩)
                  go_ret2
                  exact ⟨.inr ⟨_, .inl rfl, HO.out⟩, HW.out⟩
                · go_wp2_with (go_at_call 119; refine (hlow _).mono ?_; rintro e w' ⟨rfl, rfl⟩)
                  go_ret2
                  exact ⟨.inr ⟨_, .inl rfl, HO.out⟩, HW.out⟩
              · have HK : Hid (a * 16 + ((E : Int) - 97 + 10) = ((acc * 16 + (E - 87) : Nat) : Int) ∧ acc * 16 + (E - 87) ≤ 4294967295 ∧ Ahead bs (k + 1) (acc * 16 + (E - 87))) := Lib.hid ⟨by omega, by omega, HN.out⟩
                have iov : a * 16 + ((E : Int) - 97 + 10) ≤ 4294967295 := by omega
                generalize hacc2 : acc * 16 + (E - 87) = acc2 at *
                clear hacc hov ha hlet hbad HN hacc2
                generalize (E : Int) = e at *
                rcases hsides with hs | hs
                · go_wp2_with (go_at_call 119; refine (hlow _).mono ?_; rintro e w' ⟨rfl, rfl⟩)
                  refine ⟨⟨k + 1, acc2, a * 16 + (e - 97 + 10), rfl, (by first | rfl | (congr 1; omega)), (by first | rfl | (congr 1; omega)), by omega, HK⟩, by simp [intOf]; omega⟩
                · go_wp2_with (go_at_call 119; refine (hlow _).mono ?_; rintro e w' ⟨rfl, rfl⟩)
                  refine ⟨⟨k + 1, acc2, a * 16 + (e - 97 + 10), rfl, (by first | rfl | (congr 1; omega)), (by first | rfl | (congr 1; omega)), by omega, HK⟩, by simp [intOf]; omega⟩
            · have HX := Lib.hid (hbad hgood)
              clear hbad hlet hacc ha
              have hway : e < 97 ∨ 122 < e ∨ (97 ≤ e ∧ 103 ≤ e ∧ e ≤ 122) := by omega
              clear hgood
              rcases hsides with hs | hs
              · rcases hway with hw | hw | ⟨hw0, hw1, hw2⟩
                · go_wp2_with (go_at_call 119; refine (hlow _).mono ?_; rintro e w' ⟨rfl, rfl⟩)
                  go_ret2
                  exact ⟨.inr ⟨_, .inr rfl, HX.out⟩, HW.out⟩
                · go_wp2_with (go_at_call 119; refine (hlow _).mono ?_; rintro e w' ⟨rfl, rfl⟩)
                  go_ret2
                  exact ⟨.inr ⟨_, .inr rfl, HX.out⟩, HW.out⟩
                · go_wp2_with (go_at_call 119; refine (hlow _).mono ?_; rintro e w' ⟨rfl, rfl⟩)
                  go_ret2
                  exact ⟨.inr ⟨_, .inr rfl, HX.out⟩, HW.out⟩
              · rcases hway with hw | hw | ⟨hw0, hw1, hw2⟩
                · go_wp2_with (go_at_call 119; refine (hlow _).mono ?_; rintro e w' ⟨rfl, rfl⟩)
                  go_ret2
                  exact ⟨.inr ⟨_, .inr rfl, HX.out⟩, HW.out⟩
                · go_wp2_with (go_at_call 119; refine (hlow _).mono ?_; rintro e w' ⟨rfl, rfl⟩)
                  go_ret2
                  exact ⟨.inr ⟨_, .inr rfl, HX.out⟩, HW.out⟩
                · go_wp2_with (go_at_call 119; refine (hlow _).mono ?_; rintro e w' ⟨rfl, rfl⟩)
                  go_ret2
                  exact ⟨.inr ⟨_, .inr rfl, HX.out⟩, HW.out⟩
      · have hkk : k = t.size := by omega
        subst hkk
        have HD := Lib.hid (show ∀ n, n < 4294967296 → bs = lasts 8 n → acc = n by
          rw [← hLn] at hdec
          exact hdec.done)
        have HA := Lib.hid ha
        clear hdec ha hB
        go_wp2
        go_ret2
        exact ⟨.inl ⟨acc, by rw [← HA.out]; rfl, hacc, HD.out⟩, HW.out⟩
end Go.Proofs.YtnilpooheaaleaaDoor.hex
