/- Walks: names. No conditions. -/
import Derived.Test.YtnilpooheaaleaaDoorSh
import Derived.Test.YtnilpooheaaleaaDoorRows
import Derived.WalkKit
import Derived.WalkSpells
import Derived.WalkLawsBesides
import Derived.Below
import Derived.Lib.Hide
namespace Go.Proofs.YtnilpooheaaleaaDoor.nam
open Go.RowKit

/-- A small letter. -/
def small (b : UInt8) : Bool := decide (97 ≤ b.toNat) && decide (b.toNat ≤ 122)
def letters : List UInt8 := [97, 98, 99, 100, 101, 102, 103, 104, 105, 106, 107, 108, 109, 110, 111, 112, 113, 114, 115, 116, 117, 118, 119, 120, 121, 122]
/-- Whether a text is a name. -/
def nameOk (s : ByteArray) : Bool := s.data.toList.all small && decide (1 ≤ s.size) && decide (s.size ≤ 8)

theorem small_in (b : UInt8) : letters.contains b = small b := by
  have h : ∀ n : Fin 256, letters.contains (UInt8.ofNat n.val) = small (UInt8.ofNat n.val) := by decide +kernel
  have := h ⟨b.toNat, b.toNat_lt⟩
  simpa using this

theorem trim_none (l : List UInt8) : Lib.trimS l letters = [] ↔ l.all small = true := by
  have hl : ∀ m : List UInt8, m.dropWhile (letters.contains ·) = [] ↔ m.all small = true := fun m => by
    induction m with
    | nil => simp
    | cons b m ih =>
      rw [List.dropWhile_cons, small_in]
      by_cases h : small b = true
      · rw [if_pos h, ih]
        simp [h]
      · rw [if_neg h]
        simp [h]
  unfold Lib.trimS Lib.trimLeftS Lib.trimRightS
  constructor
  · intro h
    rw [hl] at h
    by_cases hr : l.reverse.dropWhile (letters.contains ·) = []
    · rw [hl] at hr
      simpa using hr
    · exfalso
      obtain ⟨b, m, hb⟩ := List.exists_cons_of_ne_nil hr
      have h0 : letters.contains b = false := by
        have := List.head?_dropWhile_not (letters.contains ·) l.reverse
        rw [hb] at this
        simpa using this
      rw [hb] at h
      simp only [List.reverse_cons, List.all_append, List.all_cons, List.all_nil, Bool.and_true, Bool.and_eq_true] at h
      rw [small_in, h.2] at h0
      cases h0
  · intro h
    have : l.reverse.dropWhile (letters.contains ·) = [] := by
      rw [hl]
      simpa using h
    rw [this]
    rfl

theorem take_snoc (s : ByteArray) (k : Nat) (h : k < s.size) : s.data.toList.take (k + 1) = s.data.toList.take k ++ [s[k]] := by
  rw [List.take_succ_eq_append_getElem (by simpa using h)]; rfl
theorem byte_le (c : UInt8) : (c.toNat : Int) ≤ 255 := by have := c.toNat_lt; omega
theorem all_not (s : ByteArray) (k : Nat) (h : k < s.size) (hb : small s[k] = false) : s.data.toList.all small = false := by
  rw [List.all_eq_false]
  exact ⟨s[k], by
    have : s[k] = s.data.toList[k]'(by simpa using h) := rfl
    rw [this]
    exact List.getElem_mem _, by simp [hb]⟩

set_option maxHeartbeats 400000 in
theorem spec_IsName (s : ByteArray) (hs : s.size ≤ maxLen) (w : World) :
    Calls Tryd.prog 13 #[.string s] w fun e w' => e = .returned (.bool (nameOk s)) ∧ w = w' := by
  unfold maxLen at hs
  go_enter Tryd.func13, Tryd.ntmps13
  go_wp2
  go_loop [3] (fun i => ∃ k : Nat, k ≤ s.size ∧ i = .int .i64 k ∧ (s.data.toList.take k).all small = true) (fun i => s.size - (intOf i).toNat)
  case atStart => exact ⟨0, Nat.zero_le _, rfl, rfl⟩
  case round =>
    obtain ⟨k, hk, rfl, hv⟩ := hrel
    have HV := Lib.hid hv
    clear hv
    by_cases hlt : k < s.size
    · have hb := byte_le s[k]
      have hts := Lib.hid (take_snoc s k hlt)
      by_cases c1 : (s[k].toNat : Int) < 97
      · have hn := Lib.hid (all_not s k hlt (by unfold small; simp; omega))
        go_wp2
        go_ret
        exact ⟨by rw [nameOk, hn.out]; rfl, rfl⟩
      · by_cases c2 : (122 : Int) < s[k].toNat
        · have hn := Lib.hid (all_not s k hlt (by unfold small; simp; omega))
          go_wp2
          go_ret
          exact ⟨by rw [nameOk, hn.out]; rfl, rfl⟩
        · have hn := Lib.hid (show small s[k] = true by unfold small; simp; omega)
          go_wp2
          go_round
          case rel => exact ⟨k + 1, by omega, by go_num, by rw [hts.out, List.all_append, HV.out]; simp [hn.out]⟩
          case measure => simp [intOf]; omega
    · have e : s.data.toList.take k = s.data.toList := List.take_of_length_le (by simp; omega)
      have HA := Lib.hid (show s.data.toList.all small = true by rw [← e]; exact HV.out)
      clear e HV
      by_cases h1 : 1 ≤ s.size
      · by_cases h8 : s.size ≤ 8
        · go_wp2
          go_ret
          exact ⟨by rw [nameOk, HA.out]; simp [h1, h8] <;> omega, rfl⟩
        · go_wp2
          go_ret
          exact ⟨by rw [nameOk, HA.out]; simp [h8] <;> omega, rfl⟩
      · go_wp2
        go_ret
        exact ⟨by rw [nameOk, HA.out]; simp [h1] <;> omega, rfl⟩

set_option maxHeartbeats 1000000 in
theorem impl_IsName (s : ByteArray) (hs : s.size ≤ maxLen) (w : World) :
    Calls Tryd.prog 14 #[.string s] w fun e w' => e = .returned (.bool (nameOk s)) ∧ Below w.heap.size w w' := by
  unfold maxLen at hs
  have hcon := Any.strings_Trim_laid Tryd.lays160 (by kernel_rfl) s ⟨#[97, 98, 99, 100, 101, 102, 103, 104, 105, 106, 107, 108, 109, 110, 111, 112, 113, 114, 115, 116, 117, 118, 119, 120, 121, 122]⟩ w (by omega) (by decide) (ascii_of_all (by decide))
  change Calls Tryd.prog 41 _ _ (fun e w' => e = .returned (.string ⟨(Lib.trimS s.data.toList letters).toArray⟩) ∧ Below w.heap.size w w') at hcon
  have hi := trim_none s.data.toList
  by_cases h1 : 1 ≤ s.size
  · by_cases h8 : s.size ≤ 8
    · by_cases hT : Lib.trimS s.data.toList letters = []
      · have HA := Lib.hid (hi.1 hT)
        rw [hT] at hcon
        clear hi hT
        go_enter Tryd.func14, Tryd.ntmps14
        go_wp2_with (first | (go_at_call 41; refine hcon.mono ?_; rintro e w' ⟨rfl, hB⟩) | go_in)
        go_ret
        exact ⟨by rw [nameOk, HA.out]; simp [h1, h8], hB⟩
      · have HA := Lib.hid (show s.data.toList.all small = false by
          cases h : s.data.toList.all small with
          | false => rfl
          | true => exact absurd (hi.2 h) hT)
        have hne : ¬ (⟨(Lib.trimS s.data.toList letters).toArray⟩ : ByteArray).toList = [] := fun h => hT (by rw [Lib.toList_data] at h; simpa using h)
        generalize (⟨(Lib.trimS s.data.toList letters).toArray⟩ : ByteArray) = r at *
        clear hi hT
        go_enter Tryd.func14, Tryd.ntmps14
        go_wp2_with (first | (go_at_call 41; refine hcon.mono ?_; rintro e w' ⟨rfl, hB⟩) | go_in)
        go_ret
        exact ⟨by rw [nameOk, HA.out]; simp [hne], hB⟩
    · clear hcon hi
      go_enter Tryd.func14, Tryd.ntmps14
      go_wp2
      go_ret
      exact ⟨by rw [nameOk]; simp [h8] <;> omega, Below.refl _ _⟩
  · clear hcon hi
    go_enter Tryd.func14, Tryd.ntmps14
    go_wp2
    go_ret
    exact ⟨by rw [nameOk]; simp [h1] <;> omega, Below.refl _ _⟩

theorem same_bool (b : Bool) : (b != b) = false := by cases b <;> rfl

set_option maxHeartbeats 1000000 in
theorem law_IsName (s : ByteArray) (hs : s.size ≤ maxLen) (w : World) {X : Prop} (_hL : X) : Calls Tryd.prog 4 #[.string s] w fun e w' => e = .returned (.bool true) ∧ Below w.heap.size w w' := by
  have HS := fun w' => spec_IsName s hs w'
  have HI := fun w' => impl_IsName s hs w'
  generalize nameOk s = ok at *
  have eok := same_bool ok
  by_cases hl : 1048576 < s.size
  · go_enter Tryd.func4, Tryd.ntmps4
    go_wp2
    go_ret
    exact ⟨rfl, Below.refl _ _⟩
  · go_enter Tryd.func4, Tryd.ntmps4
    go_wp2_with (first | (go_at_call 13; refine (HS _).mono ?_; rintro e w' ⟨rfl, rfl⟩) | (go_at_call 14; refine (HI _).mono ?_; rintro e w' ⟨rfl, hB⟩))
    go_ret
    exact ⟨rfl, hB⟩

end Go.Proofs.YtnilpooheaaleaaDoor.nam
