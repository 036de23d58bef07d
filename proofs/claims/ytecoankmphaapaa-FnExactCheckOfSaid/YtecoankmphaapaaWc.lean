/- Walks: the check number of a text. No conditions. -/
import Derived.Test.YtecoankmphaapaaRows
import Derived.WalkKit
import Derived.WalkSpells
import Derived.WalkLawsBesides
import Derived.Below
import Derived.Lib.Hide
namespace Go.Proofs.Ytecoankmphaapaa.chk
open Go.RowKit

/-- The check number behind one byte more. -/
def one (a : Int) (c : UInt8) : Int := (877 * a + (c.toNat : Int) + 163) % 65003
def run (a : Int) (l : List UInt8) : Int := l.foldl one a

theorem one_bd (a : Int) (c : UInt8) : 0 ≤ one a c ∧ one a c ≤ 65002 := by unfold one; omega
theorem run_bd (a : Int) (h0 : 0 ≤ a) (h1 : a ≤ 65002) (l : List UInt8) : 0 ≤ run a l ∧ run a l ≤ 65002 := by
  induction l generalizing a with
  | nil => exact ⟨h0, h1⟩
  | cons c l ih => exact ih _ (one_bd a c).1 (one_bd a c).2
theorem run_snoc (a : Int) (l : List UInt8) (c : UInt8) : run a (l ++ [c]) = one (run a l) c := by simp [run]
theorem take_snoc (s : ByteArray) (k : Nat) (h : k < s.size) : s.data.toList.take (k + 1) = s.data.toList.take k ++ [s[k]] := by
  rw [List.take_succ_eq_append_getElem (by simpa using h)]; rfl
theorem byte_le (c : UInt8) : (c.toNat : Int) ≤ 255 := by have := c.toNat_lt; omega
theorem ret_int {k : IntKind} {a b : Int} (h : a = b) : Ending.returned (.int k a) = .returned (.int k b) := by rw [h]
theorem val_int {k : IntKind} {a b : Int} (h : a = b) : Value.int k a = .int k b := by rw [h]

set_option maxHeartbeats 400000 in
theorem spec_l01Check (s : ByteArray) (a : Int) (h0 : 0 ≤ a) (h1 : a ≤ 65002) (hs : s.size ≤ maxLen) (w : World) :
    Calls Try.prog 31 #[.int .i64 a, .string s] w fun e w' => e = .returned (.int .i64 (run a s.data.toList)) ∧ w = w' := by
  unfold maxLen at hs
  go_enter Try.func31, Try.ntmps31
  go_wp2
  go_loop [0, 5] (fun st i => ∃ k : Nat, k ≤ s.size ∧ i = .int .i64 k ∧ ∃ v : Int, 0 ≤ v ∧ v ≤ 65002 ∧ v = run a (s.data.toList.take k) ∧ st = .int .i64 v) (fun _ i => s.size - (intOf i).toNat)
  case atStart => exact ⟨0, Nat.zero_le _, rfl, a, h0, h1, rfl, rfl⟩
  case round =>
    obtain ⟨k, hk, rfl, v, v0, v1, hv, rfl⟩ := hrel
    have HV := Lib.hid hv
    clear hv
    by_cases hlt : k < s.size
    · have hb := byte_le s[k]
      have hts := Lib.hid (take_snoc s k hlt)
      go_wp2
      go_round
      case rel => exact ⟨k + 1, by omega, by go_num, _, (one_bd v s[k]).1, (one_bd v s[k]).2, by rw [hts.out, run_snoc, ← HV.out], rfl⟩
      case measure => simp [intOf]; omega
    · go_wp2
      go_ret
      exact ⟨ret_int (by rw [HV.out, List.take_of_length_le (by simp; omega)]), rfl⟩

theorem in_true {a : Int} (h0 : 0 ≤ a) (h1 : a ≤ 65002) : (decide (0 ≤ a) && decide (a ≤ 65002)) = true := by simp [h0, h1]

/-- What 'CheckOf' hands back. -/
def res (a : Int) (l : List UInt8) : Int := if 0 ≤ a ∧ a ≤ 65002 then run a l else 0
def ok (a : Int) : Bool := decide (0 ≤ a ∧ a ≤ 65002)

set_option maxHeartbeats 400000 in
theorem spec_CheckOf (s : ByteArray) (a : Int) (hs : s.size ≤ maxLen) (w : World) :
    Calls Try.prog 21 #[.int .i64 a, .string s] w fun e w' => e = .returned (.tuple #[.int .i64 (res a s.data.toList), .bool (ok a)]) ∧ w = w' := by
  by_cases h0 : 0 ≤ a
  · by_cases h1 : a ≤ 65002
    · go_enter Try.func21, Try.ntmps21
      go_wp2_with (first | (go_at_call 31; refine (spec_l01Check _ _ h0 h1 hs _).mono ?_; rintro e w' ⟨rfl, rfl⟩) | go_in)
      go_ret2
      exact ⟨by simp [res, ok, h0, h1], rfl⟩
    · have hr := Lib.hid (show res a s.data.toList = 0 by simp [res, h1])
      have hk := Lib.hid (show ok a = false by simp [ok, h1])
      go_enter Try.func21, Try.ntmps21
      go_wp2
      go_ret2
      exact ⟨by rw [hr.out, hk.out]; rfl, rfl⟩
  · have hr := Lib.hid (show res a s.data.toList = 0 by simp [res, h0])
    have hk := Lib.hid (show ok a = false by simp [ok, h0])
    go_enter Try.func21, Try.ntmps21
    go_wp2
    go_ret2
    exact ⟨by rw [hr.out, hk.out]; rfl, rfl⟩

set_option maxHeartbeats 400000 in
theorem impl_CheckOf (s : ByteArray) (a : Int) (hs : s.size ≤ maxLen) (w : World) :
    Calls Try.prog 22 #[.int .i64 a, .string s] w fun e w' => e = .returned (.tuple #[.int .i64 (res a s.data.toList), .bool (ok a)]) ∧ w = w' := by
  unfold maxLen at hs
  by_cases h0 : 0 ≤ a
  · by_cases h1 : a ≤ 65002
    · go_enter Try.func22, Try.ntmps22
      go_wp2
      go_loop [0, 12] (fun st i => ∃ k : Nat, k ≤ s.size ∧ i = .int .i64 k ∧ ∃ v : Int, 0 ≤ v ∧ v ≤ 65002 ∧ v = run a (s.data.toList.take k) ∧ st = .int .i64 v) (fun _ i => s.size - (intOf i).toNat)
      case atStart => exact ⟨0, Nat.zero_le _, rfl, a, h0, h1, rfl, rfl⟩
      case round =>
        obtain ⟨k, hk, rfl, v, v0, v1, hv, rfl⟩ := hrel
        have HV := Lib.hid hv
        clear hv
        by_cases hlt : k < s.size
        · have hb := byte_le s[k]
          have hts := Lib.hid (take_snoc s k hlt)
          go_wp2
          go_round
          case rel => exact ⟨k + 1, by omega, by go_num, _, (one_bd v s[k]).1, (one_bd v s[k]).2, by rw [hts.out, run_snoc, ← HV.out], rfl⟩
          case measure => simp [intOf]; omega
        · go_wp2
          go_ret2
          exact ⟨by rw [show v = res a s.data.toList by rw [HV.out, List.take_of_length_le (by simp; omega)]; simp [res, h0, h1]]; simp [ok, h0, h1], rfl⟩
    · have hr := Lib.hid (show res a s.data.toList = 0 by simp [res, h1])
      have hk := Lib.hid (show ok a = false by simp [ok, h1])
      go_enter Try.func22, Try.ntmps22
      go_wp2
      go_ret2
      exact ⟨by rw [hr.out, hk.out]; rfl, rfl⟩
  · have hr := Lib.hid (show res a s.data.toList = 0 by simp [res, h0])
    have hk := Lib.hid (show ok a = false by simp [ok, h0])
    go_enter Try.func22, Try.ntmps22
    go_wp2
    go_ret2
    exact ⟨by rw [hr.out, hk.out]; rfl, rfl⟩

theorem same_int (n : Int) : (n != n) = false := by simp
theorem same_bool (b : Bool) : (b != b) = false := by cases b <;> rfl

set_option maxHeartbeats 400000 in
theorem law (a : Int) (s : ByteArray) (_hw : (Lit.int .i64 a).wf = true) (hs : s.size ≤ maxLen) (w : World) :
    Calls Try.prog 9 #[.int .i64 a, .string s] w fun e w' => e = .returned (.bool true) ∧ Below w.heap.size w w' := by
  have e1 := same_int (res a s.data.toList)
  have e2 := same_bool (ok a)
  by_cases h : (1048576 : Int) < s.size
  · go_enter Try.func9, Try.ntmps9
    go_wp2
    go_ret
    exact ⟨rfl, Below.refl _ _⟩
  · go_enter Try.func9, Try.ntmps9
    go_wp2_with (first | (go_at_call 21; refine (spec_CheckOf _ _ hs _).mono ?_; rintro e w' ⟨rfl, rfl⟩) | (go_at_call 22; refine (impl_CheckOf _ _ hs _).mono ?_; rintro e w' ⟨rfl, rfl⟩))
    go_ret
    exact ⟨rfl, Below.refl _ _⟩

end Go.Proofs.Ytecoankmphaapaa.chk
