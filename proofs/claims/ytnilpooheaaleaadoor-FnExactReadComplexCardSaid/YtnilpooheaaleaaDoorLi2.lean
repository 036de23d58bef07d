/- Walks: texts of lists of 64-bit numbers: the reference's side. No conditions. -/
import Derived.Test.YtnilpooheaaleaaDoorLi1
import Derived.Test.YtnilpooheaaleaaDoorWd3
import Derived.Test.YtnilpooheaaleaaDoorSk
import Derived.Lib.Join
namespace Go.Proofs.YtnilpooheaaleaaDoor.li
open Go.RowKit
set_option maxRecDepth 8000

def listOk (n : Nat) (zs : Nat → Int) : Bool := decide (n ≤ 64 ∧ ∀ i, i < n → -1000000000000000 ≤ zs i ∧ zs i ≤ 1000000000000000)
def words (n : Nat) (zs : Nat → Int) : List (List UInt8) := (List.range n).map fun i => Lib.itoa (zs i)
/-- The first k words, with commas between. -/
def joined (zs : Nat → Int) (k : Nat) : List UInt8 := Lib.join (words k zs) [44]
def text (n : Nat) (zs : Nat → Int) : List UInt8 := if n = 0 then [110, 111, 110, 101] else joined zs n

theorem listOk_many {n : Nat} {zs : Nat → Int} (h : 64 < n) : listOk n zs = false := by
  unfold listOk
  exact decide_eq_false fun h2 => by omega
theorem listOk_bad {n : Nat} {zs : Nat → Int} {k : Nat} (hk : k < n) (h : ¬ (-1000000000000000 ≤ zs k ∧ zs k ≤ 1000000000000000)) : listOk n zs = false := by
  unfold listOk
  exact decide_eq_false fun h2 => h (h2.2 k hk)
theorem listOk_good {n : Nat} {zs : Nat → Int} (hn : n ≤ 64) (h : ∀ i, i < n → -1000000000000000 ≤ zs i ∧ zs i ≤ 1000000000000000) : listOk n zs = true := by
  unfold listOk
  exact decide_eq_true ⟨hn, h⟩
theorem listOk_all {n : Nat} {zs : Nat → Int} (h : listOk n zs = true) : n ≤ 64 ∧ ∀ i, i < n → -1000000000000000 ≤ zs i ∧ zs i ≤ 1000000000000000 := of_decide_eq_true h

theorem words_succ (zs : Nat → Int) (k : Nat) : words (k + 1) zs = words k zs ++ [Lib.itoa (zs k)] := by
  unfold words
  rw [List.range_succ, List.map_append]
  rfl
theorem words_length (zs : Nat → Int) (k : Nat) : (words k zs).length = k := by simp [words]
theorem joined_one (zs : Nat → Int) : joined zs 1 = Lib.itoa (zs 0) := by
  unfold joined
  rw [words_succ]
  exact Lib.join_one _ _
theorem joined_succ (zs : Nat → Int) (k : Nat) (hk : 1 ≤ k) : joined zs (k + 1) = joined zs k ++ (44 :: Lib.itoa (zs k)) := by
  unfold joined
  rw [words_succ]
  obtain ⟨x, r, e⟩ : ∃ x r, words k zs = x :: r := by
    cases h : words k zs with
    | nil => have := words_length zs k; rw [h] at this; simp at this; omega
    | cons x r => exact ⟨x, r, rfl⟩
  rw [e, List.cons_append, Lib.join_cons, Lib.join_cons]
  simp [Lib.joinTail]
theorem itoa_le (v : Int) (h0 : -1000000000000000 ≤ v) (h1 : v ≤ 1000000000000000) : (Lib.itoa v).length ≤ 17 := (dcp.itoa_len v h0 h1).2
theorem joined_len {n : Nat} {zs : Nat → Int} (h : ∀ i, i < n → -1000000000000000 ≤ zs i ∧ zs i ≤ 1000000000000000) : ∀ k, 1 ≤ k → k ≤ n → (joined zs k).length ≤ 18 * k := by
  intro k
  induction k with
  | zero => intro h1; omega
  | succ k ih =>
    intro _ hk
    have h2 := itoa_le (zs k) (h k (by omega)).1 (h k (by omega)).2
    by_cases h0 : k = 0
    · subst h0
      rw [joined_one]
      omega
    · rw [joined_succ zs k (by omega), List.length_append, List.length_cons]
      have := ih (by omega) (by omega)
      omega

theorem spec_in (n lo hi : Int) (w : World) : Calls Tryd.prog 71 #[.int .i64 n, .int .i64 lo, .int .i64 hi] w fun e w' => e = .returned (.bool (decide (lo ≤ n ∧ n ≤ hi))) ∧ w = w' := by
  go_enter Tryd.func71, Tryd.ntmps71
  by_cases h0 : lo ≤ n
  · go_wp2
    go_ret
    exact ⟨by simp [h0], rfl⟩
  · go_wp2
    go_ret
    exact ⟨by simp; omega, rfl⟩
theorem is_value (n : Int) (w : World) : Calls Tryd.prog 44 #[.int .i64 n] w fun e w' => e = .returned (.bool (decide (-1000000000000000 ≤ n ∧ n ≤ 1000000000000000))) ∧ w = w' := by
  go_enter Tryd.func44, Tryd.ntmps44
  by_cases h0 : -1000000000000000 ≤ n
  · go_wp2
    go_ret
    exact ⟨by simp [h0], rfl⟩
  · go_wp2
    go_ret
    exact ⟨by simp; omega, rfl⟩

set_option maxHeartbeats 1000000 in
theorem spec_list (n : Nat) (hn : n ≤ 1048576) (zs : Nat → Int) (b cap : Nat) (w : World) (hw : ∀ i, i < n → (Lit.int .i64 (zs i)).wf = true)
    (hb : ∀ i, i < n → w.cell? ⟨b, i, none⟩ = some (.int .i64 (zs i))) :
    Calls Tryd.prog 42 #[.slice (some ⟨b, 0, none⟩) n cap] w fun e w' => e = .returned (.bool (listOk n zs)) ∧ w = w' := by
  have HB := Lib.hid hb
  have HW := Lib.hid hw
  clear hb hw
  go_enter Tryd.func42, Tryd.ntmps42
  go_wp2
  go_loop [3] (fun i => ∃ k : Nat, k ≤ n ∧ i = .int .i64 k ∧ ∀ i, i < k → -1000000000000000 ≤ zs i ∧ zs i ≤ 1000000000000000) (fun i => n - (intOf i).toNat)
  case atStart => exact ⟨0, Nat.zero_le _, rfl, fun i hi => absurd hi (Nat.not_lt_zero i)⟩
  case round =>
    obtain ⟨k, hk, rfl, hg⟩ := hrel
    have HG := Lib.hid hg
    clear hg
    by_cases hlt : k < n
    · have cb := HB.out k hlt
      obtain ⟨hz0, hz1⟩ := dec.wf_bounds (HW.out k hlt)
      have hV := fun w' => spec_in (zs k) (-1000000000000000) 1000000000000000 w'
      by_cases h0 : -1000000000000000 ≤ zs k ∧ zs k ≤ 1000000000000000
      · have HK := Lib.hid (show ∀ i, i < k + 1 → -1000000000000000 ≤ zs i ∧ zs i ≤ 1000000000000000 from fun i hi => by
          by_cases h : i = k
          · subst h; exact h0
          · exact HG.out i (by omega))
        rw [decide_eq_true h0] at hV
        generalize zs k = z at *
        go_wp2_with ((go_at_call 71; refine (hV _).mono ?_; rintro e w' ⟨rfl, rfl⟩))
        exact ⟨⟨k + 1, by omega, by go_num, HK.out⟩, by simp [intOf]; omega⟩
      · have HF := Lib.hid (listOk_bad (zs := zs) hlt h0)
        rw [decide_eq_false h0] at hV
        generalize zs k = z at *
        go_wp2_with ((go_at_call 71; refine (hV _).mono ?_; rintro e w' ⟨rfl, rfl⟩))
        go_ret
        exact ⟨by rw [HF.out]; rfl, rfl⟩
    · have : k = n := by omega
      subst this
      by_cases h64 : k ≤ 64
      · have HF := Lib.hid (listOk_good h64 HG.out)
        clear HG
        go_wp2
        go_ret
        exact ⟨by rw [HF.out]; simp; omega, rfl⟩
      · have HF := Lib.hid (listOk_many (zs := zs) (show 64 < k by omega))
        clear HG
        go_wp2
        go_ret
        exact ⟨by rw [HF.out]; simp; omega, rfl⟩

theorem join_three (J I : List UInt8) : (⟨J.toArray⟩ ++ (⟨#[44]⟩ ++ ⟨I.toArray⟩) : ByteArray) = ⟨(J ++ (44 :: I)).toArray⟩ := by
  apply ByteArray.ext
  simp [ByteArray.data_append]

set_option maxHeartbeats 1000000 in
theorem spec_text (n : Nat) (hn : n ≤ 64) (zs : Nat → Int) (b cap : Nat) (w : World) (hz : ∀ i, i < n → -1000000000000000 ≤ zs i ∧ zs i ≤ 1000000000000000)
    (hb : ∀ i, i < n → w.cell? ⟨b, i, none⟩ = some (.int .i64 (zs i))) :
    Calls Tryd.prog 43 #[.slice (some ⟨b, 0, none⟩) n cap] w fun e w' => e = .returned (.string ⟨(text n zs).toArray⟩) ∧ Below w.heap.size w w' := by
  have hlt0 : ∀ i, i < n → b < w.heap.size := fun i hi => World.block_lt_of_cell? _ _ (hb i hi)
  have HB := Lib.hid hb
  have HZ := Lib.hid hz
  clear hb hz
  by_cases h0 : n = 0
  · have HT := Lib.hid (show text n zs = [110, 111, 110, 101] by rw [text, if_pos h0])
    go_enter Tryd.func43, Tryd.ntmps43
    go_wp2
    go_ret
    exact ⟨by rw [HT.out]; rfl, Below.refl _ _⟩
  · have HT := Lib.hid (show text n zs = joined zs n by rw [text, if_neg h0])
    have cb := HB.out 0 (by omega)
    have hbl := hlt0 0 (by omega)
    clear hlt0
    have hD := fun k (hk : k < n) w' => dec.spec_dec (zs k) (by have := HZ.out k hk; omega) (by have := HZ.out k hk; omega) w'
    have hD0 := fun w' => hD 0 (by omega) w'
    rw [← joined_one] at hD0
    generalize zs 0 = z0 at *
    go_enter Tryd.func43, Tryd.ntmps43
    go_wp2_with ((go_at_call 38; refine (hD0 _).mono ?_; rintro e w' ⟨rfl, B0⟩))
    go_loopw [3, 4] (fun s i wr => ∃ k : Nat, 1 ≤ k ∧ k ≤ n ∧ i = .int .i64 k ∧ s = .string ⟨(joined zs k).toArray⟩ ∧ Below w.heap.size w wr) (fun _ i _ => n - (intOf i).toNat)
    case atStart => exact ⟨1, Nat.le_refl _, by omega, rfl, rfl, by assumption⟩
    case round =>
      obtain ⟨k, hk1, hk, rfl, rfl, bel⟩ := hrel
      by_cases hlt : k < n
      · have cb := (bel.cell (p := ⟨b, k, none⟩) hbl).trans (HB.out k hlt)
        have hDk := fun w' => hD k hlt w'
        have HS := Lib.hid (joined_succ zs k hk1)
        have hlen := joined_len HZ.out k hk1 hk
        have hlen2 := itoa_le (zs k) (HZ.out k hlt).1 (HZ.out k hlt).2
        generalize joined zs k = J at *
        generalize Lib.itoa (zs k) = I at *
        generalize zs k = z at *
        go_wp2_with ((go_at_call 38; refine (hDk _).mono ?_; rintro e w' ⟨rfl, B1⟩))
        exact ⟨⟨k + 1, by omega, by omega, by go_num, by rw [HS.out, join_three], bel.trans (B1.mono bel.size)⟩, by simp [intOf]; omega⟩
      · have : k = n := by omega
        subst this
        clear hD hD0
        go_wp2
        go_ret
        exact ⟨by rw [HT.out]; rfl, bel⟩
/-- Both results. -/
def told (b : Bool) (t : List UInt8) : Value := .tuple #[.string ⟨(if b then t else []).toArray⟩, .bool b]
theorem told_no (t : List UInt8) {b : Bool} (h : b = false) : told b t = .tuple #[.string ⟨#[]⟩, .bool false] := by subst h; rfl
theorem told_yes (t : List UInt8) {b : Bool} (h : b = true) : told b t = .tuple #[.string ⟨t.toArray⟩, .bool true] := by subst h; rfl

set_option maxHeartbeats 1000000 in
theorem spec_ListText (n : Nat) (hn : n ≤ 1048576) (zs : Nat → Int) (b cap : Nat) (w : World) (hw : ∀ i, i < n → (Lit.int .i64 (zs i)).wf = true)
    (hb : ∀ i, i < n → w.cell? ⟨b, i, none⟩ = some (.int .i64 (zs i))) :
    Calls Tryd.prog 15 #[.slice (some ⟨b, 0, none⟩) n cap] w fun e w' => e = .returned (told (listOk n zs) (text n zs)) ∧ Below w.heap.size w w' := by
  have hL := spec_list n hn zs b cap w hw hb
  cases h : listOk n zs with
  | false =>
    have HT := Lib.hid (told_no (text n zs) h)
    rw [h] at hL HT
    clear hb hw
    go_enter Tryd.func15, Tryd.ntmps15
    go_wp2_with ((go_at_call 42; refine (hL).mono ?_; rintro e w' ⟨rfl, rfl⟩))
    go_ret2
    exact ⟨by rw [HT.out]; rfl, Below.refl _ _⟩
  | true =>
    obtain ⟨h64, hz⟩ := listOk_all h
    have HT := Lib.hid (told_yes (text n zs) h)
    have hX := spec_text n h64 zs b cap w hz hb
    rw [h] at hL HT
    generalize text n zs = t at *
    clear hb hw hz
    go_enter Tryd.func15, Tryd.ntmps15
    go_wp2_with (first | (go_at_call 42; refine (hL).mono ?_; rintro e w' ⟨rfl, rfl⟩) | (go_at_call 43; refine (hX).mono ?_; rintro e w' ⟨rfl, hB⟩))
    go_ret2
    exact ⟨by rw [HT.out]; rfl, hB⟩

end Go.Proofs.YtnilpooheaaleaaDoor.li
