/- Walks: rows of 64-bit numbers held against one another, marked, asked for their marks. No conditions. -/
import Derived.Test.YtnilpooheaaleaaDoorRe1
namespace Go.Proofs.YtnilpooheaaleaaDoor.re
open Go.RowKit
set_option maxRecDepth 8000

def ints (xs : List Int) : List Value := xs.map (Value.int .i64)
theorem ints_length (xs : List Int) : (ints xs).length = xs.length := by simp [ints]
theorem ints_at (xs : List Int) (j : Nat) (h : j < xs.length) : (ints xs)[j]? = some (.int .i64 xs[j]) := by simp [ints, h]
/-- A row of one's own that holds these numbers. -/
def Row (w : World) (base : Nat) (v : Value) (xs : List Int) : Prop := w.ownsRow base 2 1 v xs.length (ints xs)
theorem Row.cell {w : World} {base g n cap : Nat} {xs : List Int} (h : Row w base (.slice (some ⟨g, 0, none⟩) n cap) xs) (j : Nat) (hj : j < xs.length) : w.cell? ⟨g, j, none⟩ = some (.int .i64 xs[j]) := by
  have h1 := h.cells rfl j _ (ints_at xs j hj)
  have h2 : (⟨g, 0, none⟩ : Addr).add j = ⟨g, j, none⟩ := by unfold Addr.add; split <;> simp_all
  rw [h2] at h1
  exact h1
theorem Row.free {w : World} {base g n cap : Nat} {xs : List Int} (h : Row w base (.slice (some ⟨g, 0, none⟩) n cap) xs) (j : Nat) : w.frozen? ⟨g, j, none⟩ = false := by
  rcases h.2 with ⟨h', _⟩ | ⟨g', cap', cur, h', _, hg, _⟩
  · simp at h'
  · simp only [Value.slice.injEq, Option.some.injEq, Addr.mk.injEq, and_true] at h'
    obtain ⟨rfl, rfl, rfl⟩ := h'
    exact frozen_of_row w g j cur 2 hg
theorem Row.len {w : World} {base g n cap : Nat} {xs : List Int} (h : Row w base (.slice (some ⟨g, 0, none⟩) n cap) xs) : n = xs.length := by
  rcases h.2 with ⟨h', _⟩ | ⟨g', cap', cur, h', _⟩
  · simp at h'
  · simp only [Value.slice.injEq] at h'
    exact h'.2.1
theorem Row.shape {w : World} {base : Nat} {v : Value} {xs : List Int} (h : Row w base v xs) : (v = .slice none 0 0 ∧ xs = []) ∨ ∃ g cap, v = .slice (some ⟨g, 0, none⟩) xs.length cap := by
  rcases h.2 with ⟨h1, h2⟩ | ⟨g, cap, cur, h1, _⟩
  · exact .inl ⟨h1, List.eq_nil_of_length_eq_zero h2⟩
  · exact .inr ⟨g, cap, h1⟩

theorem eq_empty (a b : Option Addr) (c d : Nat) (w : World) :
    Calls Tryd.prog 18 #[.slice a 0 c, .slice b 0 d] w fun e w' => e = .returned (.bool true) ∧ ∃ m, w' = w.drewN m := by
  go_enter Tryd.func18, Tryd.ntmps18
  go_wp2
  go_loopw [5] (fun i wr => i = .int .i64 0 ∧ wr = w) (fun _ _ => 0)
  case atStart => exact ⟨rfl, rfl⟩
  case round =>
    obtain ⟨rfl, rfl⟩ := hrel
    go_wp2
    go_ret
    exact ⟨rfl, 0, rfl⟩

theorem getD_at (xs : List Int) (i : Nat) (h : i < xs.length) : xs.getD i 0 = xs[i] := by simp [List.getD, h]

theorem eq_rows {w : World} {b1 b2 : Nat} {v1 v2 : Value} {xs : List Int} (hn : xs.length ≤ 1048576) (h1 : Row w b1 v1 xs) (h2 : Row w b2 v2 xs) :
    Calls Tryd.prog 18 #[v1, v2] w fun e w' => e = .returned (.bool true) ∧ ∃ m, w' = w.drewN m := by
  cases xs with
  | nil =>
    obtain ⟨a, c, rfl⟩ : ∃ a c, v1 = .slice a 0 c := by
      rcases h1.shape with ⟨rfl, _⟩ | ⟨g, cap, rfl⟩
      · exact ⟨_, _, rfl⟩
      · exact ⟨_, _, rfl⟩
    obtain ⟨b, d, rfl⟩ : ∃ a c, v2 = .slice a 0 c := by
      rcases h2.shape with ⟨rfl, _⟩ | ⟨g, cap, rfl⟩
      · exact ⟨_, _, rfl⟩
      · exact ⟨_, _, rfl⟩
    exact eq_empty a b c d w
  | cons x xs =>
    rcases h1.shape with ⟨_, h⟩ | ⟨g1, c1, rfl⟩
    · cases h
    · rcases h2.shape with ⟨_, h⟩ | ⟨g2, c2, rfl⟩
      · cases h
      · exact li.eq_i64 _ hn (fun i => (x :: xs).getD i 0) g1 g2 c1 c2 w (fun i hi => by rw [h1.cell i hi, getD_at _ _ hi]) (fun i hi => by rw [h2.cell i hi, getD_at _ _ hi])

/-- The first k marks, the rest as it was. -/
def marked (xs : List Int) (k : Nat) : List Int := (List.range xs.length).map fun (i : Nat) => if i < k then (i : Int) + 1 else xs.getD i 0
theorem marked_length (xs : List Int) (k : Nat) : (marked xs k).length = xs.length := by simp [marked]
theorem marked_zero (xs : List Int) : marked xs 0 = xs := by
  apply List.ext_getElem
  · simp [marked]
  · intro i h1 h2
    simp [marked, h2]
theorem marked_succ (xs : List Int) (k : Nat) : (marked xs k).set k ((k : Int) + 1) = marked xs (k + 1) := by
  apply List.ext_getElem
  · simp [marked]
  · intro i h1 h2
    rw [List.getElem_set]
    simp only [marked, List.getElem_map, List.getElem_range]
    by_cases h : k = i
    · subst h; simp
    · rw [if_neg h]
      by_cases h3 : i < k
      · rw [if_pos h3, if_pos (by omega)]
      · rw [if_neg h3, if_neg (by omega)]
def marks (n : Nat) : List Int := (List.range n).map fun (i : Nat) => (i : Int) + 1
theorem marks_length (n : Nat) : (marks n).length = n := by simp [marks]
theorem marks_at (n k : Nat) (h : k < n) : (marks n)[k]'(by rw [marks_length]; exact h) = (k : Int) + 1 := by simp [marks]
theorem marked_all (xs : List Int) : marked xs xs.length = marks xs.length := by
  unfold marked marks
  apply List.map_congr_left
  intro i hi
  rw [if_pos (by simpa using hi)]

theorem grown_set (w : World) (g k : Nat) (u : Value) : w.grownBy (w.setCell ⟨g, k, none⟩ u) (some g) :=
  ⟨rfl, rfl, rfl, by simp, fun j _ hj => heap_setCell_other w ⟨g, k, none⟩ j u (fun e => hj (by simp [e]))⟩
theorem grown_trans {a b c : World} {r : Option Nat} (h : a.grownBy b r) (h2 : b.grownBy c r) : a.grownBy c r :=
  ⟨h2.os.trans h.os, h2.tape.trans h.tape, h2.output.trans h.output, Nat.le_trans h.size h2.size, fun k hk hr => (h2.block k (Nat.lt_of_lt_of_le hk h.size) hr).trans (h.block k hk hr)⟩

set_option maxHeartbeats 1000000 in
theorem mark_row {w : World} {base : Nat} {v : Value} {xs : List Int} (hn : xs.length ≤ 1048576) (h : Row w base v xs) :
    Calls Tryd.prog 27 #[v, .int .i64 1] w fun e w' => e = .returned (.int .i64 ((xs.length : Int) + 1)) ∧ Row w' base v (marks xs.length) ∧ w.grownBy w' v.ownBlock := by
  rcases h.shape with ⟨rfl, rfl⟩ | ⟨g, cap, rfl⟩
  · go_enter Tryd.func27, Tryd.ntmps27
    go_wp2
    go_loopw [1, 5] (fun k i wr => k = .int .i64 1 ∧ i = .int .i64 0 ∧ wr = w) (fun _ _ _ => 0)
    case atStart => exact ⟨rfl, rfl, rfl⟩
    case round =>
      obtain ⟨rfl, rfl, rfl⟩ := hrel
      go_wp2
      go_ret
      exact ⟨rfl, by simpa [marks] using h, World.grownBy.refl _ _⟩
  · go_enter Tryd.func27, Tryd.ntmps27
    go_wp2
    go_loopw [1, 5] (fun q i wr => ∃ k : Nat, k ≤ xs.length ∧ q = .int .i64 ((k : Int) + 1) ∧ i = .int .i64 k ∧ Row wr base (.slice (some ⟨g, 0, none⟩) xs.length cap) (marked xs k) ∧ w.grownBy wr (some g)) (fun _ i _ => xs.length - (intOf i).toNat)
    case atStart => exact ⟨0, Nat.zero_le _, rfl, rfl, by rw [marked_zero]; exact h, World.grownBy.refl _ _⟩
    case round =>
      obtain ⟨k, hk, rfl, rfl, hR, hG⟩ := hrel
      by_cases hlt : k < xs.length
      · have hc := hR.cell k (by rw [marked_length]; exact hlt)
        have hf := Row.free hR k
        have hR2 := hR
        unfold Row at hR2
        rw [marked_length] at hR2
        have HS := (World.ownsRow.stored hR2 k (.int .i64 ((k : Int) + 1))).1
        have HN := Lib.hid (show Row (wr.setCell ⟨g, k, none⟩ (.int .i64 ((k : Int) + 1))) base (.slice (some ⟨g, 0, none⟩) xs.length cap) (marked xs (k + 1)) by
          unfold Row
          rw [marked_length]
          have e : ints (marked xs (k + 1)) = (ints (marked xs k)).set k (.int .i64 ((k : Int) + 1)) := by
            rw [← marked_succ]
            unfold ints
            rw [List.map_set]
          rw [e]
          exact HS)
        have HG := Lib.hid (grown_trans hG (grown_set wr g k (.int .i64 ((k : Int) + 1))))
        clear HS hR hR2 hG
        go_wp2
        go_roundw
        case rel => exact ⟨k + 1, by omega, by go_num, by go_num, HN.out, HG.out⟩
        case measure => simp [intOf]; omega
      · obtain rfl : k = xs.length := by omega
        rw [marked_all] at hR
        have HR := Lib.hid hR
        clear hR
        go_wp2
        go_ret
        exact ⟨rfl, HR.out, hG⟩

set_option maxHeartbeats 1000000 in
theorem held_row {w : World} {base : Nat} {v : Value} {n : Nat} (hn : n ≤ 1048576) (h : Row w base v (marks n)) :
    Calls Tryd.prog 28 #[v, .int .i64 1] w fun e w' => e = .returned (.int .i64 ((n : Int) + 1)) ∧ w' = w := by
  rcases h.shape with ⟨rfl, h0⟩ | ⟨g, cap, rfl⟩
  · obtain rfl : n = 0 := by rw [← marks_length n, h0]; rfl
    go_enter Tryd.func28, Tryd.ntmps28
    go_wp2
    go_loop [1, 5] (fun k i => k = .int .i64 1 ∧ i = .int .i64 0) (fun _ _ => 0)
    case atStart => exact ⟨rfl, rfl⟩
    case round =>
      obtain ⟨rfl, rfl⟩ := hrel
      go_wp2
      go_ret
      exact ⟨rfl, rfl⟩
  · rw [marks_length] at *
    go_enter Tryd.func28, Tryd.ntmps28
    go_wp2
    go_loop [1, 5] (fun q i => ∃ k : Nat, k ≤ n ∧ q = .int .i64 ((k : Int) + 1) ∧ i = .int .i64 k) (fun _ i => n - (intOf i).toNat)
    case atStart => exact ⟨0, Nat.zero_le _, rfl, rfl⟩
    case round =>
      obtain ⟨k, hk, rfl, rfl⟩ := hrel
      by_cases hlt : k < n
      · have hc := h.cell k (by rw [marks_length]; exact hlt)
        rw [marks_at n k hlt] at hc
        have en : (((k : Int) + 1) != ((k : Int) + 1)) = false := by simp
        go_wp2
        exact ⟨⟨k + 1, by omega, by go_num, by go_num⟩, by simp [intOf]; omega⟩
      · obtain rfl : k = n := by omega
        go_wp2
        go_ret
        exact ⟨rfl, rfl⟩
end Go.Proofs.YtnilpooheaaleaaDoor.re
