/- Rows of one's own that hold lists of values of one cell each; marks. No conditions. -/
import Derived.Test.YtnilpooheaaleaaDoorRe4
namespace Go.Proofs.YtnilpooheaaleaaDoor.row
open Go.RowKit
open li (own_below)

/-- A row of one's own of type e that holds these values. -/
def Row {α : Type} (e : TypeId) (c : α → Value) (w : World) (base : Nat) (v : Value) (xs : List α) : Prop := w.ownsRow base e 1 v xs.length (xs.map c)
section
variable {α : Type} {e : TypeId} {c : α → Value} {w : World} {base : Nat}
theorem Row.cell {g n cap : Nat} {xs : List α} (h : Row e c w base (.slice (some ⟨g, 0, none⟩) n cap) xs) (j : Nat) (hj : j < xs.length) : w.cell? ⟨g, j, none⟩ = some (c xs[j]) := by
  have h1 := h.cells rfl j (c xs[j]) (by simp [hj])
  have h2 : (⟨g, 0, none⟩ : Addr).add j = ⟨g, j, none⟩ := by unfold Addr.add; split <;> simp_all
  rw [h2] at h1
  exact h1
theorem Row.free {g n cap : Nat} {xs : List α} (h : Row e c w base (.slice (some ⟨g, 0, none⟩) n cap) xs) (j : Nat) : w.frozen? ⟨g, j, none⟩ = false := by
  rcases h.2 with ⟨h', _⟩ | ⟨g', cap', cur, h', _, hg, _⟩
  · simp at h'
  · simp only [Value.slice.injEq, Option.some.injEq, Addr.mk.injEq, and_true] at h'
    obtain ⟨rfl, rfl, rfl⟩ := h'
    exact frozen_of_row w g j cur e hg
theorem Row.shape {v : Value} {xs : List α} (h : Row e c w base v xs) : (v = .slice none 0 0 ∧ xs = []) ∨ ∃ g cap, v = .slice (some ⟨g, 0, none⟩) xs.length cap := by
  rcases h.2 with ⟨h1, h2⟩ | ⟨g, cap, cur, h1, _⟩
  · exact .inl ⟨h1, List.eq_nil_of_length_eq_zero h2⟩
  · exact .inr ⟨g, cap, h1⟩
theorem Row.empty {v : Value} (h : Row e c w base v []) : ∃ a d, v = .slice a 0 d := by
  rcases h.shape with ⟨rfl, _⟩ | ⟨g, cap, rfl⟩
  · exact ⟨_, _, rfl⟩
  · exact ⟨_, _, rfl⟩
theorem Row.below {w' : World} {v : Value} {xs : List α} (h : Row e c w base v xs) (hB : Below w.heap.size w w') : Row e c w' base v xs := own_below h hB
theorem Row.drewN {v : Value} {xs : List α} (h : Row e c w base v xs) (m : Nat) : Row e c (w.drewN m) base v xs := h
theorem Row.apart {w' w0 : World} {b2 : Nat} {v1 v2 : Value} {xs ys : List α} (h1 : Row e c w0 base v1 xs) (hs : w0.heap.size ≤ b2) (h : Row e c w base v1 xs) (h2 : Row e c w b2 v2 ys) (hG : w.grownBy w' v2.ownBlock) : Row e c w' base v1 xs := by
  refine World.ownsRow.kept h hG ?_
  cases e : v1.ownBlock with
  | none => exact .inl rfl
  | some k =>
    refine .inr fun e2 => ?_
    have l1 := (h1.lt k e).2
    have l2 := (h2.lt k e2.symm).1
    omega
theorem row_nil (w : World) (base : Nat) : Row e c w base (.slice none 0 0) [] := World.ownsRow_nil _ _ _ _

/-- The first k marks, the rest as it was. -/
def marked (m : Nat → α) (xs : List α) (k : Nat) : List α := (List.range xs.length).map fun (i : Nat) => if i < k then m i else xs.getD i (m i)
def marks (m : Nat → α) (n : Nat) : List α := (List.range n).map m
theorem marked_length (m : Nat → α) (xs : List α) (k : Nat) : (marked m xs k).length = xs.length := by simp [marked]
theorem marks_length (m : Nat → α) (n : Nat) : (marks m n).length = n := by simp [marks]
theorem marks_at (m : Nat → α) (n k : Nat) (h : k < n) : (marks m n)[k]'(by rw [marks_length]; exact h) = m k := by simp [marks]
theorem marked_zero (m : Nat → α) (xs : List α) : marked m xs 0 = xs := by
  apply List.ext_getElem
  · simp [marked]
  · intro i h1 h2
    simp [marked, h2]
theorem marked_succ (m : Nat → α) (xs : List α) (k : Nat) : (marked m xs k).set k (m k) = marked m xs (k + 1) := by
  apply List.ext_getElem
  · simp [marked]
  · intro i h1 h2
    rw [List.getElem_set]
    simp only [marked, List.getElem_map, List.getElem_range]
    by_cases h : k = i
    · subst h; simp
    · rw [if_neg h]
      by_cases h3 : i < k
      · rw [if_pos h3, if_pos (by omega)]
      · rw [if_neg h3, if_neg (by omega)]
theorem marked_all (m : Nat → α) (xs : List α) : marked m xs xs.length = marks m xs.length := by
  unfold marked marks
  apply List.map_congr_left
  intro i hi
  rw [if_pos (by simpa using hi)]
theorem Row.store {m : Nat → α} {g n cap k : Nat} {xs : List α} (h : Row e c w base (.slice (some ⟨g, 0, none⟩) n cap) (marked m xs k)) (hn : n = xs.length) :
    Row e c (w.setCell ⟨g, k, none⟩ (c (m k))) base (.slice (some ⟨g, 0, none⟩) n cap) (marked m xs (k + 1)) := by
  subst hn
  have h2 := h
  unfold Row at h2
  rw [marked_length] at h2
  have HS := (World.ownsRow.stored h2 k (c (m k))).1
  unfold Row
  rw [marked_length, ← marked_succ, List.map_set]
  exact HS
end

/-- A list and whether there is one. -/
def Lists {α : Type} (e : TypeId) (c : α → Value) (r : Option (List α)) (w : World) (en : Ending) (w' : World) : Prop :=
  ∃ v, en = .returned (.tuple #[v, .bool r.isSome]) ∧ Row e c w' w.heap.size v (r.getD []) ∧ Below w.heap.size w w'
section
variable {α : Type} {e : TypeId} {c : α → Value}
theorem lists_none {r : Option (List α)} (h : r = none) {w w' : World} (hB : Below w.heap.size w w') : Lists e c r w (.returned (.tuple #[.slice none 0 0, .bool false])) w' := by
  subst h
  exact ⟨_, rfl, row_nil _ _, hB⟩
theorem lists_some {r : Option (List α)} {xs : List α} (h : r = some xs) {w w' : World} {v : Value} (hR : Row e c w' w.heap.size v xs) (hB : Below w.heap.size w w') : Lists e c r w (.returned (.tuple #[v, .bool true])) w' := by
  subst h
  exact ⟨_, rfl, hR, hB⟩
end

/-- What the first k parts spell. -/
def vals {α : Type} (val : List UInt8 → α) (ps : List (List UInt8)) (k : Nat) : List α := (ps.take k).map val
theorem vals_succ {α : Type} (val : List UInt8 → α) (ps : List (List UInt8)) (k : Nat) (p : List UInt8) (h : ps[k]? = some p) : vals val ps (k + 1) = vals val ps k ++ [val p] := by
  unfold vals
  rw [List.take_add_one, h, List.map_append]
  rfl
theorem vals_length {α : Type} (val : List UInt8 → α) (ps : List (List UInt8)) (k : Nat) (h : k ≤ ps.length) : (vals val ps k).length = k := by
  simp [vals, Nat.min_eq_left h]
theorem vals_all {α : Type} (val : List UInt8 → α) (ps : List (List UInt8)) : vals val ps ps.length = ps.map val := by
  unfold vals
  rw [List.take_length]
end Go.Proofs.YtnilpooheaaleaaDoor.row
